/-
  The walk of the law SchedVoid.
-/
import Derived.Test.YtaoonjamlcdfaaaSWorks
import Derived.Test.YtaoonjamlcdfaaaRegs
namespace Go.Proofs.Ytaoonjamlcdfaaa
open Go.RowKit

/-- A machine that no call made: nil, or the zero one. -/
def SVoid (w : World) (p : Option Addr) : Prop := p = none ∨ ∃ b, p = some ⟨b, 0, none⟩ ∧ Blk w b 78 #[.pointer none, .slice none 0 0]
theorem SVoid.later {w w' : World} {p : Option Addr} (h : SVoid w p) (hb : Below w.heap.size w w') : SVoid w' p := by
  rcases h with rfl | ⟨b, rfl, hk⟩
  · exact .inl rfl
  · exact .inr ⟨b, rfl, hk.below hb hk.lt⟩
/-- The answer; nothing that was there has turned. -/
def Says (v : Value) (w : World) (e : Ending) (w' : World) : Prop := e = .returned v ∧ Below w.heap.size w w'

section
variable {w : World} {p : Option Addr}
theorem vsession (h : SVoid w p) (k : Int) : Calls Try.prog 68 #[.pointer p, .int .i64 k] w fun e w' => e = .returned (.pointer none) ∧ w = w' := by
  rcases h with rfl | ⟨b, rfl, hk⟩
  · go_enter Try.func68, Try.ntmps68
    go_wp2
    go_ret
    exact ⟨rfl, rfl⟩
  · have c1 := hk.cell 1
    simp only [List.getElem?_toArray, List.getElem?_cons_succ, List.getElem?_cons_zero] at c1
    have HB := hide (below_c k 0 w)
    rw [show Sd.bel k 0 = false by simp [Sd.bel]] at HB
    clear hk
    go_enter Try.func68, Try.ntmps68
    go_wp2_with (go_at_call 78; refine HB.out.mono ?_; rintro e w' ⟨rfl, rfl⟩)
    go_ret
    exact ⟨rfl, rfl⟩
theorem vstep (h : SVoid w p) (k : Int) : Calls Try.prog 45 #[.pointer p, .int .i64 k] w fun e w' => e = .returned (.bool false) ∧ w = w' := by
  have HN := hide (vsession h k)
  clear h
  go_enter Try.func45, Try.ntmps45
  go_wp2_with (go_at_call 68; refine HN.out.mono ?_; rintro e w' ⟨rfl, rfl⟩)
  go_ret
  exact ⟨rfl, rfl⟩
theorem vover (h : SVoid w p) (k : Int) : Calls Try.prog 54 #[.pointer p, .int .i64 k] w fun e w' => e = .returned (.bool true) ∧ w = w' := by
  have HN := hide (vsession h k)
  clear h
  go_enter Try.func54, Try.ntmps54
  go_wp2_with (go_at_call 68; refine HN.out.mono ?_; rintro e w' ⟨rfl, rfl⟩)
  go_ret
  exact ⟨rfl, rfl⟩
theorem vat (h : SVoid w p) (k : Int) : Calls Try.prog 42 #[.pointer p, .int .i64 k] w fun e w' => e = .returned (.int .i64 0) ∧ w = w' := by
  have HN := hide (vsession h k)
  clear h
  go_enter Try.func42, Try.ntmps42
  go_wp2_with (go_at_call 68; refine HN.out.mono ?_; rintro e w' ⟨rfl, rfl⟩)
  go_ret
  exact ⟨rfl, rfl⟩
theorem vregs (h : SVoid w p) (k : Int) : Calls Try.prog 43 #[.pointer p, .int .i64 k] w (Says (.agg #[.int .i64 0, .int .i64 0, .int .i64 0, .int .i64 0]) w) := by
  have hB := (Below.refl w.heap.size w).alloc (Nat.le_refl _) (.cells #[.int .i64 0, .int .i64 0, .int .i64 0, .int .i64 0] 58)
  have HN := hide (vsession (h.later hB) k)
  clear h
  go_enter Try.func43, Try.ntmps43
  go_wp2_with (go_at_call 68; refine HN.out.mono ?_; rintro e w' ⟨rfl, rfl⟩)
  refine bodyPost_ret (results_cell_row rfl _ _ w.heap.size 58 #[.int .i64 0, .int .i64 0, .int .i64 0, .int .i64 0] (0, 0) _ rfl (heap_alloc_new w _) Try.underlying58 rfl (by kernel_rfl)) rfl ?_
  exact ⟨rfl, hB⟩
theorem vcells (h : SVoid w p) : Calls Try.prog 44 #[.pointer p] w fun e w' => e = .returned (.slice none 0 0) ∧ w = w' := by
  rcases h with rfl | ⟨b, rfl, hk⟩
  · go_enter Try.func44, Try.ntmps44
    go_wp2
    go_ret
    exact ⟨rfl, rfl⟩
  · have c0 := hk.cell 0
    simp only [List.getElem?_toArray, List.getElem?_cons_zero] at c0
    clear hk
    go_enter Try.func44, Try.ntmps44
    go_wp2_with go_in
    go_ret
    exact ⟨rfl, rfl⟩
theorem vholder (h : SVoid w p) (k : Int) : Calls Try.prog 52 #[.pointer p, .int .i64 k] w fun e w' => e = .returned (.int .i64 (-1)) ∧ w = w' := by
  rcases h with rfl | ⟨b, rfl, hk⟩
  · go_enter Try.func52, Try.ntmps52
    go_wp2
    go_ret
    exact ⟨rfl, rfl⟩
  · have c0 := hk.cell 0
    simp only [List.getElem?_toArray, List.getElem?_cons_zero] at c0
    clear hk
    go_enter Try.func52, Try.ntmps52
    go_wp2_with go_in
    go_ret
    exact ⟨rfl, rfl⟩
set_option maxRecDepth 100000 in
set_option maxHeartbeats 2000000 in
theorem vfair (h : SVoid w p) (k : Int) : Calls Try.prog 50 #[.pointer p, .int .i64 k] w (Says (.tuple #[.int .i64 0, .bool true]) w) := by
  rcases h with rfl | ⟨b, rfl, hk⟩
  · have hB := (Below.refl w.heap.size w).alloc (Nat.le_refl _) (.cells #[.pointer none] 54)
    go_enter Try.func50, Try.ntmps50
    go_wp2_with (first | go_step3)
    go_ret2
    exact ⟨rfl, hB⟩
  · have hB := (Below.refl w.heap.size w).alloc (Nat.le_refl _) (.cells #[.pointer (some ⟨b, 0, none⟩)] 54)
    have c1 := (hk.alloc (.cells #[.pointer (some ⟨b, 0, none⟩)] 54)).cell 1
    simp only [List.getElem?_toArray, List.getElem?_cons_succ, List.getElem?_cons_zero] at c1
    clear hk
    go_enter Try.func50, Try.ntmps50
    go_wp2_with (first | go_step3)
    go_ret2
    exact ⟨rfl, hB⟩
theorem vrun (h : SVoid w p) (k : Int) : Calls Try.prog 41 #[.pointer p, .slice (some ⟨w.heap.size, 0, none⟩) 1 1] (w.alloc (.cells #[.int .i64 k] 3)) (Says (.int .i64 0) w) := by
  have hal : Below w.heap.size w (w.alloc (.cells #[.int .i64 k] 3)) := (Below.refl _ _).alloc (Nat.le_refl _) _
  have hbk : Blk (w.alloc (.cells #[.int .i64 k] 3)) w.heap.size 3 #[.int .i64 k] := Blk.new _ _ _
  refine (run_gen (g := w.heap.size) (off := 0) (len := 1) (fun _ => k) (fun _ n w' => w' = w.alloc (.cells #[.int .i64 k] 3) ∧ n = 0) (by decide) ⟨rfl, rfl⟩ (fun _ => rfl) ?_ ?_).mono ?_
  · rintro i n w' hi ⟨rfl, _⟩
    obtain rfl : i = 0 := by omega
    exact hbk.cell 0
  · rintro i n w' hi ⟨rfl, rfl⟩
    refine (vstep (h.later hal) k).mono ?_
    rintro e w'' ⟨rfl, rfl⟩
    exact ⟨false, rfl, rfl, rfl⟩
  · rintro e w' ⟨n, rfl, rfl, rfl⟩
    exact ⟨rfl, hal⟩

set_option maxRecDepth 100000 in
set_option maxHeartbeats 4000000 in
theorem svoid_c (n : Int) (w : World) : Calls Try.prog 14 #[.int .i64 n] w fun e w' => e = .returned (.bool true) ∧ Below w.heap.size w w' := by
  have q58 : ∀ w : World, (Op.equalIn 10000 58 (.agg #[.int .i64 0, .int .i64 0, .int .i64 0, .int .i64 0]) (.agg #[.int .i64 0, .int .i64 0, .int .i64 0, .int .i64 0])).run Try.prog w = .ok true w := fun w => by
    have := regs_eq w 0 0 0 0 0 0 0 0
    simpa using this
  go_enter Try.func14, Try.ntmps14
  go_wp2_with fail
  refine (sworks_c w).mono ?_
  rintro e w1 ⟨rfl, hb⟩
  have HB1 := hide hb
  clear hb
  go_wp2_with fail
  refine (vfair (p := none) (.inl rfl) 5).mono ?_
  rintro e w2 ⟨rfl, hb⟩
  have hb1 : Below w1.heap.size w1 (w1.alloc (.cells #[.pointer none, .slice none 0 0] 78)) := (Below.refl _ _).alloc (Nat.le_refl _) _
  have hbk : Blk (w1.alloc (.cells #[.pointer none, .slice none 0 0] 78)) w1.heap.size 78 #[.pointer none, .slice none 0 0] := Blk.new _ _ _
  have hz : SVoid (w1.alloc (.cells #[.pointer none, .slice none 0 0] 78)) (some ⟨w1.heap.size, 0, none⟩) := .inr ⟨_, rfl, hbk⟩
  have HZ2 := hide (hz.later hb)
  have HB2 := hide ((HB1.out.trans (hb1.mono HB1.out.size)).trans (hb.mono (Nat.le_trans HB1.out.size hb1.size)))
  generalize hzz : w1.heap.size = zb at *
  clear hb hb1 hbk hz HB1 hzz
  go_wp2_with fail
  refine (vfair HZ2.out 5).mono ?_
  rintro e w3 ⟨rfl, hb⟩
  have HZ3 := hide (HZ2.out.later hb)
  have HB3 := hide (HB2.out.trans (hb.mono HB2.out.size))
  clear hb HZ2 HB2
  go_wp2_with fail
  refine (vstep (p := none) (.inl rfl) n).mono ?_
  rintro e w4 ⟨rfl, rfl⟩
  go_wp2_with fail
  refine (vstep HZ3.out n).mono ?_
  rintro e w4 ⟨rfl, rfl⟩
  go_wp2_with fail
  refine (vrun (p := none) (.inl rfl) n).mono ?_
  rintro e w5 ⟨rfl, hb⟩
  have HZ5 := hide (HZ3.out.later hb)
  have HB5 := hide (HB3.out.trans (hb.mono HB3.out.size))
  clear hb HZ3 HB3
  go_wp2_with fail
  refine (vrun HZ5.out n).mono ?_
  rintro e w6 ⟨rfl, hb⟩
  have HZ6 := hide (HZ5.out.later hb)
  have HB6 := hide (HB5.out.trans (hb.mono HB5.out.size))
  clear hb HZ5 HB5
  go_wp2_with fail
  refine (vover (p := none) (.inl rfl) n).mono ?_
  rintro e w7 ⟨rfl, rfl⟩
  go_wp2_with fail
  refine (vover HZ6.out n).mono ?_
  rintro e w7 ⟨rfl, rfl⟩
  go_wp2_with fail
  refine (vat (p := none) (.inl rfl) n).mono ?_
  rintro e w7 ⟨rfl, rfl⟩
  go_wp2_with fail
  refine (vat HZ6.out n).mono ?_
  rintro e w7 ⟨rfl, rfl⟩
  go_wp2_with fail
  refine (vcells (p := none) (.inl rfl)).mono ?_
  rintro e w7 ⟨rfl, rfl⟩
  go_wp2_with fail
  refine (vcells HZ6.out).mono ?_
  rintro e w7 ⟨rfl, rfl⟩
  go_wp2_with fail
  refine (vregs (p := none) (.inl rfl) n).mono ?_
  rintro e w7 ⟨rfl, hb⟩
  have HZ7 := hide (HZ6.out.later hb)
  have HB7 := hide (HB6.out.trans (hb.mono HB6.out.size))
  clear hb HZ6 HB6
  go_wp2_with fail
  refine (vregs HZ7.out n).mono ?_
  rintro e w8 ⟨rfl, hb⟩
  have HZ8 := hide (HZ7.out.later hb)
  have HB8 := hide (HB7.out.trans (hb.mono HB7.out.size))
  clear hb HZ7 HB7
  go_wp2_with fail
  refine (vregs (p := none) (.inl rfl) n).mono ?_
  rintro e w9 ⟨rfl, hb⟩
  have HZ9 := hide (HZ8.out.later hb)
  have HB9 := hide (HB8.out.trans (hb.mono HB8.out.size))
  clear hb HZ8 HB8
  go_wp2_with fail
  refine (vholder (p := none) (.inl rfl) n).mono ?_
  rintro e w10 ⟨rfl, rfl⟩
  go_wp2_with fail
  refine (vholder HZ9.out n).mono ?_
  rintro e w10 ⟨rfl, rfl⟩
  go_wp2
  go_ret
  exact ⟨rfl, HB9.out⟩
end
end Go.Proofs.Ytaoonjamlcdfaaa
