/-
  The contract of built: a ledger behind acts; and that its kinds take turns.
-/
import Derived.Test.YtmlkoehkodbomaaActs
namespace Go.Proofs.Ytmlkoehkodbomaa
open Go.RowKit

namespace Lg
theorem alt_snoc (l : List Sp) (t : Sp) : Alt (l ++ [t]) ↔ Alt l ∧ ∀ u, l.getLast? = some u → u.k ≠ t.k := by
  induction l with
  | nil => simp [Alt]
  | cons v l ih =>
    rw [List.cons_append]
    simp only [Alt]
    rw [ih]
    cases l with
    | nil =>
      simp [Alt]
      constructor <;> intro h e <;> exact h e.symm
    | cons z l =>
      simp only [List.cons_append, List.head?_cons, List.getLast?_cons_cons, Option.some.injEq]
      simp only [and_assoc]
theorem alt_add (f : Int) (l : List Sp) (to : Int) (k : Bool) (h : Alt l) : Alt (addL f l to k) := by
  unfold addL
  split
  · exact h
  · rcases snoc_cases l with rfl | ⟨r, t, rfl⟩
    · simp [Alt]
    · have hs := (alt_snoc r t).1 h
      simp only [List.getLast?_append, List.getLast?_singleton, Option.some_or, List.dropLast_concat]
      split
      · rename_i hk
        rw [alt_snoc]
        exact ⟨hs.1, fun u hu => by have := hs.2 u hu; rw [hk] at this; exact this⟩
      · rename_i hk
        split
        · exact h
        · rw [alt_snoc]
          refine ⟨h, fun u hu => ?_⟩
          simp only [List.getLast?_append, List.getLast?_singleton, Option.some_or, Option.some.injEq] at hu
          subst hu
          exact hk
theorem alt_pop (l : List Sp) (to : Int) (h : Alt l) : Alt (pop l to) := by
  induction hn : l.length generalizing l with
  | zero => obtain rfl := List.eq_nil_of_length_eq_zero hn; exact h
  | succ n ih =>
    rcases snoc_cases l with rfl | ⟨r, t, rfl⟩
    · simp at hn
    · have hs := (alt_snoc r t).1 h
      rw [pop_snoc]
      split
      · exact ih r hs.1 (by simpa using hn)
      · split
        · rw [alt_snoc]; exact hs
        · exact h
theorem alt_back (f : Int) (l : List Sp) (to : Int) (h : Alt l) : Alt (backL f l to) := by
  unfold backL
  split
  · exact h
  · split
    · exact h
    · exact alt_pop l to h
end Lg

/-- What built leaves. -/
def Built (a : Int) (w : World) (e : Ending) (w' : World) : Prop :=
  e = .returned (.pointer (some ⟨w.heap.size, 0, none⟩)) ∧ ∃ sv l, Led w' w.heap.size w.heap.size sv a l ∧ Lg.Good a l ∧ Lg.Alt l ∧ Below w.heap.size w w'

/-- A ledger that the loop of built carries. -/
structure Car (w : World) (B : Nat) (a : Int) (l : List Sp) : Prop where
  led : ∃ sv, Led w B B sv a l
  good : Lg.Good a l
  alt : Lg.Alt l
  size : B ≤ w.heap.size
theorem Car.drewN {w : World} {B : Nat} {a : Int} {l : List Sp} (h : Car w B a l) (n : Nat) : Car (w.drewN n) B a l := by
  obtain ⟨⟨sv, hl⟩, hg, ha, hs⟩ := h
  exact ⟨⟨sv, hl.drewN n⟩, hg, ha, hs⟩
theorem car_step {w : World} {B : Nat} {a : Int} {l l' : List Sp} {x : Int} (h : Car w B a l) (hg : Lg.Good a l') (ha : Lg.Alt l') {F1 : FuncId} {args1 : Array Value}
    (h1 : ∀ sv, Led w B B sv a l → Calls Try.prog F1 args1 w (Turned B B sv a l' x w)) :
    Calls Try.prog F1 args1 w fun e w1 => e = .returned (.int .i64 x) ∧ Below B w w1 ∧ Car w1 B a l' := by
  obtain ⟨⟨sv, hl⟩, _, _, hs⟩ := h
  refine (h1 sv hl).mono ?_
  rintro e w1 ⟨rfl, sv', hl1, hO1, _⟩
  exact ⟨rfl, hO1.below hs hl.foot_ge, ⟨sv', hl1⟩, hg, ha, Nat.le_trans hs hO1.size⟩

theorem quiet_any {P : Program} {f : FuncId} {args : Array Value} {w : World} {m n : Nat} {v : Value}
    (h : Calls P f args (w.drewN (m + n)) fun e w' => e = .returned v ∧ w.drewN (m + n) = w') :
    Calls P f args (w.drewN (m + n)) fun e w'' => e = .returned v ∧ ∃ k, w'' = w.drewN (m + k) :=
  h.mono fun _ _ ⟨he, hm⟩ => ⟨he, n, hm.symm⟩
theorem quiet_one {P : Program} {f : FuncId} {args : Array Value} {w : World} {n : Nat} {v : Value}
    (h : Calls P f args (w.drewN n) fun e w' => e = .returned v ∧ w.drewN n = w') :
    Calls P f args (w.drewN n) fun e w'' => e = .returned v ∧ ∃ k, w'' = w.drewN k :=
  h.mono fun _ _ ⟨he, hm⟩ => ⟨he, n, hm.symm⟩
theorem quiet_end {P : Program} {f : FuncId} {args : Array Value} {w : World} {n : Nat} {v : Value}
    (h : Calls P f args (w.drewN n) fun e w' => e = .returned v ∧ ∃ k, w' = (w.drewN n).drewN k) :
    Calls P f args (w.drewN n) fun e w'' => e = .returned v ∧ ∃ k, w'' = w.drewN k :=
  h.mono fun _ _ ⟨he, k, hm⟩ => ⟨he, n + k, by rw [hm, World.drewN_drewN]⟩

set_option maxRecDepth 100000 in
set_option maxHeartbeats 4000000 in
theorem built_c (x : Int) (w : World) (v : Value) (ac : Nat → Ac) (len : Nat) (ha : ActsAt w.heap.size w v ac len) : Calls Try.prog 28 #[.int .i64 x, v] w (Built (among x 1000) w) := by
  obtain ⟨ao, cap, rfl, ha⟩ := ha
  have HACT := hide ha
  have hab := among_bd x 1000 (by decide)
  have HC := hide (among_c x 1000 w)
  clear ha
  generalize among x 1000 = a at *
  obtain ⟨h0, h1⟩ := hab
  have FIN : ∀ (w' : World) (l : List Sp), Car w' w.heap.size a l → Below w.heap.size w w' → Built a w (.returned (.pointer (some ⟨w.heap.size, 0, none⟩))) w' := by
    rintro w' l ⟨⟨sv, hl⟩, hg, hal, _⟩ hb
    exact ⟨rfl, sv, l, hl, hg, hal, hb⟩
  have HFIN := hide FIN
  clear FIN
  go_enter Try.func28, Try.ntmps28
  go_wp2_with fail
  refine (HC.out (by decide) (by decide)).mono ?_
  rintro e w1 ⟨rfl, rfl⟩
  go_wp2_with fail
  refine (make_ok a w h0 (by omega)).mono ?_
  rintro e w2 ⟨rfl, hL2, hB2⟩
  have HCar := hide (show Car w2 w.heap.size a [] from ⟨⟨_, hL2⟩, Lg.good_nil h0 (by omega), trivial, hB2.size⟩)
  have HB2 := hide hB2
  clear hL2 hB2
  go_wp2_with fail
  go_loopw [7] (fun i wr => ∃ (k : Nat) (l : List Sp), k ≤ len ∧ i = .int .i64 k ∧ Car wr w.heap.size a l ∧ Below w.heap.size w wr) (fun i _ => len - (intOf i).toNat)
  case atStart => exact ⟨0, [], Nat.zero_le _, rfl, HCar.out, HB2.out⟩
  case round =>
    obtain ⟨k, l, hk, rfl, hb, hB⟩ := hrel
    have HT := hide hb
    have HB := hide hB
    have sz := hb.size
    clear hb hB
    by_cases hlt : k < len ∧ k < 150
    · obtain ⟨hlt, h150⟩ := hlt
      obtain ⟨g, off, rfl, hg, hcs⟩ := HACT.out (by omega)
      obtain ⟨a1, a2, a3⟩ := hcs k hlt
      have k1 := (HB.out.cell (p := ⟨g, off + k * 3, none⟩) hg).trans a1
      have k2 := (HB.out.cell (p := ⟨g, off + k * 3 + 1, none⟩) hg).trans a2
      clear hcs a1 a2 a3
      have HG := hide HT.out.good
      have HE := hide (fun n => by obtain ⟨sv, hl⟩ := HT.out.led; exact end_c (hl.drewN n) HG.out)
      have hfb : 0 ≤ Lg.fin a l ∧ Lg.fin a l ≤ 1099511627776 := ⟨by have := HG.out.fin_ge; omega, HG.out.top⟩
      have hmn := among_bd (ac k).n 9 (by decide)
      have HN := hide (among_c (ac k).n 9)
      generalize Lg.fin a l = z at *
      generalize among (ac k).n 9 = y at *
      have hi0 : (0 : Int) ≤ (k : Int) := Int.natCast_nonneg _
      have hi1 : (k : Int) < (len : Int) := by omega
      have hgl : g < wr.heap.size := by omega
      have s1 : IntKind.i64.wrap (z + y) = z + y := IntWalk.i64_in _ (by omega)
      have s2 : IntKind.i64.wrap (z + y - 3) = z + y - 3 := IntWalk.i64_in _ (by omega)
      go_wp2_with fail
      go_quiet ((first | (go_at_call 16; exact quiet_end (HE.out _)) | (go_at_call 10; exact quiet_one (HN.out _ (by decide) (by decide)))))
      clear s1 s2
      have T3 := hide (HT.out.drewN nq)
      have B3 := hide (below_drewN HB.out nq)
      have hmb := among_bd (ac k).d 7 (by decide)
      have HD := hide (among_c (ac k).d 7)
      clear HE HN
      rcases (show among (ac k).d 7 = 0 ∨ among (ac k).d 7 = 1 ∨ among (ac k).d 7 = 2 ∨ among (ac k).d 7 = 3 ∨ among (ac k).d 7 = 4 ∨ among (ac k).d 7 = 5 ∨ among (ac k).d 7 = 6 from by omega) with hm | hm | hm | hm | hm | hm | hm
      all_goals (rw [hm] at HD; clear hm hmb)
      · go_wp2_with fail
        refine (HD.out _ (by decide) (by decide)).mono ?_
        rintro e w4 ⟨rfl, rfl⟩
        have HST := hide (car_step (F1 := 13) (args1 := #[.pointer (some ⟨w.heap.size, 0, none⟩), .int .i64 (z + y - 3)]) (l' := Lg.addL a l (z + y - 3) true) T3.out (Lg.good_add HG.out (z + y - 3) true) (Lg.alt_add a l (z + y - 3) true T3.out.alt) (fun sv hl => accept_c hl HG.out T3.out.size (z + y - 3)))
        go_wp2_with fail
        refine HST.out.mono ?_
        rintro e w5 ⟨rfl, hb5, hT5⟩
        have T5 := hide hT5
        have B5 := hide (B3.out.trans hb5)
        clear hb5 hT5 HST
        go_wp2
        go_roundw
        case rel => exact ⟨k + 1, _, by omega, by go_num, T5.out, B5.out⟩
        case measure => simp [intOf]; omega
      · go_wp2_with fail
        refine (HD.out _ (by decide) (by decide)).mono ?_
        rintro e w4 ⟨rfl, rfl⟩
        have HST := hide (car_step (F1 := 13) (args1 := #[.pointer (some ⟨w.heap.size, 0, none⟩), .int .i64 (z + y - 3)]) (l' := Lg.addL a l (z + y - 3) true) T3.out (Lg.good_add HG.out (z + y - 3) true) (Lg.alt_add a l (z + y - 3) true T3.out.alt) (fun sv hl => accept_c hl HG.out T3.out.size (z + y - 3)))
        go_wp2_with fail
        refine HST.out.mono ?_
        rintro e w5 ⟨rfl, hb5, hT5⟩
        have T5 := hide hT5
        have B5 := hide (B3.out.trans hb5)
        clear hb5 hT5 HST
        go_wp2
        go_roundw
        case rel => exact ⟨k + 1, _, by omega, by go_num, T5.out, B5.out⟩
        case measure => simp [intOf]; omega
      · go_wp2_with fail
        refine (HD.out _ (by decide) (by decide)).mono ?_
        rintro e w4 ⟨rfl, rfl⟩
        have HST := hide (car_step (F1 := 13) (args1 := #[.pointer (some ⟨w.heap.size, 0, none⟩), .int .i64 (z + y - 3)]) (l' := Lg.addL a l (z + y - 3) true) T3.out (Lg.good_add HG.out (z + y - 3) true) (Lg.alt_add a l (z + y - 3) true T3.out.alt) (fun sv hl => accept_c hl HG.out T3.out.size (z + y - 3)))
        go_wp2_with fail
        refine HST.out.mono ?_
        rintro e w5 ⟨rfl, hb5, hT5⟩
        have T5 := hide hT5
        have B5 := hide (B3.out.trans hb5)
        clear hb5 hT5 HST
        go_wp2
        go_roundw
        case rel => exact ⟨k + 1, _, by omega, by go_num, T5.out, B5.out⟩
        case measure => simp [intOf]; omega
      · go_wp2_with fail
        refine (HD.out _ (by decide) (by decide)).mono ?_
        rintro e w4 ⟨rfl, rfl⟩
        have HST := hide (car_step (F1 := 12) (args1 := #[.pointer (some ⟨w.heap.size, 0, none⟩), .int .i64 (z + y - 3)]) (l' := Lg.addL a l (z + y - 3) false) T3.out (Lg.good_add HG.out (z + y - 3) false) (Lg.alt_add a l (z + y - 3) false T3.out.alt) (fun sv hl => skip_c hl HG.out T3.out.size (z + y - 3)))
        go_wp2_with fail
        refine HST.out.mono ?_
        rintro e w5 ⟨rfl, hb5, hT5⟩
        have T5 := hide hT5
        have B5 := hide (B3.out.trans hb5)
        clear hb5 hT5 HST
        go_wp2
        go_roundw
        case rel => exact ⟨k + 1, _, by omega, by go_num, T5.out, B5.out⟩
        case measure => simp [intOf]; omega
      · go_wp2_with fail
        refine (HD.out _ (by decide) (by decide)).mono ?_
        rintro e w4 ⟨rfl, rfl⟩
        have HST := hide (car_step (F1 := 12) (args1 := #[.pointer (some ⟨w.heap.size, 0, none⟩), .int .i64 (z + y - 3)]) (l' := Lg.addL a l (z + y - 3) false) T3.out (Lg.good_add HG.out (z + y - 3) false) (Lg.alt_add a l (z + y - 3) false T3.out.alt) (fun sv hl => skip_c hl HG.out T3.out.size (z + y - 3)))
        go_wp2_with fail
        refine HST.out.mono ?_
        rintro e w5 ⟨rfl, hb5, hT5⟩
        have T5 := hide hT5
        have B5 := hide (B3.out.trans hb5)
        clear hb5 hT5 HST
        go_wp2
        go_roundw
        case rel => exact ⟨k + 1, _, by omega, by go_num, T5.out, B5.out⟩
        case measure => simp [intOf]; omega
      · go_wp2_with fail
        refine (HD.out _ (by decide) (by decide)).mono ?_
        rintro e w4 ⟨rfl, rfl⟩
        have HST := hide (car_step (F1 := 21) (args1 := #[.pointer (some ⟨w.heap.size, 0, none⟩), .int .i64 (z + y - 3)]) (l' := Lg.backL a l (z + y - 3)) T3.out (Lg.good_back HG.out (z + y - 3)) (Lg.alt_back a l (z + y - 3) T3.out.alt) (fun sv hl => back_c hl HG.out (z + y - 3)))
        go_wp2_with fail
        refine HST.out.mono ?_
        rintro e w5 ⟨rfl, hb5, hT5⟩
        have T5 := hide hT5
        have B5 := hide (B3.out.trans hb5)
        clear hb5 hT5 HST
        go_wp2
        go_roundw
        case rel => exact ⟨k + 1, _, by omega, by go_num, T5.out, B5.out⟩
        case measure => simp [intOf]; omega
      · go_wp2_with fail
        refine (HD.out _ (by decide) (by decide)).mono ?_
        rintro e w4 ⟨rfl, rfl⟩
        go_wp2
        go_roundw
        case rel => exact ⟨k + 1, _, by omega, by go_num, T3.out, B3.out⟩
        case measure => simp [intOf]; omega
    · by_cases hlt2 : k < len
      · have h150 : ¬ k < 150 := by omega
        clear hlt
        go_wp2
        go_ret
        exact HFIN.out _ _ HT.out HB.out
      · clear hlt
        go_wp2
        go_ret
        exact HFIN.out _ _ HT.out HB.out

end Go.Proofs.Ytmlkoehkodbomaa
