/-
  Programs in memory: what tells whether their instructions are right, and what copies them.
-/
import Derived.Test.YtaoonjamlcdfaaaSess
namespace Go.Proofs.Ytaoonjamlcdfaaa
open Go.RowKit

/-- A program that is read below block B. -/
def PrgAt (B : Nat) (w : World) (v : Value) (p : List In) : Prop :=
  ∃ ao cap, v = .slice ao p.length cap ∧ p.length ≤ cap ∧ cap ≤ maxLen ∧ (ao = none → cap = 0) ∧ (0 < p.length → ∃ g off, ao = some ⟨g, off, none⟩ ∧ g < B ∧ ∀ j u, (qcells p)[j]? = some u → w.cell? ⟨g, off + j, none⟩ = some u)
theorem PrgAt.below {B : Nat} {w w' : World} {v : Value} {p : List In} (h : PrgAt B w v p) (hb : Below B w w') : PrgAt B w' v p := by
  obtain ⟨ao, cap, h1, h2, h3, h4, h5⟩ := h
  refine ⟨ao, cap, h1, h2, h3, h4, fun hp => ?_⟩
  obtain ⟨g, off, e, hg, hc⟩ := h5 hp
  exact ⟨g, off, e, hg, fun j u hu => (hb.cell (p := ⟨g, off + j, none⟩) hg).trans (hc j u hu)⟩
theorem PrgAt.mono {B B' : Nat} {w : World} {v : Value} {p : List In} (h : PrgAt B w v p) (hb : B ≤ B') : PrgAt B' w v p := by
  obtain ⟨ao, cap, h1, h2, h3, h4, h5⟩ := h
  refine ⟨ao, cap, h1, h2, h3, h4, fun hp => ?_⟩
  obtain ⟨g, off, e, hg, hc⟩ := h5 hp
  exact ⟨g, off, e, by omega, hc⟩
/-- Programs that are read below block B. -/
def PrgsAt (B : Nat) (w : World) (v : Value) (ps : List (List In)) : Prop :=
  ∃ ao cap, v = .slice ao ps.length cap ∧ ps.length ≤ cap ∧ cap ≤ maxLen ∧ (ao = none → cap = 0) ∧ (0 < ps.length → ∃ g off, ao = some ⟨g, off, none⟩ ∧ g < B ∧ ∀ j p, ps[j]? = some p → ∃ pv, w.cell? ⟨g, off + j, none⟩ = some pv ∧ PrgAt B w pv p)
theorem PrgsAt.below {B : Nat} {w w' : World} {v : Value} {ps : List (List In)} (h : PrgsAt B w v ps) (hb : Below B w w') : PrgsAt B w' v ps := by
  obtain ⟨ao, cap, h1, h2, h3, h4, h5⟩ := h
  refine ⟨ao, cap, h1, h2, h3, h4, fun hp => ?_⟩
  obtain ⟨g, off, e, hg, hc⟩ := h5 hp
  refine ⟨g, off, e, hg, fun j p hj => ?_⟩
  obtain ⟨pv, c, hpv⟩ := hc j p hj
  exact ⟨pv, (hb.cell (p := ⟨g, off + j, none⟩) hg).trans c, hpv.below hb⟩

/-- Is each instruction right? -/
def Sd.rights (p : List In) (cells : Int) : Bool := p.all fun i => Sd.right i cells p.length

section
variable {w : World} {B : Nat}
/-- The function that tells whether an instruction is wrong; what it captures lies in blocks of their own. -/
theorem wrong_c {c1 c2 : Nat} {ao : Option Addr} {len cap : Nat} {cells : Int} (i : In) (h1 : w.cell? ⟨c1, 0, none⟩ = some (.int .i64 cells)) (h2 : w.cell? ⟨c2, 0, none⟩ = some (.slice ao len cap)) (hl : len ≤ 64) :
    Calls Try.prog 64 #[inAgg i, .pointer (some ⟨c1, 0, none⟩), .pointer (some ⟨c2, 0, none⟩)] w fun e w' => e = .returned (.bool (!Sd.right i cells len)) ∧ Below w.heap.size w w' := by
  have z1 := (World.cell?_alloc_lt w (.cells #[.int .i64 i.op, .int .i64 i.c, .int .i64 i.a, .int .i64 i.b] 95) ⟨c1, 0, none⟩ (World.block_lt_of_cell? w ⟨c1, 0, none⟩ h1)).trans h1
  have z2 := (World.cell?_alloc_lt w (.cells #[.int .i64 i.op, .int .i64 i.c, .int .i64 i.a, .int .i64 i.b] 95) ⟨c2, 0, none⟩ (World.block_lt_of_cell? w ⟨c2, 0, none⟩ h2)).trans h2
  have HR := hide (right_c i cells len hl (w.alloc (.cells #[.int .i64 i.op, .int .i64 i.c, .int .i64 i.a, .int .i64 i.b] 95)))
  have hB := (Below.refl w.heap.size w).alloc (Nat.le_refl _) (.cells #[.int .i64 i.op, .int .i64 i.c, .int .i64 i.a, .int .i64 i.b] 95)
  have HB := hide (fun w' (h : Below (w.alloc (.cells #[.int .i64 i.op, .int .i64 i.c, .int .i64 i.a, .int .i64 i.b] 95)).heap.size (w.alloc (.cells #[.int .i64 i.op, .int .i64 i.c, .int .i64 i.a, .int .i64 i.b] 95)) w') => hB.trans (h.mono hB.size))
  clear hB
  unfold inAgg at *
  generalize Sd.right i cells len = r at *
  go_enter Try.func64, Try.ntmps64
  go_wp2_with (go_at_call 65; refine HR.out.mono ?_; rintro e w' ⟨rfl, hb⟩; have HB2 := hide (HB.out _ hb); clear hb)
  go_ret
  exact ⟨rfl, HB2.out⟩

theorem qcells_off {p : List In} {k : Nat} {i : In} {g off : Nat} (h : p[k]? = some i) (hc : ∀ j u, (qcells p)[j]? = some u → w.cell? ⟨g, off + j, none⟩ = some u) :
    w.cell? ⟨g, off + k * 4, none⟩ = some (.int .i64 i.op) ∧ w.cell? ⟨g, off + k * 4 + 1, none⟩ = some (.int .i64 i.c) ∧ w.cell? ⟨g, off + k * 4 + 2, none⟩ = some (.int .i64 i.a) ∧ w.cell? ⟨g, off + k * 4 + 3, none⟩ = some (.int .i64 i.b) := by
  obtain ⟨q0, q1, q2, q3⟩ := qcells_at p k i h
  exact ⟨hc _ _ q0, hc _ _ q1, hc _ _ q2, hc _ _ q3⟩

theorem rights_take {p : List In} {cells : Int} {n : Nat} {k : Nat} {i : In} (h : p[k]? = some i) (ha : (p.take k).all (fun i => Sd.right i cells n) = true) (hr : Sd.right i cells n = true) : (p.take (k + 1)).all (fun i => Sd.right i cells n) = true := by
  have e : p.take (k + 1) = p.take k ++ [i] := by
    rw [List.take_add_one, h]; rfl
  rw [e, List.all_append, ha]
  simp [hr]
theorem rights_not {p : List In} {cells : Int} {k : Nat} {i : In} (h : p[k]? = some i) (hr : Sd.right i cells p.length = false) : Sd.rights p cells = false := by
  unfold Sd.rights
  rw [List.all_eq_false]
  exact ⟨i, List.mem_of_getElem? h, by simp [hr]⟩

set_option maxHeartbeats 4000000 in
theorem index_c {c1 c2 : Nat} {cells : Int} {v : Value} {p : List In} (hp : PrgAt B w v p) (hl : p.length ≤ 64) (h1 : w.cell? ⟨c1, 0, none⟩ = some (.int .i64 cells)) (h2 : w.cell? ⟨c2, 0, none⟩ = some v) (hB : B ≤ w.heap.size) :
    Calls Try.prog 79 #[v, .func (.func 64) #[] #[.pointer (some ⟨c1, 0, none⟩), .pointer (some ⟨c2, 0, none⟩)]] w fun e w' => (∃ r, e = .returned (.int .i64 r) ∧ (Sd.rights p cells = true → r = -1) ∧ (Sd.rights p cells = false → 0 ≤ r)) ∧ Below w.heap.size w w' := by
  obtain ⟨ao, cap, rfl, hcap, hmax, hnone, hc⟩ := hp
  have HC := hide hc
  have b1 := World.block_lt_of_cell? w ⟨c1, 0, none⟩ h1
  have b2 := World.block_lt_of_cell? w ⟨c2, 0, none⟩ h2
  have K := hide (fun (w' : World) (hb : Below w.heap.size w w') => And.intro ((hb.cell (p := ⟨c1, 0, none⟩) b1).trans h1) ((hb.cell (p := ⟨c2, 0, none⟩) b2).trans h2))
  clear hc h1 h2
  go_enter Try.func79, Try.ntmps79
  go_wp2
  go_loopw [8] (fun i wr => ∃ (k : Nat), k ≤ p.length ∧ i = .int .i64 k ∧ (p.take k).all (fun i => Sd.right i cells p.length) = true ∧ Below w.heap.size w wr) (fun i _ => p.length - (intOf i).toNat)
  case atStart => exact ⟨0, Nat.zero_le _, rfl, rfl, Below.refl _ _⟩
  case round =>
    obtain ⟨k, hk, rfl, ha, hb⟩ := hrel
    have HA := hide ha
    have HB := hide hb
    clear ha hb
    by_cases hlt : k < p.length
    · obtain ⟨i, hi⟩ : ∃ t, p[k]? = some t := ⟨p[k], List.getElem?_eq_getElem hlt⟩
      obtain ⟨g, off, rfl, hg, hcs⟩ := HC.out (by omega)
      have hcs' : ∀ j u, (qcells p)[j]? = some u → wr.cell? ⟨g, off + j, none⟩ = some u := fun j u hu => (HB.out.cell (p := ⟨g, off + j, none⟩) (by show g < _; omega)).trans (hcs j u hu)
      obtain ⟨q0, q1, q2, q3⟩ := qcells_off hi hcs'
      obtain ⟨k1, k2⟩ := K.out _ HB.out
      have HW := hide (wrong_c i k1 k2 hl)
      have HT := hide (fun (hr : Sd.right i cells p.length = true) => rights_take hi HA.out hr)
      have HN := hide (fun (hr : Sd.right i cells p.length = false) => rights_not hi hr)
      unfold inAgg at HW
      clear HA HC hcs hcs' hi k1 k2 K
      generalize Sd.right i cells p.length = r at *
      go_wp2_with fail
      refine HW.out.mono ?_
      rintro e w2 ⟨rfl, hb2⟩
      have HB2 := hide (HB.out.trans (hb2.mono HB.out.size))
      clear hb2 HW HB
      cases r with
      | true =>
        go_wp2
        go_roundw
        case rel => exact ⟨k + 1, by omega, by go_num, HT.out (by simp), HB2.out⟩
        case measure => simp [intOf]; omega
      | false =>
        go_wp2
        go_ret
        exact ⟨⟨_, rfl, (fun h => by rw [HN.out (by simp)] at h; cases h), (fun _ => by omega)⟩, HB2.out⟩
    · obtain rfl : k = p.length := by omega
      go_wp2
      go_ret
      refine ⟨⟨-1, rfl, (fun _ => rfl), (fun h => ?_)⟩, HB.out⟩
      have := HA.out
      rw [List.take_length] at this
      unfold Sd.rights at h
      rw [this] at h
      cases h

theorem contains_c {c1 c2 : Nat} {cells : Int} {v : Value} {p : List In} (hp : PrgAt B w v p) (hl : p.length ≤ 64) (h1 : w.cell? ⟨c1, 0, none⟩ = some (.int .i64 cells)) (h2 : w.cell? ⟨c2, 0, none⟩ = some v) (hB : B ≤ w.heap.size) :
    Calls Try.prog 66 #[v, .func (.func 64) #[] #[.pointer (some ⟨c1, 0, none⟩), .pointer (some ⟨c2, 0, none⟩)]] w fun e w' => e = .returned (.bool (!Sd.rights p cells)) ∧ Below w.heap.size w w' := by
  have HI := hide (index_c hp hl h1 h2 hB)
  clear hp h1 h2
  generalize Sd.rights p cells = r at *
  go_enter Try.func66, Try.ntmps66
  go_wp2_with fail
  refine HI.out.mono ?_
  rintro e w2 ⟨⟨x, rfl, hx1, hx2⟩, hb2⟩
  have HB2 := hide hb2
  clear hb2 HI
  cases r with
  | true =>
    obtain rfl := hx1 rfl
    go_wp2
    go_ret
    exact ⟨rfl, HB2.out⟩
  | false =>
    have := hx2 rfl
    clear hx1 hx2
    go_wp2
    go_ret
    exact ⟨ret_bool (by simp), HB2.out⟩

theorem instr_info : (Try.prog.info? 95).map (fun i => (i.zero, i.size, i.bytes)) = some (some (.agg #[.int .i64 0, .int .i64 0, .int .i64 0, .int .i64 0]), 4, 32) := by kernel_rfl
theorem clone_instr_some {ad : Addr} {n cap : Nat} {xs : List Value} (hn : n ≤ 64) (hl : xs.length = n * 4) (hone : ∀ u ∈ xs, u.oneCell' = true) (hsrc : ∀ j u, xs[j]? = some u → (w.alloc (.cells #[] 95)).cell? (ad.add j) = some u) (hB : B ≤ w.heap.size) :
    Calls Try.prog 67 #[.slice (some ad) n cap] w fun e w' => ∃ v', e = .returned v' ∧ w'.ownsRow B 95 4 v' n xs ∧ Below w.heap.size w w' := by
  obtain ⟨i0, hi, hz0, hz1, hz2⟩ := info_parts instr_info
  have HONE := hide hone
  have hempty : ∀ w1 : World, w1 = w.alloc (.cells #[] 95) → w1.ownsRow B 95 4 (.slice (some ⟨w.heap.size, 0, none⟩) 0 0) 0 [] := by
    rintro w1 rfl
    exact ⟨rfl, .inr ⟨w.heap.size, 0, #[], rfl, hB, heap_alloc_new w _, Nat.le_refl _, Nat.zero_le _, rfl, rfl⟩⟩
  have HE := hide (hempty _ rfl)
  have HS := hide hsrc
  clear hone hempty hsrc
  have q69 : ∀ (w : World) (a : Option Addr) (n c n' c' : Nat), (binOp .eql 69 (.slice a n c) (.slice none n' c')).run Try.prog w = .ok (.bool a.isNone) w := fun w a n c n' c' => Lib.run_eql_slice_nil w _ _ a n c n' c' Try.underlying69
  go_enter Try.func67, Try.ntmps67
  go_wp2_with (at_builtin; refine wpList_append_own_at _ rfl (.tmp 5) (.tmp 6) 69 rfl B 95 i0 _ 4 32 Try.underlying69 hi hz0 hz1 hz2 rfl (by decide) (.slice (some ⟨w.heap.size, 0, none⟩) 0 0) 0 [] rfl HE.out ad n cap xs rfl hl HS.out HONE.out (by simp only [maxLen]; omega) (by omega) (by simp; omega) ?_; intro v' w2 hown hgr hnil hat; have HO := hide hown; have HG := hide hgr; clear hown hgr hnil hat)
  go_ret
  refine ⟨_, rfl, by simpa using HO.out, ?_⟩
  have h1 : Below w.heap.size w (w.alloc (.cells #[] 95)) := (Below.refl _ _).alloc (Nat.le_refl _) _
  refine h1.trans ⟨HG.out.os, HG.out.tape, HG.out.output, HG.out.size, fun k hk => HG.out.block k (by simp; omega) ?_⟩
  simp [Value.ownBlock]
  try omega
theorem clone_instr {C : Nat} {v : Value} {p : List In} (hp : PrgAt C w v p) (hl : p.length ≤ 64) (hC : C ≤ w.heap.size) (hB : B ≤ w.heap.size) :
    Calls Try.prog 67 #[v] w fun e w' => ∃ v', e = .returned v' ∧ w'.ownsRow B 95 4 v' p.length (qcells p) ∧ Below w.heap.size w w' := by
  obtain ⟨ao, cap, rfl, hcap, hmax, hnone, hc⟩ := hp
  have q69 : ∀ (w : World) (a : Option Addr) (n c n' c' : Nat), (binOp .eql 69 (.slice a n c) (.slice none n' c')).run Try.prog w = .ok (.bool a.isNone) w := fun w a n c n' c' => Lib.run_eql_slice_nil w _ _ a n c n' c' Try.underlying69
  rcases Nat.eq_zero_or_pos p.length with h0 | h0
  · obtain rfl := List.eq_nil_of_length_eq_zero h0
    cases ao with
    | none =>
      have HB := hide hB
      clear hc hB
      go_enter Try.func67, Try.ntmps67
      go_wp2
      go_ret
      exact ⟨_, rfl, ⟨rfl, .inl ⟨rfl, rfl⟩⟩, Below.refl _ _⟩
    | some a =>
      exact clone_instr_some (xs := []) (by decide) rfl (by simp) (by simp) hB
  · obtain ⟨g, off, rfl, hg, hcs⟩ := hc h0
    refine clone_instr_some hl (qcells_length p) (qcells_one p) (fun j u hu => ?_) hB
    rw [Addr.add_lit]
    exact (World.cell?_alloc_lt w _ ⟨g, off + j, none⟩ (by show g < _; omega)).trans (hcs j u hu)
end
end Go.Proofs.Ytaoonjamlcdfaaa
