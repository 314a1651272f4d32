/-
  The contracts of SameSpans, Make and Is.
-/
import Derived.Test.YtmlkoehkodbomaaSpans
namespace Go.Proofs.Ytmlkoehkodbomaa
open Go.RowKit

/-- The cells of a list of spans, told by their ends alone. -/
def prs (l : List (Int × Int)) : List Value := l.flatMap fun t => [.int .i64 t.1, .int .i64 t.2]
def ends (l : List Sp) : List (Int × Int) := l.map fun t => (t.a, t.b)
theorem pairs_prs (l : List Sp) : pairs l = prs (ends l) := by simp [pairs, prs, ends, List.flatMap_map]
theorem prs_at (l : List (Int × Int)) : ∀ (i : Nat) (t : Int × Int), l[i]? = some t → (prs l)[i * 2]? = some (.int .i64 t.1) ∧ (prs l)[i * 2 + 1]? = some (.int .i64 t.2) := by
  induction l with
  | nil => simp
  | cons u l ih =>
    intro i t h
    cases i with
    | zero => simp at h; subst h; simp [prs]
    | succ i =>
      have := ih i t (by simpa using h)
      have e : prs (u :: l) = [.int .i64 u.1, .int .i64 u.2] ++ prs l := rfl
      rw [e, List.getElem?_append_right (by simp; omega), List.getElem?_append_right (by simp; omega)]
      simpa [show (i + 1) * 2 - 2 = i * 2 by omega, show (i + 1) * 2 + 1 - 2 = i * 2 + 1 by omega] using this

theorem fields48 : Try.prog.fieldsOf 48 = #[{ name := "From", type := 3, offset := 0, embedded := false, tag := "", pkgPath := "", byteOffset := 0 }, { name := "To", type := 3, offset := 1, embedded := false, tag := "", pkgPath := "", byteOffset := 8 }] := by kernel_rfl
theorem stood48 : Try.prog.stoodInHeld 48 = false := by kernel_rfl
theorem neq_span (W : World) (x0 x1 y0 y1 : Int) : (binOp .neq 48 (.agg #[.int .i64 x0, .int .i64 x1]) (.agg #[.int .i64 y0, .int .i64 y1])).run Try.prog W = .ok (.bool (!(x0 == y0 && x1 == y1))) W := by
  rw [run_neq_struct, run_equalIn_struct W 9999 48 _ _ (by rw [fields48]; exact Try.underlying48) stood48, fields48]
  by_cases h0 : x0 = y0
  · by_cases h1 : x1 = y1
    · simp [go_sem, Op.eqFields, part, Try.underlying3, h0, h1]
    · simp [go_sem, Op.eqFields, part, Try.underlying3, h0, h1]
  · simp [go_sem, Op.eqFields, part, Try.underlying3, h0]

def sameB (p q : List (Int × Int)) : Bool := decide (p = q)

theorem take_succ_eq {p q : List (Int × Int)} {k : Nat} {x y : Int × Int} (h : p.take k = q.take k) (hx : p[k]? = some x) (hy : q[k]? = some y) (he : x = y) : p.take (k + 1) = q.take (k + 1) := by
  obtain ⟨h1, rfl⟩ := List.getElem?_eq_some_iff.1 hx
  obtain ⟨h2, rfl⟩ := List.getElem?_eq_some_iff.1 hy
  rw [List.take_succ_eq_append_getElem h1, List.take_succ_eq_append_getElem h2, h, he]

set_option maxHeartbeats 1000000 in
theorem same_pos {w : World} {g1 g2 c1 c2 : Nat} {p q : List (Int × Int)} (hl : p.length = q.length) (k1 : ∀ j u, (prs p)[j]? = some u → w.cell? ⟨g1, j, none⟩ = some u) (k2 : ∀ j u, (prs q)[j]? = some u → w.cell? ⟨g2, j, none⟩ = some u) (hp : p.length ≤ 1000000) :
    Calls Try.prog 26 #[.slice (some ⟨g1, 0, none⟩) p.length c1, .slice (some ⟨g2, 0, none⟩) q.length c2] w fun e w' => e = .returned (.bool (sameB p q)) ∧ ∃ n, w' = w.drewN n := by
  have K1 := hide k1
  have K2 := hide k2
  clear k1 k2
  have e0 : ((p.length : Int) != (q.length : Int)) = false := by simp [hl]
  have HL := hide hl
  clear hl
  have hneq := neq_span
  go_enter Try.func26, Try.ntmps26
  go_wp2
  go_loopw [5] (fun i wr => ∃ k : Nat, k ≤ p.length ∧ i = .int .i64 k ∧ p.take k = q.take k ∧ ∃ nd, wr = w.drewN nd) (fun i _ => p.length - (intOf i).toNat)
  case atStart => exact ⟨0, Nat.zero_le _, rfl, rfl, 0, rfl⟩
  case round =>
    obtain ⟨k, hk, rfl, htk, nd, rfl⟩ := hrel
    have HT := hide htk
    clear htk
    by_cases hlt : k < p.length
    · have hlt' : k < q.length := by have := HL.out; omega
      obtain ⟨⟨x0, x1⟩, hx⟩ : ∃ t, p[k]? = some t := ⟨p[k], List.getElem?_eq_getElem hlt⟩
      obtain ⟨⟨y0, y1⟩, hy⟩ : ∃ t, q[k]? = some t := ⟨q[k], List.getElem?_eq_getElem hlt'⟩
      have ax := prs_at p k _ hx
      have ay := prs_at q k _ hy
      have m1 := K1.out _ _ ax.1
      have m2 := K1.out _ _ ax.2
      have m3 := K2.out _ _ ay.1
      have m4 := K2.out _ _ ay.2
      simp only at m1 m2 m3 m4
      have HX := hide hx
      have HY := hide hy
      clear ax ay hx hy
      by_cases he : (x0 == y0 && x1 == y1) = true
      · go_wp2
        go_quiet (fail)
        go_wp2
        go_roundw
        case rel => exact ⟨k + 1, by omega, by go_num, take_succ_eq HT.out HX.out HY.out (by simpa using he), _, rfl⟩
        case measure => simp [intOf]; omega
      · have hf : (x0 == y0 && x1 == y1) = false := by simpa using he
        clear he
        have HF := hide hf
        go_wp2
        go_quiet (fail)
        go_wp2
        go_ret
        refine ⟨ret_bool ?_, _, World.drewN_drewN ..⟩
        symm
        unfold sameB
        rw [decide_eq_false_iff_not]
        rintro rfl
        have h1 := HX.out
        rw [HY.out] at h1
        simp only [Option.some.injEq, Prod.mk.injEq] at h1
        have h2 := HF.out
        simp [h1.1, h1.2] at h2
    · obtain rfl : k = p.length := by omega
      go_wp2
      go_ret
      refine ⟨ret_bool ?_, _, rfl⟩
      symm
      unfold sameB
      rw [decide_eq_true_eq]
      have h1 := HT.out
      rw [List.take_length, HL.out, List.take_length] at h1
      exact h1

theorem same_nil {w : World} {a1 a2 : Option Addr} {c1 c2 : Nat} : Calls Try.prog 26 #[.slice a1 0 c1, .slice a2 0 c2] w fun e w' => e = .returned (.bool true) ∧ ∃ n, w' = w.drewN n := by
  go_enter Try.func26, Try.ntmps26
  go_wp2
  refine wp_loop_rounds 1 ?_
  rw [rounds_succ]
  go_wp2
  go_ret
  exact ⟨rfl, 0, rfl⟩

theorem same_len {w : World} {a1 a2 : Option Addr} {c1 c2 n1 n2 : Nat} (hne : n1 ≠ n2) : Calls Try.prog 26 #[.slice a1 n1 c1, .slice a2 n2 c2] w fun e w' => e = .returned (.bool false) ∧ ∃ n, w' = w.drewN n := by
  have e0 : ((n1 : Int) != (n2 : Int)) = true := by rw [bne_iff_ne]; omega
  clear hne
  go_enter Try.func26, Try.ntmps26
  go_wp2
  go_ret
  exact ⟨rfl, 0, rfl⟩

theorem same_c {w : World} {B1 B2 : Nat} {v1 v2 : Value} {p q : List (Int × Int)} (h1 : w.ownsRow B1 48 2 v1 p.length (prs p)) (h2 : w.ownsRow B2 48 2 v2 q.length (prs q)) (hp : p.length ≤ 1000000) :
    Calls Try.prog 26 #[v1, v2] w fun e w' => e = .returned (.bool (sameB p q)) ∧ ∃ n, w' = w.drewN n := by
  by_cases hl : p.length = q.length
  · rcases Nat.eq_zero_or_pos p.length with h0 | hpos
    · obtain rfl := List.eq_nil_of_length_eq_zero h0
      obtain rfl : q = [] := List.eq_nil_of_length_eq_zero (by rw [← hl]; rfl)
      obtain ⟨a1, c1, rfl, _⟩ := ownsRow_shape h1
      obtain ⟨a2, c2, rfl, _⟩ := ownsRow_shape h2
      exact same_nil
    · obtain ⟨g1, c1, rfl, _, _, _, _, k1, _⟩ := ownsRow_pos h1 hpos
      obtain ⟨g2, c2, rfl, _, _, _, _, k2, _⟩ := ownsRow_pos h2 (by omega)
      exact same_pos hl k1 k2 hp
  · obtain ⟨a1, c1, rfl, _⟩ := ownsRow_shape h1
    obtain ⟨a2, c2, rfl, _⟩ := ownsRow_shape h2
    have : sameB p q = false := by unfold sameB; rw [decide_eq_false_iff_not]; rintro rfl; exact hl rfl
    rw [this]
    exact same_len hl

/-! ### Make -/
theorem make_bad (x : Int) (w : World) (h : x < 0 ∨ 1099511627776 < x) : Calls Try.prog 11 #[.int .i64 x] w fun e w' => e = .returned (.tuple #[.pointer none, .int .i64 2]) ∧ w = w' := by
  go_enter Try.func11, Try.ntmps11
  go_wp2
  all_goals (go_ret2; exact ⟨rfl, rfl⟩)

theorem make_ok (x : Int) (w : World) (h : 0 ≤ x) (h' : x ≤ 1099511627776) : Calls Try.prog 11 #[.int .i64 x] w fun e w' => e = .returned (.tuple #[.pointer (some ⟨w.heap.size, 0, none⟩), .int .i64 0]) ∧ Led w' w.heap.size w.heap.size (.slice none 0 0) x [] ∧ Below w.heap.size w w' := by
  have H := hide (Blk.new w 53 #[.int .i64 x, .slice none 0 0, .bool true])
  go_enter Try.func11, Try.ntmps11
  go_wp2
  go_ret2
  exact ⟨rfl, ⟨Nat.le_refl _, H.out, World.ownsRow_nil _ _ _ _⟩, (Below.refl _ _).alloc (Nat.le_refl _) _⟩

end Go.Proofs.Ytmlkoehkodbomaa
