/-
  Programs among the arguments, opened to their cells; and read again behind the call.
-/
import Derived.Test.YtaoonjamlcdfaaaArgs
import Derived.Test.YtaoonjamlcdfaaaInstrs
namespace Go.Proofs.Ytaoonjamlcdfaaa
open Go.ChangeShapes Go.WideShapes Go.ChangeAt Go.RowKit Go.Deep

theorem qcells_all {w : World} {g off : Nat} {p : List In} (h : ∀ k i, p[k]? = some i → w.cell? ⟨g, off + k * 4, none⟩ = some (.int .i64 i.op) ∧ w.cell? ⟨g, off + k * 4 + 1, none⟩ = some (.int .i64 i.c) ∧ w.cell? ⟨g, off + k * 4 + 2, none⟩ = some (.int .i64 i.a) ∧ w.cell? ⟨g, off + k * 4 + 3, none⟩ = some (.int .i64 i.b)) :
    ∀ j u, (qcells p)[j]? = some u → w.cell? ⟨g, off + j, none⟩ = some u := by
  intro j u hj
  have hlt := (List.getElem?_eq_some_iff.1 hj).1
  rw [qcells_length] at hlt
  have hk : j / 4 < p.length := by omega
  obtain ⟨h0, h1, h2, h3⟩ := h (j / 4) _ (List.getElem?_eq_getElem hk)
  obtain ⟨q0, q1, q2, q3⟩ := qcells_at p (j / 4) _ (List.getElem?_eq_getElem hk)
  rcases (show j % 4 = 0 ∨ j % 4 = 1 ∨ j % 4 = 2 ∨ j % 4 = 3 from by omega) with e | e | e | e
  · have ej : j = j / 4 * 4 := by omega
    rw [← ej] at q0
    rw [hj] at q0
    rw [show off + j / 4 * 4 = off + j by omega] at h0
    rw [h0, q0]
  · have ej : j = j / 4 * 4 + 1 := by omega
    rw [← ej] at q1
    rw [hj] at q1
    rw [show off + j / 4 * 4 + 1 = off + j by omega] at h1
    rw [h1, q1]
  · have ej : j = j / 4 * 4 + 2 := by omega
    rw [← ej] at q2
    rw [hj] at q2
    rw [show off + j / 4 * 4 + 2 = off + j by omega] at h2
    rw [h2, q2]
  · have ej : j = j / 4 * 4 + 3 := by omega
    rw [← ej] at q3
    rw [hj] at q3
    rw [show off + j / 4 * 4 + 3 = off + j by omega] at h3
    rw [h3, q3]

section
variable {H : Type} {enc : TypeId × Value → H} {W : World} {base : Nat} {spare : Nat → Bool} {held : Bool}
theorem qrange_at {n : Nat} (x : Nat → In) {k : Nat} {i : In} (h : ((List.range n).map x)[k]? = some i) : k < n ∧ i = x k := by
  have hk := (List.getElem?_eq_some_iff.1 h).1
  simp only [List.length_map, List.length_range] at hk
  simp [hk] at h
  exact ⟨hk, h.symm⟩

set_option maxRecDepth 100000 in
theorem open_prog {fuel : Nat} {v : Value} {y : DataW H × List MemPlace} (hf : DataW.trod enc Try.prog W base spare held fuel 69 [v] = some y) : ∃ p, PrgAt W.heap.size W v p := by
  rcases open_slice_fields Try.underlying69 Try.underlying95 (by kernel_rfl) (by kernel_rfl) hf with ⟨hcs, _⟩ | ⟨a, len', cap', m, D, Pl, hcs, hb, hl, hm, hmm, hx, hi⟩
  · simp only [List.cons.injEq, and_true] at hcs
    rw [hcs]
    exact ⟨[], none, 0, rfl, Nat.le_refl _, Nat.zero_le _, fun _ => rfl, fun h => by simp at h⟩
  · simp only [List.cons.injEq, and_true] at hcs
    rw [hcs]
    have hlm : len' ≤ m := by rw [hmm]; split <;> omega
    have key : ∀ j, j < len' → ∃ t : Qd, W.cell? (a.add (j * 4)) = some (.int .i64 t.p) ∧ W.cell? (a.add (j * 4 + 1)) = some (.int .i64 t.q) ∧ W.cell? (a.add (j * 4 + 2)) = some (.int .i64 t.r) ∧ W.cell? (a.add (j * 4 + 3)) = some (.int .i64 t.s) := by
      intro j hj
      obtain ⟨ys, n, _, _, _, hf⟩ := hi j (by omega)
      obtain ⟨v0, y0, c0, _, t0⟩ := hf 0 _ rfl
      obtain ⟨v1, y1, c1, _, t1⟩ := hf 1 _ rfl
      obtain ⟨v2, y2, c2, _, t2⟩ := hf 2 _ rfl
      obtain ⟨v3, y3, c3, _, t3⟩ := hf 3 _ rfl
      obtain ⟨x0, e0, _, _⟩ := DataW.trod_int Try.underlying3 t0
      obtain ⟨x1, e1, _, _⟩ := DataW.trod_int Try.underlying3 t1
      obtain ⟨x2, e2, _, _⟩ := DataW.trod_int Try.underlying3 t2
      obtain ⟨x3, e3, _, _⟩ := DataW.trod_int Try.underlying3 t3
      simp only [List.cons.injEq, and_true] at e0 e1 e2 e3
      subst e0 e1 e2 e3
      exact ⟨⟨x0, x1, x2, x3⟩, c0, c1, c2, c3⟩
    obtain ⟨x, hx'⟩ := choose_below key
    refine ⟨(List.range len').map fun j => ⟨(x j).p, (x j).q, (x j).r, (x j).s⟩, some a, cap', by simp, by simpa using hl, hm, (fun e => by cases e), fun hpos => ?_⟩
    simp only [List.length_map, List.length_range] at hpos
    have h0 := (hx' 0 hpos).1
    rw [Nat.zero_mul] at h0
    obtain ⟨bb, off, rfl, hlt⟩ := place_of h0
    refine ⟨bb, off, rfl, hlt, qcells_all fun k i hk => ?_⟩
    obtain ⟨hk2, rfl⟩ := qrange_at (fun j => ⟨(x j).p, (x j).q, (x j).r, (x j).s⟩) hk
    have := hx' k hk2
    rwa [Addr.add_lit, Addr.add_lit, Addr.add_lit, Addr.add_lit, ← Nat.add_assoc, ← Nat.add_assoc, ← Nat.add_assoc] at this

set_option maxRecDepth 100000 in
theorem open_progs {b' : Nat} {r : Reach} {v : Value} {d : DataW H} {p : List MemPlace} (hok : Value.okWide Try.prog W r b' 52 v) (h : DataW.Trod enc Try.prog W base spare held 52 v d p) :
    ∃ (ps : List (List In)) (_ : Nat), PrgsAt W.heap.size W v ps := by
  obtain ⟨a0, len, cap, rfl⟩ := okWide_slice Try.underlying52 hok
  obtain ⟨fuel, hf⟩ := h
  rcases open_slice (cs := [.slice a0 len cap]) Try.underlying52 hf with ⟨hcs, _⟩ | ⟨a, len', cap', m, n, D, Pl, hcs, hb, hl, hm, hmm, hx, hi⟩
  · simp only [List.cons.injEq, and_true] at hcs
    rw [hcs]
    exact ⟨[], 0, none, 0, rfl, Nat.le_refl _, Nat.zero_le _, fun _ => rfl, fun h => by simp at h⟩
  · simp only [List.cons.injEq, and_true] at hcs
    rw [hcs]
    have hlm : len' ≤ m := by rw [hmm]; split <;> omega
    have hC : Try.prog.cellsOf 69 = 1 := by kernel_rfl
    have key : ∀ j, j < len' → ∃ t : Value × List In, W.cell? (a.add j) = some t.1 ∧ PrgAt W.heap.size W t.1 t.2 := by
      intro j hj
      obtain ⟨cs', hc, ht'⟩ := hi j (by omega)
      rw [hC, Nat.mul_one] at hc
      obtain ⟨_, hcl, hat⟩ := World.cells?_some hc
      have h1 := hat 0 (by omega)
      rw [Go.Deep.add_add] at h1
      obtain ⟨u, rfl⟩ : ∃ u, cs' = [u] := by
        match cs', hcl with
        | [u], _ => exact ⟨u, rfl⟩
      obtain ⟨q, hq⟩ := open_prog ht'
      exact ⟨(u, q), h1, hq⟩
    haveI : Inhabited (Value × List In) := ⟨(.nilFunc, [])⟩
    obtain ⟨x, hx'⟩ := choose_below key
    refine ⟨(List.range len').map fun j => (x j).2, 0, some a, cap', by simp, by simpa using hl, hm, (fun e => by cases e), fun hpos => ?_⟩
    simp only [List.length_map, List.length_range] at hpos
    obtain ⟨bb, off, rfl, hlt⟩ := place_of (hx' 0 hpos).1
    refine ⟨bb, off, rfl, hlt, fun j p hj => ?_⟩
    have hk := (List.getElem?_eq_some_iff.1 hj).1
    simp only [List.length_map, List.length_range] at hk
    simp [hk] at hj
    subst hj
    have := hx' j hk
    rw [Addr.add_lit] at this
    exact ⟨_, this⟩

set_option maxRecDepth 100000 in
theorem progs_again {W' : World} {v : Value} {d : DataW H} {ps : List MemPlace} (h : DataW.Trod enc Try.prog W 0 (fun _ => true) true 52 v d ps) (hb : Below W.heap.size W W') (hlt : ∀ x ∈ ps, x.block < W.heap.size) {sp : Nat → Bool} (hs : ∀ x ∈ ps, sp x.block = true) :
    DataW.Trod enc Try.prog W' 0 sp true 52 v d ps :=
  WideElems.Trod_stays laidOut (by kernel_rfl) (of_decide_eq_true (by kernel_rfl)) h (fun x hx => hb.same (hlt x hx)) hs
end
end Go.Proofs.Ytaoonjamlcdfaaa
