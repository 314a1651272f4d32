/-
  Lists of numbers among the arguments, opened to their cells; and read again behind the call.
-/
import Derived.Test.YtaoonjamlcdfaaaArgsP
import Derived.Test.YtaoonjamlcdfaaaLists
namespace Go.Proofs.Ytaoonjamlcdfaaa
open Go.ChangeShapes Go.WideShapes Go.ChangeAt Go.RowKit Go.Deep

section
variable {H : Type} {enc : TypeId × Value → H} {W : World} {base : Nat} {spare : Nat → Bool} {held : Bool}
set_option maxRecDepth 100000 in
theorem open_list {fuel : Nat} {v : Value} {y : DataW H × List MemPlace} (hf : DataW.trod enc Try.prog W base spare held fuel 22 [v] = some y) : ∃ x len, IntsAt W.heap.size W v x len := by
  rcases open_slice (cs := [v]) Try.underlying22 hf with ⟨hcs, _⟩ | ⟨a, len', cap', m, n, D, Pl, hcs, hb, hl, hm, hmm, hx, hi⟩
  · simp only [List.cons.injEq, and_true] at hcs
    rw [hcs]
    exact ⟨fun _ => 0, 0, none, 0, rfl, Nat.le_refl _, Nat.zero_le _, fun _ => rfl, fun h => by omega⟩
  · simp only [List.cons.injEq, and_true] at hcs
    rw [hcs]
    have hlm : len' ≤ m := by rw [hmm]; split <;> omega
    have hC : Try.prog.cellsOf 3 = 1 := by kernel_rfl
    have key : ∀ j, j < len' → ∃ t : Int, W.cell? (a.add j) = some (.int .i64 t) := by
      intro j hj
      obtain ⟨cs', hc, ht'⟩ := hi j (by omega)
      rw [hC, Nat.mul_one] at hc
      obtain ⟨_, hcl, hat⟩ := World.cells?_some hc
      obtain ⟨x0, e0, _, _⟩ := DataW.trod_int Try.underlying3 ht'
      have := hat 0 (by omega)
      rw [e0, Go.Deep.add_add] at this
      exact ⟨x0, this⟩
    obtain ⟨x, hx'⟩ := choose_below key
    refine ⟨x, len', some a, cap', rfl, hl, hm, (fun e => by cases e), fun hpos => ?_⟩
    obtain ⟨bb, off, rfl, hlt⟩ := place_of (hx' 0 hpos)
    refine ⟨bb, off, rfl, hlt, fun j hj => ?_⟩
    have := hx' j hj
    rwa [Addr.add_lit] at this

set_option maxRecDepth 100000 in
theorem open_lists {b' : Nat} {r : Reach} {v : Value} {d : DataW H} {p : List MemPlace} (hok : Value.okWide Try.prog W r b' 68 v) (h : DataW.Trod enc Try.prog W base spare held 68 v d p) :
    ∃ (x : (Nat → Nat → Int) × (Nat → Nat)) (n : Nat), LstsAt W.heap.size W v x.1 x.2 n := by
  obtain ⟨a0, len, cap, rfl⟩ := okWide_slice Try.underlying68 hok
  obtain ⟨fuel, hf⟩ := h
  rcases open_slice (cs := [.slice a0 len cap]) Try.underlying68 hf with ⟨hcs, _⟩ | ⟨a, len', cap', m, n, D, Pl, hcs, hb, hl, hm, hmm, hx, hi⟩
  · simp only [List.cons.injEq, and_true] at hcs
    rw [hcs]
    exact ⟨(fun _ _ => 0, fun _ => 0), 0, none, 0, rfl, Nat.le_refl _, Nat.zero_le _, fun h => by omega⟩
  · simp only [List.cons.injEq, and_true] at hcs
    rw [hcs]
    have hlm : len' ≤ m := by rw [hmm]; split <;> omega
    have hC : Try.prog.cellsOf 22 = 1 := by kernel_rfl
    have key : ∀ j, j < len' → ∃ t : Value × (Nat → Int) × Nat, W.cell? (a.add j) = some t.1 ∧ IntsAt W.heap.size W t.1 t.2.1 t.2.2 := by
      intro j hj
      obtain ⟨cs', hc, ht'⟩ := hi j (by omega)
      rw [hC, Nat.mul_one] at hc
      obtain ⟨_, hcl, hat⟩ := World.cells?_some hc
      have h1 := hat 0 (by omega)
      rw [Go.Deep.add_add] at h1
      obtain ⟨u, rfl⟩ : ∃ u, cs' = [u] := by
        match cs', hcl with
        | [u], _ => exact ⟨u, rfl⟩
      obtain ⟨x, l, hx⟩ := open_list ht'
      exact ⟨(u, x, l), h1, hx⟩
    haveI : Inhabited (Value × (Nat → Int) × Nat) := ⟨(.nilFunc, fun _ => 0, 0)⟩
    obtain ⟨x, hx'⟩ := choose_below key
    refine ⟨(fun j => (x j).2.1, fun j => (x j).2.2), len', some a, cap', rfl, hl, hm, fun hpos => ?_⟩
    obtain ⟨bb, off, rfl, hlt⟩ := place_of (hx' 0 hpos).1
    refine ⟨bb, off, rfl, hlt, fun j hj => ?_⟩
    have := hx' j hj
    rw [Addr.add_lit] at this
    exact ⟨_, this⟩

set_option maxRecDepth 100000 in
theorem lists_again {W' : World} {v : Value} {d : DataW H} {ps : List MemPlace} (h : DataW.Trod enc Try.prog W 0 (fun _ => true) true 68 v d ps) (hb : Below W.heap.size W W') (hlt : ∀ x ∈ ps, x.block < W.heap.size) {sp : Nat → Bool} (hs : ∀ x ∈ ps, sp x.block = true) :
    DataW.Trod enc Try.prog W' 0 sp true 68 v d ps :=
  WideElems.Trod_stays laidOut (by kernel_rfl) (of_decide_eq_true (by kernel_rfl)) h (fun x hx => hb.same (hlt x hx)) hs
end
end Go.Proofs.Ytaoonjamlcdfaaa
