/-
  Slices of numbers and of acts among the arguments, opened to their cells; and read again behind the call.
-/
import Derived.Deep.Slices
import Derived.Deep.Fields
import Derived.ChangeSame
import Derived.Test.YtaoonjamlcdfaaaEnd
import Derived.Test.YtaoonjamlcdfaaaCounts
namespace Go.Proofs.Ytaoonjamlcdfaaa
open Go.ChangeShapes Go.WideShapes Go.ChangeAt Go.RowKit Go.Deep

section
variable {H : Type} {enc : TypeId × Value → H} {P : Program} {w : World} {base : Nat} {spare : Nat → Bool} {held : Bool}
theorem open_slice_fields {t e : TypeId} {fs : Array Field} {fuel : Nat} {cs : List Value} {x : DataW H × List MemPlace} (ht : P.underlying t = some (.slice e)) (he : P.underlying e = some (.struct fs))
    (hone : oneCellFields P fs = true) (hC : P.cellsOf e = fs.size) (h : DataW.trod enc P w base spare held fuel t cs = some x) :
    (cs = [.slice none 0 0] ∧ x = (.nil, [])) ∨
    ∃ (a : Addr) (len cap m : Nat) (D : Nat → DataW H) (Pl : Nat → List MemPlace), cs = [.slice (some a) len cap] ∧ base ≤ a.block ∧ len ≤ cap ∧ cap ≤ maxLen ∧ m = (if spare a.block then cap else len) ∧
      x = (.slice ((List.range len).map D) ((List.range (m - len)).map fun j => D (len + j)), MemPlace.row a (m * fs.size) ++ (List.range m).flatMap Pl) ∧
      ∀ i, i < m → ∃ (ys : List (DataW H × List MemPlace)) (n : Nat), D i = .agg (ys.map (·.1)) ∧ Pl i = ys.flatMap (·.2) ∧ ys.length = fs.size ∧
        ∀ (j : Nat) (f : Field), fs[j]? = some f → ∃ (v : Value) (y : DataW H × List MemPlace), w.cell? (a.add (i * fs.size + j)) = some v ∧ ys[j]? = some y ∧ DataW.trod enc P w base spare held n f.type [v] = some y := by
  rcases open_slice ht h with h0 | ⟨a, len, cap, m, n, D, Pl, hcs, hb, hl, hm, hmm, hx, hi⟩
  · exact .inl h0
  · refine .inr ⟨a, len, cap, m, D, Pl, hcs, hb, hl, hm, hmm, by rw [hC] at hx; exact hx, fun i him => ?_⟩
    obtain ⟨cs', hc, ht'⟩ := hi i him
    rw [hC] at hc
    obtain ⟨ys, n', hn', hy, hlen, hyl, hf⟩ := DataW.trod_struct he ht'
    obtain ⟨_, hcl, hat⟩ := World.cells?_some hc
    simp only [Prod.mk.injEq] at hy
    refine ⟨ys, n', hy.1, hy.2, hyl, fun j f hj => ?_⟩
    obtain ⟨ho, hk⟩ := hone_of hone j f hj
    have hjl : j < fs.size := (Array.getElem?_eq_some_iff.1 hj).1
    have hcell := hat j hjl
    have hv : cs'[j]? = some (cs'[j]'(by omega)) := List.getElem?_eq_getElem (by omega)
    have h1 := hf j f hj
    rw [ho, hk] at h1
    have hone' : (cs'.drop j).take 1 = [cs'[j]'(by omega)] := by
      rw [List.drop_eq_getElem_cons (by omega)]
      rfl
    rw [hone'] at h1
    have hys : ys[j]? = some (ys[j]'(by omega)) := List.getElem?_eq_getElem (by omega)
    refine ⟨_, _, ?_, hys, h1.trans hys⟩
    rw [← Go.Deep.add_add, hcell, hv]
end

theorem choose_below {α : Type} [Inhabited α] {n : Nat} {P : Nat → α → Prop} (h : ∀ j, j < n → ∃ x, P j x) : ∃ f : Nat → α, ∀ j, j < n → P j (f j) := by
  refine ⟨fun j => if hj : j < n then Classical.choose (h j hj) else default, fun j hj => ?_⟩
  simp only [dif_pos hj]
  exact Classical.choose_spec (h j hj)

/-- The place of a slice that has an element. -/
theorem place_of {w : World} {a : Addr} {v : Value} (h0 : w.cell? (a.add 0) = some v) : ∃ b off, a = ⟨b, off, none⟩ ∧ b < w.heap.size := by
  obtain ⟨bb, off, spot⟩ := a
  have hspot : spot = none := by
    cases spot with
    | none => rfl
    | some s =>
      simp only [Addr.add, if_true] at h0
      unfold World.cell? at h0
      simp at h0
      split at h0 <;> simp_all
  subst hspot
  have hlt := World.block_lt_of_cell? _ _ h0
  simp only [Addr.add, if_true] at hlt
  exact ⟨bb, off, rfl, hlt⟩

set_option maxRecDepth 100000 in
theorem open_ints {H : Type} {enc : TypeId × Value → H} {W : World} {base b' : Nat} {r : Reach} {spare : Nat → Bool} {held : Bool} {v : Value} {d : DataW H} {p : List MemPlace} (hok : Value.okWide Try.prog W r b' 22 v) (h : DataW.Trod enc Try.prog W base spare held 22 v d p) :
    ∃ x len, IntsAt W.heap.size W v x len := by
  obtain ⟨a0, len, cap, rfl⟩ := okWide_slice Try.underlying22 hok
  obtain ⟨fuel, hf⟩ := h
  rcases open_slice (cs := [.slice a0 len cap]) Try.underlying22 hf with ⟨hcs, _⟩ | ⟨a, len', cap', m, n, D, Pl, hcs, hb, hl, hm, hmm, hx, hi⟩
  · simp only [List.cons.injEq, and_true] at hcs
    rw [hcs]
    exact ⟨fun _ => 0, 0, none, 0, rfl, Nat.le_refl _, Nat.zero_le _, fun _ => rfl, fun h => by omega⟩
  · simp only [List.cons.injEq, and_true] at hcs
    rw [hcs]
    have hlm : len' ≤ m := by rw [hmm]; split <;> omega
    have hC : Try.prog.cellsOf 3 = 1 := by kernel_rfl
    have key : ∀ j, j < len' → ∃ t : Int, W.cell? (a.add j) = some (.int .i64 t) := by
      intro j hj
      obtain ⟨cs', hc, ht'⟩ := hi j (by omega)
      rw [hC, Nat.mul_one] at hc
      obtain ⟨_, hcl, hat⟩ := World.cells?_some hc
      obtain ⟨x0, e0, _, _⟩ := DataW.trod_int Try.underlying3 ht'
      have := hat 0 (by omega)
      rw [e0, Go.Deep.add_add] at this
      exact ⟨x0, this⟩
    obtain ⟨x, hx'⟩ := choose_below key
    refine ⟨x, len', some a, cap', rfl, hl, hm, (fun e => by cases e), fun hpos => ?_⟩
    obtain ⟨bb, off, rfl, hlt⟩ := place_of (hx' 0 hpos)
    refine ⟨bb, off, rfl, hlt, fun j hj => ?_⟩
    have := hx' j hj
    rwa [Addr.add_lit] at this

theorem laidOut : laidOutB Try.prog = true := by kernel_rfl
set_option maxRecDepth 100000 in
theorem ints_again {H : Type} {enc : TypeId × Value → H} {W W' : World} {v : Value} {d : DataW H} {ps : List MemPlace} (h : DataW.Trod enc Try.prog W 0 (fun _ => true) true 22 v d ps) (hb : Below W.heap.size W W') (hlt : ∀ x ∈ ps, x.block < W.heap.size) {sp : Nat → Bool} (hs : ∀ x ∈ ps, sp x.block = true) :
    DataW.Trod enc Try.prog W' 0 sp true 22 v d ps :=
  WideElems.Trod_stays laidOut (by kernel_rfl) (of_decide_eq_true (by kernel_rfl)) h (fun x hx => hb.same (hlt x hx)) hs

/-- An act, or an instruction: four numbers. -/
structure Qd where
  p : Int
  q : Int
  r : Int
  s : Int
instance : Inhabited Qd := ⟨⟨0, 0, 0, 0⟩⟩
def QdAt (w : World) (a : Addr) (t : Qd) : Prop := w.cell? (a.add 0) = some (.int .i64 t.p) ∧ w.cell? (a.add 1) = some (.int .i64 t.q) ∧ w.cell? (a.add 2) = some (.int .i64 t.r) ∧ w.cell? (a.add 3) = some (.int .i64 t.s)
/-- The slice value v holds the acts l, below block B. -/
def QdsAt (B : Nat) (w : World) (v : Value) (x : Nat → Qd) (len : Nat) : Prop :=
  ∃ ao cap, v = .slice ao len cap ∧ len ≤ cap ∧ cap ≤ maxLen ∧ (ao = none → cap = 0) ∧ (0 < len → ∃ g off, ao = some ⟨g, off, none⟩ ∧ g < B ∧ ∀ j, j < len →
    w.cell? ⟨g, off + j * 4, none⟩ = some (.int .i64 (x j).p) ∧ w.cell? ⟨g, off + j * 4 + 1, none⟩ = some (.int .i64 (x j).q) ∧ w.cell? ⟨g, off + j * 4 + 2, none⟩ = some (.int .i64 (x j).r) ∧ w.cell? ⟨g, off + j * 4 + 3, none⟩ = some (.int .i64 (x j).s))

set_option maxRecDepth 100000 in
theorem open_qds {H : Type} {enc : TypeId × Value → H} {W : World} {base b' : Nat} {r : Reach} {spare : Nat → Bool} {held : Bool} {v : Value} {d : DataW H} {p : List MemPlace} (hok : Value.okWide Try.prog W r b' 39 v) (h : DataW.Trod enc Try.prog W base spare held 39 v d p) :
    ∃ x len, QdsAt W.heap.size W v x len := by
  obtain ⟨a0, len, cap, rfl⟩ := okWide_slice Try.underlying39 hok
  obtain ⟨fuel, hf⟩ := h
  rcases open_slice_fields (cs := [.slice a0 len cap]) Try.underlying39 Try.underlying41 (by kernel_rfl) (by kernel_rfl) hf with ⟨hcs, _⟩ | ⟨a, len', cap', m, D, Pl, hcs, hb, hl, hm, hmm, hx, hi⟩
  · simp only [List.cons.injEq, and_true] at hcs
    rw [hcs]
    exact ⟨default, 0, none, 0, rfl, Nat.le_refl _, Nat.zero_le _, fun _ => rfl, fun h => by omega⟩
  · simp only [List.cons.injEq, and_true] at hcs
    rw [hcs]
    have hlm : len' ≤ m := by rw [hmm]; split <;> omega
    have key : ∀ j, j < len' → ∃ t : Qd, W.cell? (a.add (j * 4)) = some (.int .i64 t.p) ∧ W.cell? (a.add (j * 4 + 1)) = some (.int .i64 t.q) ∧ W.cell? (a.add (j * 4 + 2)) = some (.int .i64 t.r) ∧ W.cell? (a.add (j * 4 + 3)) = some (.int .i64 t.s) := by
      intro j hj
      obtain ⟨ys, n, _, _, _, hf⟩ := hi j (by omega)
      obtain ⟨v0, y0, c0, _, t0⟩ := hf 0 _ rfl
      obtain ⟨v1, y1, c1, _, t1⟩ := hf 1 _ rfl
      obtain ⟨v2, y2, c2, _, t2⟩ := hf 2 _ rfl
      obtain ⟨v3, y3, c3, _, t3⟩ := hf 3 _ rfl
      obtain ⟨x0, e0, _, _⟩ := DataW.trod_int Try.underlying3 t0
      obtain ⟨x1, e1, _, _⟩ := DataW.trod_int Try.underlying3 t1
      obtain ⟨x2, e2, _, _⟩ := DataW.trod_int Try.underlying3 t2
      obtain ⟨x3, e3, _, _⟩ := DataW.trod_int Try.underlying3 t3
      simp only [List.cons.injEq, and_true] at e0 e1 e2 e3
      subst e0 e1 e2 e3
      exact ⟨⟨x0, x1, x2, x3⟩, c0, c1, c2, c3⟩
    obtain ⟨x, hx'⟩ := choose_below key
    refine ⟨x, len', some a, cap', rfl, hl, hm, (fun e => by cases e), fun hpos => ?_⟩
    have h0 := (hx' 0 hpos).1
    rw [Nat.zero_mul] at h0
    obtain ⟨bb, off, rfl, hlt⟩ := place_of h0
    refine ⟨bb, off, rfl, hlt, fun j hj => ?_⟩
    have := hx' j hj
    rwa [Addr.add_lit, Addr.add_lit, Addr.add_lit, Addr.add_lit, ← Nat.add_assoc, ← Nat.add_assoc, ← Nat.add_assoc] at this

set_option maxRecDepth 100000 in
theorem qds_again {H : Type} {enc : TypeId × Value → H} {W W' : World} {v : Value} {d : DataW H} {ps : List MemPlace} (h : DataW.Trod enc Try.prog W 0 (fun _ => true) true 39 v d ps) (hb : Below W.heap.size W W') (hlt : ∀ x ∈ ps, x.block < W.heap.size) {sp : Nat → Bool} (hs : ∀ x ∈ ps, sp x.block = true) :
    DataW.Trod enc Try.prog W' 0 sp true 39 v d ps :=
  WideElems.Trod_stays laidOut (by kernel_rfl) (of_decide_eq_true (by kernel_rfl)) h (fun x hx => hb.same (hlt x hx)) hs
end Go.Proofs.Ytaoonjamlcdfaaa
