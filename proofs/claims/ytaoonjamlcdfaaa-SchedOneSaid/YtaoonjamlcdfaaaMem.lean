/-
  A memory of cells as it lies in Go's memory, and the contracts of what reads and writes it.
-/
import Derived.BigQuiet
import Derived.Deep.QuietTactic
import Derived.WalkSpells
import Derived.WalkLawsBesides
import Derived.Test.YtaoonjamlcdfaaaWords
import Derived.Test.YtaoonjamlcdfaaaModel
import Derived.Test.YtaoonjamlcdfaaaProg
namespace Go.Proofs.Ytaoonjamlcdfaaa
open Go.RowKit

def cellsOf (l : List Cl) : List Value := l.flatMap fun t => [.int .i64 t.v, .int .i64 t.by_, .int .i64 t.wr]
theorem cellsOf_length (l : List Cl) : (cellsOf l).length = l.length * 3 := by
  induction l with
  | nil => rfl
  | cons t l ih => simp [cellsOf] at ih ⊢; omega
theorem cellsOf_at (l : List Cl) : ∀ (i : Nat) (t : Cl), l[i]? = some t → (cellsOf l)[i * 3]? = some (.int .i64 t.v) ∧ (cellsOf l)[i * 3 + 1]? = some (.int .i64 t.by_) ∧ (cellsOf l)[i * 3 + 2]? = some (.int .i64 t.wr) := by
  induction l with
  | nil => simp
  | cons u l ih =>
    intro i t h
    cases i with
    | zero => simp at h; subst h; simp [cellsOf]
    | succ i =>
      have := ih i t (by simpa using h)
      have e : cellsOf (u :: l) = [.int .i64 u.v, .int .i64 u.by_, .int .i64 u.wr] ++ cellsOf l := rfl
      rw [e, List.getElem?_append_right (by simp; omega), List.getElem?_append_right (by simp; omega), List.getElem?_append_right (by simp; omega)]
      simpa [show (i + 1) * 3 - 3 = i * 3 by omega, show (i + 1) * 3 + 1 - 3 = i * 3 + 1 by omega, show (i + 1) * 3 + 2 - 3 = i * 3 + 2 by omega] using this
theorem cellsOf_set (l : List Cl) : ∀ (i : Nat) (t : Cl), l[i]? = some t →
    (∀ x, cellsOf (l.set i ⟨x, t.by_, t.wr⟩) = (cellsOf l).set (i * 3) (.int .i64 x)) ∧ (∀ x, cellsOf (l.set i ⟨t.v, x, t.wr⟩) = (cellsOf l).set (i * 3 + 1) (.int .i64 x)) ∧ (∀ x, cellsOf (l.set i ⟨t.v, t.by_, x⟩) = (cellsOf l).set (i * 3 + 2) (.int .i64 x)) := by
  induction l with
  | nil => simp
  | cons u l ih =>
    intro i t h
    have e : ∀ (u : Cl) (l : List Cl), cellsOf (u :: l) = .int .i64 u.v :: .int .i64 u.by_ :: .int .i64 u.wr :: cellsOf l := fun _ _ => rfl
    cases i with
    | zero =>
      simp at h
      subst h
      simp [e]
    | succ i =>
      obtain ⟨h1, h2, h3⟩ := ih i t (by simpa using h)
      refine ⟨fun x => ?_, fun x => ?_, fun x => ?_⟩
      · rw [List.set_cons_succ, e, e, h1 x]
        simp [show (i + 1) * 3 = i * 3 + 3 by omega]
      · rw [List.set_cons_succ, e, e, h2 x]
        simp [show (i + 1) * 3 = i * 3 + 3 by omega]
      · rw [List.set_cons_succ, e, e, h3 x]
        simp [show (i + 1) * 3 = i * 3 + 3 by omega]

/-- A memory at the head of block b; its cells in the row at block g; all from block B on. -/
structure Mem (w : World) (B b g cap : Nat) (l : List Cl) : Prop where
  hb : B ≤ b
  blk : Blk w b 84 #[.slice (some ⟨g, 0, none⟩) l.length cap]
  row : w.ownsRow B 82 3 (.slice (some ⟨g, 0, none⟩) l.length cap) l.length (cellsOf l)
  pos : 0 < l.length
  len : l.length ≤ 64

section
variable {w w' : World} {B b g cap : Nat} {l : List Cl}
theorem Mem.ne (h : Mem w B b g cap l) : g ≠ b := by
  intro e
  subst e
  exact own_blk_ne h.row h.blk (by decide) rfl
theorem Mem.lt (h : Mem w B b g cap l) : B ≤ g ∧ g < w.heap.size := h.row.lt g rfl
theorem Mem.cells (h : Mem w B b g cap l) {i : Nat} {t : Cl} (ht : l[i]? = some t) : w.cell? ⟨g, i * 3, none⟩ = some (.int .i64 t.v) ∧ w.cell? ⟨g, i * 3 + 1, none⟩ = some (.int .i64 t.by_) ∧ w.cell? ⟨g, i * 3 + 2, none⟩ = some (.int .i64 t.wr) := by
  obtain ⟨g', cap', e, _, _, _, _, hc, _⟩ := ownsRow_pos h.row h.pos
  simp only [Value.slice.injEq, Option.some.injEq, Addr.mk.injEq, and_true, true_and] at e
  obtain ⟨rfl, rfl⟩ := e
  have := cellsOf_at l i t ht
  exact ⟨hc _ _ this.1, hc _ _ this.2.1, hc _ _ this.2.2⟩
theorem Mem.frozen (h : Mem w B b g cap l) (j : Nat) : w.frozen? ⟨g, j, none⟩ = false := by
  obtain ⟨g', cap', e, _, _, _, _, _, hc⟩ := ownsRow_pos h.row h.pos
  simp only [Value.slice.injEq, Option.some.injEq, Addr.mk.injEq, and_true, true_and] at e
  obtain ⟨rfl, rfl⟩ := e
  exact hc j
theorem Mem.only {S : Nat → Prop} (h : Mem w B b g cap l) (ho : Only S w w') (hb : ¬ S b) (hg : ¬ S g) : Mem w' B b g cap l :=
  ⟨h.hb, h.blk.only ho hb, ownsRow_only h.row ho (fun k hk => by cases hk; exact hg), h.pos, h.len⟩
theorem Mem.later (h : Mem w B b g cap l) (hb : Below w.heap.size w w') : Mem w' B b g cap l :=
  h.only (Only.of_below (S := fun k => w.heap.size ≤ k) hb fun _ h => h) (by have := h.blk.lt; omega) (by have := h.lt; omega)
theorem Mem.drewN (h : Mem w B b g cap l) (n : Nat) : Mem (w.drewN n) B b g cap l := ⟨h.hb, h.blk, h.row, h.pos, h.len⟩

/-- A field of a cell is stored. -/
theorem Mem.store (h : Mem w B b g cap l) (j : Nat) (x : Int) (l' : List Cl) (hl : l'.length = l.length) (he : cellsOf l' = (cellsOf l).set j (.int .i64 x)) : Mem (w.setCell ⟨g, j, none⟩ (.int .i64 x)) B b g cap l' := by
  have hne := h.ne
  have h1 := (h.row.stored j (.int .i64 x)).1
  have hb := h.blk.far (p := ⟨g, j, none⟩) (Ne.symm hne) (.int .i64 x)
  rw [← he, ← hl] at h1
  rw [← hl] at hb
  exact ⟨h.hb, hb, h1, by rw [hl]; exact h.pos, by rw [hl]; exact h.len⟩
theorem Mem.write (h : Mem w B b g cap l) {k : Nat} {t : Cl} (ht : l[k]? = some t) (v wr : Int) :
    Mem ((w.setCell ⟨g, k * 3, none⟩ (.int .i64 v)).setCell ⟨g, k * 3 + 2, none⟩ (.int .i64 wr)) B b g cap (l.set k ⟨v, t.by_, wr⟩) := by
  have h1 := h.store (k * 3) v (l.set k ⟨v, t.by_, t.wr⟩) (by simp) ((cellsOf_set l k t ht).1 v)
  have hk := (List.getElem?_eq_some_iff.1 ht).1
  have ht' : (l.set k ⟨v, t.by_, t.wr⟩)[k]? = some ⟨v, t.by_, t.wr⟩ := by simp [hk]
  have h2 := h1.store (k * 3 + 2) wr (l.set k ⟨v, t.by_, wr⟩) (by simp) (by have := (cellsOf_set _ k _ ht').2.2 wr; simpa using this)
  exact h2
theorem Mem.own (h : Mem w B b g cap l) {k : Nat} {t : Cl} (ht : l[k]? = some t) (who : Int) :
    Mem (w.setCell ⟨g, k * 3 + 1, none⟩ (.int .i64 who)) B b g cap (l.set k ⟨t.v, who, t.wr⟩) :=
  h.store (k * 3 + 1) who (l.set k ⟨t.v, who, t.wr⟩) (by simp) ((cellsOf_set l k t ht).2.1 who)
end

end Go.Proofs.Ytaoonjamlcdfaaa
