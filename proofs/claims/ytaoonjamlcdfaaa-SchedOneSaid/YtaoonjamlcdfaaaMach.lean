/-
  A machine of sessions as it lies in Go's memory.
-/
import Derived.Test.YtaoonjamlcdfaaaRight
namespace Go.Proofs.Ytaoonjamlcdfaaa
open Go.RowKit

def qcells (l : List In) : List Value := l.flatMap fun t => [.int .i64 t.op, .int .i64 t.c, .int .i64 t.a, .int .i64 t.b]
theorem qcells_length (l : List In) : (qcells l).length = l.length * 4 := by
  induction l with
  | nil => rfl
  | cons t l ih => simp [qcells] at ih ⊢; omega
theorem qcells_at (l : List In) : ∀ (i : Nat) (t : In), l[i]? = some t → (qcells l)[i * 4]? = some (.int .i64 t.op) ∧ (qcells l)[i * 4 + 1]? = some (.int .i64 t.c) ∧ (qcells l)[i * 4 + 2]? = some (.int .i64 t.a) ∧ (qcells l)[i * 4 + 3]? = some (.int .i64 t.b) := by
  induction l with
  | nil => simp
  | cons u l ih =>
    intro i t h
    cases i with
    | zero => simp at h; subst h; simp [qcells]
    | succ i =>
      have := ih i t (by simpa using h)
      have e : qcells (u :: l) = [.int .i64 u.op, .int .i64 u.c, .int .i64 u.a, .int .i64 u.b] ++ qcells l := rfl
      rw [e, List.getElem?_append_right (by simp; omega), List.getElem?_append_right (by simp; omega), List.getElem?_append_right (by simp; omega), List.getElem?_append_right (by simp; omega)]
      simpa [show (i + 1) * 4 - 4 = i * 4 by omega, show (i + 1) * 4 + 1 - 4 = i * 4 + 1 by omega, show (i + 1) * 4 + 2 - 4 = i * 4 + 2 by omega, show (i + 1) * 4 + 3 - 4 = i * 4 + 3 by omega] using this
theorem qcells_append (l r : List In) : qcells (l ++ r) = qcells l ++ qcells r := by simp [qcells]
theorem qcells_one (l : List In) : ∀ u ∈ qcells l, u.oneCell' = true := by
  induction l with
  | nil => simp [qcells]
  | cons t l ih =>
    intro u hu
    have e : qcells (t :: l) = [.int .i64 t.op, .int .i64 t.c, .int .i64 t.a, .int .i64 t.b] ++ qcells l := rfl
    rw [e] at hu
    rcases List.mem_append.1 hu with hu | hu
    · simp at hu
      rcases hu with rfl | rfl | rfl | rfl <;> rfl
    · exact ih u hu

/-- The cells of a session: its program's slice, its place, its registers. -/
def sesCells (pv : Value) (s : Ss) : Array Value := (pv :: .int .i64 (s.at_ : Int) :: s.r.map fun x => .int .i64 x).toArray
/-- A session at the head of block k; its program in a row of its own. -/
structure SesAt (w : World) (B : Nat) (T : TypeId) (k : Nat) (pv : Value) (s : Ss) : Prop where
  hb : B ≤ k
  blk : Blk w k T (sesCells pv s)
  prog : w.ownsRow B 95 4 pv s.p.length (qcells s.p)
  reg : s.r.length = 4

structure Sess (w : World) (B : Nat) (T E : TypeId) (sv : Value) (bs : List Nat) (pvs : List Value) (l : List Ss) : Prop where
  row : w.ownsRow B E 1 sv l.length (bs.map fun k => .pointer (some ⟨k, 0, none⟩))
  nodup : bs.Nodup
  len : bs.length = l.length
  lenp : pvs.length = l.length
  ses : ∀ (i k : Nat) (pv : Value) (s : Ss), bs[i]? = some k → pvs[i]? = some pv → l[i]? = some s → SesAt w B T k pv s

section
variable {w w' : World} {B k : Nat} {T E : TypeId} {pv sv : Value} {s s' : Ss} {bs : List Nat} {pvs : List Value} {l : List Ss} {S : Nat → Prop}
theorem SesAt.cell_at (h : SesAt w B T k pv s) : w.cell? ⟨k, 0, none⟩ = some pv ∧ w.cell? ⟨k, 1, none⟩ = some (.int .i64 (s.at_ : Int)) := ⟨h.blk.cell 0, h.blk.cell 1⟩
theorem SesAt.cell_reg (h : SesAt w B T k pv s) {a : Int} (h0 : 0 ≤ a) (h4 : a < 4) : w.cell? ⟨k, 2 + a.toNat, none⟩ = some (.int .i64 (Sd.rg s.r a)) := by
  have hr := h.reg
  have hlt : a.toNat < s.r.length := by omega
  rw [h.blk.cell, show 2 + a.toNat = (a.toNat + 1) + 1 by omega]
  simp [sesCells, Sd.rg, hlt, List.getD_eq_getElem?_getD]
theorem SesAt.set_at (h : SesAt w B T k pv s) (hT : 95 ≠ T) (n : Nat) : SesAt (w.setCell ⟨k, 1, none⟩ (.int .i64 (n : Int))) B T k pv { s with at_ := n } :=
  ⟨h.hb, h.blk.set_ 1 _, ownsRow_far h.prog (own_blk_ne h.prog h.blk hT) _, h.reg⟩
theorem SesAt.set_reg (h : SesAt w B T k pv s) (hT : 95 ≠ T) {a : Int} (v : Int) : SesAt (w.setCell ⟨k, 2 + a.toNat, none⟩ (.int .i64 v)) B T k pv { s with r := Sd.sr s.r a v } := by
  refine ⟨h.hb, ?_, ownsRow_far h.prog (own_blk_ne h.prog h.blk hT) _, by simp [Sd.sr, h.reg]⟩
  have := h.blk.set_ (2 + a.toNat) (.int .i64 v)
  have e : sesCells pv { s with r := Sd.sr s.r a v } = (sesCells pv s).setIfInBounds (2 + a.toNat) (.int .i64 v) := by
    rw [show 2 + a.toNat = (a.toNat + 1) + 1 by omega]
    simp [sesCells, Sd.sr, List.map_set]
  rw [e]
  exact this
theorem SesAt.only (h : SesAt w B T k pv s) (ho : Only S w w') (hk : ¬ S k) (hp : ∀ j, pv.ownBlock = some j → ¬ S j) : SesAt w' B T k pv s :=
  ⟨h.hb, h.blk.only ho hk, ownsRow_only h.prog ho hp, h.reg⟩
theorem SesAt.later (h : SesAt w B T k pv s) (hb : Below w.heap.size w w') : SesAt w' B T k pv s :=
  h.only (Only.of_below (S := fun k => w.heap.size ≤ k) hb fun _ h => h) (by have := h.blk.lt; omega) (fun j hj => by have := (h.prog.lt j hj).2; omega)
theorem SesAt.drewN (h : SesAt w B T k pv s) (n : Nat) : SesAt (w.drewN n) B T k pv s := ⟨h.hb, h.blk, h.prog, h.reg⟩
theorem Sess.drewN (h : Sess w B T E sv bs pvs l) (n : Nat) : Sess (w.drewN n) B T E sv bs pvs l := ⟨h.row, h.nodup, h.len, h.lenp, fun i k pv s h1 h2 h3 => (h.ses i k pv s h1 h2 h3).drewN n⟩
theorem Sess.only (h : Sess w B T E sv bs pvs l) (ho : Only S w w') (hr : ∀ j, sv.ownBlock = some j → ¬ S j) (hk : ∀ k ∈ bs, ¬ S k) (hp : ∀ pv ∈ pvs, ∀ j, pv.ownBlock = some j → ¬ S j) : Sess w' B T E sv bs pvs l :=
  ⟨ownsRow_only h.row ho hr, h.nodup, h.len, h.lenp, fun i k pv s h1 h2 h3 => (h.ses i k pv s h1 h2 h3).only ho (hk k (List.mem_of_getElem? h1)) (hp pv (List.mem_of_getElem? h2))⟩
theorem Sess.lt (h : Sess w B T E sv bs pvs l) : (∀ j, sv.ownBlock = some j → B ≤ j ∧ j < w.heap.size) ∧ (∀ k ∈ bs, B ≤ k ∧ k < w.heap.size) ∧ (∀ pv ∈ pvs, ∀ j, pv.ownBlock = some j → B ≤ j ∧ j < w.heap.size) := by
  refine ⟨h.row.lt, fun k hk => ?_, fun pv hpv j hj => ?_⟩
  · obtain ⟨i, hi, rfl⟩ := List.mem_iff_getElem.1 hk
    have h1 : i < l.length := by rw [← h.len]; exact hi
    have h2 : i < pvs.length := by rw [h.lenp]; exact h1
    have := h.ses i _ _ _ (List.getElem?_eq_getElem hi) (List.getElem?_eq_getElem h2) (List.getElem?_eq_getElem h1)
    exact ⟨this.hb, this.blk.lt⟩
  · obtain ⟨i, hi, rfl⟩ := List.mem_iff_getElem.1 hpv
    have h1 : i < l.length := by rw [← h.lenp]; exact hi
    have h2 : i < bs.length := by rw [h.len]; exact h1
    exact (h.ses i _ _ _ (List.getElem?_eq_getElem h2) (List.getElem?_eq_getElem hi) (List.getElem?_eq_getElem h1)).prog.lt j hj
theorem Sess.later (h : Sess w B T E sv bs pvs l) (hb : Below w.heap.size w w') : Sess w' B T E sv bs pvs l := by
  obtain ⟨h1, h2, h3⟩ := h.lt
  exact h.only (Only.of_below (S := fun k => w.heap.size ≤ k) hb fun _ h => h) (fun j hj => by have := (h1 j hj).2; omega) (fun k hk => by have := (h2 k hk).2; omega) (fun pv hpv j hj => by have := (h3 pv hpv j hj).2; omega)
/-- A session of a number. -/
theorem Sess.at_ (h : Sess w B T E sv bs pvs l) {i : Nat} (hs : l[i]? = some s) : ∃ k pv, bs[i]? = some k ∧ pvs[i]? = some pv ∧ SesAt w B T k pv s := by
  have hi := (List.getElem?_eq_some_iff.1 hs).1
  have h1 : i < bs.length := by rw [h.len]; exact hi
  have h2 : i < pvs.length := by rw [h.lenp]; exact hi
  exact ⟨bs[i], pvs[i], List.getElem?_eq_getElem h1, List.getElem?_eq_getElem h2, h.ses i _ _ _ (List.getElem?_eq_getElem h1) (List.getElem?_eq_getElem h2) hs⟩
/-- The block of a session's row, of a program, and of a session are none of another type. -/
theorem Sess.far (h : Sess w B T E sv bs pvs l) {j : Nat} {U : TypeId} {cs : Array Value} (hj : Blk w j U cs) (hE : E ≠ U) (hT : T ≠ U) (h95 : 95 ≠ U) : sv.ownBlock ≠ some j ∧ (∀ k ∈ bs, k ≠ j) ∧ (∀ pv ∈ pvs, pv.ownBlock ≠ some j) := by
  refine ⟨own_blk_ne h.row hj hE, fun k hk => ?_, fun pv hpv => ?_⟩
  · obtain ⟨i, hi, rfl⟩ := List.mem_iff_getElem.1 hk
    have h1 : i < l.length := by rw [← h.len]; exact hi
    have h2 : i < pvs.length := by rw [h.lenp]; exact h1
    exact (h.ses i _ _ _ (List.getElem?_eq_getElem hi) (List.getElem?_eq_getElem h2) (List.getElem?_eq_getElem h1)).blk.ne_ hj hT
  · obtain ⟨i, hi, rfl⟩ := List.mem_iff_getElem.1 hpv
    have h1 : i < l.length := by rw [← h.lenp]; exact hi
    have h2 : i < bs.length := by rw [h.len]; exact h1
    exact own_blk_ne (h.ses i _ _ _ (List.getElem?_eq_getElem h2) (List.getElem?_eq_getElem hi) (List.getElem?_eq_getElem h1)).prog hj h95
/-- One session turns. -/
theorem Sess.turn (h : Sess w B T E sv bs pvs l) {i : Nat} (hk : bs[i]? = some k) (hp : pvs[i]? = some pv) (hE : E ≠ T) (h95 : 95 ≠ T) (hbk : ∃ cs, Blk w k T cs) (hn : SesAt w' B T k pv s') (ho : Only (fun j => j = k) w w') : Sess w' B T E sv bs pvs (l.set i s') := by
  obtain ⟨cs, hbk⟩ := hbk
  have hi := (List.getElem?_eq_some_iff.1 hk).1
  refine ⟨?_, h.nodup, by simp [h.len], by simp [h.lenp], ?_⟩
  · rw [List.length_set]
    exact ownsRow_only h.row ho (fun j hj e => own_blk_ne h.row hbk hE (by rw [hj, e]))
  · intro i2 k2 pv2 s2 e1 e2 e3
    by_cases hii : i = i2
    · subst hii
      rw [hk] at e1
      rw [hp] at e2
      cases e1
      cases e2
      rw [List.getElem?_set_self (by rw [← h.len]; exact hi)] at e3
      cases e3
      exact hn
    · rw [List.getElem?_set_ne hii] at e3
      have hs2 := h.ses i2 k2 pv2 s2 e1 e2 e3
      refine hs2.only ho (fun e => hii ?_) (fun j hj e => own_blk_ne hs2.prog hbk h95 (by rw [hj, e]))
      subst e
      obtain ⟨a1, b1⟩ := List.getElem?_eq_some_iff.1 hk
      obtain ⟨a2, b2⟩ := List.getElem?_eq_some_iff.1 e1
      exact (List.getElem_inj h.nodup).1 (b1.trans b2.symm)
end
end Go.Proofs.Ytaoonjamlcdfaaa
