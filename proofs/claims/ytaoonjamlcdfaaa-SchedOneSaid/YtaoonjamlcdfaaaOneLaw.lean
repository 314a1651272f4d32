/-
  A step changes one cell at most, and nothing of another session; and what a law keeps of both sides of a step.
-/
import Derived.Test.YtaoonjamlcdfaaaTwin
import Derived.Test.YtaoonjamlcdfaaaFew
namespace Go.Proofs.Ytaoonjamlcdfaaa
open Go.RowKit

theorem step_other (st : St) (p k : Int) (h : k ≠ p) : Sd.placeOf (Sd.stepS st p) k = Sd.placeOf st k ∧ Sd.regsOf (Sd.stepS st p) k = Sd.regsOf st k := by
  have hg : Sd.get (Sd.stepS st p).ses k = Sd.get st.ses k := by
    unfold Sd.stepS
    cases hs : Sd.get st.ses p with
    | none => rfl
    | some s =>
      dsimp only
      cases hi : s.p[s.at_]? with
      | none => rfl
      | some i =>
        dsimp only
        have hp := (Sd.get_some hs).1
        unfold Sd.get
        by_cases h0 : 0 ≤ k
        · rw [if_pos h0, if_pos h0, List.getElem?_set_ne (by omega)]
        · rw [if_neg h0, if_neg h0]
  exact ⟨by simp only [Sd.placeOf, hg], by simp only [Sd.regsOf, hg]⟩

namespace Cs
theorem nums_store (l : List Cl) (k v : Int) : ∃ i0 : Nat, ∀ i : Nat, i ≠ i0 → (numsOf (storeL l k v))[i]? = (numsOf l)[i]? := by
  cases hg : get l k with
  | none => exact ⟨0, fun i _ => by simp only [storeL, hg]⟩
  | some t => exact ⟨k.toNat, fun i hi => by rw [numsOf_storeL hg, List.getElem?_set_ne (Ne.symm hi)]⟩
theorem nums_swap (l : List Cl) (k was v : Int) : ∃ i0 : Nat, ∀ i : Nat, i ≠ i0 → (numsOf (swapL l k was v))[i]? = (numsOf l)[i]? := by
  unfold swapL
  split
  · exact nums_store _ _ _
  · exact ⟨0, fun _ _ => rfl⟩
theorem nums_put (l : List Cl) (k : Int) (t : Cl) (who : Int) (hg : get l k = some t) : numsOf (put l k ⟨t.v, who, t.wr⟩) = numsOf l := by
  obtain ⟨h0, h1, h2⟩ := get_some hg
  rw [put_at h0]
  unfold numsOf
  rw [List.map_set]
  apply List.ext_getElem?
  intro i
  by_cases e : k.toNat = i
  · subst e
    have hlt : k.toNat < (l.map (·.v)).length := by rw [List.length_map]; omega
    rw [List.getElem?_set_self hlt, List.getElem?_map, h2]
    rfl
  · rw [List.getElem?_set_ne e]
theorem nums_lock (l : List Cl) (k who : Int) : numsOf (lockL l k who) = numsOf l := by
  unfold lockL
  cases hg : get l k with
  | none => rfl
  | some t =>
    dsimp only
    split
    · split
      · exact nums_put l k t who hg
      · rfl
    · rfl
theorem nums_free (l : List Cl) (k who : Int) : numsOf (freeL l k who) = numsOf l := by
  unfold freeL
  cases hg : get l k with
  | none => rfl
  | some t =>
    dsimp only
    split
    · split
      · exact nums_put l k t (-1) hg
      · rfl
    · rfl
end Cs
theorem act_nums (l : List Cl) (s : Ss) (i : In) (p : Int) : ∃ i0 : Nat, ∀ j : Nat, j ≠ i0 → (numsOf (Sd.act l s i p).1)[j]? = (numsOf l)[j]? := by
  unfold Sd.act
  repeat' split
  all_goals try dsimp only
  all_goals first
    | exact ⟨0, fun _ _ => rfl⟩
    | exact Cs.nums_store _ _ _
    | exact ⟨0, fun _ _ => by rw [Cs.nums_lock]⟩
    | exact ⟨0, fun _ _ => by rw [Cs.nums_free]⟩
    | exact Cs.nums_swap _ _ _ _
theorem step_nums (st : St) (p : Int) : (numsOf (Sd.stepS st p).cells).length = (numsOf st.cells).length ∧ ∃ i0 : Nat, ∀ j : Nat, j ≠ i0 → (numsOf (Sd.stepS st p).cells)[j]? = (numsOf st.cells)[j]? := by
  unfold Sd.stepS
  cases hs : Sd.get st.ses p with
  | none => exact ⟨rfl, 0, fun _ _ => rfl⟩
  | some s =>
    dsimp only
    cases hi : s.p[s.at_]? with
    | none => exact ⟨rfl, 0, fun _ _ => rfl⟩
    | some i =>
      dsimp only
      exact ⟨by rw [numsOf_length, numsOf_length, Sd.act_length], act_nums st.cells s i p⟩

/-- How many of the first differ. -/
def dif (p q : List Int) : Nat → Nat
  | 0 => 0
  | c + 1 => dif p q c + if p[c]? = q[c]? then 0 else 1
theorem dif_le {p q : List Int} {i0 : Nat} (h : ∀ j : Nat, j ≠ i0 → p[j]? = q[j]?) (c : Nat) : dif p q c ≤ if i0 < c then 1 else 0 := by
  induction c with
  | zero => simp [dif]
  | succ c ih =>
    unfold dif
    by_cases e : c = i0
    · subst e
      rw [if_neg (by omega)] at ih
      have e1 : (if c < c + 1 then 1 else 0) = 1 := if_pos (by omega)
      rw [e1]
      split <;> omega
    · rw [if_pos (h c e)]
      by_cases hlt : i0 < c
      · rw [if_pos hlt] at ih
        rw [if_pos (by omega)]
        omega
      · rw [if_neg hlt] at ih
        omega
theorem dif_one {p q : List Int} {i0 : Nat} (h : ∀ j : Nat, j ≠ i0 → p[j]? = q[j]?) (c : Nat) : dif p q c ≤ 1 := by
  have := dif_le h c
  split at this <;> omega

def regCells (l : List (List Int)) : List Value := l.flatMap intsOf
theorem regCells_snoc (l : List (List Int)) (r : List Int) : regCells (l ++ [r]) = regCells l ++ intsOf r := by simp [regCells]
theorem regCells_at (l : List (List Int)) (h : ∀ r ∈ l, r.length = 4) : ∀ (i : Nat) (a b c d : Int), l[i]? = some [a, b, c, d] → (regCells l)[i * 4]? = some (.int .i64 a) ∧ (regCells l)[i * 4 + 1]? = some (.int .i64 b) ∧ (regCells l)[i * 4 + 2]? = some (.int .i64 c) ∧ (regCells l)[i * 4 + 3]? = some (.int .i64 d) := by
  induction l with
  | nil => simp
  | cons u l ih =>
    intro i a b c d hi
    have hu : u.length = 4 := h u (by simp)
    have e : regCells (u :: l) = intsOf u ++ regCells l := rfl
    have el : (intsOf u).length = 4 := by simp [intsOf, hu]
    cases i with
    | zero =>
      simp at hi
      subst hi
      simp [e, intsOf]
    | succ i =>
      have := ih (fun r hr => h r (by simp [hr])) i a b c d (by simpa using hi)
      rw [e, List.getElem?_append_right (by rw [el]; omega), List.getElem?_append_right (by rw [el]; omega), List.getElem?_append_right (by rw [el]; omega), List.getElem?_append_right (by rw [el]; omega), el]
      simpa [show (i + 1) * 4 - 4 = i * 4 by omega, show (i + 1) * 4 + 1 - 4 = i * 4 + 1 by omega, show (i + 1) * 4 + 2 - 4 = i * 4 + 2 by omega, show (i + 1) * 4 + 3 - 4 = i * 4 + 3 by omega] using this

/-- A machine, and what was told of it: the numbers, the places, the registers. -/
structure Kept (w2 w : World) (N N1 : Nat) (L : Lay) (st : St) (vw va vr : Value) (nums pl : List Int) (rgs : List (List Int)) : Prop where
  one : One w2 w L st
  was : w.ownsRow N 3 1 vw nums.length (intsOf nums)
  wasB : ∀ k, vw.ownBlock = some k → k < N1
  at_ : w.ownsRow N1 3 1 va pl.length (intsOf pl)
  reg : w.ownsRow N1 58 4 vr rgs.length (regCells rgs)
  all : ∀ k, L.all k → k < N
  hN : N ≤ N1
  size : N1 ≤ w.heap.size
  hw : w2.heap.size ≤ N
section
variable {w2 w w' : World} {N N1 : Nat} {L : Lay} {st st' : St} {vw va vr va' vr' : Value} {nums pl : List Int} {rgs : List (List Int)}
theorem Kept.later (h : Kept w2 w N N1 L st vw va vr nums pl rgs) (hb : Below w.heap.size w w') : Kept w2 w' N N1 L st vw va vr nums pl rgs :=
  ⟨h.one.later hb, row_below h.was hb, h.wasB, row_below h.at_ hb, row_below h.reg hb, h.all, h.hN, Nat.le_trans h.size hb.size, h.hw⟩
theorem Kept.drewN (h : Kept w2 w N N1 L st vw va vr nums pl rgs) (n : Nat) : Kept w2 (w.drewN n) N N1 L st vw va vr nums pl rgs := ⟨h.one.drewN n, h.was, h.wasB, h.at_, h.reg, h.all, h.hN, h.size, h.hw⟩
theorem Kept.only {S : Nat → Prop} (h : Kept w2 w N N1 L st vw va vr nums pl rgs) (hone : One w2 w' L st') (ho : Only S w w') (hS : ∀ k, S k → k < N) : Kept w2 w' N N1 L st' vw va vr nums pl rgs := by
  have hN := h.hN
  refine ⟨hone, ownsRow_only h.was ho (fun k hk hs => by have := (h.was.lt k hk).1; have := hS k hs; omega), h.wasB, ownsRow_only h.at_ ho (fun k hk hs => by have := (h.at_.lt k hk).1; have := hS k hs; omega), ownsRow_only h.reg ho (fun k hk hs => by have := (h.reg.lt k hk).1; have := hS k hs; omega), h.all, h.hN, Nat.le_trans h.size ho.size, h.hw⟩
theorem Kept.step (h : Kept w2 w N N1 L st vw va vr nums pl rgs) {F : Nat} {args : Array Value} {x : Value} (hc : Calls Try.prog F args w (Steps L st' x w)) : Calls Try.prog F args w fun e w' => e = .returned x ∧ Kept w2 w' N N1 L st' vw va vr nums pl rgs :=
  hc.mono fun _ _ ⟨he, hm, ho⟩ => ⟨he, h.only ⟨hm, Only.then h.one.below ho h.one.size (fun k hk => by have := (h.one.mach.lt k hk).1; have := h.one.hB; omega), h.one.hB⟩ ho (fun k hk => h.all k (Lay.may_all hk))⟩
theorem One.grown (h : One w2 w L st) (hall : ∀ k, L.all k → k < N) (hw : w2.heap.size ≤ N) {S : Nat → Prop} (ho : Only S w w') (hS : ∀ k, S k → N ≤ k) : One w2 w' L st :=
  ⟨h.mach.only ho (fun k hk hs => by have := hall k hk; have := hS k hs; omega), Only.then h.below ho h.size (fun k hk => by have := hS k hk; omega), h.hB⟩
theorem Kept.pushAt (h : Kept w2 w N N1 L st vw va vr nums pl rgs) (x : Int) (hown : w'.ownsRow N1 3 1 va' (pl.length + 1) (intsOf pl ++ [.int .i64 x])) (hg : (w.alloc (.cells #[.int .i64 x] 3)).grownBy w' va.ownBlock) : Kept w2 w' N N1 L st vw va' vr nums (pl ++ [x]) rgs := by
  have h1 := h.later ((Below.refl w.heap.size w).alloc (Nat.le_refl _) (.cells #[.int .i64 x] 3))
  have ho : Only (fun j => va.ownBlock = some j) (w.alloc (.cells #[.int .i64 x] 3)) w' := (Only.refl _ _).grown hg (fun j _ e => e)
  have hN := h.hN
  refine ⟨h1.one.grown h.all h.hw ho (fun k hk => by have := (h1.at_.lt k hk).1; omega), ownsRow_only h1.was ho (fun k hk hs => by have := h.wasB k hk; have := (h1.at_.lt k hs).1; omega), h.wasB, ?_, ownsRow_only h1.reg ho (fun k hk hs => own_own_ne h1.reg h1.at_ (by decide) k hk hs), h.all, h.hN, Nat.le_trans h1.size ho.size, h.hw⟩
  rw [List.length_append, List.length_singleton, intsOf_snoc]
  exact hown
theorem Kept.pushReg (h : Kept w2 w N N1 L st vw va vr nums pl rgs) (r : List Int) (hown : w'.ownsRow N1 58 4 vr' (rgs.length + 1) (regCells rgs ++ intsOf r)) (hg : (w.alloc (.cells (intsOf r).toArray 58)).grownBy w' vr.ownBlock) : Kept w2 w' N N1 L st vw va vr' nums pl (rgs ++ [r]) := by
  have h1 := h.later ((Below.refl w.heap.size w).alloc (Nat.le_refl _) (.cells (intsOf r).toArray 58))
  have ho : Only (fun j => vr.ownBlock = some j) (w.alloc (.cells (intsOf r).toArray 58)) w' := (Only.refl _ _).grown hg (fun j _ e => e)
  have hN := h.hN
  refine ⟨h1.one.grown h.all h.hw ho (fun k hk => by have := (h1.reg.lt k hk).1; omega), ownsRow_only h1.was ho (fun k hk hs => own_own_ne h1.was h1.reg (by decide) k hk hs), h.wasB, ownsRow_only h1.at_ ho (fun k hk hs => own_own_ne h1.at_ h1.reg (by decide) k hk hs), ?_, h.all, h.hN, Nat.le_trans h1.size ho.size, h.hw⟩
  rw [List.length_append, List.length_singleton, regCells_snoc]
  exact hown
end
theorem reg_info : (Try.prog.info? 58).map (fun i => (i.zero, i.size, i.bytes)) = some (some (.agg #[.int .i64 0, .int .i64 0, .int .i64 0, .int .i64 0]), 4, 32) := by kernel_rfl
end Go.Proofs.Ytaoonjamlcdfaaa
