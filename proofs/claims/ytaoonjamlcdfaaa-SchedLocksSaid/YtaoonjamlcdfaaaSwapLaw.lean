/-
  The plain law of sessions that add by swapping. No program stands here.
-/
import Derived.Test.YtaoonjamlcdfaaaEnds
namespace Go.Proofs.Ytaoonjamlcdfaaa
open Go.RowKit

namespace Sw
open Sd
/-- The instructions for one number; the first stands at a place of its own. -/
def one (k a : Nat) (d : Int) : List In := [⟨2, 0, 1, 0⟩, ⟨3, 1 + (k : Int), 1, 0⟩, ⟨2, 1 + (k : Int), 0, 0⟩, ⟨6, 0, 0, d⟩, ⟨4, 0, 0, 1⟩, ⟨7, 0, 1, a⟩]
def prog (k : Nat) : List Int → Nat → List In
  | [], _ => []
  | d :: l, a => one k a d ++ prog k l (a + 6)
theorem prog_length (k : Nat) (l : List Int) : ∀ a, (prog k l a).length = 6 * l.length := by
  induction l with
  | nil => intro a; rfl
  | cons d l ih => intro a; simp only [prog, List.length_append, ih, List.length_cons]; simp [one]; omega
theorem prog_at (k : Nat) (l : List Int) : ∀ (a i ph : Nat), i < l.length → ph < 6 → (prog k l a)[6 * i + ph]? = (one k (a + 6 * i) (l.getD i 0))[ph]? := by
  induction l with
  | nil => intro a i ph h; simp at h
  | cons d l ih =>
    intro a i ph hi hph
    cases i with
    | zero =>
      show (one k a d ++ prog k l (a + 6))[6 * 0 + ph]? = _
      rw [List.getElem?_append_left (by simp [one]; omega)]
      simp
    | succ i =>
      show (one k a d ++ prog k l (a + 6))[6 * (i + 1) + ph]? = _
      rw [List.getElem?_append_right (by simp [one]; omega)]
      have := ih (a + 6) i ph (by simpa using hi) hph
      simp only [one, List.length_cons, List.length_nil] at this ⊢
      rw [show 6 * (i + 1) + ph - (0 + 1 + 1 + 1 + 1 + 1 + 1) = 6 * i + ph by omega, this]
      simp [show a + 6 + 6 * i = a + 6 * (i + 1) by omega]
theorem prog_snoc (k : Nat) (l : List Int) (d : Int) : ∀ a, prog k (l ++ [d]) a = prog k l a ++ one k (a + 6 * l.length) d := by
  induction l with
  | nil => intro a; simp [prog]
  | cons e l ih =>
    intro a
    show one k a e ++ prog k (l ++ [d]) (a + 6) = one k a e ++ prog k l (a + 6) ++ one k (a + 6 * (l.length + 1)) d
    rw [ih, List.append_assoc]
    simp [show a + 6 + 6 * l.length = a + 6 * (l.length + 1) by omega]

/-- A session that adds the numbers l. -/
structure Ok1 (ck : Int) (k : Nat) (l : List Int) (s : Ss) : Prop where
  p : s.p = prog k l 0
  r : s.r.length = 4
  le : s.at_ ≤ 6 * l.length
  h2 : s.at_ % 6 = 2 → ck = rg s.r 1
  h3 : s.at_ % 6 = 3 → rg s.r 0 = rg s.r 1
  h4 : s.at_ % 6 = 4 → rg s.r 0 = wrap64 (rg s.r 1 + l.getD (s.at_ / 6) 0)
def won (s : Ss) : Nat := s.at_ / 6 + (if s.at_ % 6 = 5 ∧ rg s.r 1 ≠ 0 then 1 else 0)
def added (l : List Int) (s : Ss) : Int := (l.take (won s)).sum
def stale (c0 : Int) (s : Ss) : Nat := if 1 ≤ s.at_ % 6 ∧ s.at_ % 6 ≤ 4 ∧ rg s.r 1 ≠ c0 then 6 else if s.at_ % 6 = 5 ∧ rg s.r 1 = 0 then 6 else 0
def cost (c0 : Int) (l : List Int) (s : Ss) : Nat := 6 * l.length - s.at_ + stale c0 s + 42 * (l.length - won s)
def nil : Ss := ⟨[], 0, []⟩
def at1 (st : St) (k : Nat) : Ss := st.ses[k]?.getD nil

structure Inv (ls : Nat → List Int) (m : Nat) (st : St) : Prop where
  cl : st.cells.length = 9
  sl : st.ses.length = m
  m8 : m ≤ 8
  ok : ∀ k, k < m → Ok1 (Cs.loadV st.cells (1 + k)) k (ls k) (at1 st k)
  sum : Cs.loadV st.cells 0 = wrap64 (sumZ (fun k => added (ls k) (at1 st k)) m)
def pot (ls : Nat → List Int) (m : Nat) (st : St) : Nat := sumN (fun k => cost (Cs.loadV st.cells 0) (ls k) (at1 st k)) m

theorem stale_le (c0 c0' : Int) (s : Ss) : stale c0 s ≤ stale c0' s + 6 := by
  unfold stale
  repeat' split
  all_goals omega
theorem cost_le (c0 c0' : Int) (l : List Int) (s : Ss) : cost c0 l s ≤ cost c0' l s + 6 := by
  have := stale_le c0 c0' s
  unfold cost
  omega
theorem at1_set (st : St) (cells : List Cl) (k j : Nat) (s : Ss) (hk : k < st.ses.length) : at1 ⟨cells, st.ses.set k s⟩ j = if j = k then s else at1 st j := by
  unfold at1
  by_cases e : j = k
  · subst e
    simp [hk]
  · rw [if_neg e]
    simp [List.getElem?_set_ne (Ne.symm e)]

section
variable {ls : Nat → List Int} {m : Nat} {st : St} {k : Nat} {s' : Ss} {cells : List Cl}
/-- A session turns, and its own cell. -/
theorem Inv.turn (h : Inv ls m st) (hk : k < m) (hcl : cells.length = 9) (hok : Ok1 (Cs.loadV cells (1 + k)) k (ls k) s') (hc : ∀ j, j < m → j ≠ k → Cs.loadV cells (1 + j) = Cs.loadV st.cells (1 + j))
    (hs : Cs.loadV cells 0 = wrap64 (Cs.loadV st.cells 0 + (added (ls k) s' - added (ls k) (at1 st k)))) : Inv ls m ⟨cells, st.ses.set k s'⟩ := by
  have hkl : k < st.ses.length := by rw [h.sl]; exact hk
  refine ⟨hcl, by simp [h.sl], h.m8, fun j hj => ?_, ?_⟩
  · rw [at1_set st cells k j s' hkl]
    by_cases e : j = k
    · subst e
      rw [if_pos rfl]
      exact hok
    · rw [if_neg e]
      show Ok1 (Cs.loadV cells (1 + j)) j (ls j) (at1 st j)
      rw [hc j hj e]
      exact h.ok j hj
  · show Cs.loadV cells 0 = _
    rw [hs, h.sum, wrap64_idem]
    congr 1
    rw [sumZ_upd (f := fun j => added (ls j) (at1 ⟨cells, st.ses.set k s'⟩ j)) (g := fun j => added (ls j) (at1 st j)) hk (fun j hj hne => by
      try dsimp only
      rw [at1_set st cells k j s' hkl, if_neg hne])]
    try dsimp only
    rw [at1_set st cells k k s' hkl, if_pos rfl]
theorem pot_same (h : Inv ls m st) (hk : k < m) (hc : Cs.loadV cells 0 = Cs.loadV st.cells 0) (hd : cost (Cs.loadV cells 0) (ls k) s' + 1 ≤ cost (Cs.loadV st.cells 0) (ls k) (at1 st k)) : pot ls m ⟨cells, st.ses.set k s'⟩ + 1 ≤ pot ls m st := by
  have hkl : k < st.ses.length := by rw [h.sl]; exact hk
  have := sumN_upd (f := fun j => cost (Cs.loadV cells 0) (ls j) (at1 ⟨cells, st.ses.set k s'⟩ j)) (g := fun j => cost (Cs.loadV st.cells 0) (ls j) (at1 st j)) (c := 0) hk (fun j hj hne => by
    try dsimp only
    rw [at1_set st cells k j s' hkl, if_neg hne, hc]
    omega)
  try dsimp only at this
  rw [at1_set st cells k k s' hkl, if_pos rfl] at this
  unfold pot
  show sumN (fun j => cost (Cs.loadV cells 0) (ls j) (at1 ⟨cells, st.ses.set k s'⟩ j)) m + 1 ≤ _
  omega
theorem pot_win (h : Inv ls m st) (hk : k < m) (hd : cost (Cs.loadV cells 0) (ls k) s' + 43 ≤ cost (Cs.loadV st.cells 0) (ls k) (at1 st k)) : pot ls m ⟨cells, st.ses.set k s'⟩ + 1 ≤ pot ls m st := by
  have hkl : k < st.ses.length := by rw [h.sl]; exact hk
  have := sumN_upd (f := fun j => cost (Cs.loadV cells 0) (ls j) (at1 ⟨cells, st.ses.set k s'⟩ j)) (g := fun j => cost (Cs.loadV st.cells 0) (ls j) (at1 st j)) (c := 6) hk (fun j hj hne => by
    try dsimp only
    rw [at1_set st cells k j s' hkl, if_neg hne]
    exact cost_le _ _ _ _)
  try dsimp only at this
  rw [at1_set st cells k k s' hkl, if_pos rfl] at this
  have h8 := h.m8
  unfold pot
  show sumN (fun j => cost (Cs.loadV cells 0) (ls j) (at1 ⟨cells, st.ses.set k s'⟩ j)) m + 1 ≤ _
  omega

theorem rg_sr {r : List Int} (h : r.length = 4) (v : Int) : rg (sr r 0 v) 0 = v ∧ rg (sr r 0 v) 1 = rg r 1 ∧ rg (sr r 1 v) 1 = v ∧ rg (sr r 1 v) 0 = rg r 0 ∧ (sr r 0 v).length = 4 ∧ (sr r 1 v).length = 4 := by
  match r, h with
  | [a, b, c, d], _ => exact ⟨rfl, rfl, rfl, rfl, rfl, rfl⟩

theorem wrap_self {n : Nat} {f : Nat → Int} {x : Int} (h : x = wrap64 (sumZ f n)) (y : Int) (hy : y = 0) : x = wrap64 (x + y) := by
  rw [hy, Int.add_zero, h]
  unfold wrap64
  omega

theorem step_ok (h : Inv ls m st) (p : Int) : Inv ls m (stepS st p) ∧ (pot ls m (stepS st p) + 1 ≤ pot ls m st ∨ (stepS st p = st ∧ overB st p = true)) := by
  cases hs : get st.ses p with
  | none =>
    have e : stepS st p = st := by simp only [stepS, hs]
    rw [e]
    exact ⟨h, .inr ⟨rfl, by simp only [overB, hs]⟩⟩
  | some s =>
    cases hi : s.p[s.at_]? with
    | none =>
      have e : stepS st p = st := by simp only [stepS, hs, hi]
      rw [e]
      exact ⟨h, .inr ⟨rfl, by simp only [overB, hs, over, List.getElem?_eq_none_iff.1 hi, decide_true]⟩⟩
    | some ins =>
      obtain ⟨k, hk⟩ : ∃ k, k = p.toNat := ⟨_, rfl⟩
      have e : stepS st p = ⟨(act st.cells s ins p).1, st.ses.set k (act st.cells s ins p).2⟩ := by simp only [stepS, hs, hi, hk]
      rw [e]
      clear e
      obtain ⟨p0, p1, p2⟩ := get_some hs
      rw [← hk] at p2
      have hkm : k < m := by rw [← h.sl]; omega
      have hat : at1 st k = s := by unfold at1; rw [p2]; rfl
      have hok := h.ok k hkm
      rw [hat] at hok
      obtain ⟨o1, o2, o3, o4, o5, o6⟩ := hok
      have hlt := (List.getElem?_eq_some_iff.1 hi).1
      rw [o1, prog_length] at hlt
      have hq : s.at_ / 6 < (ls k).length := by omega
      have hins : (one k (6 * (s.at_ / 6)) ((ls k).getD (s.at_ / 6) 0))[s.at_ % 6]? = some ins := by
        have := prog_at k (ls k) 0 (s.at_ / 6) (s.at_ % 6) hq (by omega)
        rw [show 6 * (s.at_ / 6) + s.at_ % 6 = s.at_ by omega, ← o1, hi, Nat.zero_add] at this
        exact this.symm
      have hcl := h.cl
      have hks : (k : Int) < 8 := by have := h.m8; omega
      clear hi
      rcases (show s.at_ % 6 = 0 ∨ s.at_ % 6 = 1 ∨ s.at_ % 6 = 2 ∨ s.at_ % 6 = 3 ∨ s.at_ % 6 = 4 ∨ s.at_ % 6 = 5 from by omega) with hp | hp | hp | hp | hp | hp
      · -- load
        rw [hp] at hins
        simp [one] at hins
        subst hins
        have ha : act st.cells s ⟨2, 0, 1, 0⟩ p = (st.cells, { s with r := sr s.r 1 (Cs.loadV st.cells 0), at_ := s.at_ + 1 }) := by simp [act]
        rw [ha]
        obtain ⟨_, _, q3, q4, _, q6⟩ := rg_sr o2 (Cs.loadV st.cells 0)
        have hw : won { s with r := sr s.r 1 (Cs.loadV st.cells 0), at_ := s.at_ + 1 } = won s := by
          simp only [won]
          repeat' split
          all_goals omega
        refine ⟨h.turn hkm hcl ⟨o1, q6, by show s.at_ + 1 ≤ _; omega, by intro e; simp only at e; omega, by intro e; simp only at e; omega, by intro e; simp only at e; omega⟩ (fun j _ _ => rfl) (wrap_self h.sum _ (by rw [hat]; unfold added; rw [hw]; omega)), .inl (pot_same h hkm rfl ?_)⟩
        rw [hat]
        simp only [cost, hw, stale, q3]
        repeat' split
        all_goals omega
      · -- store
        rw [hp] at hins
        simp [one] at hins
        subst hins
        have ha : act st.cells s ⟨3, 1 + k, 1, 0⟩ p = (Cs.storeL st.cells (1 + k) (rg s.r 1), { s with at_ := s.at_ + 1 }) := by simp [act]
        rw [ha]
        have hw : won { s with at_ := s.at_ + 1 } = won s := by
          simp only [won]
          repeat' split
          all_goals omega
        have hc0 : Cs.loadV (Cs.storeL st.cells (1 + k) (rg s.r 1)) 0 = Cs.loadV st.cells 0 := Cs.loadV_store_ne _ _ _ _ (by omega) (by omega) (by omega)
        refine ⟨h.turn hkm (by rw [Cs.storeL_length]; exact hcl) ⟨o1, o2, by show s.at_ + 1 ≤ _; omega, fun _ => Cs.loadV_store _ _ _ (by omega) (by omega), by intro e; simp only at e; omega, by intro e; simp only at e; omega⟩ (fun j _ hj => Cs.loadV_store_ne _ _ _ _ (by omega) (by omega) (by omega)) ?_, .inl (pot_same h hkm hc0 ?_)⟩
        · rw [hc0]
          exact wrap_self h.sum _ (by rw [hat]; unfold added; rw [hw]; omega)
        · rw [hat, hc0]
          simp only [cost, hw, stale]
          repeat' split
          all_goals omega
      · -- load again
        rw [hp] at hins
        simp [one] at hins
        subst hins
        have ha : act st.cells s ⟨2, 1 + k, 0, 0⟩ p = (st.cells, { s with r := sr s.r 0 (Cs.loadV st.cells (1 + k)), at_ := s.at_ + 1 }) := by simp [act]
        rw [ha]
        obtain ⟨q1, q2, _, _, q5, _⟩ := rg_sr o2 (Cs.loadV st.cells (1 + k))
        have hw : won { s with r := sr s.r 0 (Cs.loadV st.cells (1 + k)), at_ := s.at_ + 1 } = won s := by
          simp only [won, q2]
          repeat' split
          all_goals omega
        refine ⟨h.turn hkm hcl ⟨o1, q5, by show s.at_ + 1 ≤ _; omega, by intro e; simp only at e; omega, ?_, by intro e; simp only at e; omega⟩ (fun j _ _ => rfl) (wrap_self h.sum _ (by rw [hat]; unfold added; rw [hw]; omega)), .inl (pot_same h hkm rfl ?_)⟩
        · intro _
          show rg (sr s.r 0 _) 0 = rg (sr s.r 0 _) 1
          rw [q1, q2]
          exact o4 hp
        · rw [hat]
          simp only [cost, hw, stale, q2]
          repeat' split
          all_goals omega
      · -- more
        rw [hp] at hins
        simp [one] at hins
        subst hins
        have ha : act st.cells s ⟨6, 0, 0, ((ls k)[s.at_ / 6]?).getD 0⟩ p = (st.cells, { s with r := sr s.r 0 (wrap64 (rg s.r 0 + ((ls k)[s.at_ / 6]?).getD 0)), at_ := s.at_ + 1 }) := by simp [act]
        rw [ha]
        obtain ⟨q1, q2, _, _, q5, _⟩ := rg_sr o2 (wrap64 (rg s.r 0 + ((ls k)[s.at_ / 6]?).getD 0))
        have hw : won { s with r := sr s.r 0 (wrap64 (rg s.r 0 + ((ls k)[s.at_ / 6]?).getD 0)), at_ := s.at_ + 1 } = won s := by
          simp only [won, q2]
          repeat' split
          all_goals omega
        refine ⟨h.turn hkm hcl ⟨o1, q5, by show s.at_ + 1 ≤ _; omega, by intro e; simp only at e; omega, by intro e; simp only at e; omega, ?_⟩ (fun j _ _ => rfl) (wrap_self h.sum _ (by rw [hat]; unfold added; rw [hw]; omega)), .inl (pot_same h hkm rfl ?_)⟩
        · intro _
          show rg (sr s.r 0 _) 0 = wrap64 (rg (sr s.r 0 _) 1 + (ls k).getD ((s.at_ + 1) / 6) 0)
          rw [q1, q2, o5 hp, show (s.at_ + 1) / 6 = s.at_ / 6 by omega, List.getD_eq_getElem?_getD]
        · rw [hat]
          simp only [cost, hw, stale, q2]
          repeat' split
          all_goals omega
      · -- swap
        rw [hp] at hins
        simp [one] at hins
        subst hins
        have hb : Cs.swapB st.cells 0 (rg s.r 1) = decide (Cs.loadV st.cells 0 = rg s.r 1) := by
          obtain ⟨c, hc⟩ := Cs.get_in (l := st.cells) (k := 0) (by omega) (by omega)
          simp only [Cs.swapB, Cs.loadV, hc]
        by_cases hsw : Cs.loadV st.cells 0 = rg s.r 1
        · have hbt : Cs.swapB st.cells 0 (rg s.r 1) = true := by rw [hb]; simp [hsw]
          have ha : act st.cells s ⟨4, 0, 0, 1⟩ p = (Cs.storeL st.cells 0 (rg s.r 0), { s with r := sr s.r 1 1, at_ := s.at_ + 1 }) := by simp [act, Cs.swapL, hbt]
          rw [ha]
          obtain ⟨_, _, q3, _, _, q6⟩ := rg_sr o2 1
          have hw : won { s with r := sr s.r 1 1, at_ := s.at_ + 1 } = won s + 1 := by
            simp only [won, q3]
            repeat' split
            all_goals omega
          have hw0 : won s = s.at_ / 6 := by
            simp only [won]
            split <;> omega
          have hadd : added (ls k) { s with r := sr s.r 1 1, at_ := s.at_ + 1 } - added (ls k) s = (ls k).getD (s.at_ / 6) 0 := by
            unfold added
            rw [hw, hw0, List.take_succ_eq_append_getElem hq, List.sum_append, List.getD_eq_getElem?_getD, List.getElem?_eq_getElem hq]
            simp only [List.sum_cons, List.sum_nil, Option.getD_some]
            omega
          refine ⟨h.turn hkm (by rw [Cs.storeL_length]; exact hcl) ⟨o1, q6, by show s.at_ + 1 ≤ _; omega, by intro e; simp only at e; omega, by intro e; simp only at e; omega, by intro e; simp only at e; omega⟩ (fun j _ hj => Cs.loadV_store_ne _ _ _ _ (by omega) (by omega) (by omega)) ?_, .inl (pot_win h hkm ?_)⟩
          · rw [hat, hadd, Cs.loadV_store _ _ _ (by omega) (by omega), o6 hp, ← hsw]
          · rw [hat]
            simp only [cost, hw, stale, q3, Cs.loadV_store st.cells 0 (rg s.r 0) (by omega) (by omega)]
            rw [hw0]
            repeat' split
            all_goals omega
        · have hbt : Cs.swapB st.cells 0 (rg s.r 1) = false := by rw [hb]; simp [hsw]
          have ha : act st.cells s ⟨4, 0, 0, 1⟩ p = (st.cells, { s with r := sr s.r 1 0, at_ := s.at_ + 1 }) := by simp [act, Cs.swapL, hbt]
          rw [ha]
          obtain ⟨_, _, q3, _, _, q6⟩ := rg_sr o2 0
          have hw : won { s with r := sr s.r 1 0, at_ := s.at_ + 1 } = won s := by
            simp only [won, q3]
            repeat' split
            all_goals omega
          refine ⟨h.turn hkm hcl ⟨o1, q6, by show s.at_ + 1 ≤ _; omega, by intro e; simp only at e; omega, by intro e; simp only at e; omega, by intro e; simp only at e; omega⟩ (fun j _ _ => rfl) (wrap_self h.sum _ (by rw [hat]; unfold added; rw [hw]; omega)), .inl (pot_same h hkm rfl ?_)⟩
          rw [hat]
          simp only [cost, hw, stale, q3]
          repeat' split
          all_goals omega
      · -- back, or on
        rw [hp] at hins
        simp [one] at hins
        subst hins
        by_cases hz : rg s.r 1 = 0
        · have ha : act st.cells s ⟨7, 0, 1, 6 * ((s.at_ : Int) / 6)⟩ p = (st.cells, { s with at_ := 6 * (s.at_ / 6) }) := by
            simp [act, hz]
            omega
          rw [ha]
          have hw : won { s with at_ := 6 * (s.at_ / 6) } = won s := by
            simp only [won]
            repeat' split
            all_goals omega
          refine ⟨h.turn hkm hcl ⟨o1, o2, by show 6 * (s.at_ / 6) ≤ _; omega, by intro e; simp only at e; omega, by intro e; simp only at e; omega, by intro e; simp only at e; omega⟩ (fun j _ _ => rfl) (wrap_self h.sum _ (by rw [hat]; unfold added; rw [hw]; omega)), .inl (pot_same h hkm rfl ?_)⟩
          rw [hat]
          simp only [cost, hw, stale]
          repeat' split
          all_goals omega
        · have ha : act st.cells s ⟨7, 0, 1, 6 * ((s.at_ : Int) / 6)⟩ p = (st.cells, { s with at_ := s.at_ + 1 }) := by simp [act, hz]
          rw [ha]
          have hw : won { s with at_ := s.at_ + 1 } = won s := by
            simp only [won]
            repeat' split
            all_goals omega
          refine ⟨h.turn hkm hcl ⟨o1, o2, by show s.at_ + 1 ≤ _; omega, by intro e; simp only at e; omega, by intro e; simp only at e; omega, by intro e; simp only at e; omega⟩ (fun j _ _ => rfl) (wrap_self h.sum _ (by rw [hat]; unfold added; rw [hw]; omega)), .inl (pot_same h hkm rfl ?_)⟩
          rw [hat]
          simp only [cost, hw, stale]
          repeat' split
          all_goals omega

theorem live (h : Inv ls m st) (hd : doneB st = false) : ∃ k, k < m ∧ pot ls m (stepS st (k : Nat)) + 1 ≤ pot ls m st := by
  unfold doneB at hd
  rw [List.all_eq_false] at hd
  obtain ⟨s, hs, ho⟩ := hd
  obtain ⟨k, hk, e⟩ := List.mem_iff_getElem.1 hs
  refine ⟨k, by rw [← h.sl]; exact hk, ?_⟩
  have hg : get st.ses (k : Int) = some s := by
    unfold Sd.get
    rw [if_pos (by omega), Int.toNat_natCast, List.getElem?_eq_getElem hk, e]
  rcases (step_ok h (k : Int)).2 with h1 | ⟨_, h2⟩
  · exact h1
  · simp only [overB, hg] at h2
    exact absurd h2 ho

theorem done_sum (h : Inv ls m st) (hd : doneB st = true) : Cs.loadV st.cells 0 = wrap64 (sumZ (fun k => (ls k).sum) m) := by
  rw [h.sum]
  congr 1
  refine sumZ_same fun k hk => ?_
  have hkl : k < st.ses.length := by rw [h.sl]; exact hk
  have hat : at1 st k = st.ses[k] := by unfold at1; rw [List.getElem?_eq_getElem hkl]; rfl
  have hov := List.all_eq_true.1 hd _ (List.getElem_mem hkl)
  have hok := h.ok k hk
  rw [hat] at hok ⊢
  simp only [over, decide_eq_true_eq] at hov
  rw [hok.p, prog_length] at hov
  have hle := hok.le
  have hw : (ls k).length ≤ won (st.ses[k]) := by
    unfold won
    omega
  unfold added
  rw [List.take_of_length_le hw]

def progs (ls : Nat → List Int) (m : Nat) : List (List In) := (List.range m).map fun k => prog k (ls k) 0
theorem fresh_at (c : Int) (ls : Nat → List Int) (m k : Nat) (hk : k < m) : at1 (made c (progs ls m)) k = fresh (prog k (ls k) 0) := by
  unfold at1 made progs
  simp [hk]
theorem new_load (n : Nat) (k : Int) : Cs.loadV (Cs.new n) k = 0 := by
  unfold Cs.loadV
  cases hg : Cs.get (Cs.new n) k with
  | none => rfl
  | some t =>
    have := List.mem_of_getElem? (Cs.get_some hg).2.2
    simp only [Cs.new] at this
    rw [(List.mem_replicate.1 this).2]
theorem sumZ_zero (n : Nat) (f : Nat → Int) (h : ∀ j, j < n → f j = 0) : sumZ f n = 0 := by
  induction n with
  | zero => rfl
  | succ n ih => unfold sumZ; rw [ih (fun j hj => h j (by omega)), h n (by omega)]; rfl
theorem start (ls : Nat → List Int) (m : Nat) (h8 : m ≤ 8) (hl : ∀ k, (ls k).length ≤ 10) : Inv ls m (made 9 (progs ls m)) ∧ pot ls m (made 9 (progs ls m)) ≤ 3840 := by
  have hw : ∀ k, won (fresh (prog k (ls k) 0)) = 0 := fun k => by simp [won, fresh]
  refine ⟨⟨Cs.new_length 9, by simp [made, progs], h8, fun k hk => ?_, ?_⟩, ?_⟩
  · rw [fresh_at 9 ls m k hk]
    exact ⟨rfl, rfl, Nat.zero_le _, by intro e; simp [fresh] at e, by intro e; simp [fresh] at e, by intro e; simp [fresh] at e⟩
  · rw [sumZ_zero m _ (fun j hj => by rw [fresh_at 9 ls m j hj]; unfold added; rw [hw]; simp)]
    show Cs.loadV (Cs.new 9) 0 = _
    rw [new_load]
    decide +kernel
  · have := sumN_bound (f := fun k => cost (Cs.loadV (made 9 (progs ls m)).cells 0) (ls k) (at1 (made 9 (progs ls m)) k)) (n := m) (c := 480) (fun j hj => by
      try dsimp only
      rw [fresh_at 9 ls m j hj]
      have := hl j
      simp only [cost, stale, fresh]
      simp
      omega)
    unfold pot
    omega

set_option maxRecDepth 100000 in
/-- Whatever the picks ahead, turns come to the end, and cell 0 to the sum. -/
theorem ends (ls : Nat → List Int) (m : Nat) (h8 : m ≤ 8) (hl : ∀ k, (ls k).length ≤ 10) (x : Nat → Int) (n : Nat) :
    doneB (runL (Sd.runN (made 9 (progs ls m)) x n) (turnsOf m 40000)) = true ∧ (runL (Sd.runN (made 9 (progs ls m)) x n) (turnsOf m 40000)).cells.length = 9 ∧
    Cs.loadV (runL (Sd.runN (made 9 (progs ls m)) x n) (turnsOf m 40000)).cells 0 = wrap64 (sumZ (fun k => (ls k).sum) m) := by
  obtain ⟨h1, h2⟩ := start ls m h8 hl
  have hstep : ∀ (st : St) (p : Int), Inv ls m st → Inv ls m (stepS st p) ∧ (pot ls m (stepS st p) + 1 ≤ pot ls m st ∨ stepS st p = st) := fun st p h => by
    obtain ⟨a, b⟩ := step_ok h p
    exact ⟨a, b.imp (fun h => h) (fun h => h.1)⟩
  obtain ⟨h3, h4⟩ := ends_runN hstep x _ h1 n
  obtain ⟨h5, h6⟩ := fair_ends hstep (fun st h hd => live h hd) 3841 _ h3 (by omega) 40000 (by omega)
  exact ⟨h5, h6.cl, done_sum h6 h5⟩

theorem right_all (k : Nat) (hk : k < 8) (l : List Int) (size : Int) : ∀ a : Nat, (a : Int) + 6 * l.length ≤ size → ∀ i ∈ prog k l a, right i 9 size = true := by
  induction l with
  | nil => intro a _ i hi; cases hi
  | cons d l ih =>
    intro a ha i hi
    simp only [List.length_cons] at ha
    rcases List.mem_append.1 hi with hi | hi
    · simp only [one, List.mem_cons, List.not_mem_nil, or_false] at hi
      have b0 : bel 0 9 = true := by decide
      have b1 : bel (1 + (k : Int)) 9 = true := by rw [bel_iff]; omega
      have b2 : bel (a : Int) (size + 1) = true := by rw [bel_iff]; omega
      have b3 : bel 0 4 = true := by decide
      have b4 : bel 1 4 = true := by decide
      rcases hi with rfl | rfl | rfl | rfl | rfl | rfl <;> simp [right, b0, b1, b2, b3, b4]
    · exact ih (a + 6) (by omega) i hi
end
end Sw

theorem scan_ok {cells : Int} : ∀ (ps : List (List In)) (k : Nat), (∀ p ∈ ps, p.length ≤ 64 ∧ Sd.rights p cells = true) → Sd.scan cells k ps = none := by
  intro ps
  induction ps with
  | nil => intro k _; rfl
  | cons p ps ih =>
    intro k h
    obtain ⟨h1, h2⟩ := h p (by simp)
    unfold Sd.scan
    rw [if_neg (by omega), if_pos h2]
    exact ih _ (fun q hq => h q (by simp [hq]))
theorem Sw.makes (ls : Nat → List Int) (m : Nat) (h1 : 1 ≤ m) (h8 : m ≤ 8) (hl : ∀ k, (ls k).length ≤ 10) : Sd.makeE 9 (Sw.progs ls m) = none := by
  have hlen : (Sw.progs ls m).length = m := by simp [Sw.progs]
  unfold Sd.makeE
  rw [if_neg (by omega)]
  refine scan_ok _ _ fun p hp => ?_
  simp only [Sw.progs, List.mem_map, List.mem_range] at hp
  obtain ⟨k, hk, rfl⟩ := hp
  have := hl k
  refine ⟨by rw [Sw.prog_length]; omega, ?_⟩
  unfold Sd.rights
  rw [List.all_eq_true]
  exact Sw.right_all k (by omega) (ls k) _ 0 (by rw [Sw.prog_length]; omega)
end Go.Proofs.Ytaoonjamlcdfaaa
