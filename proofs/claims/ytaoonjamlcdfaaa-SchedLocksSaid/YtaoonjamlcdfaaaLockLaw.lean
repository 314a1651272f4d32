/-
  The plain law of sessions that add under a lock. No program stands here.
-/
import Derived.Test.YtaoonjamlcdfaaaSwapLaw
namespace Go.Proofs.Ytaoonjamlcdfaaa
open Go.RowKit

namespace Lk
open Sd
def one (d : Int) : List In := [⟨9, 0, 0, 0⟩, ⟨2, 1, 0, 0⟩, ⟨6, 0, 0, d⟩, ⟨3, 1, 0, 0⟩, ⟨10, 0, 0, 0⟩]
def prog : List Int → List In
  | [] => []
  | d :: l => one d ++ prog l
theorem prog_length (l : List Int) : (prog l).length = 5 * l.length := by
  induction l with
  | nil => rfl
  | cons d l ih => simp only [prog, List.length_append, ih, List.length_cons]; simp [one]; omega
theorem prog_at (l : List Int) : ∀ (i ph : Nat), i < l.length → ph < 5 → (prog l)[5 * i + ph]? = (one (l.getD i 0))[ph]? := by
  induction l with
  | nil => intro i ph h; simp at h
  | cons d l ih =>
    intro i ph hi hph
    cases i with
    | zero =>
      show (one d ++ prog l)[5 * 0 + ph]? = _
      rw [List.getElem?_append_left (by simp [one]; omega)]
      simp
    | succ i =>
      show (one d ++ prog l)[5 * (i + 1) + ph]? = _
      rw [List.getElem?_append_right (by simp [one]; omega)]
      have := ih i ph (by simpa using hi) hph
      simp only [one, List.length_cons, List.length_nil] at this ⊢
      rw [show 5 * (i + 1) + ph - (0 + 1 + 1 + 1 + 1 + 1) = 5 * i + ph by omega, this]
      simp
theorem prog_snoc (l : List Int) (d : Int) : prog (l ++ [d]) = prog l ++ one d := by
  induction l with
  | nil => simp [prog]
  | cons e l ih =>
    show one e ++ prog (l ++ [d]) = one e ++ prog l ++ one d
    rw [ih, List.append_assoc]

/-- A session that adds the numbers l; c1: the sum's cell. -/
structure Ok1 (c1 : Int) (l : List Int) (s : Ss) : Prop where
  p : s.p = prog l
  r : s.r.length = 4
  le : s.at_ ≤ 5 * l.length
  h2 : s.at_ % 5 = 2 → rg s.r 0 = c1
  h3 : s.at_ % 5 = 3 → rg s.r 0 = wrap64 (c1 + l.getD (s.at_ / 5) 0)
def won (s : Ss) : Nat := s.at_ / 5 + (if s.at_ % 5 = 4 then 1 else 0)
def added (l : List Int) (s : Ss) : Int := (l.take (won s)).sum
def nil : Ss := ⟨[], 0, []⟩
def at1 (st : St) (k : Nat) : Ss := st.ses[k]?.getD nil

structure Inv (ls : Nat → List Int) (m : Nat) (st : St) : Prop where
  cl : st.cells.length = 2
  sl : st.ses.length = m
  m8 : m ≤ 8
  ok : ∀ k, k < m → Ok1 (Cs.loadV st.cells 1) (ls k) (at1 st k)
  held : ∀ k, k < m → ((at1 st k).at_ % 5 ≠ 0 ↔ Cs.holder st.cells 0 = (k : Int))
  hold : Cs.holder st.cells 0 = -1 ∨ (0 ≤ Cs.holder st.cells 0 ∧ Cs.holder st.cells 0 < m)
  sum : Cs.loadV st.cells 1 = wrap64 (sumZ (fun k => added (ls k) (at1 st k)) m)
def pot (ls : Nat → List Int) (m : Nat) (st : St) : Nat := sumN (fun k => 5 * (ls k).length - (at1 st k).at_) m

theorem at1_set (st : St) (cells : List Cl) (k j : Nat) (s : Ss) (hk : k < st.ses.length) : at1 ⟨cells, st.ses.set k s⟩ j = if j = k then s else at1 st j := by
  unfold at1
  by_cases e : j = k
  · subst e
    simp [hk]
  · rw [if_neg e]
    simp [List.getElem?_set_ne (Ne.symm e)]

section
variable {ls : Nat → List Int} {m : Nat} {st : St} {k : Nat} {s' : Ss} {cells : List Cl}
/-- A session turns, and the cells. -/
theorem Inv.turn (h : Inv ls m st) (hk : k < m) (hcl : cells.length = 2) (hok : Ok1 (Cs.loadV cells 1) (ls k) s') (hv : (∀ j, j < m → j ≠ k → (at1 st j).at_ % 5 = 0) ∨ Cs.loadV cells 1 = Cs.loadV st.cells 1)
    (hh : (s'.at_ % 5 ≠ 0 ↔ Cs.holder cells 0 = (k : Int))) (ho : ∀ j, j < m → j ≠ k → ((at1 st j).at_ % 5 ≠ 0 ↔ Cs.holder cells 0 = (j : Int))) (hhd : Cs.holder cells 0 = -1 ∨ (0 ≤ Cs.holder cells 0 ∧ Cs.holder cells 0 < m))
    (hs : Cs.loadV cells 1 = wrap64 (Cs.loadV st.cells 1 + (added (ls k) s' - added (ls k) (at1 st k)))) : Inv ls m ⟨cells, st.ses.set k s'⟩ := by
  have hkl : k < st.ses.length := by rw [h.sl]; exact hk
  refine ⟨hcl, by simp [h.sl], h.m8, fun j hj => ?_, fun j hj => ?_, hhd, ?_⟩
  · rw [at1_set st cells k j s' hkl]
    by_cases e : j = k
    · subst e
      rw [if_pos rfl]
      exact hok
    · rw [if_neg e]
      show Ok1 (Cs.loadV cells 1) (ls j) (at1 st j)
      have := h.ok j hj
      rcases hv with hv | hv
      · have h0 := hv j hj e
        exact ⟨this.p, this.r, this.le, fun e => by omega, fun e => by omega⟩
      · rw [hv]
        exact this
  · rw [at1_set st cells k j s' hkl]
    by_cases e : j = k
    · subst e
      rw [if_pos rfl]
      exact hh
    · rw [if_neg e]
      exact ho j hj e
  · show Cs.loadV cells 1 = _
    rw [hs, h.sum, wrap64_idem]
    congr 1
    rw [sumZ_upd (f := fun j => added (ls j) (at1 ⟨cells, st.ses.set k s'⟩ j)) (g := fun j => added (ls j) (at1 st j)) hk (fun j hj hne => by
      try dsimp only
      rw [at1_set st cells k j s' hkl, if_neg hne])]
    try dsimp only
    rw [at1_set st cells k k s' hkl, if_pos rfl]
theorem pot_less (h : Inv ls m st) (hk : k < m) (hd : 5 * (ls k).length - s'.at_ + 1 ≤ 5 * (ls k).length - (at1 st k).at_) : pot ls m ⟨cells, st.ses.set k s'⟩ + 1 ≤ pot ls m st := by
  have hkl : k < st.ses.length := by rw [h.sl]; exact hk
  have := sumN_upd (f := fun j => 5 * (ls j).length - (at1 ⟨cells, st.ses.set k s'⟩ j).at_) (g := fun j => 5 * (ls j).length - (at1 st j).at_) (c := 0) hk (fun j hj hne => by
    try dsimp only
    rw [at1_set st cells k j s' hkl, if_neg hne]
    omega)
  try dsimp only at this
  rw [at1_set st cells k k s' hkl, if_pos rfl] at this
  unfold pot
  show sumN (fun j => 5 * (ls j).length - (at1 ⟨cells, st.ses.set k s'⟩ j).at_) m + 1 ≤ _
  omega

theorem holder_lock (l : List Cl) (who : Int) (hw : 0 ≤ who ∧ who < 16) (hl : 0 < l.length) (hf : Cs.holder l 0 = -1) : Cs.lockE l 0 who = 0 ∧ Cs.holder (Cs.lockL l 0 who) 0 = who ∧ Cs.loadV (Cs.lockL l 0 who) 1 = Cs.loadV l 1 := by
  obtain ⟨c, hc⟩ := Cs.get_in (l := l) (k := 0) (by omega) (by omega)
  have hi : Cs.isWho who = true := by simp [Cs.isWho, hw]
  simp only [Cs.holder, hc] at hf
  have e1 : Cs.lockL l 0 who = Cs.put l 0 ⟨c.v, who, c.wr⟩ := by simp only [Cs.lockL, hc, hi, hf, if_true]
  refine ⟨by simp only [Cs.lockE, hc, hi, hf, if_true], ?_, ?_⟩
  · rw [e1]
    simp only [Cs.holder]
    rw [show Cs.get (Cs.put l 0 ⟨c.v, who, c.wr⟩) 0 = some ⟨c.v, who, c.wr⟩ by simp [Cs.get, Cs.put, hl]]
  · rw [e1]
    unfold Cs.loadV
    rw [Cs.get_put_ne l 0 1 _ (by decide) (by decide) (by decide)]
theorem holder_busy (l : List Cl) (who : Int) (hw : 0 ≤ who ∧ who < 16) (hl : 0 < l.length) (hf : Cs.holder l 0 ≠ -1) : Cs.lockE l 0 who ≠ 0 ∧ Cs.lockL l 0 who = l := by
  obtain ⟨c, hc⟩ := Cs.get_in (l := l) (k := 0) (by omega) (by omega)
  have hi : Cs.isWho who = true := by simp [Cs.isWho, hw]
  simp only [Cs.holder, hc] at hf
  exact ⟨by simp only [Cs.lockE, hc, hi, if_true, hf, if_false]; decide, by simp only [Cs.lockL, hc, hi, if_true, hf, if_false]⟩
theorem holder_free (l : List Cl) (who : Int) (hw : 0 ≤ who ∧ who < 16) (hl : 0 < l.length) (hf : Cs.holder l 0 = who) : Cs.holder (Cs.freeL l 0 who) 0 = -1 ∧ Cs.loadV (Cs.freeL l 0 who) 1 = Cs.loadV l 1 := by
  obtain ⟨c, hc⟩ := Cs.get_in (l := l) (k := 0) (by omega) (by omega)
  have hi : Cs.isWho who = true := by simp [Cs.isWho, hw]
  simp only [Cs.holder, hc] at hf
  have e1 : Cs.freeL l 0 who = Cs.put l 0 ⟨c.v, -1, c.wr⟩ := by simp only [Cs.freeL, hc, hi, hf, if_true]
  constructor
  · rw [e1]
    simp only [Cs.holder]
    rw [show Cs.get (Cs.put l 0 ⟨c.v, -1, c.wr⟩) 0 = some ⟨c.v, -1, c.wr⟩ by simp [Cs.get, Cs.put, hl]]
  · rw [e1]
    unfold Cs.loadV
    rw [Cs.get_put_ne l 0 1 _ (by decide) (by decide) (by decide)]
theorem holder_store (l : List Cl) (v : Int) : Cs.holder (Cs.storeL l 1 v) 0 = Cs.holder l 0 := by
  unfold Cs.storeL
  split
  · unfold Cs.holder
    rw [Cs.get_put_ne l 1 0 _ (by decide) (by decide) (by decide)]
  · rfl

theorem other_zero (h : Inv ls m st) (hh : Cs.holder st.cells 0 = (k : Int)) : ∀ j, j < m → j ≠ k → (at1 st j).at_ % 5 = 0 := by
  intro j hj hne
  have := h.held j hj
  rw [hh] at this
  by_cases e : (at1 st j).at_ % 5 = 0
  · exact e
  · have := this.1 e
    omega

theorem step_ok (h : Inv ls m st) (p : Int) : Inv ls m (stepS st p) ∧ (pot ls m (stepS st p) + 1 ≤ pot ls m st ∨ (stepS st p = st ∧ (overB st p = true ∨ (Cs.holder st.cells 0 ≠ -1 ∧ Cs.holder st.cells 0 ≠ p)))) := by
  cases hs : get st.ses p with
  | none =>
    have e : stepS st p = st := by simp only [stepS, hs]
    rw [e]
    exact ⟨h, .inr ⟨rfl, .inl (by simp only [overB, hs])⟩⟩
  | some s =>
    cases hi : s.p[s.at_]? with
    | none =>
      have e : stepS st p = st := by simp only [stepS, hs, hi]
      rw [e]
      exact ⟨h, .inr ⟨rfl, .inl (by simp only [overB, hs, over, List.getElem?_eq_none_iff.1 hi, decide_true])⟩⟩
    | some ins =>
      obtain ⟨k, hk⟩ : ∃ k, k = p.toNat := ⟨_, rfl⟩
      have e : stepS st p = ⟨(act st.cells s ins p).1, st.ses.set k (act st.cells s ins p).2⟩ := by simp only [stepS, hs, hi, hk]
      rw [e]
      clear e
      obtain ⟨p0, p1, p2⟩ := get_some hs
      rw [← hk] at p2
      have hpk : p = (k : Int) := by omega
      have hkm : k < m := by rw [← h.sl]; omega
      have hat : at1 st k = s := by unfold at1; rw [p2]; rfl
      have hok := h.ok k hkm
      have hhd := h.held k hkm
      rw [hat] at hok hhd
      obtain ⟨o1, o2, o3, o4, o5⟩ := hok
      have hlt := (List.getElem?_eq_some_iff.1 hi).1
      rw [o1, prog_length] at hlt
      have hq : s.at_ / 5 < (ls k).length := by omega
      have hins : (one ((ls k).getD (s.at_ / 5) 0))[s.at_ % 5]? = some ins := by
        have := prog_at (ls k) (s.at_ / 5) (s.at_ % 5) hq (by omega)
        rw [show 5 * (s.at_ / 5) + s.at_ % 5 = s.at_ by omega, ← o1, hi] at this
        exact this.symm
      have hcl := h.cl
      have hks : (k : Int) < 8 := by have := h.m8; omega
      clear hi
      rcases (show s.at_ % 5 = 0 ∨ s.at_ % 5 = 1 ∨ s.at_ % 5 = 2 ∨ s.at_ % 5 = 3 ∨ s.at_ % 5 = 4 from by omega) with hp | hp | hp | hp | hp
      · -- lock
        rw [hp] at hins
        simp [one] at hins
        subst hins
        by_cases hf : Cs.holder st.cells 0 = -1
        · obtain ⟨l1, l2, l3⟩ := holder_lock st.cells p (by omega) (by omega) hf
          have ha : act st.cells s ⟨9, 0, 0, 0⟩ p = (Cs.lockL st.cells 0 p, { s with at_ := s.at_ + 1 }) := by simp [act, l1]
          rw [ha]
          have hw : won { s with at_ := s.at_ + 1 } = won s := by
            simp only [won]
            repeat' split
            all_goals omega
          refine ⟨h.turn hkm (by rw [Cs.lockL_length]; exact hcl) ⟨o1, o2, by show s.at_ + 1 ≤ _; omega, by intro e; simp only at e; omega, by intro e; simp only at e; omega⟩ (.inr l3) ⟨fun _ => by rw [l2, hpk], fun _ => by show (s.at_ + 1) % 5 ≠ 0; omega⟩ (fun j hj hne => ?_) (.inr (by rw [l2]; omega)) ?_, .inl (pot_less h hkm ?_)⟩
          · have h1 := h.held j hj
            rw [hf] at h1
            rw [l2]
            constructor
            · intro e; have := h1.1 e; omega
            · intro e; omega
          · rw [l3]
            exact Sw.wrap_self h.sum _ (by rw [hat]; unfold added; rw [hw]; omega)
          · rw [hat]
            show 5 * (ls k).length - (s.at_ + 1) + 1 ≤ _
            omega
        · obtain ⟨l1, l2⟩ := holder_busy st.cells p (by omega) (by omega) hf
          have ha : act st.cells s ⟨9, 0, 0, 0⟩ p = (st.cells, s) := by simp [act, l1, l2]
          rw [ha]
          have e : (⟨st.cells, st.ses.set k s⟩ : St) = st := by rw [list_set_same p2]
          rw [e]
          refine ⟨h, .inr ⟨rfl, .inr ⟨hf, fun e => ?_⟩⟩⟩
          rw [hpk] at e
          exact hhd.2 e hp
      · -- load
        rw [hp] at hins
        simp [one] at hins
        subst hins
        have hh := hhd.1 (by omega)
        have ha : act st.cells s ⟨2, 1, 0, 0⟩ p = (st.cells, { s with r := sr s.r 0 (Cs.loadV st.cells 1), at_ := s.at_ + 1 }) := by simp [act]
        rw [ha]
        obtain ⟨q1, _, _, _, q5, _⟩ := Sw.rg_sr o2 (Cs.loadV st.cells 1)
        have hw : won { s with r := sr s.r 0 (Cs.loadV st.cells 1), at_ := s.at_ + 1 } = won s := by
          simp only [won]
          repeat' split
          all_goals omega
        refine ⟨h.turn hkm hcl ⟨o1, q5, by show s.at_ + 1 ≤ _; omega, fun _ => q1, by intro e; simp only at e; omega⟩ (.inr rfl) ⟨fun _ => hh, fun _ => by show (s.at_ + 1) % 5 ≠ 0; omega⟩ (fun j hj _ => h.held j hj) h.hold (Sw.wrap_self h.sum _ (by rw [hat]; unfold added; rw [hw]; omega)), .inl (pot_less h hkm ?_)⟩
        rw [hat]
        show 5 * (ls k).length - (s.at_ + 1) + 1 ≤ _
        omega
      · -- more
        rw [hp] at hins
        simp [one] at hins
        subst hins
        have hh := hhd.1 (by omega)
        have ha : act st.cells s ⟨6, 0, 0, ((ls k)[s.at_ / 5]?).getD 0⟩ p = (st.cells, { s with r := sr s.r 0 (wrap64 (rg s.r 0 + ((ls k)[s.at_ / 5]?).getD 0)), at_ := s.at_ + 1 }) := by simp [act]
        rw [ha]
        obtain ⟨q1, _, _, _, q5, _⟩ := Sw.rg_sr o2 (wrap64 (rg s.r 0 + ((ls k)[s.at_ / 5]?).getD 0))
        have hw : won { s with r := sr s.r 0 (wrap64 (rg s.r 0 + ((ls k)[s.at_ / 5]?).getD 0)), at_ := s.at_ + 1 } = won s := by
          simp only [won]
          repeat' split
          all_goals omega
        refine ⟨h.turn hkm hcl ⟨o1, q5, by show s.at_ + 1 ≤ _; omega, by intro e; simp only at e; omega, ?_⟩ (.inr rfl) ⟨fun _ => hh, fun _ => by show (s.at_ + 1) % 5 ≠ 0; omega⟩ (fun j hj _ => h.held j hj) h.hold (Sw.wrap_self h.sum _ (by rw [hat]; unfold added; rw [hw]; omega)), .inl (pot_less h hkm ?_)⟩
        · intro _
          show rg (sr s.r 0 _) 0 = wrap64 (Cs.loadV st.cells 1 + (ls k).getD ((s.at_ + 1) / 5) 0)
          rw [q1, o4 hp, show (s.at_ + 1) / 5 = s.at_ / 5 by omega, List.getD_eq_getElem?_getD]
        · rw [hat]
          show 5 * (ls k).length - (s.at_ + 1) + 1 ≤ _
          omega
      · -- store
        rw [hp] at hins
        simp [one] at hins
        subst hins
        have hh := hhd.1 (by omega)
        have ha : act st.cells s ⟨3, 1, 0, 0⟩ p = (Cs.storeL st.cells 1 (rg s.r 0), { s with at_ := s.at_ + 1 }) := by simp [act]
        rw [ha]
        have hw : won { s with at_ := s.at_ + 1 } = won s + 1 := by
          simp only [won]
          repeat' split
          all_goals omega
        have hw0 : won s = s.at_ / 5 := by
          simp only [won]
          split <;> omega
        have hadd : added (ls k) { s with at_ := s.at_ + 1 } - added (ls k) s = (ls k).getD (s.at_ / 5) 0 := by
          unfold added
          rw [hw, hw0, List.take_succ_eq_append_getElem hq, List.sum_append, List.getD_eq_getElem?_getD, List.getElem?_eq_getElem hq]
          simp only [List.sum_cons, List.sum_nil, Option.getD_some]
          omega
        refine ⟨h.turn hkm (by rw [Cs.storeL_length]; exact hcl) ⟨o1, o2, by show s.at_ + 1 ≤ _; omega, by intro e; simp only at e; omega, by intro e; simp only at e; omega⟩ (.inl (other_zero h hh)) ⟨fun _ => by rw [holder_store, hh], fun _ => by show (s.at_ + 1) % 5 ≠ 0; omega⟩ (fun j hj _ => by rw [holder_store]; exact h.held j hj) (by rw [holder_store]; exact h.hold) ?_, .inl (pot_less h hkm ?_)⟩
        · rw [hat, hadd, Cs.loadV_store _ _ _ (by omega) (by omega), o5 hp]
        · rw [hat]
          show 5 * (ls k).length - (s.at_ + 1) + 1 ≤ _
          omega
      · -- free
        rw [hp] at hins
        simp [one] at hins
        subst hins
        have hh := hhd.1 (by omega)
        obtain ⟨l1, l2⟩ := holder_free st.cells p (by omega) (by omega) (by rw [hh, hpk])
        have ha : act st.cells s ⟨10, 0, 0, 0⟩ p = (Cs.freeL st.cells 0 p, { s with at_ := s.at_ + 1 }) := by simp [act]
        rw [ha]
        have hw : won { s with at_ := s.at_ + 1 } = won s := by
          simp only [won]
          repeat' split
          all_goals omega
        refine ⟨h.turn hkm (by rw [Cs.freeL_length]; exact hcl) ⟨o1, o2, by show s.at_ + 1 ≤ _; omega, by intro e; simp only at e; omega, by intro e; simp only at e; omega⟩ (.inr l2) ⟨fun e => absurd (show (s.at_ + 1) % 5 = 0 by omega) e, fun e => by rw [l1] at e; omega⟩ (fun j hj hne => ?_) (.inl l1) ?_, .inl (pot_less h hkm ?_)⟩
        · have h0 := other_zero h hh j hj hne
          rw [l1]
          constructor
          · intro e; exact absurd h0 e
          · intro e; omega
        · rw [l2]
          exact Sw.wrap_self h.sum _ (by rw [hat]; unfold added; rw [hw]; omega)
        · rw [hat]
          show 5 * (ls k).length - (s.at_ + 1) + 1 ≤ _
          omega

theorem get_at (h : Inv ls m st) (hk : k < m) : get st.ses (k : Int) = some (at1 st k) := by
  have hkl : k < st.ses.length := by rw [h.sl]; exact hk
  unfold Sd.get at1
  rw [if_pos (by omega), Int.toNat_natCast, List.getElem?_eq_getElem hkl]
  rfl
theorem live (h : Inv ls m st) (hd : doneB st = false) : ∃ k, k < m ∧ pot ls m (stepS st (k : Nat)) + 1 ≤ pot ls m st := by
  rcases h.hold with hf | hf
  · unfold doneB at hd
    rw [List.all_eq_false] at hd
    obtain ⟨s, hs, ho⟩ := hd
    obtain ⟨k, hk, e⟩ := List.mem_iff_getElem.1 hs
    have hkm : k < m := by rw [← h.sl]; exact hk
    refine ⟨k, hkm, ?_⟩
    have hg := get_at h hkm
    have hat : at1 st k = s := by unfold at1; rw [List.getElem?_eq_getElem hk, e]; rfl
    rcases (step_ok h (k : Int)).2 with h1 | ⟨_, h2⟩
    · exact h1
    · rcases h2 with h2 | h2
      · simp only [overB, hg, hat] at h2
        exact absurd h2 ho
      · exact absurd hf h2.1
  · obtain ⟨k, hk⟩ : ∃ k : Nat, Cs.holder st.cells 0 = (k : Int) := ⟨(Cs.holder st.cells 0).toNat, by omega⟩
    have hkm : k < m := by omega
    refine ⟨k, hkm, ?_⟩
    have hg := get_at h hkm
    have h5 := (h.held k hkm).2 hk
    rcases (step_ok h (k : Int)).2 with h1 | ⟨_, h2⟩
    · exact h1
    · rcases h2 with h2 | h2
      · simp only [overB, hg, over, decide_eq_true_eq] at h2
        have hok := h.ok k hkm
        rw [hok.p, prog_length] at h2
        have := hok.le
        omega
      · exact absurd hk h2.2

theorem done_sum (h : Inv ls m st) (hd : doneB st = true) : Cs.loadV st.cells 1 = wrap64 (sumZ (fun k => (ls k).sum) m) ∧ Cs.holder st.cells 0 = -1 := by
  have key : ∀ k, k < m → (at1 st k).at_ = 5 * (ls k).length := by
    intro k hk
    have hkl : k < st.ses.length := by rw [h.sl]; exact hk
    have hat : at1 st k = st.ses[k] := by unfold at1; rw [List.getElem?_eq_getElem hkl]; rfl
    have hov := List.all_eq_true.1 hd _ (List.getElem_mem hkl)
    have hok := h.ok k hk
    rw [hat] at hok ⊢
    simp only [over, decide_eq_true_eq] at hov
    rw [hok.p, prog_length] at hov
    have := hok.le
    omega
  constructor
  · rw [h.sum]
    congr 1
    refine sumZ_same fun k hk => ?_
    have := key k hk
    unfold added
    rw [List.take_of_length_le (by unfold won; omega)]
  · rcases h.hold with hf | hf
    · exact hf
    · obtain ⟨k, hk⟩ : ∃ k : Nat, Cs.holder st.cells 0 = (k : Int) := ⟨(Cs.holder st.cells 0).toNat, by omega⟩
      have h5 := (h.held k (by omega)).2 hk
      have := key k (by omega)
      omega

def progs (ls : Nat → List Int) (m : Nat) : List (List In) := (List.range m).map fun k => prog (ls k)
theorem fresh_at (c : Int) (ls : Nat → List Int) (m k : Nat) (hk : k < m) : at1 (made c (progs ls m)) k = fresh (prog (ls k)) := by
  unfold at1 made progs
  simp [hk]
theorem start (ls : Nat → List Int) (m : Nat) (h8 : m ≤ 8) (hl : ∀ k, (ls k).length ≤ 10) : Inv ls m (made 2 (progs ls m)) ∧ pot ls m (made 2 (progs ls m)) ≤ 400 := by
  have hw : ∀ k, won (fresh (prog (ls k))) = 0 := fun k => by simp [won, fresh]
  have hh : Cs.holder (made 2 (progs ls m)).cells 0 = -1 := rfl
  refine ⟨⟨Cs.new_length 2, by simp [made, progs], h8, fun k hk => ?_, fun k hk => ?_, .inl hh, ?_⟩, ?_⟩
  · rw [fresh_at 2 ls m k hk]
    exact ⟨rfl, rfl, Nat.zero_le _, by intro e; simp [fresh] at e, by intro e; simp [fresh] at e⟩
  · rw [fresh_at 2 ls m k hk, hh]
    constructor
    · intro e; simp [fresh] at e
    · intro e; omega
  · rw [Sw.sumZ_zero m _ (fun j hj => by rw [fresh_at 2 ls m j hj]; unfold added; rw [hw]; simp)]
    show Cs.loadV (Cs.new 2) 1 = _
    rw [Sw.new_load]
    decide +kernel
  · have := sumN_bound (f := fun k => 5 * (ls k).length - (at1 (made 2 (progs ls m)) k).at_) (n := m) (c := 50) (fun j hj => by
      have := hl j
      try dsimp only
      omega)
    unfold pot
    omega

set_option maxRecDepth 100000 in
/-- Whatever the picks ahead, turns come to the end, cell 1 to the sum, and no lock is had. -/
theorem ends (ls : Nat → List Int) (m : Nat) (h8 : m ≤ 8) (hl : ∀ k, (ls k).length ≤ 10) (x : Nat → Int) (n : Nat) :
    doneB (runL (Sd.runN (made 2 (progs ls m)) x n) (turnsOf m 40000)) = true ∧ (runL (Sd.runN (made 2 (progs ls m)) x n) (turnsOf m 40000)).cells.length = 2 ∧
    Cs.loadV (runL (Sd.runN (made 2 (progs ls m)) x n) (turnsOf m 40000)).cells 1 = wrap64 (sumZ (fun k => (ls k).sum) m) ∧ Cs.holder (runL (Sd.runN (made 2 (progs ls m)) x n) (turnsOf m 40000)).cells 0 = -1 := by
  obtain ⟨h1, h2⟩ := start ls m h8 hl
  have hstep : ∀ (st : St) (p : Int), Inv ls m st → Inv ls m (stepS st p) ∧ (pot ls m (stepS st p) + 1 ≤ pot ls m st ∨ stepS st p = st) := fun st p h => by
    obtain ⟨a, b⟩ := step_ok h p
    exact ⟨a, b.imp (fun h => h) (fun h => h.1)⟩
  obtain ⟨h3, h4⟩ := ends_runN hstep x _ h1 n
  obtain ⟨h5, h6⟩ := fair_ends hstep (fun st h hd => live h hd) 401 _ h3 (by omega) 40000 (by omega)
  exact ⟨h5, h6.cl, done_sum h6 h5⟩

theorem right_all (l : List Int) (size : Int) : ∀ i ∈ prog l, right i 2 size = true := by
  induction l with
  | nil => intro i hi; cases hi
  | cons d l ih =>
    intro i hi
    rcases List.mem_append.1 hi with hi | hi
    · simp only [one, List.mem_cons, List.not_mem_nil, or_false] at hi
      rcases hi with rfl | rfl | rfl | rfl | rfl <;> simp [right, bel]
    · exact ih i hi
end
end Lk
theorem Lk.makes (ls : Nat → List Int) (m : Nat) (h1 : 1 ≤ m) (h8 : m ≤ 8) (hl : ∀ k, (ls k).length ≤ 10) : Sd.makeE 2 (Lk.progs ls m) = none := by
  have hlen : (Lk.progs ls m).length = m := by simp [Lk.progs]
  unfold Sd.makeE
  rw [if_neg (by omega)]
  refine scan_ok _ _ fun p hp => ?_
  simp only [Lk.progs, List.mem_map, List.mem_range] at hp
  obtain ⟨k, hk, rfl⟩ := hp
  have := hl k
  refine ⟨by rw [Lk.prog_length]; omega, ?_⟩
  unfold Sd.rights
  rw [List.all_eq_true]
  exact Lk.right_all (ls k) _
end Go.Proofs.Ytaoonjamlcdfaaa
