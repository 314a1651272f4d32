/-
  The plain laws of a machine: sessions over cells, step by step. No program stands here.
-/
import Derived.Test.YtaoonjamlcdfaaaModel
namespace Go.Proofs.Ytaoonjamlcdfaaa
open Go.RowKit

/-- An instruction: what, on which cell, with which numbers. -/
structure In where
  op : Int
  c : Int
  a : Int
  b : Int
  deriving DecidableEq

/-- A session: its program, its place, its registers. -/
structure Ss where
  p : List In
  at_ : Nat
  r : List Int
  deriving DecidableEq

/-- A machine. -/
structure St where
  cells : List Cl
  ses : List Ss

namespace Sd
def bel (n bound : Int) : Bool := decide (0 ≤ n ∧ n < bound)
/-- Is an instruction one, in a program of so many, with so many cells? -/
def right (i : In) (cells size : Int) : Bool :=
  if i.op = 1 ∨ i.op = 6 then bel i.a 4 else
  if i.op = 2 ∨ i.op = 3 ∨ i.op = 5 then bel i.c cells && bel i.a 4 else
  if i.op = 4 then bel i.c cells && bel i.a 4 && bel i.b 4 else
  if i.op = 7 then bel i.a 4 && bel i.b (size + 1) else
  if i.op = 8 then bel i.b (size + 1) else
  if i.op = 9 ∨ i.op = 10 then bel i.c cells else false

def rg (r : List Int) (a : Int) : Int := r.getD a.toNat 0
def sr (r : List Int) (a v : Int) : List Int := r.set a.toNat v

/-- What an instruction does of a session. -/
def act (l : List Cl) (s : Ss) (i : In) (pick : Int) : List Cl × Ss :=
  if i.op = 1 then (l, { s with r := sr s.r i.a i.b, at_ := s.at_ + 1 }) else
  if i.op = 2 then (l, { s with r := sr s.r i.a (Cs.loadV l i.c), at_ := s.at_ + 1 }) else
  if i.op = 3 then (Cs.storeL l i.c (rg s.r i.a), { s with at_ := s.at_ + 1 }) else
  if i.op = 4 then (Cs.swapL l i.c (rg s.r i.b) (rg s.r i.a), { s with r := sr s.r i.b (if Cs.swapB l i.c (rg s.r i.b) = true then 1 else 0), at_ := s.at_ + 1 }) else
  if i.op = 5 then (Cs.addL l i.c i.b, { s with r := sr s.r i.a (Cs.loadV l i.c), at_ := s.at_ + 1 }) else
  if i.op = 6 then (l, { s with r := sr s.r i.a (wrap64 (rg s.r i.a + i.b)), at_ := s.at_ + 1 }) else
  if i.op = 7 then (l, { s with at_ := if rg s.r i.a = 0 then i.b.toNat else s.at_ + 1 }) else
  if i.op = 8 then (l, { s with at_ := i.b.toNat }) else
  if i.op = 9 then (Cs.lockL l i.c pick, { s with at_ := if Cs.lockE l i.c pick = 0 then s.at_ + 1 else s.at_ }) else
  (Cs.freeL l i.c pick, { s with at_ := s.at_ + 1 })

/-- The session of a number, where there is one. -/
def get (l : List Ss) (k : Int) : Option Ss := if 0 ≤ k then l[k.toNat]? else none
def over (s : Ss) : Bool := decide (s.p.length ≤ s.at_)
def overB (st : St) (k : Int) : Bool := match get st.ses k with | some s => over s | none => true

/-- A step of a session. -/
def stepS (st : St) (pick : Int) : St :=
  match get st.ses pick with
  | none => st
  | some s => match s.p[s.at_]? with
    | none => st
    | some i => ⟨(act st.cells s i pick).1, st.ses.set pick.toNat (act st.cells s i pick).2⟩
def stepB (st : St) (pick : Int) : Bool := !overB st pick

def run (st : St) : List Int → St
  | [] => st
  | p :: l => run (stepS st p) l

/-- What is kept of a session, in a machine of so many cells. -/
structure Fit (cells : Nat) (s : Ss) : Prop where
  reg : s.r.length = 4
  len : s.p.length ≤ 64
  ok : ∀ i ∈ s.p, right i cells s.p.length = true
  place : s.at_ ≤ s.p.length

structure Good (st : St) : Prop where
  pos : 0 < st.cells.length
  len : st.cells.length ≤ 64
  own : ∀ t ∈ st.cells, t.by_ = -1 ∨ 0 ≤ t.by_
  few : st.ses.length ≤ 16
  fit : ∀ s ∈ st.ses, Fit st.cells.length s

theorem get_some {l : List Ss} {k : Int} {s : Ss} (h : get l k = some s) : 0 ≤ k ∧ k < l.length ∧ l[k.toNat]? = some s := by
  unfold get at h
  split at h
  · rename_i h0
    have := (List.getElem?_eq_some_iff.1 h).1
    exact ⟨h0, by omega, h⟩
  · cases h
theorem get_none {l : List Ss} {k : Int} (h : get l k = none) : k < 0 ∨ (l.length : Int) ≤ k := by
  unfold get at h
  split at h
  · have := List.getElem?_eq_none_iff.1 h
    omega
  · omega
theorem get_mem {l : List Ss} {k : Int} {s : Ss} (h : get l k = some s) : s ∈ l := List.mem_of_getElem? (get_some h).2.2

theorem act_length (l : List Cl) (s : Ss) (i : In) (pick : Int) : (act l s i pick).1.length = l.length := by
  unfold act
  repeat' split
  all_goals first
    | rfl
    | exact Cs.storeL_length _ _ _
    | exact Cs.swapL_length _ _ _ _
    | exact Cs.addL_length _ _ _
    | exact Cs.lockL_length _ _ _
    | exact Cs.freeL_length _ _ _
theorem act_p (l : List Cl) (s : Ss) (i : In) (pick : Int) : (act l s i pick).2.p = s.p := by
  unfold act
  repeat' split
  all_goals rfl
theorem act_reg (l : List Cl) (s : Ss) (i : In) (pick : Int) : (act l s i pick).2.r.length = s.r.length := by
  unfold act
  repeat' split
  all_goals first
    | rfl
    | simp [sr]
theorem bel_iff (n b : Int) : bel n b = true ↔ 0 ≤ n ∧ n < b := by simp [bel]
theorem act_place {l : List Cl} {s : Ss} {i : In} {pick : Int} {cells : Nat} (hr : right i cells s.p.length = true) (h : s.at_ < s.p.length) : (act l s i pick).2.at_ ≤ s.p.length := by
  unfold right at hr
  unfold act
  by_cases h7 : i.op = 7
  · simp [h7, bel_iff] at hr
    simp [h7]
    split <;> omega
  · by_cases h8 : i.op = 8
    · simp [h8, bel_iff] at hr
      simp [h8]
      omega
    · simp only [if_neg h7, if_neg h8]
      repeat' split
      all_goals first
        | exact h
        | exact Nat.le_of_lt h

theorem right_op {i : In} {cells size : Int} (h : right i cells size = true) : 1 ≤ i.op ∧ i.op ≤ 10 := by
  unfold right at h
  by_cases h1 : i.op = 1 ∨ i.op = 6
  · omega
  · by_cases h2 : i.op = 2 ∨ i.op = 3 ∨ i.op = 5
    · omega
    · by_cases h3 : i.op = 4
      · omega
      · by_cases h4 : i.op = 7
        · omega
        · by_cases h5 : i.op = 8
          · omega
          · by_cases h6 : i.op = 9 ∨ i.op = 10
            · omega
            · simp [h1, h2, h3, h4, h5, h6] at h
/-- The register that an instruction names. -/
theorem right_a {i : In} {cells size : Int} (h : right i cells size = true) (h8 : i.op ≤ 7) : 0 ≤ i.a ∧ i.a < 4 := by
  unfold right at h
  by_cases h1 : i.op = 1 ∨ i.op = 6
  · simpa [h1, bel_iff] using h
  · by_cases h2 : i.op = 2 ∨ i.op = 3 ∨ i.op = 5
    · simp [h1, h2, bel_iff] at h; exact h.2
    · by_cases h3 : i.op = 4
      · simp [h3, bel_iff] at h; exact h.1.2
      · by_cases h4 : i.op = 7
        · simp [h4, bel_iff] at h; exact h.1
        · have h5 : i.op ≠ 8 := by omega
          have h6 : ¬ (i.op = 9 ∨ i.op = 10) := by omega
          simp [h1, h2, h3, h4, h5, h6] at h
theorem right_b {i : In} {cells size : Int} (h : right i cells size = true) (h4 : i.op = 4) : 0 ≤ i.b ∧ i.b < 4 := by
  unfold right at h
  simp [h4, bel_iff] at h
  exact h.2
theorem right_to {i : In} {cells size : Int} (h : right i cells size = true) (h7 : i.op = 7 ∨ i.op = 8) : 0 ≤ i.b ∧ i.b ≤ size := by
  unfold right at h
  rcases h7 with h7 | h7 <;> simp [h7, bel_iff] at h <;> omega

theorem ok_act {l : List Cl} {s : Ss} {i : In} {pick : Int} (h : ∀ t ∈ l, t.by_ = -1 ∨ 0 ≤ t.by_) (hl : ∀ k who, (∀ t ∈ Cs.lockL l k who, t.by_ = -1 ∨ 0 ≤ t.by_) ∧ (∀ t ∈ Cs.freeL l k who, t.by_ = -1 ∨ 0 ≤ t.by_)) (hs : ∀ k v, ∀ t ∈ Cs.storeL l k v, t.by_ = -1 ∨ 0 ≤ t.by_) : ∀ t ∈ (act l s i pick).1, t.by_ = -1 ∨ 0 ≤ t.by_ := by
  have hw : ∀ k was v, ∀ t ∈ Cs.swapL l k was v, t.by_ = -1 ∨ 0 ≤ t.by_ := by
    intro k was v
    unfold Cs.swapL
    split
    · exact hs k v
    · exact h
  unfold act
  repeat' split
  all_goals first
    | exact h
    | exact hs _ _
    | exact (hl _ _).1
    | exact (hl _ _).2
    | exact hw _ _ _
end Sd
end Go.Proofs.Ytaoonjamlcdfaaa
