/-
  The plain laws of a memory: cells, what is read of them and stored in them. No program stands here.
-/
import Derived.RowKit
namespace Go.Proofs.Ytaoonjamlcdfaaa
open Go.RowKit

/-- A cell: its number, who has it, how many times it was written. -/
structure Cl where
  v : Int
  by_ : Int
  wr : Int
  deriving DecidableEq

namespace Cs
/-- The cell of a number, where there is one. -/
def get (l : List Cl) (k : Int) : Option Cl := if 0 ≤ k then l[k.toNat]? else none
def put (l : List Cl) (k : Int) (c : Cl) : List Cl := if 0 ≤ k then l.set k.toNat c else l
def new (n : Nat) : List Cl := List.replicate n ⟨0, -1, 0⟩

def loadV (l : List Cl) (k : Int) : Int := match get l k with | some c => c.v | none => 0
def loadE (l : List Cl) (k : Int) : Int := match get l k with | some _ => 0 | none => 2
def write (c : Cl) (v : Int) : Cl := ⟨v, c.by_, wrap64 (c.wr + 1)⟩
def storeL (l : List Cl) (k v : Int) : List Cl := match get l k with | some c => put l k (write c v) | none => l
def swapB (l : List Cl) (k was : Int) : Bool := match get l k with | some c => decide (c.v = was) | none => false
def swapL (l : List Cl) (k was v : Int) : List Cl := if swapB l k was = true then storeL l k v else l
def addL (l : List Cl) (k d : Int) : List Cl := storeL l k (wrap64 (loadV l k + d))
def isWho (who : Int) : Bool := decide (0 ≤ who ∧ who < 16)
def lockE (l : List Cl) (k who : Int) : Int := match get l k with | some c => if isWho who = true then if c.by_ = -1 then 0 else 8 else 2 | none => 2
def lockL (l : List Cl) (k who : Int) : List Cl := match get l k with | some c => if isWho who = true then if c.by_ = -1 then put l k ⟨c.v, who, c.wr⟩ else l else l | none => l
def freeE (l : List Cl) (k who : Int) : Int := match get l k with | some c => if isWho who = true then if c.by_ = who then 0 else 5 else 2 | none => 2
def freeL (l : List Cl) (k who : Int) : List Cl := match get l k with | some c => if isWho who = true then if c.by_ = who then put l k ⟨c.v, -1, c.wr⟩ else l else l | none => l
def holder (l : List Cl) (k : Int) : Int := match get l k with | some c => c.by_ | none => -1
def writes (l : List Cl) (k : Int) : Int := match get l k with | some c => c.wr | none => 0

theorem get_some {l : List Cl} {k : Int} {c : Cl} (h : get l k = some c) : 0 ≤ k ∧ k < l.length ∧ l[k.toNat]? = some c := by
  unfold get at h
  split at h
  · rename_i h0
    have := (List.getElem?_eq_some_iff.1 h).1
    exact ⟨h0, by omega, h⟩
  · cases h
theorem get_none {l : List Cl} {k : Int} (h : get l k = none) : k < 0 ∨ (l.length : Int) ≤ k := by
  unfold get at h
  split at h
  · have := List.getElem?_eq_none_iff.1 h
    omega
  · omega
theorem get_in {l : List Cl} {k : Int} (h0 : 0 ≤ k) (h1 : k < l.length) : ∃ c, get l k = some c := by
  have : k.toNat < l.length := by omega
  refine ⟨l[k.toNat], ?_⟩
  unfold get
  rw [if_pos h0, List.getElem?_eq_getElem this]
theorem put_length (l : List Cl) (k : Int) (c : Cl) : (put l k c).length = l.length := by
  unfold put
  split <;> simp
theorem put_at {l : List Cl} {k : Int} (h0 : 0 ≤ k) (c : Cl) : put l k c = l.set k.toNat c := by unfold put; rw [if_pos h0]
theorem storeL_length (l : List Cl) (k v : Int) : (storeL l k v).length = l.length := by
  unfold storeL
  split
  · exact put_length _ _ _
  · rfl
theorem swapL_length (l : List Cl) (k was v : Int) : (swapL l k was v).length = l.length := by
  unfold swapL
  split
  · exact storeL_length _ _ _
  · rfl
theorem addL_length (l : List Cl) (k d : Int) : (addL l k d).length = l.length := storeL_length _ _ _
theorem lockL_length (l : List Cl) (k who : Int) : (lockL l k who).length = l.length := by
  unfold lockL
  split
  · split
    · split
      · exact put_length _ _ _
      · rfl
    · rfl
  · rfl
theorem freeL_length (l : List Cl) (k who : Int) : (freeL l k who).length = l.length := by
  unfold freeL
  split
  · split
    · split
      · exact put_length _ _ _
      · rfl
    · rfl
  · rfl
theorem new_length (n : Nat) : (new n).length = n := by simp [new]
end Cs
end Go.Proofs.Ytaoonjamlcdfaaa
