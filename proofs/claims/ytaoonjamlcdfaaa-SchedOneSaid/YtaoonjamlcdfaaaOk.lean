/-
  That a memory's holders stay right.
-/
import Derived.Test.YtaoonjamlcdfaaaRefOps
import Derived.Test.YtaoonjamlcdfaaaAlone
namespace Go.Proofs.Ytaoonjamlcdfaaa
open Go.RowKit

namespace Cs
theorem all_lock {l : List Cl} (k who : Int) (h : Ok l) : Ok (lockL l k who) := by
  unfold lockL
  cases hg : get l k with
  | none => exact h
  | some t =>
    dsimp only
    split
    · rename_i hw
      split
      · exact all_put k _ h (fun _ h => h) (.inr (by simp [isWho] at hw; exact hw.1))
      · exact h
    · exact h
theorem all_free {l : List Cl} (k who : Int) (h : Ok l) : Ok (freeL l k who) := by
  unfold freeL
  cases hg : get l k with
  | none => exact h
  | some t =>
    dsimp only
    split
    · split
      · exact all_put k _ h (fun _ h => h) (.inl rfl)
      · exact h
    · exact h
theorem ok_store {l : List Cl} (k v : Int) (h : Ok l) : Ok (storeL l k v) := all_store (P := fun t => t.by_ = -1 ∨ 0 ≤ t.by_) k v h (fun _ h => h) (fun _ h => h)
theorem ok_swap {l : List Cl} (k was v : Int) (h : Ok l) : Ok (swapL l k was v) := by
  unfold swapL
  split
  · exact ok_store k v h
  · exact h
theorem ok_add {l : List Cl} (k d : Int) (h : Ok l) : Ok (addL l k d) := ok_store k _ h
theorem ok_new (n : Nat) : Ok (new n) := fun t ht => .inl (fresh_new n t ht).1
end Cs
end Go.Proofs.Ytaoonjamlcdfaaa
