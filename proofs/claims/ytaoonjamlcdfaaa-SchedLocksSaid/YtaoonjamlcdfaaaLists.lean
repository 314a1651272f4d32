/-
  Lists of numbers in memory, and small laws for the walks that add.
-/
import Derived.Test.YtaoonjamlcdfaaaSwapper
import Derived.Test.YtaoonjamlcdfaaaSMal
namespace Go.Proofs.Ytaoonjamlcdfaaa
open Go.RowKit

/-- Lists of numbers that are read below block B. -/
def LstsAt (B : Nat) (w : World) (v : Value) (xs : Nat → Nat → Int) (lens : Nat → Nat) (n : Nat) : Prop :=
  ∃ ao cap, v = .slice ao n cap ∧ n ≤ cap ∧ cap ≤ maxLen ∧ (0 < n → ∃ g off, ao = some ⟨g, off, none⟩ ∧ g < B ∧ ∀ j, j < n → ∃ lv, w.cell? ⟨g, off + j, none⟩ = some lv ∧ IntsAt B w lv (xs j) (lens j))
theorem IntsAt.lift {B : Nat} {w w1 : World} {v : Value} {x : Nat → Int} {len : Nat} (ha : IntsAt B w v x len) (hB1 : Below B w w1) : IntsAt B w1 v x len := by
  obtain ⟨ao, cap, hv, hl, hm, hn, hc⟩ := ha
  refine ⟨ao, cap, hv, hl, hm, hn, fun hpos => ?_⟩
  obtain ⟨g, off, e, hg, hcs⟩ := hc hpos
  exact ⟨g, off, e, hg, fun j hj => (hB1.cell (p := ⟨g, off + j, none⟩) hg).trans (hcs j hj)⟩
theorem sum_range (x : Nat → Int) (n : Nat) : ((List.range n).map x).sum = sumTo x n := by
  induction n with
  | zero => rfl
  | succ n ih =>
    rw [map_range_succ, List.sum_append, ih]
    simp [sumTo]
theorem progs_succ (ls : Nat → List Int) (n : Nat) : Sw.progs ls (n + 1) = Sw.progs ls n ++ [Sw.prog n (ls n) 0] := by
  unfold Sw.progs
  rw [List.range_succ, List.map_append]
  rfl
theorem Owned.done {w : World} {B : Nat} {v : Value} {vals : List Value} {ps : List (List In)} (h : Owned w B v vals ps) : ∃ ao cap, v = .slice ao ps.length cap := by
  obtain ⟨ao, cap, e, _⟩ := ownsRow_shape h.row
  exact ⟨ao, cap, e⟩

theorem runN_ses (st : St) (x : Nat → Int) (n : Nat) : (Sd.runN st x n).ses.length = st.ses.length := by
  induction n with
  | zero => rfl
  | succ n ih => exact (step_ses _ _).trans ih
theorem nums_at {l : List Cl} {k : Nat} (h : k < l.length) : (intsOf (numsOf l))[k]? = some (.int .i64 (Cs.loadV l k)) := by
  refine intsOf_at _ _ _ ?_
  have hg : Cs.get l (k : Int) = some l[k] := by
    unfold Cs.get
    rw [if_pos (by omega), Int.toNat_natCast, List.getElem?_eq_getElem h]
  simp only [numsOf, List.getElem?_map, List.getElem?_eq_getElem h, Cs.loadV, hg]
  rfl
theorem nums_zero {l : List Cl} (h : 0 < l.length) : (intsOf (numsOf l))[0]? = some (.int .i64 (Cs.loadV l 0)) := nums_at h
theorem ownsRow_base {w : World} {B B' : Nat} {e : TypeId} {size n : Nat} {v : Value} {xs : List Value} (h : w.ownsRow B e size v n xs) (hB : B' ≤ B) : w.ownsRow B' e size v n xs := by
  refine ⟨h.1, ?_⟩
  rcases h.2 with hn | ⟨g, cap, cur, e, hb, rest⟩
  · exact .inl hn
  · exact .inr ⟨g, cap, cur, e, Nat.le_trans hB hb, rest⟩

end Go.Proofs.Ytaoonjamlcdfaaa
