/-
  Turns in a row come to an end where each step lowers a measure or does nothing. No program stands here.
-/
import Derived.Test.YtaoonjamlcdfaaaFair
namespace Go.Proofs.Ytaoonjamlcdfaaa
open Go.RowKit

namespace Sd
section
variable {Inv : St → Prop} {Φ : St → Nat} {m : Nat}
theorem ends_list (hstep : ∀ st p, Inv st → Inv (stepS st p) ∧ (Φ (stepS st p) + 1 ≤ Φ st ∨ stepS st p = st)) : ∀ (l : List Int) (st : St), Inv st → Inv (runL st l) ∧ Φ (runL st l) ≤ Φ st := by
  intro l
  induction l with
  | nil => exact fun st h => ⟨h, Nat.le_refl _⟩
  | cons p l ih =>
    intro st h
    obtain ⟨h1, h2⟩ := hstep st p h
    obtain ⟨h3, h4⟩ := ih _ h1
    refine ⟨h3, Nat.le_trans h4 ?_⟩
    rcases h2 with h2 | h2
    · omega
    · rw [h2]; exact Nat.le_refl _
theorem ends_one (hstep : ∀ st p, Inv st → Inv (stepS st p) ∧ (Φ (stepS st p) + 1 ≤ Φ st ∨ stepS st p = st)) (k : Int) : ∀ (l : List Int) (st : St), Inv st → k ∈ l → Φ (stepS st k) + 1 ≤ Φ st → Φ (runL st l) + 1 ≤ Φ st := by
  intro l
  induction l with
  | nil => intro st _ hk; cases hk
  | cons p l ih =>
    intro st h hk hl
    obtain ⟨h1, h2⟩ := hstep st p h
    obtain ⟨h3, h4⟩ := ends_list hstep l _ h1
    rcases h2 with h2 | h2
    · show Φ (runL (stepS st p) l) + 1 ≤ Φ st
      omega
    · show Φ (runL (stepS st p) l) + 1 ≤ Φ st
      rw [h2]
      refine ih st h ?_ hl
      rcases List.mem_cons.1 hk with rfl | hk
      · rw [h2] at hl; omega
      · exact hk
theorem turns_round (m q : Nat) : turnsOf m (m * (q + 1)) = turnsOf m (m * q) ++ turnsOf m m := by
  unfold turnsOf
  rw [Nat.mul_add, Nat.mul_one, List.range_add, List.map_append, List.map_map]
  congr 1
  apply List.map_congr_left
  intro i _
  simp
theorem mem_turns {m k : Nat} (h : k < m) : (k : Int) ∈ turnsOf m m := by
  unfold turnsOf
  rw [List.mem_map]
  exact ⟨k, by simpa using h, by rw [Nat.mod_eq_of_lt h]⟩
theorem done_run' {st : St} (h : doneB st = true) (l : List Int) : doneB (runL st l) = true := by rw [(done_run h l).1]; exact h

/-- So many rounds, and all are over. -/
theorem ends_rounds (hstep : ∀ st p, Inv st → Inv (stepS st p) ∧ (Φ (stepS st p) + 1 ≤ Φ st ∨ stepS st p = st)) (hlive : ∀ st, Inv st → doneB st = false → ∃ k, k < m ∧ Φ (stepS st (k : Nat)) + 1 ≤ Φ st) :
    ∀ (q : Nat) (st : St), Inv st → doneB (runL st (turnsOf m (m * q))) = true ∨ Φ (runL st (turnsOf m (m * q))) + q ≤ Φ st := by
  intro q
  induction q with
  | zero => intro st _; exact .inr (by simp [turnsOf, runL])
  | succ q ih =>
    intro st h
    rw [turns_round m q, runL_append]
    rcases ih st h with hd | hd
    · exact .inl (done_run' hd _)
    · cases hdn : doneB (runL st (turnsOf m (m * q))) with
      | true => exact .inl (done_run' hdn _)
      | false =>
        obtain ⟨h1, _⟩ := ends_list hstep (turnsOf m (m * q)) st h
        obtain ⟨k, hk, hk2⟩ := hlive _ h1 hdn
        have := ends_one hstep k (turnsOf m m) _ h1 (mem_turns hk) hk2
        exact .inr (by omega)
theorem fair_ends (hstep : ∀ st p, Inv st → Inv (stepS st p) ∧ (Φ (stepS st p) + 1 ≤ Φ st ∨ stepS st p = st)) (hlive : ∀ st, Inv st → doneB st = false → ∃ k, k < m ∧ Φ (stepS st (k : Nat)) + 1 ≤ Φ st)
    (q : Nat) (st : St) (h : Inv st) (hq : Φ st < q) (N : Nat) (hN : m * q ≤ N) : doneB (runL st (turnsOf m N)) = true ∧ Inv (runL st (turnsOf m N)) := by
  refine ⟨?_, (ends_list hstep _ st h).1⟩
  have h1 : doneB (runL st (turnsOf m (m * q))) = true := by
    rcases ends_rounds hstep hlive q st h with h1 | h1
    · exact h1
    · omega
  obtain ⟨r, hr⟩ := turnsOf_add m (m * q) (N - m * q)
  rw [show m * q + (N - m * q) = N by omega] at hr
  rw [hr, runL_append]
  exact done_run' h1 _
theorem ends_runN (hstep : ∀ st p, Inv st → Inv (stepS st p) ∧ (Φ (stepS st p) + 1 ≤ Φ st ∨ stepS st p = st)) (x : Nat → Int) (st : St) (h : Inv st) (n : Nat) : Inv (runN st x n) ∧ Φ (runN st x n) ≤ Φ st := by
  induction n with
  | zero => exact ⟨h, Nat.le_refl _⟩
  | succ n ih =>
    obtain ⟨h1, h2⟩ := hstep _ (x n) ih.1
    refine ⟨h1, ?_⟩
    show Φ (stepS (runN st x n) (x n)) ≤ Φ st
    rcases h2 with h2 | h2
    · omega
    · rw [h2]; exact ih.2
end
end Sd

/-! ### Sums -/
def sumN (f : Nat → Nat) : Nat → Nat
  | 0 => 0
  | n + 1 => sumN f n + f n
def sumZ (f : Nat → Int) : Nat → Int
  | 0 => 0
  | n + 1 => sumZ f n + f n
theorem sumN_same {f g : Nat → Nat} {n : Nat} (h : ∀ j, j < n → f j = g j) : sumN f n = sumN g n := by
  induction n with
  | zero => rfl
  | succ n ih => unfold sumN; rw [ih (fun j hj => h j (by omega)), h n (by omega)]
theorem sumZ_same {f g : Nat → Int} {n : Nat} (h : ∀ j, j < n → f j = g j) : sumZ f n = sumZ g n := by
  induction n with
  | zero => rfl
  | succ n ih => unfold sumZ; rw [ih (fun j hj => h j (by omega)), h n (by omega)]
theorem sumN_le {f g : Nat → Nat} {n c : Nat} (h : ∀ j, j < n → f j ≤ g j + c) : sumN f n ≤ sumN g n + c * n := by
  induction n with
  | zero => simp [sumN]
  | succ n ih =>
    have := ih (fun j hj => h j (by omega))
    have h2 := h n (by omega)
    unfold sumN
    rw [Nat.mul_succ]
    omega
theorem sumN_upd {f g : Nat → Nat} {n k c : Nat} (hk : k < n) (h : ∀ j, j < n → j ≠ k → f j ≤ g j + c) : sumN f n + g k ≤ sumN g n + f k + c * (n - 1) := by
  induction n with
  | zero => omega
  | succ n ih =>
    unfold sumN
    by_cases e : k = n
    · subst e
      have := sumN_le (f := f) (g := g) (n := k) (c := c) (fun j hj => h j (by omega) (by omega))
      simp only [Nat.add_sub_cancel]
      omega
    · have h1 := ih (by omega) (fun j hj hne => h j (by omega) hne)
      have h2 := h n (by omega) (by omega)
      have h3 : c * (n + 1 - 1) = c * (n - 1) + c := by
        obtain ⟨t, rfl⟩ : ∃ t, n = t + 1 := ⟨n - 1, by omega⟩
        simp [Nat.mul_succ]
      omega
theorem sumZ_upd {f g : Nat → Int} {n k : Nat} (hk : k < n) (h : ∀ j, j < n → j ≠ k → f j = g j) : sumZ f n = sumZ g n + (f k - g k) := by
  induction n with
  | zero => omega
  | succ n ih =>
    unfold sumZ
    by_cases e : k = n
    · subst e
      rw [sumZ_same (fun j hj => h j (by omega) (by omega))]
      omega
    · rw [ih (by omega) (fun j hj hne => h j (by omega) hne), h n (by omega) (by omega)]
      omega
theorem sumN_bound {f : Nat → Nat} {n c : Nat} (h : ∀ j, j < n → f j ≤ c) : sumN f n ≤ c * n := by
  have := sumN_le (f := f) (g := fun _ => 0) (n := n) (c := c) (fun j hj => by simpa using h j hj)
  have e : sumN (fun _ => 0) n = 0 := by
    clear this h
    induction n with
    | zero => rfl
    | succ n ih => unfold sumN; rw [ih]
  omega

/-! ### Cells that are stored -/
namespace Cs
theorem loadV_store (l : List Cl) (k v : Int) (h0 : 0 ≤ k) (h1 : k < l.length) : loadV (storeL l k v) k = v := by
  obtain ⟨c, hc⟩ := get_in h0 h1
  simp only [loadV, get_store hc, write]
theorem get_put_ne (l : List Cl) (k j : Int) (c : Cl) (h : j ≠ k) (hj : 0 ≤ j) (hk : 0 ≤ k) : get (put l k c) j = get l j := by
  unfold get put
  rw [if_pos hj, if_pos hj, if_pos hk, List.getElem?_set_ne (by omega)]
theorem loadV_store_ne (l : List Cl) (k j v : Int) (h : j ≠ k) (hj : 0 ≤ j) (hk : 0 ≤ k) : loadV (storeL l k v) j = loadV l j := by
  unfold storeL
  split
  · unfold loadV
    rw [get_put_ne l k j _ h hj hk]
  · rfl
end Cs
theorem wrap64_idem (x y : Int) : wrap64 (wrap64 x + y) = wrap64 (x + y) := by unfold wrap64; omega
end Go.Proofs.Ytaoonjamlcdfaaa
