/-
  The walk of the law LedgerFull.
-/
import Derived.Test.YtmlkoehkodbomaaWorks
namespace Go.Proofs.Ytmlkoehkodbomaa
open Go.RowKit

namespace Lg
/-- k spans of one offset each, the kinds in turn. -/
def fl (a : Int) (k : Nat) : List Sp := (List.range k).map fun j : Nat => ⟨a + (j : Int), a + (j : Int) + 1, decide (j % 2 = 0)⟩
theorem fl_succ (a : Int) (k : Nat) : fl a (k + 1) = fl a k ++ [⟨a + (k : Int), a + (k : Int) + 1, decide (k % 2 = 0)⟩] := by simp [fl, List.range_succ]
theorem fl_length (a : Int) (k : Nat) : (fl a k).length = k := by simp [fl]
theorem fin_fl (a : Int) (k : Nat) : fin a (fl a k) = a + (k : Int) := by
  cases k with
  | zero => simp [fl, fin]
  | succ k => rw [fl_succ, fin_snoc]; simp; omega
theorem last_fl (a : Int) (k : Nat) : ∀ t, (fl a k).getLast? = some t → t.k ≠ decide (k % 2 = 0) ∧ t.b = a + (k : Int) := by
  cases k with
  | zero => simp [fl]
  | succ k =>
    intro t ht
    rw [fl_succ] at ht
    simp at ht
    subst ht
    simp only
    refine ⟨?_, by omega⟩
    rcases Nat.mod_two_eq_zero_or_one k with h | h
    · simp [h, show (k + 1) % 2 = 1 by omega]
    · simp [h, show (k + 1) % 2 = 0 by omega]
theorem add_fl (a : Int) (k : Nat) (h0 : 0 ≤ a) (h1 : a < 1000) (hk : k < 256) : addL a (fl a k) (a + (k : Int) + 1) (decide (k % 2 = 0)) = fl a (k + 1) ∧ addE a (fl a k) (a + (k : Int) + 1) (decide (k % 2 = 0)) = 0 := by
  have hb : ¬ (a + (k : Int) + 1 ≤ fin a (fl a k) ∨ 1099511627776 < a + (k : Int) + 1) := by rw [fin_fl]; omega
  unfold addL addE
  rw [if_neg hb, if_neg hb, fl_succ]
  cases hl : (fl a k).getLast? with
  | none =>
    obtain rfl : k = 0 := by
      have := List.getLast?_eq_none_iff.1 hl
      have hh := fl_length a k
      rw [this] at hh
      simpa using hh.symm
    simp [fl]
  | some t =>
    obtain ⟨h2, h3⟩ := last_fl a k t hl
    simp only [if_neg h2, fl_length, if_neg (show ¬ k = 256 by omega), h3, and_self]
theorem good_fl (a : Int) (k : Nat) (h0 : 0 ≤ a) (h1 : a < 1000) (hk : k ≤ 256) : Good a (fl a k) := by
  induction k with
  | zero => exact good_nil h0 (by omega)
  | succ k ih =>
    rw [← (add_fl a k h0 h1 (by omega)).1]
    exact good_add (ih (by omega)) _ _
theorem full_acc (a : Int) (h0 : 0 ≤ a) (h1 : a < 1000) : addL a (fl a 256) (a + 256 + 1) true = fl a 256 ∧ addE a (fl a 256) (a + 256 + 1) true = 4 := by
  have hb : ¬ (a + 256 + 1 ≤ fin a (fl a 256) ∨ 1099511627776 < a + 256 + 1) := by rw [fin_fl]; omega
  unfold addL addE
  rw [if_neg hb, if_neg hb]
  cases hl : (fl a 256).getLast? with
  | none =>
    have := List.getLast?_eq_none_iff.1 hl
    have hh := fl_length a 256
    rw [this] at hh
    simp at hh
  | some t =>
    have h2 := (last_fl a 256 t hl).1
    have h3 : ¬ t.k = true := by simpa using h2
    simp only [if_neg h3, fl_length, if_true, and_self]
theorem full_skip (a : Int) (h0 : 0 ≤ a) (h1 : a < 1000) : fin a (addL a (fl a 256) (a + 256 + 2) false) = a + 256 + 2 ∧ addE a (fl a 256) (a + 256 + 2) false = 0 := by
  have hb : ¬ (a + 256 + 2 ≤ fin a (fl a 256) ∨ 1099511627776 < a + 256 + 2) := by rw [fin_fl]; omega
  unfold addL addE
  rw [if_neg hb, if_neg hb]
  cases hl : (fl a 256).getLast? with
  | none =>
    have := List.getLast?_eq_none_iff.1 hl
    have hh := fl_length a 256
    rw [this] at hh
    simp at hh
  | some t =>
    have h2 := (last_fl a 256 t hl).1
    have h3 : t.k = false := by simpa using h2
    simp only [if_pos h3, fin_snoc, and_self]
end Lg

set_option maxRecDepth 100000 in
set_option maxHeartbeats 2000000 in
theorem full_c (x : Int) (w : World) : Calls Try.prog 3 #[.int .i64 x] w fun e w' => e = .returned (.bool true) ∧ Below w.heap.size w w' := by
  have hab := among_bd x 1000 (by decide)
  have HC := hide (among_c x 1000)
  generalize among x 1000 = a at *
  obtain ⟨h0, h1⟩ := hab
  go_enter Try.func3, Try.ntmps3
  go_wp2_with fail
  refine (works_c w).mono ?_
  rintro e w1 ⟨rfl, hB1⟩
  have HB1 := hide hB1
  have sz1 := hB1.size
  clear hB1
  go_wp2_with fail
  refine (HC.out w1 (by decide) (by decide)).mono ?_
  rintro e w2 ⟨rfl, rfl⟩
  go_wp2_with fail
  refine (make_ok a w1 h0 (by omega)).mono ?_
  rintro e w3 ⟨rfl, hL3, hB3⟩
  have HL3 := hide hL3
  have HB3 := hide hB3
  have sz3 := hB3.size
  clear hL3 hB3
  generalize hBb : w1.heap.size = B at *
  clear hBb
  go_wp2_with fail
  go_loopw [5, 6] (fun e i wr => ∃ k : Nat, k ≤ 256 ∧ e = .int .i64 (a + k) ∧ i = .int .i64 k ∧ (∃ sv, Led wr B B sv a (Lg.fl a k)) ∧ Below B w3 wr ∧ B ≤ wr.heap.size) (fun _ i _ => 256 - (intOf i).toNat)
  case atStart => exact ⟨0, by omega, by simp, rfl, ⟨_, HL3.out⟩, Below.refl _ _, sz3⟩
  case round =>
    obtain ⟨k, hk, rfl, rfl, ⟨sv, hL⟩, hB, hsz⟩ := hrel
    have HL := hide hL
    have HB := hide hB
    clear hL hB
    by_cases hlt : k < 256
    · have HG := hide (Lg.good_fl a k h0 h1 hk)
      have HA := hide (Lg.add_fl a k h0 h1 hlt)
      have hl2 := Lg.length_of (Lg.fl a (k + 1))
      rw [Lg.fl_length] at hl2
      have HL2 := hide hl2
      clear hl2
      have hlen2 : (Lg.fl a (k + 1)).length ≤ 256 := by rw [Lg.fl_length]; omega
      rcases Nat.mod_two_eq_zero_or_one k with hp | hp
      · have hdec : decide (k % 2 = 0) = true := by simp [hp]
        rw [hdec] at HA
        have hq' : ((k : Int) % 2 == 1) = false := by simp; omega
        clear hp hdec
        go_wp2_with fail
        refine (accept_to HL.out HG.out hsz (a + (k : Int) + 1) HA.out.1 HA.out.2).mono ?_
        rintro e w4 ⟨rfl, sv4, hL4, hO4, _⟩
        have HL4 := hide hL4
        have HB4 := hide (Turned.below HB.out hsz HL.out hO4)
        have sz4 := Nat.le_trans hsz hO4.size
        clear hL4 hO4
        go_wp2_with fail
        refine (accepted_c HL4.out hlen2).mono ?_
        rintro e w5 ⟨va, rfl, hRa, hB5⟩
        obtain ⟨aa, ca, rfl, _⟩ := ownsRow_shape hRa
        have HL5 := hide (HL4.out.later hB5)
        have HB5 := hide (HB4.out.trans (hB5.mono sz4))
        have sz5 := Nat.le_trans sz4 hB5.size
        clear hRa hB5
        go_wp2_with fail
        refine (skipped_c HL5.out hlen2).mono ?_
        rintro e w6 ⟨vb, rfl, hRb, hB6⟩
        obtain ⟨ab, cb, rfl, _⟩ := ownsRow_shape hRb
        have HL6 := hide (HL5.out.later hB6)
        have HB6 := hide (HB5.out.trans (hB6.mono sz5))
        have sz6 := Nat.le_trans sz5 hB6.size
        clear hRb hB6
        have HS := HL2.out
        clear HL2
        generalize (Lg.of true (Lg.fl a (k + 1))).length = na at *
        generalize (Lg.of false (Lg.fl a (k + 1))).length = nb at *
        have hsum : ((na : Int) + (nb : Int) != (k : Int) + 1) = false := by simp; omega
        have hna : na ≤ 256 := by omega
        have hnb : nb ≤ 256 := by omega
        clear HS
        go_wp2
        go_roundw
        case rel => exact ⟨k + 1, by omega, by go_num, by go_num, ⟨_, HL6.out⟩, HB6.out, sz6⟩
        case measure => simp [intOf]; omega
      · have hdec : decide (k % 2 = 0) = false := by simp [hp]
        rw [hdec] at HA
        have hq' : ((k : Int) % 2 == 1) = true := by simp; omega
        clear hp hdec
        go_wp2_with fail
        refine (skip_to HL.out HG.out hsz (a + (k : Int) + 1) HA.out.1 HA.out.2).mono ?_
        rintro e w4 ⟨rfl, sv4, hL4, hO4, _⟩
        have HL4 := hide hL4
        have HB4 := hide (Turned.below HB.out hsz HL.out hO4)
        have sz4 := Nat.le_trans hsz hO4.size
        clear hL4 hO4
        go_wp2_with fail
        refine (accepted_c HL4.out hlen2).mono ?_
        rintro e w5 ⟨va, rfl, hRa, hB5⟩
        obtain ⟨aa, ca, rfl, _⟩ := ownsRow_shape hRa
        have HL5 := hide (HL4.out.later hB5)
        have HB5 := hide (HB4.out.trans (hB5.mono sz4))
        have sz5 := Nat.le_trans sz4 hB5.size
        clear hRa hB5
        go_wp2_with fail
        refine (skipped_c HL5.out hlen2).mono ?_
        rintro e w6 ⟨vb, rfl, hRb, hB6⟩
        obtain ⟨ab, cb, rfl, _⟩ := ownsRow_shape hRb
        have HL6 := hide (HL5.out.later hB6)
        have HB6 := hide (HB5.out.trans (hB6.mono sz5))
        have sz6 := Nat.le_trans sz5 hB6.size
        clear hRb hB6
        have HS := HL2.out
        clear HL2
        generalize (Lg.of true (Lg.fl a (k + 1))).length = na at *
        generalize (Lg.of false (Lg.fl a (k + 1))).length = nb at *
        have hsum : ((na : Int) + (nb : Int) != (k : Int) + 1) = false := by simp; omega
        have hna : na ≤ 256 := by omega
        have hnb : nb ≤ 256 := by omega
        clear HS
        go_wp2
        go_roundw
        case rel => exact ⟨k + 1, by omega, by go_num, by go_num, ⟨_, HL6.out⟩, HB6.out, sz6⟩
        case measure => simp [intOf]; omega
    · obtain rfl : k = 256 := by omega
      have HG := hide (Lg.good_fl a 256 h0 h1 (Nat.le_refl _))
      have HF := hide (Lg.full_acc a h0 h1)
      have HK := hide (Lg.full_skip a h0 h1)
      go_wp2_with fail
      refine (accept_to HL.out HG.out hsz (a + 256 + 1) HF.out.1 HF.out.2).mono ?_
      rintro e w4 ⟨rfl, sv4, hL4, hO4, _⟩
      have HL4 := hide hL4
      have HB4 := hide (Turned.below HB.out hsz HL.out hO4)
      have sz4 := Nat.le_trans hsz hO4.size
      clear hL4 hO4
      go_wp2_with fail
      refine (skip_to HL4.out HG.out sz4 (a + 256 + 2) rfl HK.out.2).mono ?_
      rintro e w5 ⟨rfl, sv5, hL5, hO5, _⟩
      have HL5 := hide hL5
      have HB5 := hide (Turned.below HB4.out sz4 HL4.out hO5)
      have sz5 := Nat.le_trans sz4 hO5.size
      have HG5 := hide (Lg.good_add HG.out (a + 256 + 2) false)
      clear hL5 hO5
      go_wp2_with fail
      have hE := end_c HL5.out HG5.out
      rw [HK.out.1] at hE
      refine hE.mono ?_
      rintro e w6 ⟨rfl, n6, rfl⟩
      go_wp2
      go_ret
      exact ⟨rfl, below_drewN (HB1.out.trans (((HB3.out.trans HB5.out)).mono sz1)) n6⟩

end Go.Proofs.Ytmlkoehkodbomaa
