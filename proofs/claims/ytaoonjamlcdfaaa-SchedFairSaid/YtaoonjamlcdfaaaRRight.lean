/-
  The contract of the reference's Right.
-/
import Derived.Deep.DeepCutAuto
import Derived.Test.YtaoonjamlcdfaaaRight
namespace Go.Proofs.Ytaoonjamlcdfaaa
open Go.RowKit

set_option maxHeartbeats 4000000 in
theorem rright_c (i : In) (cells : Int) (size : Nat) (w : World) : Calls Try.prog 71 #[inAgg i, .int .i64 cells, .int .i64 size] w fun e w' => e = .returned (.bool (Sd.right i cells size)) ∧ Below w.heap.size w w' := by
  obtain ⟨op, c, a, b⟩ := i
  have HB := hide ((Below.refl w.heap.size w).alloc (Nat.le_refl _) (.cells #[.int .i64 op, .int .i64 c, .int .i64 a, .int .i64 b] 95))
  dsimp only [inAgg]
  obtain ⟨res, hres⟩ : ∃ res, res = Sd.right ⟨op, c, a, b⟩ cells size := ⟨_, rfl⟩
  rw [← hres]
  unfold Sd.right at hres
  dsimp only at hres
  have HR := hide hres
  clear hres
  obtain ⟨x2, hx2⟩ : ∃ x2, x2 = Sd.bel c cells := ⟨_, rfl⟩
  obtain ⟨x4, hx4⟩ : ∃ x4, x4 = Sd.bel b ((size : Int) + 1) := ⟨_, rfl⟩
  go_enter Try.func71, Try.ntmps71
  go_upto_region 1 with fail
  go_cut [7] (fun s wx => s = .bool x2 ∧ wx = w.alloc (.cells #[.int .i64 op, .int .i64 c, .int .i64 a, .int .i64 b] 95))
  case first =>
    by_cases h0 : 0 ≤ c
    · by_cases h1 : c < cells
      · have e : x2 = true := by rw [hx2]; simp [Sd.bel]; omega
        have HE := hide e
        clear hx2 e
        go_wp2_with fail
        go_meet
        exact ⟨by rw [HE.out], rfl⟩
      · have e : x2 = false := by rw [hx2]; simp [Sd.bel]; omega
        have HE := hide e
        have h2 : cells ≤ c := by omega
        clear hx2 e h1
        go_wp2_with fail
        go_meet
        exact ⟨by rw [HE.out]; simp; omega, rfl⟩
    · have e : x2 = false := by rw [hx2]; simp [Sd.bel]; omega
      have HE := hide e
      have h2 : c < 0 := by omega
      clear hx2 e
      go_wp2_with fail
      go_meet
      exact ⟨by rw [HE.out], rfl⟩
  obtain ⟨rfl, rfl⟩ := hcut
  rw [← hx2, ← hx4] at HR
  clear hx2
  go_upto_region 2 with fail
  go_cut [8] (fun s wx => s = .bool x4 ∧ wx = w.alloc (.cells #[.int .i64 op, .int .i64 c, .int .i64 a, .int .i64 b] 95))
  case first =>
    by_cases h0 : 0 ≤ b
    · by_cases h1 : b ≤ (size : Int)
      · have e : x4 = true := by rw [hx4]; simp [Sd.bel]; omega
        have HE := hide e
        clear hx4 e
        go_wp2_with fail
        go_meet
        exact ⟨by rw [HE.out], rfl⟩
      · have e : x4 = false := by rw [hx4]; simp [Sd.bel]; omega
        have HE := hide e
        have h2 : (size : Int) < b := by omega
        clear hx4 e h1
        go_wp2_with fail
        go_meet
        exact ⟨by rw [HE.out]; simp; omega, rfl⟩
    · have e : x4 = false := by rw [hx4]; simp [Sd.bel]; omega
      have HE := hide e
      have h2 : b < 0 := by omega
      clear hx4 e
      go_wp2_with fail
      go_meet
      exact ⟨by rw [HE.out], rfl⟩
  obtain ⟨rfl, rfl⟩ := hcut
  clear hx4
  have hreg := hide register_c
  rcases (show op = 1 ∨ op = 2 ∨ op = 3 ∨ op = 4 ∨ op = 5 ∨ op = 6 ∨ op = 7 ∨ op = 8 ∨ op = 9 ∨ op = 10 ∨ (op < 1 ∨ 10 < op) from by omega) with h | h | h | h | h | h | h | h | h | h | h
  all_goals first | subst h | skip
  all_goals
    have e := HR.out
    first | (rw [if_neg (by omega), if_neg (by omega), if_neg (by omega), if_neg (by omega), if_neg (by omega), if_neg (by omega)] at e) | (simp at e)
    have HE := hide e
    clear e HR
  · go_wp2_with (first | go_step3 | (go_at_call 80; refine (hreg.out _ _).mono ?_; rintro e w' ⟨rfl, rfl⟩))
    all_goals
      go_ret
      refine ⟨ret_bool ?_, HB.out⟩
      first | exact HE.out.symm | (have h := HE.out; simp_all)
  · go_wp2_with (first | go_step3 | (go_at_call 80; refine (hreg.out _ _).mono ?_; rintro e w' ⟨rfl, rfl⟩))
    all_goals
      go_ret
      refine ⟨ret_bool ?_, HB.out⟩
      first | exact HE.out.symm | (have h := HE.out; simp_all)
  · go_wp2_with (first | go_step3 | (go_at_call 80; refine (hreg.out _ _).mono ?_; rintro e w' ⟨rfl, rfl⟩))
    all_goals
      go_ret
      refine ⟨ret_bool ?_, HB.out⟩
      first | exact HE.out.symm | (have h := HE.out; simp_all)
  · go_wp2_with (first | go_step3 | (go_at_call 80; refine (hreg.out _ _).mono ?_; rintro e w' ⟨rfl, rfl⟩))
    all_goals
      go_ret
      refine ⟨ret_bool ?_, HB.out⟩
      first | exact HE.out.symm | (have h := HE.out; simp_all)
  · go_wp2_with (first | go_step3 | (go_at_call 80; refine (hreg.out _ _).mono ?_; rintro e w' ⟨rfl, rfl⟩))
    all_goals
      go_ret
      refine ⟨ret_bool ?_, HB.out⟩
      first | exact HE.out.symm | (have h := HE.out; simp_all)
  · go_wp2_with (first | go_step3 | (go_at_call 80; refine (hreg.out _ _).mono ?_; rintro e w' ⟨rfl, rfl⟩))
    all_goals
      go_ret
      refine ⟨ret_bool ?_, HB.out⟩
      first | exact HE.out.symm | (have h := HE.out; simp_all)
  · go_wp2_with (first | go_step3 | (go_at_call 80; refine (hreg.out _ _).mono ?_; rintro e w' ⟨rfl, rfl⟩))
    all_goals
      go_ret
      refine ⟨ret_bool ?_, HB.out⟩
      first | exact HE.out.symm | (have h := HE.out; simp_all)
  · go_wp2_with (first | go_step3 | (go_at_call 80; refine (hreg.out _ _).mono ?_; rintro e w' ⟨rfl, rfl⟩))
    all_goals
      go_ret
      refine ⟨ret_bool ?_, HB.out⟩
      first | exact HE.out.symm | (have h := HE.out; simp_all)
  · go_wp2_with (first | go_step3 | (go_at_call 80; refine (hreg.out _ _).mono ?_; rintro e w' ⟨rfl, rfl⟩))
    all_goals
      go_ret
      refine ⟨ret_bool ?_, HB.out⟩
      first | exact HE.out.symm | (have h := HE.out; simp_all)
  · go_wp2_with (first | go_step3 | (go_at_call 80; refine (hreg.out _ _).mono ?_; rintro e w' ⟨rfl, rfl⟩))
    all_goals
      go_ret
      refine ⟨ret_bool ?_, HB.out⟩
      first | exact HE.out.symm | (have h := HE.out; simp_all)
  have n1 : (op == 1) = false := by simp; omega
  have n2 : (op == 2) = false := by simp; omega
  have n3 : (op == 3) = false := by simp; omega
  have n4 : (op == 4) = false := by simp; omega
  have n5 : (op == 5) = false := by simp; omega
  have n6 : (op == 6) = false := by simp; omega
  have n7 : (op == 7) = false := by simp; omega
  have n8 : (op == 8) = false := by simp; omega
  have n9 : (op == 9) = false := by simp; omega
  have n10 : (op == 10) = false := by simp; omega
  clear h
  go_wp2_with (first | go_step3)
  go_ret
  exact ⟨ret_bool HE.out.symm, HB.out⟩
end Go.Proofs.Ytaoonjamlcdfaaa
