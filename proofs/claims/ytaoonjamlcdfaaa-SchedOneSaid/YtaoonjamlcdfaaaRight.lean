/-
  The contracts of the small functions that tell what is right.
-/
import Derived.Test.YtaoonjamlcdfaaaSModel
import Derived.Test.YtaoonjamlcdfaaaAlone
namespace Go.Proofs.Ytaoonjamlcdfaaa
open Go.RowKit

theorem below_c (n bound : Int) (w : World) : Calls Try.prog 78 #[.int .i64 n, .int .i64 bound] w fun e w' => e = .returned (.bool (Sd.bel n bound)) ∧ w = w' := by
  by_cases h0 : 0 ≤ n
  · by_cases h1 : n < bound
    · have e : Sd.bel n bound = true := by simp [Sd.bel, h0, h1]
      rw [e]
      clear e
      go_enter Try.func78, Try.ntmps78
      go_wp2
      go_ret
      exact ⟨rfl, rfl⟩
    · have e : Sd.bel n bound = false := by simp [Sd.bel, h1]
      have h2 : bound ≤ n := by omega
      rw [e]
      clear e h1
      go_enter Try.func78, Try.ntmps78
      go_wp2
      go_ret
      exact ⟨ret_bool (by simp; omega), rfl⟩
  · have e : Sd.bel n bound = false := by simp [Sd.bel, h0]
    have h2 : n < 0 := by omega
    rw [e]
    clear e
    go_enter Try.func78, Try.ntmps78
    go_wp2
    go_ret
    exact ⟨ret_bool (by simp), rfl⟩

theorem register_c (n : Int) (w : World) : Calls Try.prog 80 #[.int .i64 n] w fun e w' => e = .returned (.bool (Sd.bel n 4)) ∧ w = w' := by
  by_cases h0 : 0 ≤ n
  · by_cases h1 : n < 4
    · have e : Sd.bel n 4 = true := by simp [Sd.bel, h0, h1]
      rw [e]
      clear e
      go_enter Try.func80, Try.ntmps80
      go_wp2
      go_ret
      exact ⟨rfl, rfl⟩
    · have e : Sd.bel n 4 = false := by simp [Sd.bel, h1]
      have h2 : 4 ≤ n := by omega
      rw [e]
      clear e h1
      go_enter Try.func80, Try.ntmps80
      go_wp2
      go_ret
      exact ⟨ret_bool (by simp; omega), rfl⟩
  · have e : Sd.bel n 4 = false := by simp [Sd.bel, h0]
    have h2 : n < 0 := by omega
    rw [e]
    clear e
    go_enter Try.func80, Try.ntmps80
    go_wp2
    go_ret
    exact ⟨ret_bool (by simp), rfl⟩

def inAgg (i : In) : Value := .agg #[.int .i64 i.op, .int .i64 i.c, .int .i64 i.a, .int .i64 i.b]

set_option maxHeartbeats 4000000 in
theorem right_c (i : In) (cells : Int) (size : Nat) (hs : size ≤ 64) (w : World) : Calls Try.prog 65 #[inAgg i, .int .i64 cells, .int .i64 size] w fun e w' => e = .returned (.bool (Sd.right i cells size)) ∧ Below w.heap.size w w' := by
  obtain ⟨op, c, a, b⟩ := i
  have s1 : IntKind.i64.wrap ((size : Int) + 1) = (size : Int) + 1 := IntWalk.i64_in _ (by omega)
  have HB := hide (fun n => below_drewN ((Below.refl w.heap.size w).alloc (Nat.le_refl _) (.cells #[.int .i64 op, .int .i64 c, .int .i64 a, .int .i64 b] 95)) n)
  dsimp only [inAgg]
  obtain ⟨res, hres⟩ : ∃ res, res = Sd.right ⟨op, c, a, b⟩ cells size := ⟨_, rfl⟩
  rw [← hres]
  unfold Sd.right at hres
  dsimp only at hres
  have HR := hide hres
  clear hres
  go_enter Try.func65, Try.ntmps65
  go_wp2_with fail
  go_quiet ((go_at_call 78; exact quiet_one (below_c _ _ _)))
  generalize Sd.bel a 4 = x1 at *
  generalize Sd.bel c cells = x2 at *
  generalize Sd.bel b 4 = x3 at *
  generalize Sd.bel b ((size : Int) + 1) = x4 at *
  rcases (show op = 1 ∨ op = 2 ∨ op = 3 ∨ op = 4 ∨ op = 5 ∨ op = 6 ∨ op = 7 ∨ op = 8 ∨ op = 9 ∨ op = 10 ∨ (op < 1 ∨ 10 < op) from by omega) with h | h | h | h | h | h | h | h | h | h | h
  all_goals first | subst h | skip
  all_goals
    have e := HR.out
    first | (rw [if_neg (by omega), if_neg (by omega), if_neg (by omega), if_neg (by omega), if_neg (by omega), if_neg (by omega)] at e) | (simp at e)
    have HE := hide e
    clear e HR
  · go_wp2_with (first | go_step3)
    all_goals
      go_ret
      refine ⟨ret_bool ?_, HB.out _⟩
      first | exact HE.out.symm | (have h := HE.out; simp_all)
  · go_wp2_with (first | go_step3)
    all_goals
      go_ret
      refine ⟨ret_bool ?_, HB.out _⟩
      first | exact HE.out.symm | (have h := HE.out; simp_all)
  · go_wp2_with (first | go_step3)
    all_goals
      go_ret
      refine ⟨ret_bool ?_, HB.out _⟩
      first | exact HE.out.symm | (have h := HE.out; simp_all)
  · go_wp2_with (first | go_step3)
    all_goals
      go_ret
      refine ⟨ret_bool ?_, HB.out _⟩
      first | exact HE.out.symm | (have h := HE.out; simp_all)
  · go_wp2_with (first | go_step3)
    all_goals
      go_ret
      refine ⟨ret_bool ?_, HB.out _⟩
      first | exact HE.out.symm | (have h := HE.out; simp_all)
  · go_wp2_with (first | go_step3)
    all_goals
      go_ret
      refine ⟨ret_bool ?_, HB.out _⟩
      first | exact HE.out.symm | (have h := HE.out; simp_all)
  · go_wp2_with (first | go_step3)
    all_goals
      go_ret
      refine ⟨ret_bool ?_, HB.out _⟩
      first | exact HE.out.symm | (have h := HE.out; simp_all)
  · go_wp2_with (first | go_step3)
    all_goals
      go_ret
      refine ⟨ret_bool ?_, HB.out _⟩
      first | exact HE.out.symm | (have h := HE.out; simp_all)
  · go_wp2_with (first | go_step3)
    all_goals
      go_ret
      refine ⟨ret_bool ?_, HB.out _⟩
      first | exact HE.out.symm | (have h := HE.out; simp_all)
  · go_wp2_with (first | go_step3)
    all_goals
      go_ret
      refine ⟨ret_bool ?_, HB.out _⟩
      first | exact HE.out.symm | (have h := HE.out; simp_all)
  have n1 : (op == 1) = false := by simp; omega
  have n2 : (op == 2) = false := by simp; omega
  have n3 : (op == 3) = false := by simp; omega
  have n4 : (op == 4) = false := by simp; omega
  have n5 : (op == 5) = false := by simp; omega
  have n6 : (op == 6) = false := by simp; omega
  have n7 : (op == 7) = false := by simp; omega
  have n8 : (op == 8) = false := by simp; omega
  have n9 : (op == 9) = false := by simp; omega
  have n10 : (op == 10) = false := by simp; omega
  clear h
  go_wp2_with (first | go_step3)
  go_ret
  exact ⟨ret_bool HE.out.symm, HB.out _⟩
end Go.Proofs.Ytaoonjamlcdfaaa
