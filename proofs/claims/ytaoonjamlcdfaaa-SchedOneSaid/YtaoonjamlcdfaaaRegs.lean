/-
  Two sessions' registers, compared.
-/
import Derived.ChangeKeysEq
import Derived.Test.YtaoonjamlcdfaaaSess
namespace Go.Proofs.Ytaoonjamlcdfaaa
open Go.RowKit

theorem arr3 : ∃ i, Try.prog.info? 3 = some i := by
  cases h : Try.prog.info? 3 with
  | some i => exact ⟨i, rfl⟩
  | none =>
    have : (Try.prog.info? 3).isSome = true := by kernel_rfl
    rw [h] at this
    cases this
theorem key3 : Try.prog.plainKey 3 = true := by kernel_rfl
theorem cells3 : Try.prog.cellsOf 3 = 1 := by kernel_rfl

set_option maxRecDepth 100000 in
theorem regs_eq (w : World) (a b c d a' b' c' d' : Int) :
    (Op.equalIn 10000 58 (.agg #[.int .i64 a, .int .i64 b, .int .i64 c, .int .i64 d]) (.agg #[.int .i64 a', .int .i64 b', .int .i64 c', .int .i64 d'])).run Try.prog w = .ok (decide ([a, b, c, d] = [a', b', c', d'])) w := by
  obtain ⟨i, hi⟩ := arr3
  rw [run_equalIn_array w 9999 _ _ Try.underlying58 hi, cells3]
  have q0 : ∀ x0 x1 x2 x3 : Value, (part 3 #[x0, x1, x2, x3] 0).run Try.prog w = .ok x0 w := fun _ _ _ _ => run_part_plain w key3 rfl
  have q1 : ∀ x0 x1 x2 x3 : Value, (part 3 #[x0, x1, x2, x3] 1).run Try.prog w = .ok x1 w := fun _ _ _ _ => run_part_plain w key3 rfl
  have q2 : ∀ x0 x1 x2 x3 : Value, (part 3 #[x0, x1, x2, x3] 2).run Try.prog w = .ok x2 w := fun _ _ _ _ => run_part_plain w key3 rfl
  have q3 : ∀ x0 x1 x2 x3 : Value, (part 3 #[x0, x1, x2, x3] 3).run Try.prog w = .ok x3 w := fun _ _ _ _ => run_part_plain w key3 rfl
  have he : ∀ x y : Int, (Op.equalIn 9999 3 (.int .i64 x) (.int .i64 y)).run Try.prog w = .ok (x == y) w := fun x y => run_equalIn_int w 9998 3 .i64 .i64 x y Try.underlying3
  rw [show List.range 4 = [0, 1, 2, 3] from rfl]
  by_cases h0 : a = a'
  · by_cases h1 : b = b'
    · by_cases h2 : c = c'
      · by_cases h3 : d = d'
        · simp [Op.eqItems, q0, q1, q2, q3, he, h0, h1, h2, h3]
        · simp [Op.eqItems, q0, q1, q2, q3, he, h0, h1, h2, h3]
      · simp [Op.eqItems, q0, q1, q2, he, h0, h1, h2]
    · simp [Op.eqItems, q0, q1, he, h0, h1]
  · simp [Op.eqItems, q0, he, h0]
end Go.Proofs.Ytaoonjamlcdfaaa
