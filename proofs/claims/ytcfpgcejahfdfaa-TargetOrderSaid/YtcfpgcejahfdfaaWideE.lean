/- Two wide numbers compared by ==. -/
import Derived.Test.YtcfpgcejahfdfaaWideM
import Derived.Test.YtcfpgcejahfdfaaShelf
import Derived.ChangeKeysEq
namespace Go.Proofs.Ytcfpgcejahfdfaa
open Go.RowKit
set_option linter.unusedVariables false
set_option linter.unusedSimpArgs false

@[go_sem] theorem run_equalIn_wide (w : World) (x0 x1 x2 x3 y0 y1 y2 y3 : Int) :
    (Op.equalIn 10000 44 (.agg #[.int .u64 x0, .int .u64 x1, .int .u64 x2, .int .u64 x3]) (.agg #[.int .u64 y0, .int .u64 y1, .int .u64 y2, .int .u64 y3])).run Try.prog w = .ok (x0 == y0 && (x1 == y1 && (x2 == y2 && x3 == y3))) w := by
  have hu : Program.underlying Try.prog 24 = some (.int .u64) := by kernel_rfl
  have ht : Program.underlying Try.prog 44 = some (.array 4 24) := by kernel_rfl
  have hi : ∃ i, (Try.prog).info? 24 = some i := Option.isSome_iff_exists.1 (by kernel_rfl)
  obtain ⟨i, hi⟩ := hi
  have hc : Program.cellsOf Try.prog 24 = 1 := by kernel_rfl
  rw [run_equalIn_array w 9999 _ _ ht hi, hc]
  have p : ∀ (a b c d : Int) (w : World), (part 24 #[Value.int .u64 a, .int .u64 b, .int .u64 c, .int .u64 d] 0).run Try.prog w = .ok (.int .u64 a) w ∧ (part 24 #[Value.int .u64 a, .int .u64 b, .int .u64 c, .int .u64 d] 1).run Try.prog w = .ok (.int .u64 b) w ∧ (part 24 #[Value.int .u64 a, .int .u64 b, .int .u64 c, .int .u64 d] 2).run Try.prog w = .ok (.int .u64 c) w ∧ (part 24 #[Value.int .u64 a, .int .u64 b, .int .u64 c, .int .u64 d] 3).run Try.prog w = .ok (.int .u64 d) w := fun a b c d w => by
    refine ⟨?_, ?_, ?_, ?_⟩ <;> simp [part, isAgg, run_underlying hu]
  have q : ∀ (a b : Int) (w : World), (Op.equalIn 9999 24 (.int .u64 a) (.int .u64 b)).run Try.prog w = .ok (a == b) w := fun a b w => run_equalIn_int w 9998 _ _ _ _ _ hu
  have p0 := fun a b c d w => (p a b c d w).1
  have p1 := fun a b c d w => (p a b c d w).2.1
  have p2 := fun a b c d w => (p a b c d w).2.2.1
  have p3 := fun a b c d w => (p a b c d w).2.2.2
  clear p
  simp only [show List.range 4 = [0, 1, 2, 3] by decide, Op.eqItems, Sem.run_bind, Nat.mul_one, p0, p1, p2, p3, q, Result.andThen_ok]
  generalize (x0 == y0) = b0
  cases b0
  · simp only [Sem.run_bind, Sem.run_ite, Sem.run_pure, Op.eqItems, Result.andThen_ok, Bool.not_false, Bool.not_true, if_true, if_false, Bool.false_and, Bool.true_and, Bool.false_eq_true, ite_true, ite_false, reduceIte, p0, p1, p2, p3, q]
  simp only [Sem.run_bind, Sem.run_ite, Sem.run_pure, Op.eqItems, Result.andThen_ok, Bool.not_false, Bool.not_true, if_true, if_false, Bool.false_and, Bool.true_and, Bool.false_eq_true, ite_true, ite_false, reduceIte, p0, p1, p2, p3, q]
  generalize (x1 == y1) = b1
  cases b1
  · simp only [Sem.run_bind, Sem.run_ite, Sem.run_pure, Op.eqItems, Result.andThen_ok, Bool.not_false, Bool.not_true, if_true, if_false, Bool.false_and, Bool.true_and, Bool.false_eq_true, ite_true, ite_false, reduceIte, p0, p1, p2, p3, q]
  simp only [Sem.run_bind, Sem.run_ite, Sem.run_pure, Op.eqItems, Result.andThen_ok, Bool.not_false, Bool.not_true, if_true, if_false, Bool.false_and, Bool.true_and, Bool.false_eq_true, ite_true, ite_false, reduceIte, p0, p1, p2, p3, q]
  generalize (x2 == y2) = b2
  cases b2
  · simp only [Sem.run_bind, Sem.run_ite, Sem.run_pure, Op.eqItems, Result.andThen_ok, Bool.not_false, Bool.not_true, if_true, if_false, Bool.false_and, Bool.true_and, Bool.false_eq_true, ite_true, ite_false, reduceIte, p0, p1, p2, p3, q]
  simp only [Sem.run_bind, Sem.run_ite, Sem.run_pure, Op.eqItems, Result.andThen_ok, Bool.not_false, Bool.not_true, if_true, if_false, Bool.false_and, Bool.true_and, Bool.false_eq_true, ite_true, ite_false, reduceIte, p0, p1, p2, p3, q]
  generalize (x3 == y3) = b3
  cases b3
  · simp only [Sem.run_bind, Sem.run_ite, Sem.run_pure, Op.eqItems, Result.andThen_ok, Bool.not_false, Bool.not_true, if_true, if_false, Bool.false_and, Bool.true_and, Bool.false_eq_true, ite_true, ite_false, reduceIte, p0, p1, p2, p3, q]
  simp only [Sem.run_bind, Sem.run_ite, Sem.run_pure, Op.eqItems, Result.andThen_ok, Bool.not_false, Bool.not_true, if_true, if_false, Bool.false_and, Bool.true_and, Bool.false_eq_true, ite_true, ite_false, reduceIte, p0, p1, p2, p3, q]
end Go.Proofs.Ytcfpgcejahfdfaa
