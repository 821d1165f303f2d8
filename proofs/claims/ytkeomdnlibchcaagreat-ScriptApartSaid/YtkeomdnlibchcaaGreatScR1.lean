/-
  What a column that was squeezed is read as, run whole; no condition.
-/
import Derived.Test.YtkeomdnlibchcaaGreatScA
namespace Go.Proofs.YtkeomdnlibchcaaGreat.scr
open Go.Ai
theorem read1_run : runs Tryz.prog idf none1 [] 100000 44 [.string ⟨#[]⟩, .string ⟨#[120, 156, 99, 99, 98, 225, 2, 0, 0, 52, 0, 23]⟩, .int .i64 524288] (.tuple #[.string ⟨#[6, 2, 4, 10]⟩, .int .i64 12, .int .i64 0]) = ((.tuple #[.string ⟨#[6, 2, 4, 10]⟩, .int .i64 12, .int .i64 0] : Value) = .tuple #[.string ⟨#[6, 2, 4, 10]⟩, .int .i64 12, .int .i64 0]) := by kernel_rfl
theorem read1 : Replies Tryz.prog 44 [.string ⟨#[]⟩, .string ⟨#[120, 156, 99, 99, 98, 225, 2, 0, 0, 52, 0, 23]⟩, .int .i64 524288] (.tuple #[.string ⟨#[6, 2, 4, 10]⟩, .int .i64 12, .int .i64 0]) := (runs_of read1_run).told fits rfl rfl
end Go.Proofs.YtkeomdnlibchcaaGreat.scr
