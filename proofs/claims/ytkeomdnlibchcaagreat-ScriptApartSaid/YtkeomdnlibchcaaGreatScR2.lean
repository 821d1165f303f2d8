/-
  What a column that was squeezed is read as, run whole; no condition.
-/
import Derived.Test.YtkeomdnlibchcaaGreatScA
namespace Go.Proofs.YtkeomdnlibchcaaGreat.scr
open Go.Ai
theorem read2_run : runs Tryz.prog idf none1 [] 100000 44 [.string ⟨#[]⟩, .string ⟨#[120, 156, 99, 73, 76, 2, 0, 1, 51, 0, 200]⟩, .int .i64 524288] (.tuple #[.string ⟨#[4, 97, 98]⟩, .int .i64 11, .int .i64 0]) = ((.tuple #[.string ⟨#[4, 97, 98]⟩, .int .i64 11, .int .i64 0] : Value) = .tuple #[.string ⟨#[4, 97, 98]⟩, .int .i64 11, .int .i64 0]) := by kernel_rfl
theorem read2 : Replies Tryz.prog 44 [.string ⟨#[]⟩, .string ⟨#[120, 156, 99, 73, 76, 2, 0, 1, 51, 0, 200]⟩, .int .i64 524288] (.tuple #[.string ⟨#[4, 97, 98]⟩, .int .i64 11, .int .i64 0]) := (runs_of read2_run).told fits rfl rfl
end Go.Proofs.YtkeomdnlibchcaaGreat.scr
