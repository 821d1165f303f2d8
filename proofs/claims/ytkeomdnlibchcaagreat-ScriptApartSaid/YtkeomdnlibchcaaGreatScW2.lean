/-
  What a column is squeezed to, run whole; no condition.
-/
import Derived.Test.YtkeomdnlibchcaaGreatScA
namespace Go.Proofs.YtkeomdnlibchcaaGreat.scr
open Go.Ai
theorem write2_run : runs Tryz.prog idf none1 [] 100000 41 [.string ⟨#[]⟩, .string ⟨#[4, 97, 98]⟩, .int .i64 6, .int .i64 1048576] (.tuple #[.string ⟨#[120, 156, 99, 73, 76, 2, 0, 1, 51, 0, 200]⟩, .int .i64 0]) = ((.tuple #[.string ⟨#[120, 156, 99, 73, 76, 2, 0, 1, 51, 0, 200]⟩, .int .i64 0] : Value) = .tuple #[.string ⟨#[120, 156, 99, 73, 76, 2, 0, 1, 51, 0, 200]⟩, .int .i64 0]) := by kernel_rfl
theorem write2 : Replies Tryz.prog 41 [.string ⟨#[]⟩, .string ⟨#[4, 97, 98]⟩, .int .i64 6, .int .i64 1048576] (.tuple #[.string ⟨#[120, 156, 99, 73, 76, 2, 0, 1, 51, 0, 200]⟩, .int .i64 0]) := (runs_of write2_run).told fits rfl rfl
end Go.Proofs.YtkeomdnlibchcaaGreat.scr
