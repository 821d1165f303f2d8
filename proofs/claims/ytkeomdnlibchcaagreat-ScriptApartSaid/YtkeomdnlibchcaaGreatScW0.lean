/-
  What a column is squeezed to, run whole; no condition.
-/
import Derived.Test.YtkeomdnlibchcaaGreatScA
namespace Go.Proofs.YtkeomdnlibchcaaGreat.scr
open Go.Ai
theorem write0_run : runs Tryz.prog idf none1 [] 100000 41 [.string ⟨#[]⟩, .string ⟨#[3, 19]⟩, .int .i64 6, .int .i64 1048576] (.tuple #[.string ⟨#[120, 156, 99, 22, 6, 0, 0, 27, 0, 23]⟩, .int .i64 0]) = ((.tuple #[.string ⟨#[120, 156, 99, 22, 6, 0, 0, 27, 0, 23]⟩, .int .i64 0] : Value) = .tuple #[.string ⟨#[120, 156, 99, 22, 6, 0, 0, 27, 0, 23]⟩, .int .i64 0]) := by kernel_rfl
theorem write0 : Replies Tryz.prog 41 [.string ⟨#[]⟩, .string ⟨#[3, 19]⟩, .int .i64 6, .int .i64 1048576] (.tuple #[.string ⟨#[120, 156, 99, 22, 6, 0, 0, 27, 0, 23]⟩, .int .i64 0]) := (runs_of write0_run).told fits rfl rfl
end Go.Proofs.YtkeomdnlibchcaaGreat.scr
