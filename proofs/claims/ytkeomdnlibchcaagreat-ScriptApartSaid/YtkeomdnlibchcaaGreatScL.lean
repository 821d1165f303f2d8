/-
  The fixed case that each statement asks answers true; no condition.
-/
import Derived.Test.YtkeomdnlibchcaaGreatScW0
import Derived.Test.YtkeomdnlibchcaaGreatScR0
import Derived.Test.YtkeomdnlibchcaaGreatScW1
import Derived.Test.YtkeomdnlibchcaaGreatScR1
import Derived.Test.YtkeomdnlibchcaaGreatScW2
import Derived.Test.YtkeomdnlibchcaaGreatScR2
namespace Go.Proofs.YtkeomdnlibchcaaGreat.scr
open Go.Ai
noncomputable def tab : Tab := [
  (41, [.string ⟨#[]⟩, .string ⟨#[3, 19]⟩, .int .i64 6, .int .i64 1048576], .tuple #[.string ⟨#[120, 156, 99, 22, 6, 0, 0, 27, 0, 23]⟩, .int .i64 0]),
  (41, [.string ⟨#[]⟩, .string ⟨#[6, 2, 4, 10]⟩, .int .i64 6, .int .i64 1048576], .tuple #[.string ⟨#[120, 156, 99, 99, 98, 225, 2, 0, 0, 52, 0, 23]⟩, .int .i64 0]),
  (41, [.string ⟨#[]⟩, .string ⟨#[4, 97, 98]⟩, .int .i64 6, .int .i64 1048576], .tuple #[.string ⟨#[120, 156, 99, 73, 76, 2, 0, 1, 51, 0, 200]⟩, .int .i64 0]),
  (44, [.string ⟨#[]⟩, .string ⟨#[120, 156, 99, 22, 6, 0, 0, 27, 0, 23]⟩, .int .i64 524288], .tuple #[.string ⟨#[3, 19]⟩, .int .i64 10, .int .i64 0]),
  (44, [.string ⟨#[]⟩, .string ⟨#[120, 156, 99, 99, 98, 225, 2, 0, 0, 52, 0, 23]⟩, .int .i64 524288], .tuple #[.string ⟨#[6, 2, 4, 10]⟩, .int .i64 12, .int .i64 0]),
  (44, [.string ⟨#[]⟩, .string ⟨#[120, 156, 99, 73, 76, 2, 0, 1, 51, 0, 200]⟩, .int .i64 524288], .tuple #[.string ⟨#[4, 97, 98]⟩, .int .i64 11, .int .i64 0])]
theorem tab_ok : ∀ e ∈ tab, Replies Tryz.prog e.1 e.2.1 e.2.2 ∧ ∃ g, Tryz.prog.funcs[e.1]? = some g ∧ g.body.isSome = true := by
  intro e h
  unfold tab at h
  simp only [List.mem_cons, List.not_mem_nil, or_false] at h
  rcases h with rfl | rfl | rfl | rfl | rfl | rfl
  · exact ⟨write0, _, Tryz.func41, rfl⟩
  · exact ⟨write1, _, Tryz.func41, rfl⟩
  · exact ⟨write2, _, Tryz.func41, rfl⟩
  · exact ⟨read0, _, Tryz.func44, rfl⟩
  · exact ⟨read1, _, Tryz.func44, rfl⟩
  · exact ⟨read2, _, Tryz.func44, rfl⟩
theorem fitsT : Fits Tryz.prog idf none1 tab := ⟨fits.names, fits.mixed, fits.idf, fun f h => (by cases h), tab_ok⟩
theorem alive_run : runs Tryz.prog idf none1 tab 100000 11 [] (.bool true) = (Value.bool true = .bool true) := by kernel_rfl
theorem alive_told : Replies Tryz.prog 11 [] (.bool true) := (runs_of alive_run).told fitsT rfl rfl
end Go.Proofs.YtkeomdnlibchcaaGreat.scr
