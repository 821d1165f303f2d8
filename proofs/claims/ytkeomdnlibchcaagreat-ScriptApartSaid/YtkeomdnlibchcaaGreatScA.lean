/-
  What is known of the program beside its text: one function hands back what it is handed; no condition.
-/
import Derived.Test.YtkeomdnlibchcaaGreatProg
import Derived.Test.YtkeomdnlibchcaaGreatAiZ
import Derived.KernelRfl
import Derived.Laws.Externs
namespace Go.Proofs.YtkeomdnlibchcaaGreat.scr
open Go.Ai
/-- 'internal/abi.NoEscape'. -/
noncomputable def idf : FuncId → Bool := fun f => Nat.beq f 68
theorem idf_ok : ∀ f, idf f = true → ∀ x w, (callFunc f #[x]).run Tryz.prog w = .ok (.value x) w := by
  intro f h x w
  obtain rfl : f = 68 := Nat.eq_of_beq_eq_true h
  rw [run_callFunc_extern Tryz.func68 (by kernel_rfl) (by kernel_rfl) (by kernel_rfl) (e := Extern.AbiNoEscape.same) (by kernel_rfl)]
  rfl
theorem fits : Fits Tryz.prog idf none1 := ⟨by kernel_rfl, by kernel_rfl, idf_ok, fun f h => (by cases h), fun e h => (by simp at h)⟩
end Go.Proofs.YtkeomdnlibchcaaGreat.scr
