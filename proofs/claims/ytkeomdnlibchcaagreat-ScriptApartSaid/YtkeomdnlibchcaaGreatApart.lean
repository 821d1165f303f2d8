/-
  ScriptApart answers true whatever numbers and text it is handed; no condition.
-/
import Derived.Test.YtkeomdnlibchcaaGreatRows
import Derived.WalkKit
import Derived.ProofKit
import Derived.OpenShut
import Derived.Carry
import Derived.Test.YtkeomdnlibchcaaGreatScQ
import Derived.Test.YtkeomdnlibchcaaGreatScL
import Derived.Test.YtkeomdnlibchcaaGreatAiVf
namespace Go.Proofs.YtkeomdnlibchcaaGreat.scriptApart
open Go.Ai
open Go.ChangeShapes Go.WideShapes Go.ChangeAt Go.RowKit
open Go.ChangeMaps (open_string shut_string)

theorem own : ownKnob Tryz.prog.godebug = none := by kernel_rfl
theorem laidOut : laidOutB Tryz.prog = true := by kernel_rfl
theorem cells3 : Tryz.prog.cellsOf 3 = 1 := by kernel_rfl

section
variable (halive : Replies Tryz.prog 11 [] (.bool true))
include halive
theorem walk0 (s : ByteArray) (w : World) : Calls Tryz.prog 4 #[.slice none 0 0, .string s] w (Yes w) := by
  obtain ⟨⟨l⟩⟩ := s
  exact (scr.apart halive (ns := []) (be := l) (H := AHeap.empty) .nil (fun n h => by cases h) (K := fun v _ => v = .bool true) fun _ => rfl).yes rfl w
theorem walk1 (a : Addr) (len cap : Nat) (zs : List Int) (s : ByteArray) (w : World) (hv : a.spot = none ∧ ∃ c u fz, w.heap[a.block]? = some (.cells c u fz)) (hl : len ≤ cap) (hz : zs.length = cap)
    (hc : ∀ i, i < zs.length → w.cell? (a.add i) = some (.int .i64 (zs.getD i 0))) (hw : ∀ n ∈ zs, (Lit.int .i64 n).wf = true) : Calls Tryz.prog 4 #[.slice (some a) len cap, .string s] w (Yes w) := by
  obtain ⟨⟨l⟩⟩ := s
  obtain ⟨h1, c, u, fz, h2⟩ := hv
  obtain ⟨m', H', v, hR, _, hv, harr, _⟩ := ints_arg (rel_empty w) h1 h2 hl hz hc
  exact (scr.apart halive (ns := zs.take len) (be := l) harr (fun n h => Go.bounds_i64 (hw n (List.mem_of_mem_take h))) (K := fun v _ => v = .bool true) fun _ => rfl).yesR hR (.cons hv (.cons (.sc _ rfl) .nil))

/-! ### THE ROW's STEP: WRITTEN OUT: LEAVE IT -/
set_option maxRecDepth 100000 in
theorem lifted (os : Os) (started : os.Started) (H : Type) (enc : TypeId × Value → H) :
    ReturnsInHanded {} Tryz.checked os 4 .any (Rows.scriptApartSpec.pre6 enc Tryz.prog Tryz.f4 Rows.scriptApartRow.domain false) (Rows.scriptApartSpec.post enc Tryz.prog Tryz.f4 false true false false) := by
  refine returnsInHanded_of_change (C := Tryz.checked) own started (by kernel_rfl) Tryz.func4
    (ChangeSpec.witness6 (enc := enc) (C := Tryz.checked) false ⟨#[], #[.slice none 0 0, .string .empty], []⟩ 8 (by kernel_rfl) (by kernel_rfl) (by kernel_rfl) (by kernel_rfl)) ?_
  intro W base args ds gs before hval0 hW hcnd _
  have hval : ∀ (j : Nat) t v, Tryz.f4.params[j]? = some t → args[j]? = some v → Value.okWide Tryz.prog W .any base t v := hval0
  have hW' := hW
  obtain ⟨p, q, hA0, hV, rfl, hfz, hnd⟩ := hW
  have hA : DataW.TrodAll enc Tryz.prog W 0 (fun _ => true) true Tryz.f4.params.toList args.toList ds p := hA0
  rw [Tryz.params4] at hA hval
  obtain ⟨v0, vs0, d0, ds0, p0, q0, hargs, rfl, rfl, h0, r0⟩ := trodAll_cons hA
  obtain ⟨v1, vs1, d1, ds1, p1, q1, rfl, rfl, rfl, h1, r1⟩ := trodAll_cons r0
  obtain ⟨rfl, rfl, rfl⟩ := trodAll_nil r1
  obtain rfl : args = #[v0, v1] := by cases args; simp_all
  obtain ⟨rfl, rfl⟩ := trodVars_none hV
  obtain ⟨a0, len, cap, rfl⟩ := okWide_slice Tryz.underlying29 (hval 0 29 v0 rfl rfl)
  obtain ⟨a1, rfl, rfl, rfl, w1⟩ := open_string Tryz.underlying9 (hval 1 9 v1 rfl rfl) h1
  clear hA0
  simp only [List.append_nil] at hW'
  have hlt : ∀ x ∈ p0, x.block < W.heap.size := fun x hx => by simpa using hW'.lt x hx
  have hsl : ∀ (W' : World), Below W.heap.size W W' → DataW.Trod enc Tryz.prog W' 0 (fun b => decide (b < W.heap.size)) true 29 (.slice a0 len cap) d0 p0 :=
    fun W' hn => Below.trod laidOut (by kernel_rfl) (of_decide_eq_true (by kernel_rfl)) h0 hn hlt
  have hwalk : Calls Tryz.prog 4 #[.slice a0 len cap, .string a1] W (Yes W) := by
    have hok := hval 0 29 _ rfl rfl
    obtain ⟨fuel, hf⟩ := h0
    rcases open_ints Tryz.underlying29 Tryz.underlying3 cells3 hf with ⟨hcs, _⟩ | ⟨a, len', cap', zs, hcs, _, hl, hm, hz, _, hcell, hwz⟩
    · simp [Value.cells] at hcs
      obtain ⟨rfl, rfl, rfl⟩ := hcs
      exact walk0 halive a1 W
    · simp [Value.cells] at hcs
      obtain ⟨rfl, rfl, rfl⟩ := hcs
      simp only [if_true] at hz
      exact walk1 halive a len cap zs a1 W (okWide_block Tryz.underlying29 hok) hl hz hcell hwz
  refine hwalk.mono fun e W' ⟨he, hg⟩ => ?_
  subst he
  exact ⟨_, rfl, _, _, _, [], _, [], hW', trodAll_cons_mk (shut_bool Tryz.underlying4 _) trodAll_mk0, trodAll_cons_mk (hsl _ hg) (trodAll_cons_mk (shut_string Tryz.underlying9 w1) trodAll_mk0), rfl, hg.frame _, fun h => by cases h⟩

theorem over : Rows.scriptApartRow.holds Tryz.pinned (OpenSpec.ofChange Rows.scriptApartSpec) :=
  OpenClaim.holds_of_wide 4 Tryz.f4 rfl rfl rfl rfl rfl rfl rfl ⟨rfl, rfl, rfl, rfl, rfl⟩ rfl rfl rfl rfl rfl (by kernel_rfl) Tryz.func4 (by kernel_rfl)
    (of_decide_eq_true (by kernel_rfl)) (by unfold Func.isWrapper; first | (rw [if_pos (by decide +kernel)]; kernel_rfl) | (rw [if_neg (by decide +kernel)]; exact ⟨rfl, rfl⟩))
    (fun os started H enc _ => lifted halive os started H enc)
end

/-- ████ THE STATEMENT ████ -/
theorem proved : Rows.ScriptApartSaid :=
  over scr.alive_told
#print axioms proved
end Go.Proofs.YtkeomdnlibchcaaGreat.scriptApart
