/-
  The evaluator's knowledge of a program, read off the program; and what a run of it says; no condition.
-/
import Derived.Test.YtmdjlmlgiakliaaAiX
import Derived.Test.YtmdjlmlgiakliaaAiU
namespace Go.Ai
open Go.RowKit (Below)
noncomputable section

/-- What is known of a program, but for calls that are told. -/
def mkEnv (P : Program) (sum : FuncId → List Value → Option Value) : Env :=
  let n := P.types.size
  let ut := T.ofList ((List.range n).map P.underlying) 0 .leaf
  let st := T.ofList (P.types.toList.map (·.size)) 0 .leaf
  let bt := T.ofList (P.types.toList.map (·.bytes)) 0 .leaf
  let zt := T.ofList (P.types.toList.map (·.zero)) 0 .leaf
  let ft := T.ofList (P.funcs.toList.map fun g => g.body.map fun b => ({ body := b, n := g.ntmps, res := g.results.toList } : AFn)) 0 .leaf
  { P := P, u := fun t => (ut.get (path t)).join, sz := fun t => st.get (path t), bytes := fun t => bt.get (path t), z := fun t => (zt.get (path t)).join,
    fn := fun f => (ft.get (path f)).join, idf := fun _ => false, sum := sum }

theorem ofList_get {α : Type} (l : List α) (i : Nat) : (T.ofList l 0 .leaf).get (path i) = l[i]? := by
  rw [T.get_ofList]
  by_cases h : i < l.length
  · rw [if_pos (by omega)]; simp
  · rw [if_neg (by omega), List.getElem?_eq_none (by omega)]; rfl

/-- No function with a body is the one that the model answers itself. -/
def namesOk (P : Program) : Bool := P.funcs.toList.all fun g => g.body.isNone || !(g.name == "runtime.NumGoroutine")

theorem mkEnv_ok {P : Program} (sum : FuncId → List Value → Option Value) (hN : namesOk P = true) : (mkEnv P sum).Ok := by
  refine ⟨fun t d h => ?_, fun t n h => ?_, fun t n h => ?_, fun t v h => ?_, fun f af h => ?_, fun f h => by cases h⟩
  · have h : ((T.ofList ((List.range P.types.size).map P.underlying) 0 .leaf).get (path t)).join = some d := h
    rw [ofList_get] at h
    show P.underlying t = some d
    by_cases ht : t < P.types.size
    · simpa [ht] using h
    · rw [List.getElem?_eq_none (by simpa using ht)] at h; cases h
  · have h : (T.ofList (P.types.toList.map (·.size)) 0 .leaf).get (path t) = some n := h
    rw [ofList_get, List.getElem?_map] at h
    cases hi : P.types.toList[t]? with
    | none => rw [hi] at h; cases h
    | some i =>
      rw [hi] at h
      refine ⟨i, ?_, by simpa using h⟩
      have : t < P.types.size := by simpa using (List.getElem?_eq_some_iff.1 hi).1
      show P.info? t = some i
      unfold Tables.info?
      rw [if_pos this]
      simpa using hi
  · have h : (T.ofList (P.types.toList.map (·.bytes)) 0 .leaf).get (path t) = some n := h
    rw [ofList_get, List.getElem?_map] at h
    cases hi : P.types.toList[t]? with
    | none => rw [hi] at h; cases h
    | some i =>
      rw [hi] at h
      refine ⟨i, ?_, by simpa using h⟩
      have : t < P.types.size := by simpa using (List.getElem?_eq_some_iff.1 hi).1
      show P.info? t = some i
      unfold Tables.info?
      rw [if_pos this]
      simpa using hi
  · have h : ((T.ofList (P.types.toList.map (·.zero)) 0 .leaf).get (path t)).join = some v := h
    rw [ofList_get, List.getElem?_map] at h
    cases hi : P.types.toList[t]? with
    | none => rw [hi] at h; cases h
    | some i =>
      rw [hi] at h
      refine ⟨i, ?_, by simpa using h⟩
      have : t < P.types.size := by simpa using (List.getElem?_eq_some_iff.1 hi).1
      show P.info? t = some i
      unfold Tables.info?
      rw [if_pos this]
      simpa using hi
  · have h : ((T.ofList (P.funcs.toList.map fun g => g.body.map fun b => ({ body := b, n := g.ntmps, res := g.results.toList } : AFn)) 0 .leaf).get (path f)).join = some af := h
    rw [ofList_get, List.getElem?_map] at h
    cases hg : P.funcs.toList[f]? with
    | none => rw [hg] at h; cases h
    | some g =>
      rw [hg] at h
      cases hb : g.body with
      | none => simp [hb] at h
      | some b =>
        simp only [Option.map_some, hb, Option.join_some, Option.some.injEq] at h
        subst h
        have hf : P.funcs[f]? = some g := by simpa using hg
        refine ⟨g, hf, hb, rfl, rfl, fun args w => ?_⟩
        have hn : ¬ g.name = "runtime.NumGoroutine" := by
          have := List.all_eq_true.1 hN g (List.mem_of_getElem? hg)
          simpa [hb] using this
        show (callFunc f args).run P w = .ok (.enter f args) w
        unfold callFunc
        simp [hf, hn, hb]

theorem noSum_ok {P : Program} : (mkEnv P fun _ _ => none).SumOk := fun f l v h => by cases h

/-- What a program must be, to be run so. -/
structure PlainProg (P : Program) : Prop where
  names : namesOk P = true
  mixed : P.follows .mixedOrders = true

theorem aw_ok {P : Program} (hP : PlainProg P) {sum : FuncId → List Value → Option Value} (hS : (mkEnv P sum).SumOk) (n : Nat) : SoundC (mkEnv P sum) (aw (mkEnv P sum) n) :=
  have hE := mkEnv_ok sum hP.names
  aw_sound hE hS (strOk hE) (draws_ok hE hS (strOk hE) hP.mixed) n

/-- The empty relation. -/
theorem rel_empty (w : World) : Rel (fun _ => none) w.heap.size AHeap.empty w := by
  refine ⟨Nat.le_refl _, ?_, ?_, ?_, ?_⟩
  · intro id i h; cases h
  · intro id i h; cases h
  · intro id i o h; cases h
  · intro id id' i i' h; cases h

/-- ████ A call that is handed nothing that lies in memory: what the evaluator says of it is so. -/
theorem calls_of {P : Program} (hP : PlainProg P) {sum : FuncId → List Value → Option Value} (hS : (mkEnv P sum).SumOk) {n : Nat} {f : FuncId} {args : List Value} (ha : scalars args = true) {K : VK}
    (h : acall (mkEnv P sum) (aw (mkEnv P sum) n) f args AHeap.empty K) (w : World) :
    Calls P f args.toArray w fun e w' => ∃ v', e = .returned v' ∧ Below w.heap.size w w' ∧ ∃ v H m, K v H ∧ VRel m v v' := by
  refine (acall_sound (mkEnv_ok sum hP.names) hS (aw_ok hP hS n) h (rel_empty w) (.scalars ha)).mono ?_
  rintro e w' ⟨v', rfl, v, H', m', hK, hv, _, hE⟩
  exact ⟨v', rfl, hE.below, v, H', m', hK, hv⟩
end
end Go.Ai
