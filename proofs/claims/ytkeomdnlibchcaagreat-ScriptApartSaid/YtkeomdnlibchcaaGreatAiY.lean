/-
  The evaluator's knowledge of a program, read off the program; and what a run of it says; no condition.
-/
import Derived.Test.YtkeomdnlibchcaaGreatAiX
import Derived.Test.YtkeomdnlibchcaaGreatAiU
namespace Go.Ai
open Go.RowKit (Below)
noncomputable section

/-- What is known of a program, but for calls that are told. -/
def mkEnvC (P : Program) (idf : FuncId → Bool) (sum : FuncId → List Value → Option Value) (con : FuncId → Bool) (call : FuncId → List Value → AHeap → (Value → AHeap → Prop) → Prop) : Env :=
  let n := P.types.size
  let ut := T.ofList ((List.range n).map P.underlying) 0 .leaf
  let st := T.ofList (P.types.toList.map (·.size)) 0 .leaf
  let bt := T.ofList (P.types.toList.map (·.bytes)) 0 .leaf
  let zt := T.ofList (P.types.toList.map (·.zero)) 0 .leaf
  let ft := T.ofList (P.funcs.toList.map fun g => g.body.map fun b => ({ body := b, n := g.ntmps, res := g.results.toList } : AFn)) 0 .leaf
  { P := P, u := fun t => (ut.get (path t)).join, sz := fun t => st.get (path t), bytes := fun t => bt.get (path t), z := fun t => (zt.get (path t)).join,
    fn := fun f => (ft.get (path f)).join, idf := idf, sum := sum, con := con, call := call }

theorem ofList_get {α : Type} (l : List α) (i : Nat) : (T.ofList l 0 .leaf).get (path i) = l[i]? := by
  rw [T.get_ofList]
  by_cases h : i < l.length
  · rw [if_pos (by omega)]; simp
  · rw [if_neg (by omega), List.getElem?_eq_none (by omega)]; rfl

/-- No function with a body is the one that the model answers itself. -/
def namesOk (P : Program) : Bool := P.funcs.toList.all fun g => g.body.isNone || !(g.name == "runtime.NumGoroutine")

theorem mkEnv_ok {P : Program} {idf : FuncId → Bool} (sum : FuncId → List Value → Option Value) (con : FuncId → Bool) (call : FuncId → List Value → AHeap → (Value → AHeap → Prop) → Prop) (hN : namesOk P = true)
    (hI : ∀ f, idf f = true → ∀ x w, (callFunc f #[x]).run P w = .ok (.value x) w) : (mkEnvC P idf sum con call).Ok := by
  refine ⟨fun t d h => ?_, fun t n h => ?_, fun t n h => ?_, fun t v h => ?_, fun f af h => ?_, hI⟩
  · have h : ((T.ofList ((List.range P.types.size).map P.underlying) 0 .leaf).get (path t)).join = some d := h
    rw [ofList_get] at h
    show P.underlying t = some d
    by_cases ht : t < P.types.size
    · simpa [ht] using h
    · rw [List.getElem?_eq_none (by simpa using ht)] at h; cases h
  · have h : (T.ofList (P.types.toList.map (·.size)) 0 .leaf).get (path t) = some n := h
    rw [ofList_get, List.getElem?_map] at h
    cases hi : P.types.toList[t]? with
    | none => rw [hi] at h; cases h
    | some i =>
      rw [hi] at h
      refine ⟨i, ?_, by simpa using h⟩
      have : t < P.types.size := by simpa using (List.getElem?_eq_some_iff.1 hi).1
      show P.info? t = some i
      unfold Tables.info?
      rw [if_pos this]
      simpa using hi
  · have h : (T.ofList (P.types.toList.map (·.bytes)) 0 .leaf).get (path t) = some n := h
    rw [ofList_get, List.getElem?_map] at h
    cases hi : P.types.toList[t]? with
    | none => rw [hi] at h; cases h
    | some i =>
      rw [hi] at h
      refine ⟨i, ?_, by simpa using h⟩
      have : t < P.types.size := by simpa using (List.getElem?_eq_some_iff.1 hi).1
      show P.info? t = some i
      unfold Tables.info?
      rw [if_pos this]
      simpa using hi
  · have h : ((T.ofList (P.types.toList.map (·.zero)) 0 .leaf).get (path t)).join = some v := h
    rw [ofList_get, List.getElem?_map] at h
    cases hi : P.types.toList[t]? with
    | none => rw [hi] at h; cases h
    | some i =>
      rw [hi] at h
      refine ⟨i, ?_, by simpa using h⟩
      have : t < P.types.size := by simpa using (List.getElem?_eq_some_iff.1 hi).1
      show P.info? t = some i
      unfold Tables.info?
      rw [if_pos this]
      simpa using hi
  · have h : ((T.ofList (P.funcs.toList.map fun g => g.body.map fun b => ({ body := b, n := g.ntmps, res := g.results.toList } : AFn)) 0 .leaf).get (path f)).join = some af := h
    rw [ofList_get, List.getElem?_map] at h
    cases hg : P.funcs.toList[f]? with
    | none => rw [hg] at h; cases h
    | some g =>
      rw [hg] at h
      cases hb : g.body with
      | none => simp [hb] at h
      | some b =>
        simp only [Option.map_some, hb, Option.join_some, Option.some.injEq] at h
        subst h
        have hf : P.funcs[f]? = some g := by simpa using hg
        refine ⟨g, hf, hb, rfl, rfl, fun args w => ?_⟩
        have hn : ¬ g.name = "runtime.NumGoroutine" := by
          have := List.all_eq_true.1 hN g (List.mem_of_getElem? hg)
          simpa [hb] using this
        show (callFunc f args).run P w = .ok (.enter f args) w
        unfold callFunc
        simp [hf, hn, hb]

/-- Code, and calls, as the evaluator speaks of them: what the machine does meets what is asked. -/
structure Does (P : Program) (c : Code) (a : AAct) (H : AHeap) (K : CK) : Prop where
  h : ∀ m n0 w act, Rel m n0 H w → ARel m a act → W P a.rnd c (PC n0 m H w a.rnd K) act w
structure Ans (P : Program) (f : FuncId) (args : List Value) (H : AHeap) (K : VK) : Prop where
  h : ∀ m n0 w args', Rel m n0 H w → LRel m args args' → Calls P f args'.toArray w fun e w' => ∃ v, e = .returned v ∧ PV n0 m H w K v w'

/-- What is told of a call with such values: it answers such a value. -/
structure Replies (P : Program) (f : FuncId) (l : List Value) (v : Value) : Prop where
  sl : scalars l = true
  sv : scalar v = true
  h : ∀ w, Calls P f l.toArray w fun e w' => e = .returned v ∧ Below w.heap.size w w'
abbrev Tab := List (FuncId × List Value × Value)
def tabSum (t : Tab) : FuncId → List Value → Option Value :=
  List.rec (motive := fun _ => FuncId → List Value → Option Value) (fun _ _ => none)
    (fun e _ ih f l => Bool.rec (motive := fun _ => Option Value) (ih f l) (Bool.rec (motive := fun _ => Option Value) (ih f l) (some e.2.2) (sames l e.2.1)) (Nat.beq f e.1)) t
theorem tabSum_mem : ∀ (t : Tab) (f : FuncId) (l : List Value) (v : Value), tabSum t f l = some v → (f, l, v) ∈ t
  | [], f, l, v, h => by cases h
  | e :: t, f, l, v, h => by
    have h : Bool.rec (motive := fun _ => Option Value) (tabSum t f l) (Bool.rec (motive := fun _ => Option Value) (tabSum t f l) (some e.2.2) (sames l e.2.1)) (Nat.beq f e.1) = some v := h
    cases h1 : Nat.beq f e.1 with
    | false => rw [h1] at h; exact List.mem_cons_of_mem _ (tabSum_mem t f l v h)
    | true =>
      cases h2 : sames l e.2.1 with
      | false => rw [h1, h2] at h; exact List.mem_cons_of_mem _ (tabSum_mem t f l v h)
      | true =>
        rw [h1, h2] at h
        have h : some e.2.2 = some v := h
        cases h
        rw [Nat.eq_of_beq_eq_true h1, eq_of_sames h2]
        exact List.mem_cons_self ..

/-- What a program must be, to be run so: which functions hand back what they are handed, and which are called by what was shown of them. -/
structure Fits (P : Program) (idf con : FuncId → Bool) (tab : Tab := []) : Prop where
  names : namesOk P = true
  mixed : P.follows .mixedOrders = true
  idf : ∀ f, idf f = true → ∀ x w, (callFunc f #[x]).run P w = .ok (.value x) w
  con : ∀ f, con f = true → ∃ g, P.funcs[f]? = some g ∧ g.body.isSome = true
  tab : ∀ e ∈ tab, Replies P e.1 e.2.1 e.2.2 ∧ ∃ g, P.funcs[e.1]? = some g ∧ g.body.isSome = true

def env (P : Program) (idf con : FuncId → Bool) (tab : Tab := []) : Env := mkEnvC P idf (tabSum tab) con (Ans P)

section
variable {P : Program} {idf con : FuncId → Bool} {tab : Tab} (hF : Fits P idf con tab)
include hF

theorem Fits.ok : (env P idf con tab).Ok := mkEnv_ok _ _ _ hF.names hF.idf
theorem Fits.enters {f : FuncId} (h : ∃ g, P.funcs[f]? = some g ∧ g.body.isSome = true) (args : Array Value) (w : World) : (callFunc f args).run P w = .ok (.enter f args) w := by
  obtain ⟨g, hf, hb⟩ := h
  have hn : ¬ g.name = "runtime.NumGoroutine" := by
    have := List.all_eq_true.1 hF.names g (List.mem_of_getElem? (by simpa using hf))
    cases hg : g.body with
    | none => rw [hg] at hb; cases hb
    | some b => simpa [hg] using this
  unfold callFunc
  cases hg : g.body with
  | none => rw [hg] at hb; cases hb
  | some b => simp [hf, hn, hg]
theorem Fits.sum : (env P idf con tab).SumOk := by
  refine ⟨fun f l v h => ?_, fun f hc => ⟨fun args w => hF.enters (hF.con f hc) args w, fun args H K h m n0 w args' hR hl => h.h m n0 w args' hR hl⟩⟩
  obtain ⟨h1, h2⟩ := hF.tab _ (tabSum_mem tab f l v h)
  exact ⟨h1.sl, h1.sv, fun args w => hF.enters h2 args w, h1.h⟩
theorem Fits.str : (env P idf con tab).StrOk := strOk hF.ok
theorem Fits.draws : DrawsOk (env P idf con tab) := draws_ok hF.ok hF.sum hF.str hF.mixed

omit hF in
theorem does_sound : SoundC (env P idf con tab) (Does P) := fun _ _ _ _ h => h.h

/-- ████ The rule of code. -/
theorem Does.rule {c : Code} {a : AAct} {H : AHeap} {K : CK} (h : (rcode (env P idf con tab) c).f (Does P) a H K) : Does P c a H K :=
  ⟨fun m n0 w act hR hA => rcode_sound hF.ok hF.sum hF.str does_sound hF.draws c a H K h m n0 w act hR hA⟩

/-- ████ The rule of calls. -/
theorem Ans.rule {f : FuncId} {args : List Value} {H : AHeap} {K : VK} (h : acallWith (env P idf con tab) (Does P) (adefers (env P idf con tab) (Does P) 64) f args H K) : Ans P f args H K :=
  ⟨fun _ _ _ _ hR hl => (acallWith_sound hF.ok does_sound (adefers_sound hF.ok does_sound 64) h hR hl).calls⟩

/-- What is run whole. -/
theorem Does.run {n : Nat} {c : Code} {a : AAct} {H : AHeap} {K : CK} (h : aw (env P idf con tab) n c a H K) : Does P c a H K :=
  ⟨fun m n0 w act hR hA => aw_sound hF.ok hF.sum hF.str hF.draws n c a H K h m n0 w act hR hA⟩
theorem Ans.run {n : Nat} {f : FuncId} {args : List Value} {H : AHeap} {K : VK} (h : acall (env P idf con tab) (aw (env P idf con tab) n) f args H K) : Ans P f args H K :=
  ⟨fun _ _ _ _ hR hl => acall_sound hF.ok hF.sum (aw_sound hF.ok hF.sum hF.str hF.draws n) h hR hl⟩
end

section
variable {P : Program}
theorem Does.mono {c : Code} {a : AAct} {H : AHeap} {K K' : CK} (h : Does P c a H K) (hk : ∀ e a H, K e a H → K' e a H) : Does P c a H K' :=
  ⟨fun m n0 w act hR hA => (h.h m n0 w act hR hA).mono fun _ _ _ ⟨e', a', H', m', h1, h2⟩ => ⟨e', a', H', m', hk _ _ _ h1, h2⟩⟩
theorem Ans.mono {f : FuncId} {args : List Value} {H : AHeap} {K K' : VK} (h : Ans P f args H K) (hk : ∀ v H, K v H → K' v H) : Ans P f args H K' :=
  ⟨fun m n0 w args' hR hl => (h.h m n0 w args' hR hl).mono fun _ _ ⟨v, he, v', H', m', h1, h2⟩ => ⟨v, he, v', H', m', hk _ _ h1, h2⟩⟩

/-- A frame of which so much is known. -/
def fr (n : Nat) (l : List (Tmp × Value)) (ds : List Deferred) (r : Bool) : AAct := ⟨n, setAll l .leaf, ds, r⟩
/-- Less of a frame may be known. -/
theorem Does.less {c : Code} {a : AAct} {H : AHeap} {K : CK} (l : List (Tmp × Value)) (h : Does P c (fr a.n l a.ds a.rnd) H K) (hl : ∀ p ∈ l, a.tmp p.1 = p.2) : Does P c a H K := by
  refine ⟨fun m n0 w act hR hA => h.h m n0 w act hR ⟨hA.size, fun t => ?_, hA.ds⟩⟩
  rw [tmp_eq]
  show VRel m (((setAll l .leaf).get (path t)).getD poison) _
  rcases setAll_get l .leaf t with e | ⟨p, h1, h2, h3⟩
  · rw [e]; exact .top _ _
  · rw [h3]
    have := hl p h1
    rw [h2] at this
    rw [← this]
    exact hA.tmp t

/-- The empty relation. -/
theorem rel_empty (w : World) : Rel (fun _ => none) w.heap.size AHeap.empty w := by
  refine ⟨Nat.le_refl _, ?_, ?_, ?_, ?_⟩
  · intro id i h; cases h
  · intro id i h; cases h
  · intro id i o h; cases h
  · intro id id' i i' h; cases h

/-- What is told of a call, wherever it is made. -/
theorem Replies.ans {f : FuncId} {l : List Value} {v : Value} (h : Replies P f l v) {H : AHeap} {K : VK} (hK : K v H) : Ans P f l H K :=
  ⟨fun m n0 w args' hR hl => by
    rw [hl.eq_of_scalars h.sl]
    exact (h.h w).mono fun e w' ⟨he, hb⟩ => ⟨v, he, v, H, m, hK, .sc _ h.sv, hR.below hb, ⟨Emb.le_refl m, hb.mono hR.size, Untouched.refl _ _, Nat.le_refl _⟩⟩⟩
/-- ████ A call that is handed nothing that lies in memory. -/
theorem Ans.calls {f : FuncId} {args : List Value} {K : VK} (h : Ans P f args AHeap.empty K) (ha : scalars args = true) (w : World) :
    Calls P f args.toArray w fun e w' => ∃ v', e = .returned v' ∧ Below w.heap.size w w' ∧ ∃ v H m, K v H ∧ VRel m v v' :=
  (h.h _ _ w args (rel_empty w) (.scalars ha)).mono fun _ _ ⟨v', he, v, H', m', hK, hv, _, hE⟩ => ⟨v', he, hE.below, v, H', m', hK, hv⟩
theorem Ans.told {f : FuncId} {l : List Value} {v : Value} (h : Ans P f l AHeap.empty fun u _ => u = v) (hl : scalars l = true) (hv : scalar v = true) : Replies P f l v :=
  ⟨hl, hv, fun w => (h.calls hl w).mono fun e w' ⟨v', he, hb, u, H, m, hu, hr⟩ => by
    rw [hu] at hr
    rw [hr.eq_of_scalar hv] at he
    exact ⟨he, hb⟩⟩
end
end
end Go.Ai
