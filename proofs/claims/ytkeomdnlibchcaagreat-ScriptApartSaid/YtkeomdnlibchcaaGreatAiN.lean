/-
  What the evaluator does to a call is what the machine does; no condition.
-/
import Derived.Test.YtkeomdnlibchcaaGreatAiM
namespace Go.Ai
open Go.RowKit (Below)

/-- What is asked behind a value, a piece of code, and calls that are made on leaving. -/
def PV (n0 : Nat) (m : Emb) (H : AHeap) (w : World) (K : VK) (v' : Value) (w' : World) : Prop :=
  ∃ v H' m', K v H' ∧ VRel m' v v' ∧ Rel m' n0 H' w' ∧ Ext n0 m m' H H' w w'
def XRel : AExit → Exit → Prop
  | .normal, .normal => True
  | .exit i, .exit j => i = j
  | .goto i, .goto j => i = j
  | .ret, .ret => True
  | _, _ => False
def PC (n0 : Nat) (m : Emb) (H : AHeap) (w : World) (rnd : Bool) (K : CK) : Exit → Act → World → Prop := fun e act' w' =>
  ∃ e' a' H' m', K e' a' H' ∧ XRel e' e ∧ ARel m' a' act' ∧ a'.rnd = rnd ∧ Rel m' n0 H' w' ∧ Ext n0 m m' H H' w w'

abbrev Rec := Code → AAct → AHeap → CK → Prop
def SoundC (E : Env) (rec : Rec) : Prop := ∀ c a H K, rec c a H K → ∀ m n0 w act, Rel m n0 H w → ARel m a act → W E.P a.rnd c (PC n0 m H w a.rnd K) act w
abbrev DCall := List Deferred → AHeap → (AHeap → Prop) → Prop
def SoundD (E : Env) (dcall : DCall) : Prop := ∀ ds H K, dcall ds H K → ∀ m n0 w ds', Rel m n0 H w → DsRel m ds ds' → ∀ (fr : Frame) (cs : List Frame), fr.mode = .returning → fr.defers = ds' →
  ∃ H' m' w', K H' ∧ Rel m' n0 H' w' ∧ Ext n0 m m' H H' w w' ∧ StepsIn Tr E.P (lone fr cs w) (lone { fr with defers := [] } cs w')

section
variable {E : Env} (hE : E.Ok) {m : Emb} {n0 : Nat} {H : AHeap} {w : World}

theorem PC.ext {rnd : Bool} {K : CK} {m' : Emb} {H' : AHeap} {w' : World} (h : Ext n0 m m' H H' w w') {e : Exit} {act : Act} {w2 : World} (k : PC n0 m' H' w' rnd K e act w2) : PC n0 m H w rnd K e act w2 :=
  let ⟨e', a', H2, m2, h1, h2, h3, h4, h5, h6⟩ := k
  ⟨e', a', H2, m2, h1, h2, h3, h4, h5, h.trans h6⟩

theorem aload_ptr {t : TypeId} {x : RV} {a : AAct} {v : Value} (h : (aload E t x).f a H = some v) : ∃ id off, x.f a = .pointer (some ⟨id, off, none⟩) := by
  unfold aload at h
  cases hu : E.u t with
  | none => simp [hu, rdNone] at h
  | some d =>
    cases hs : E.sz t with
    | none => simp [hu, hs, rdNone] at h
    | some n =>
      simp only [hu, hs] at h
      cases hd : aggB d <;> simp only [hd, cond_true, cond_false] at h <;> split at h <;> first | exact ⟨_, _, by assumption⟩ | cases h

def resOne (tmps : Array Value) : ResultVar → Sem Value
  | .tmp t => pure (tmps.getD t undef)
  | .cell a t => do loadVar t (← asAddr (tmps.getD a undef))

theorem results_eq (fn : Func) (tmps : Array Value) : results fn tmps = (do let vs ← fn.results.mapM (resOne tmps); pure (if h : vs.size = 1 then vs[0] else .tuple vs)) := by
  unfold results
  congr 1

theorem list_mapM_results (P : Program) (tmps : Array Value) : ∀ (l : List ResultVar) (a : AAct) (vs : List Value), E.Ok → Rel m n0 H w → (∀ t, VRel m (a.tmp t) (tmps.getD t undef)) → resVals E a H l = some vs → P = E.P →
    ∃ vs', (l.mapM (resOne tmps)).run P w = .ok vs' w ∧ LRel m vs vs'
  | [], a, vs, _, _, _, h, _ => by
    simp [resVals] at h
    subst h
    exact ⟨[], rfl, .nil⟩
  | .tmp t :: l, a, vs, hE, hR, ha, h, hP => by
    simp only [resVals] at h
    cases hq : resVals E a H l with
    | none => rw [hq] at h; cases h
    | some us =>
      rw [hq] at h
      cases h
      obtain ⟨us', h1, h2⟩ := list_mapM_results P tmps l a us hE hR ha hq hP
      refine ⟨_, ?_, .cons (ha t) h2⟩
      rw [List.mapM_cons]
      simp only [resOne, pure_bind, Sem.run_bind, h1, Result.andThen_ok, Sem.run_pure]
  | .cell x t :: l, a, vs, hE, hR, ha, h, hP => by
    simp only [resVals] at h
    cases hq : resVals E a H l with
    | none => rw [hq] at h; split at h <;> cases h
    | some us =>
      rw [hq] at h
      split at h
      · rename_i v hv
        cases h
        obtain ⟨us', h1, h2⟩ := list_mapM_results P tmps l a us hE hR ha hq hP
        obtain ⟨v', e1, e2⟩ := aload_sound hE hR (t := t) (x := rv (.tmp x)) (y := tmps.getD x undef) (ha x) hv
        have hptr : ∃ p, tmps.getD x undef = .pointer (some p) := by
          have hx := ha x
          have : ∃ id off, a.tmp x = .pointer (some ⟨id, off, none⟩) := aload_ptr (x := rv (.tmp x)) hv
          obtain ⟨id, off, hp⟩ := this
          rw [hp] at hx
          obtain ⟨i, _, hy⟩ := hx.ptr_inv
          exact ⟨_, hy⟩
        obtain ⟨p, hp⟩ := hptr
        rw [hp] at e2
        refine ⟨_, ?_, .cons e1 h2⟩
        rw [List.mapM_cons]
        subst hP
        have e3 : (loadVar t p).run E.P w = .ok v' w := by simpa [Instr.loadAt, Instr.sureAddr] using e2
        have e4 : (resOne tmps (.cell x t)).run E.P w = .ok v' w := by
          simp only [resOne, hp, asAddr, pure_bind, e3]
        simp only [Sem.run_bind, e4, h1, Result.andThen_ok, Sem.run_pure]
      · cases h

include hE in
theorem results_sound (hR : Rel m n0 H w) {a : AAct} {tmps : Array Value} (ha : ∀ t, VRel m (a.tmp t) (tmps.getD t undef)) {fn : Func} {l : List ResultVar} (hl : fn.results.toList = l) {vs : List Value} (h : resVals E a H l = some vs) :
    ∃ v', VRel m (tup vs) v' ∧ (results fn tmps).run E.P w = .ok v' w := by
  obtain ⟨vs', h1, h2⟩ := list_mapM_results E.P tmps l a vs hE hR ha h rfl
  have hf : fn.results = l.toArray := by rw [← hl]
  have : (results fn tmps).run E.P w = .ok (if h : vs'.toArray.size = 1 then vs'.toArray[0] else .tuple vs'.toArray) w := by
    rw [results_eq, hf, List.mapM_toArray]
    simp only [map_eq_pure_bind, bind_assoc, pure_bind, Sem.run_bind, h1, Result.andThen_ok, Sem.run_pure]
  refine ⟨_, ?_, this⟩
  cases h2 with
  | nil => exact .tup _ _ .nil
  | cons hv t =>
    cases t with
    | nil => exact hv
    | cons hv2 t2 =>
      rw [dif_neg (by simp)]
      exact .tup _ _ (.cons hv (.cons hv2 t2))

theorem enter_rel {args args' : List Value} (hl : LRel m args args') (n : Nat) : ARel m (enterA n args) { tmps := args'.toArray ++ Array.replicate (n - args'.length) undef, defers := [] } := by
  have hlen := hl.length
  refine ⟨?_, fun t => ?_, .nil⟩
  · show (args'.toArray ++ Array.replicate (n - args'.length) undef).size = max n args.length
    simp
    omega
  · rw [tmp_eq]
    show VRel m (((T.ofList args 0 .leaf).get (path t)).getD poison) _
    rw [T.get_ofList, Array.getD_eq_getD_getElem?]
    by_cases ht : t < args.length
    · rw [if_pos (by omega)]
      obtain ⟨u, h1, h2⟩ := hl.get (i := t) (List.getElem?_eq_getElem ht)
      rw [Array.getElem?_append_left (by simp; omega)]
      simp only [Nat.sub_zero, List.getElem?_toArray, h1, List.getElem?_eq_getElem ht, Option.getD_some]
      exact h2
    · rw [if_neg (by omega), T.get_leaf]
      exact .top _ _

end

/-- A call, made in whatever way: what it comes to. -/
def GoesTo (P : Program) (f : FuncId) (args : Array Value) (w : World) (R : Value → World → Prop) : Prop :=
  ∀ (kind : CallKind) (cs : List Frame), Quiet { (default : Frame) with kind } cs → ∃ v w' fr, R v w' ∧ StepsIn Tr P (lone (Frame.enter P f args kind) cs w) (lone fr cs w') ∧ fr.kind = kind ∧ fr.fn = f ∧ fr.going P w' (.returned v)

theorem GoesTo.calls {P : Program} {f : FuncId} {args : Array Value} {w : World} {R : Value → World → Prop} (h : GoesTo P f args w R) : Calls P f args w fun e w' => ∃ v, e = .returned v ∧ R v w' := by
  intro cs
  obtain ⟨v, w', fr, h1, h2, h3, h4, h5, h6, h7⟩ := h .normal cs (.inl rfl)
  exact ⟨.returned v, w', fr, ⟨v, rfl, h1⟩, StepsIn.steps h2, h4, h5, h6, h3, h4 ▸ h7⟩

section
variable {E : Env} (hE : E.Ok) {m : Emb} {n0 : Nat} {H : AHeap} {w : World}

include hE in
theorem acallWith_sound {rec : Rec} (hrec : SoundC E rec) {dcall : DCall} (hd : SoundD E dcall) {f : FuncId} {args args' : List Value} {K : VK} (h : acallWith E rec dcall f args H K) (hR : Rel m n0 H w) (hl : LRel m args args') :
    GoesTo E.P f args'.toArray w (PV n0 m H w K) := by
  unfold acallWith at h
  cases hf : E.fn f with
  | none => rw [hf] at h; exact h.elim
  | some af =>
    obtain ⟨body, n, res⟩ := af
    rw [hf] at h
    simp only at h
    obtain ⟨fn, hf1, hf2, hf3, hf4, hf5⟩ := hE.fn f _ hf
    simp only at hf2 hf3 hf4
    intro kind cs hq
    let b : Frame := { (default : Frame) with fn := f, kind }
    have henter : Frame.enter E.P f args'.toArray kind = b.atR { tmps := args'.toArray ++ Array.replicate (n - args'.length) undef, defers := [] } [.code body] := by
      simp [Frame.enter, Frame.atR, hf1, hf2, hf3, b]
      rfl
    obtain ⟨e, act', w', hQ, harr⟩ := hrec body (enterA n args) H _ h m n0 w _ hR (enter_rel hl n) b [] cs (.code body) rfl hq (.inl rfl)
    rw [← henter] at harr
    obtain ⟨e', a', H', m', hK, hX, hA, hrn, hR', hExt⟩ := hQ
    -- leaving
    have leave : ∀ (todo : List Item), StepsIn Tr E.P (lone (Frame.enter E.P f args'.toArray kind) cs w) (lone { b.atR act' todo with mode := .returning } cs w') → dcall a'.ds H' (fun H => afinish E res a' H K) →
        ∃ v w' fr, PV n0 m H w K v w' ∧ StepsIn Tr E.P (lone (Frame.enter E.P f args'.toArray kind) cs w) (lone fr cs w') ∧ fr.kind = kind ∧ fr.fn = f ∧ fr.going E.P w' (.returned v) := by
      intro todo hs hdc
      obtain ⟨H2, m2, w2, hfin, hR2, hExt2, hs2⟩ := hd _ _ _ hdc m' n0 w' act'.defers hR' hA.ds { b.atR act' todo with mode := .returning } cs rfl rfl
      unfold afinish at hfin
      cases hrv : resVals E a' H2 res with
      | none => rw [hrv] at hfin; exact hfin.elim
      | some vs =>
        rw [hrv] at hfin
        obtain ⟨v', hv', hres⟩ := results_sound hE hR2 (a := a') (tmps := act'.tmps) (fun t => (hA.tmp t).mono hExt2.le) hf4 hrv
        exact ⟨v', w2, _, ⟨tup vs, H2, m2, hfin, hv', hR2, hExt.trans hExt2⟩, hs.trans hs2, rfl, rfl, rfl, rfl, fn, hf1, hres⟩
    cases e with
    | normal =>
      cases e' with
      | normal => exact leave [] (StepsIn.trans harr (one (stepR_end rfl))) hK
      | exit i => exact hX.elim
      | goto i => exact hX.elim
      | ret => exact hX.elim
    | ret =>
      cases e' with
      | ret =>
        obtain ⟨todo, hs⟩ := harr.1 rfl
        exact leave todo hs hK
      | exit i => exact hX.elim
      | goto i => exact hX.elim
      | normal => exact hX.elim
    | exit i => cases e' <;> first | exact hX.elim | exact hK.elim
    | goto i => cases e' <;> first | exact hX.elim | exact hK.elim
    | panic c => cases e' <;> exact hX.elim
    | outgrown => cases e' <;> exact hX.elim

theorem putObj_one {w : World} {r : Nat} {q : Obj} (h : w.heap[r]? = some q) (o : Obj) : OneBlock r o w (w.putObj r o) := setObj_one h o

include hE in
theorem adefers_sound {rec : Rec} (hrec : SoundC E rec) : ∀ n, SoundD E (adefers E rec n)
  | 0 => by
    intro ds H K h m n0 w ds' hR hds fr cs hm hfr
    cases hds with
    | nil =>
      refine ⟨H, m, w, h, hR, Ext.refl _ _ _ _, ?_⟩
      have : ({ fr with defers := [] } : Frame) = fr := by cases fr; simp only at hfr; subst hfr; rfl
      rw [this]; exact .refl _
    | cons hd k => exact h.elim
  | n + 1 => by
    intro ds H K h m n0 w ds' hR hds fr cs hm hfr
    cases hds with
    | nil =>
      refine ⟨H, m, w, h, hR, Ext.refl _ _ _ _, ?_⟩
      have : ({ fr with defers := [] } : Frame) = fr := by cases fr; simp only at hfr; subst hfr; rfl
      rw [this]; exact .refl _
    | cons hd k =>
      rename_i d d' ds ds'
      cases hd with
      | collected r i hi hr =>
        simp only [adefers] at h
        split at h
        · rename_i l ho
          obtain ⟨o', h1, h2⟩ := hR.obj r i _ hi ho
          cases h2 with
          | deferred _ c' hc hro =>
            obtain ⟨l', rfl, hl⟩ := hc l rfl
            have h3 := step_collected (P := E.P) (cs := cs) (by rw [hm]; simp) hfr rfl (run_takeDeferred h1)
            have h4 := putObj_one h1 (.deferred none)
            have hR' := hR.set hi hro ⟨_, ho, by intro hd; cases hd⟩ (ORel.deferred none none (fun l e => by cases e) hro) h4
            obtain ⟨H2, m2, w2, a1, a2, a3, a4⟩ := adefers_sound hrec n _ _ _ h m n0 _ _ hR' (hl.append k) { fr with defers := l' ++ ds' } cs hm rfl
            have hun : Untouched m m H (H.set r (.deferred none)) := Untouched.one hi fun id' hne => by rw [AHeap.get_set, if_neg hne]
            exact ⟨H2, m2, w2, a1, a2, (Ext.mk (Emb.le_refl m) (h4.below ((hR.low r i hi).1 hro)) hun (Nat.le_refl _)).trans a3, (one h3).trans a4⟩
        · exact h.elim
      | fn f a b c d hac hbd =>
        simp only [adefers] at h
        have hlr : LRel m ((⟨b⟩ ++ ⟨a⟩ : Array Value).toList) (d ++ c) := by simpa using hbd.append hac
        have hg := acallWith_sound hE hrec (adefers_sound hrec n) h hR hlr
        have hfn : ∃ af, E.fn f = some af := by
          unfold acallWith at h
          cases hf : E.fn f with
          | none => rw [hf] at h; exact h.elim
          | some af => exact ⟨af, rfl⟩
        obtain ⟨af, haf⟩ := hfn
        obtain ⟨_, _, _, _, _, hcall⟩ := hE.fn f af haf
        have hinv : (invoke (.fn (.func f) ⟨c⟩) ⟨d⟩).run E.P w = .ok (.enter f (d ++ c).toArray) w := by
          have := hcall (d ++ c).toArray w
          simpa [invoke] using this
        have h1 := step_defer (P := E.P) (cs := cs) (by rw [hm]; simp) hfr rfl hinv
        obtain ⟨v, w', frX, ⟨v0, H', m', hK, _, hR', hExt⟩, hs, hk, _, hgo⟩ := hg .deferred ({ fr with defers := ds' } :: cs) (.inr ⟨rfl, _, _, rfl, hm⟩)
        have h2 := step_going_returned (c := { fr with defers := ds' }) (cs := cs) hk hgo
        have hst : ({ ({ fr with defers := ds' } : Frame) with mode := settle ({ fr with defers := ds' } : Frame).mode } : Frame) = { fr with defers := ds' } := by
          cases fr; simp only at hm; subst hm; rfl
        rw [hst] at h2
        obtain ⟨H2, m2, w2, a1, a2, a3, a4⟩ := adefers_sound hrec n _ _ _ hK m' n0 w' ds' hR' (k.mono hExt.le) { fr with defers := ds' } cs hm rfl
        exact ⟨H2, m2, w2, a1, a2, hExt.trans a3, (one h1).trans (hs.trans ((one h2).trans a4))⟩
end
end Go.Ai
