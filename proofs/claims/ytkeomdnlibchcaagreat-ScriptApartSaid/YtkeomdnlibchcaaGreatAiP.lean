/-
  The operations of a region that write, or call: what the evaluator does is what the machine does; no condition.
-/
import Derived.Test.YtkeomdnlibchcaaGreatAiO
namespace Go.Ai
open Go.RowKit (Below)

section
variable {E : Env} (hE : E.Ok) (hS : E.SumOk) {m : Emb} {n0 : Nat} {H : AHeap} {w : World}

/-- Strings made of bytes, and bytes of strings. -/
structure Env.StrOk (E : Env) : Prop where
  conv : ∀ {m : Emb} {n0 : Nat} {H : AHeap} {w : World} {s d : TypeId} {x : RV} {a : AAct} {y : Value} {K : VK}, Rel m n0 H w → VRel m (x.f a) y → aconvBytes E s d x a H K → Out E m n0 H w (do pure (.value (← convert s d y))) K
  str : ∀ {m : Emb} {n0 : Nat} {H : AHeap} {w : World} {ts : Array TypeId} {args : Array Value} {ty t : TypeId} {p n y y' : Value} {K : VK}, Rel m n0 H w → ts[0]? = some t → args = #[y, y'] → VRel m p y → VRel m n y' →
    aVs (astring E H t p n) K → Out E m n0 H w (do pure (.value (← Builtin.unsafeString_ ts ty args))) K

/-- What an operation that writes or calls comes to. -/
def EffOut (E : Env) (m : Emb) (n0 : Nat) (H : AHeap) (w : World) (rnd : Bool) (s : Sem Next) (K : VK) : Prop :=
  Out E m n0 H w s K ∨ (rnd = false ∧ s.run E.P w = .ok .recover w ∧ K .nilIface H) ∨
  (∃ f args, s.run E.P w = .ok (.enter f args) w ∧ Calls E.P f args w fun e w' => ∃ v, e = .returned v ∧ PV n0 m H w K v w') ∨
  (∃ l f tmps assign body, s.run E.P w = .ok (.round l f tmps assign body) w ∧ ∀ (c : Frame) (cs : List Frame), ∃ v w', PV n0 m H w K v w' ∧
    StepsIn Tr E.P (lone (Frame.round l f tmps assign body .normal) (c :: cs) w) (lone (c.finish v) cs w'))

theorem lrel_evs {a : AAct} {ρ : Operand → Value} (h : EvRel m a ρ) (l : List Operand) : LRel m (l.map (ev a)) (l.map ρ) := LRel.map _ _ _ fun x _ => h x

theorem exec_builtin {ρ : Operand → Value} {o : Oper} {c : Call} {b : Builtin} (ho : o.op = .call c) (hb : c.callee = .builtin b) :
    ∃ consts, execOp ρ o = builtin b c.argTypes o.type consts (c.args.map ρ) := by
  unfold execOp
  rw [ho]
  simp only [resolve, hb, pure_bind, invoke]
  exact ⟨_, rfl⟩

theorem exec_value {ρ : Operand → Value} {o : Oper} {c : Call} {f : Operand} (ho : o.op = .call c) (hb : c.callee = .value f) :
    execOp ρ o = (do let d ← Deferred.ofValue (ρ f) (c.args.map ρ); invoke d.target d.args) := by
  unfold execOp
  rw [ho]
  simp only [resolve, hb]

include hE hS in
theorem acallV_sound {rec : Rec} (hrec : SoundC E rec) {a : AAct} {f f' : Value} {args args' : List Value} {K : VK} (h : acallV E rec f args H K) (hR : Rel m n0 H w) (hf : VRel m f f') (hl : LRel m args args') :
    EffOut E m n0 H w a.rnd (do let d ← Deferred.ofValue f' args'.toArray; invoke d.target d.args) K := by
  unfold acallV at h
  split at h
  · rename_i g first captured
    obtain ⟨first⟩ := first
    obtain ⟨captured⟩ := captured
    obtain ⟨c, d, rfl, h1, h2⟩ := hf.fn_inv
    have hall : LRel m (first ++ args ++ captured) (c ++ args' ++ d) := (h1.append hl).append h2
    have hrun : (do let d ← Deferred.ofValue (.func (.func g) ⟨c⟩ ⟨d⟩) args'.toArray; invoke d.target d.args : Sem Next) = callFunc g (c ++ args' ++ d).toArray := by
      simp [Deferred.ofValue, invoke]
    rw [hrun]
    simp only at h
    cases hid : E.idf g with
    | true =>
      rw [hid] at h
      simp only [cond_true] at h
      generalize hA : first ++ args ++ captured = all at h hall
      generalize c ++ args' ++ d = all' at hall ⊢
      cases hall with
      | nil => exact h.elim
      | cons hv t =>
        cases t with
        | nil =>
          refine .inl ⟨_, H, m, .value _, w, h, hE.idf g hid _ w, .inl ⟨_, rfl, hv⟩, hR, Emb.le_refl m, Below.refl _ _, Untouched.refl _ _, Nat.le_refl _⟩
        | cons _ _ => exact h.elim
    | false =>
      rw [hid] at h
      simp only [cond_false] at h
      exact .inr (.inr (.inl ⟨_, _, acall_enter hE hS h _ w, acall_sound hE hS hrec h hR hall⟩))
  · rename_i l x y
    obtain ⟨i, hi, rfl, rfl, rfl⟩ := hf.yl_inv
    obtain ⟨r, hw, hsz, hgo⟩ := around_sound hrec h hR hl hi
    refine .inr (.inr (.inr ⟨_, _, _, _, _, ?_, hgo⟩))
    have hy := run_yield (P := E.P) (args := args'.toArray) hw (by simpa using hsz)
    simp only [Deferred.ofValue, pure_bind, invoke]
    simpa using hy
  · exact h.elim

include hE in
theorem acallB_sound (hT : E.StrOk) {rec : Rec} {a : AAct} {ρ : Operand → Value} (ha : EvRel m a ρ) (hR : Rel m n0 H w) {b : Builtin} {args : Array Operand} {ts consts ty} {K : VK} (h : (acallB E b args ts).f rec a H K) :
    EffOut E m n0 H w a.rnd (builtin b ts ty consts (args.map ρ)) K := by
  unfold acallB at h
  split at h
  · split at h
    · rename_i t s x h1 h2 h3
      exact .inl (aappend_sound hE hR h1 (by rw [Array.getElem?_map, h2]; rfl) (by rw [Array.getElem?_map, h3]; rfl) (ha s) (ha x) h)
    · exact h.elim
  · split at h
    · rename_i t s x h1 h2 h3
      exact .inl (acopy_sound hE hR h1 (by rw [Array.getElem?_map, h2]; rfl) (by rw [Array.getElem?_map, h3]; rfl) (ha s) (ha x) h)
    · exact h.elim
  · split at h
    · rename_i t s x h1 h2 h3
      exact .inl (adelete_sound hE hR (ha s) (ha x) h1 (by rw [Array.getElem?_map, h2]; rfl) (by rw [Array.getElem?_map, h3]; rfl) h)
    · exact h.elim
  · cases hr : a.rnd with
    | true => simp [hr] at h
    | false =>
      simp only [hr, Bool.false_eq_true, if_false] at h
      exact .inr (.inl ⟨rfl, rfl, h⟩)
  · split at h
    · rename_i t p n h1 h2
      refine .inl (hT.str (y := ρ p) (y' := ρ n) hR h1 ?_ (ha p) (ha n) h)
      rw [← Array.toArray_toList (xs := args.map ρ), Array.toList_map, h2]
      rfl
    · exact h.elim
  · exact h.elim

include hE hS in
theorem reff_sound (hT : E.StrOk) {rec : Rec} (hrec : SoundC E rec) {a : AAct} {ρ : Operand → Value} (ha : EvRel m a ρ) (hR : Rel m n0 H w) {o : Oper} {K : VK} (h : (reff E o.op).f rec a H K) :
    EffOut E m n0 H w a.rnd (execOp ρ o) K := by
  obtain ⟨dst, op, ty, pos, after, guard⟩ := o
  simp only at h
  unfold reff at h
  split at h
  · exact .inl (astore_sound hR hE (ha _) (ha _) h)
  · exact .inl (amapUpdate_sound hE hR (ha _) (ha _) (ha _) h)
  · exact .inl (amapUpdate_sound hE hR (ha _) (ha _) (ha _) h)
  · exact .inl (amapEntry_sound hE hR (ha _) (ha _) h)
  · exact .inl (aentryStore_sound hR (ha _) (ha _) (ha _) h)
  · exact .inl (hT.conv hR (ha _) h)
  · exact .inl (arange_sound hE hR (ha _) h)
  · split at h
    · exact .inl (anext_sound hR (ha _) h)
    · exact h.elim
  · rename_i c
    split at h
    · rename_i b hb
      obtain ⟨consts, he⟩ := exec_builtin (ρ := ρ) (o := ⟨dst, .call c, ty, pos, after, guard⟩) rfl hb
      rw [he]
      exact acallB_sound hE hT ha hR h
    · rename_i f hb
      rw [exec_value (ρ := ρ) (o := ⟨dst, .call c, ty, pos, after, guard⟩) rfl hb]
      have hl : LRel m (c.args.toList.map (ev a)) (c.args.toList.map ρ) := lrel_evs ha _
      have hmap : c.args.map ρ = (c.args.toList.map ρ).toArray := by rw [← Array.toList_map]
      rw [hmap]
      split at h
      · rename_i g
        have hcf : ρ (.func g) = .func (.func g) #[] #[] := by
          have := ha (.func g)
          exact VRel.eq_of_scalar this rfl
        have hgo : acallV E rec (.func (.func g) #[] #[]) (c.args.toList.map (ev a)) H K := by
          show (fun all : List Value => bif E.idf g then (match all with | [x] => K x H | _ => False) else acall E rec g all H K) ((#[] : Array Value).toList ++ c.args.toList.map (ev a) ++ (#[] : Array Value).toList)
          rw [show (#[] : Array Value).toList ++ c.args.toList.map (ev a) ++ (#[] : Array Value).toList = c.args.toList.map (ev a) from by simp]
          cases hid : E.idf g with
          | true =>
            rw [hid] at h
            simp only [cond_true] at h ⊢
            split at h
            · rename_i x hx
              rw [hx]
              exact h
            · exact h.elim
          | false =>
            rw [hid] at h
            exact h
        have := acallV_sound (a := a) hE hS hrec hgo hR (f' := ρ (.func g)) (by rw [hcf]; exact .sc _ rfl) hl
        exact this
      · exact acallV_sound (a := a) hE hS hrec h hR (ha _) hl
    · exact h.elim
  · exact h.elim
end
end Go.Ai
