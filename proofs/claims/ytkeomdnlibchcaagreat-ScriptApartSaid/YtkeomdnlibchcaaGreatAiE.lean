/-
  What the evaluator reads, addresses and builds is what the model does; no condition.
-/
import Derived.Test.YtkeomdnlibchcaaGreatAiD
namespace Go.Ai
open Go.RowKit (Below)

theorem nat?_some {v : Value} {n : Nat} (h : nat? v = some n) : ∃ k, v = .int k (.ofNat n) := by
  unfold nat? at h
  split at h
  · rename_i k p
    split at h
    · cases h; exact ⟨k, rfl⟩
    · cases h
  · cases h

/-! ### parts laid over cells -/
theorem lput_some {l vs l' : List Value} {off : Nat} (h : lput l off vs = some l') : off + vs.length ≤ l.length ∧ l' = l.take off ++ vs ++ l.drop (off + vs.length) := by
  unfold lput at h
  rw [llen_eq, llen_eq] at h
  cases hb : Nat.ble (off + vs.length) l.length with
  | false => rw [hb] at h; cases h
  | true =>
    rw [hb] at h
    simp only [cond_true, Option.some.injEq] at h
    rw [lapp_eq, lapp_eq, ltake_eq, ldrop_eq] at h
    exact ⟨ble_iff.1 hb, by rw [← h]; simp⟩

theorem foldl_set_get (off : Nat) : ∀ (vs : List Value) (k : Nat) (cs : Array Value), off + k + vs.length ≤ cs.size →
    ((vs.zipIdx k).foldl (fun cs (p : Value × Nat) => cs.setIfInBounds (off + p.2) p.1) cs).size = cs.size ∧
    ∀ i, ((vs.zipIdx k).foldl (fun cs (p : Value × Nat) => cs.setIfInBounds (off + p.2) p.1) cs)[i]? = if off + k ≤ i ∧ i < off + k + vs.length then vs[i - (off + k)]? else cs[i]?
  | [], k, cs, h => ⟨rfl, fun i => by rw [if_neg (by simp)]; rfl⟩
  | v :: vs, k, cs, h => by
    simp only [List.length_cons] at h
    obtain ⟨h1, h2⟩ := foldl_set_get off vs (k + 1) (cs.setIfInBounds (off + k) v) (by simp; omega)
    simp only [List.zipIdx_cons, List.foldl_cons]
    refine ⟨by rw [h1]; simp, fun i => ?_⟩
    rw [h2 i]
    by_cases h3 : off + (k + 1) ≤ i ∧ i < off + (k + 1) + vs.length
    · rw [if_pos h3, if_pos (by simp; omega)]
      have : i - (off + k) = (i - (off + (k + 1))) + 1 := by omega
      rw [this, List.getElem?_cons_succ]
    · rw [if_neg h3, Array.getElem?_setIfInBounds]
      by_cases h4 : off + k = i
      · subst h4
        rw [if_pos rfl, if_pos (by omega), if_pos (by simp)]
        simp
      · rw [if_neg h4, if_neg (by simp; omega)]

theorem foldl_set (off : Nat) (vs : List Value) (cs : Array Value) (h : off + vs.length ≤ cs.size) :
    (vs.toArray.zipIdx.foldl (fun cs (p : Value × Nat) => cs.setIfInBounds (off + p.2) p.1) cs).toList = cs.toList.take off ++ vs ++ cs.toList.drop (off + vs.length) := by
  obtain ⟨h1, h2⟩ := foldl_set_get off vs 0 cs (by simpa using h)
  have e : vs.toArray.zipIdx.foldl (fun cs (p : Value × Nat) => cs.setIfInBounds (off + p.2) p.1) cs = (vs.zipIdx 0).foldl (fun cs (p : Value × Nat) => cs.setIfInBounds (off + p.2) p.1) cs := by
    rw [← Array.foldl_toList]; simp
  rw [e]
  apply List.ext_getElem?
  intro i
  rw [Array.getElem?_toList, h2 i]
  simp only [Nat.add_zero]
  by_cases h3 : off ≤ i ∧ i < off + vs.length
  · rw [if_pos h3, List.append_assoc, List.getElem?_append_right (by simp; omega), List.getElem?_append_left (by simp; omega)]
    congr 1; simp; omega
  · rw [if_neg h3]
    by_cases h4 : i < off
    · rw [List.append_assoc, List.getElem?_append_left (by simp; omega), List.getElem?_take, if_pos h4, Array.getElem?_toList]
    · rw [List.getElem?_append_right (by simp; omega), List.getElem?_drop, Array.getElem?_toList]
      congr 1; simp; omega

/-- Parts. -/
inductive PsRel (m : Emb) : List (Nat × Value) → List (Nat × Value) → Prop
  | nil : PsRel m [] []
  | cons {i : Nat} {v w : Value} {a b : List (Nat × Value)} (h : VRel m v w) (k : PsRel m a b) : PsRel m ((i, v) :: a) ((i, w) :: b)

theorem PsRel.of {m : Emb} {a : AAct} {ρ : Operand → Value} (ha : EvRel m a ρ) (ps : List (Nat × Operand)) : PsRel m (ps.map fun p => (p.1, ev a p.2)) (ps.map fun p => (p.1, ρ p.2)) := by
  induction ps with
  | nil => exact .nil
  | cons p ps ih => exact .cons (ha p.2) ih

theorem fillL_sound {m : Emb} {place : Nat → Option (Nat × Nat)} : ∀ {ps ps' : List (Nat × Value)} {c l : List Value} {c' : Array Value}, PsRel m ps ps' → LRel m c c'.toList → fillL place c ps = some l →
    ∃ l', Instr.fill place c' ps' = some l' ∧ LRel m l l'.toList
  | _, _, c, l, c', .nil, hc, h => by simp only [fillL, Option.some.injEq] at h; subst h; exact ⟨c', rfl, hc⟩
  | _, _, c, l, c', .cons (i := i) (v := v) (w := w) hv k, hc, h => by
    simp only [fillL] at h
    cases hp : place i with
    | none => rw [hp] at h; cases h
    | some p =>
      obtain ⟨off, size⟩ := p
      rw [hp] at h
      simp only at h
      cases hb : (sane v && Nat.beq (llen (vcells v)) size) with
      | false => rw [hb] at h; cases h
      | true =>
        rw [hb] at h
        simp only [cond_true] at h
        simp only [Bool.and_eq_true, beq_iff, llen_eq] at hb
        have hcs := hv.cells hb.1
        split at h
        · rename_i c2 hc2
          obtain ⟨h1, rfl⟩ := lput_some hc2
          have hlen := hcs.length
          have hsz := hc.length
          have e := foldl_set off w.cells.toList c' (by simp at hsz hlen ⊢; omega)
          obtain ⟨l', e1, e2⟩ := fillL_sound (place := place) (c' := w.cells.zipIdx.foldl (fun cs (p : Value × Nat) => cs.setIfInBounds (off + p.2) p.1) c') k (by
            rw [Array.toArray_toList] at e
            rw [e]
            refine LRel.append (LRel.append (hc.take off) hcs) ?_
            rw [show off + w.cells.toList.length = off + (vcells v).length by omega]
            exact hc.drop _) h
          refine ⟨l', ?_, e2⟩
          simp only [Instr.fill, hp]
          rw [if_neg (by simp at hlen hsz ⊢; omega)]
          exact e1
        · cases h

section reads
variable {E : Env} (hE : E.Ok) {m : Emb} {n0 : Nat} {H : AHeap} {w : World} (hR : Rel m n0 H w) {a : AAct} {ρ : Operand → Value} (ha : EvRel m a ρ)

include hE in
theorem places_run {fs : Array Field} {ps : List (Nat × Nat)} (h : places E fs.toList = some ps) :
    (fs.mapM (fun f => do pure (f.offset, ← sizeOf f.type)) : Sem (Array (Nat × Nat))).run E.P w = .ok ps.toArray w := by
  obtain ⟨fs⟩ := fs
  rw [Array.mapM_eq_mapM_toList]
  simp only [Sem.run_map]
  have : ∀ (l : List Field) (ps : List (Nat × Nat)), places E l = some ps → (l.mapM (fun f => do pure (f.offset, ← sizeOf f.type)) : Sem (List (Nat × Nat))).run E.P w = .ok ps w := by
    intro l
    induction l with
    | nil => intro ps h; simp [places] at h; subst h; rfl
    | cons f l ih =>
      intro ps h
      simp only [places, List.mapM_cons] at h
      cases hs : E.sz f.type with
      | none => simp [hs] at h
      | some n =>
        simp only [hs, Option.map_some] at h
        cases hp : places E l with
        | none => simp only [places] at hp; simp [hp] at h
        | some qs =>
          have := ih qs hp
          simp only [places] at hp
          simp [hp] at h
          subst h
          simp only [List.mapM_cons, Sem.run_bind, run_sz hE hs, Result.andThen_ok, Sem.run_pure, this]
  rw [this _ _ h]
  rfl

include hE ha in
theorem abuild_sound {t : TypeId} {ps : Array (Nat × Operand)} {v : Value} (h : (abuild E t).f (ps.toList.map fun p => (p.1, ev a p.2)) = some v) :
    ∃ v', VRel m v v' ∧ (Instr.build t (ps.map fun (i, x) => (i, ρ x))).run E.P w = .ok v' w := by
  have hps : PsRel m (ps.toList.map fun p => (p.1, ev a p.2)) (ps.map fun (i, x) => (i, ρ x)).toList := by
    have := PsRel.of ha ps.toList
    simpa using this
  unfold abuild at h
  cases hz : E.z t with
  | none => simp [hz] at h
  | some z =>
    simp only [hz] at h
    have hzr : scalar z = true → LRel m (vcells z) z.cells.toList := fun hs => (VRel.sc (m := m) z hs).cells (by cases z <;> simp_all [scalar, sane])
    cases hu : E.u t with
    | none => simp [hu] at h
    | some d =>
      cases d with
      | struct fs =>
        simp only [hu] at h
        cases hp : places E fs.toList with
        | none => simp [hp] at h
        | some qs =>
          simp only [hp] at h
          cases hs : scalar z with
          | false => simp [hs] at h
          | true =>
            simp only [hs, cond_true] at h
            split at h
            · rename_i l hl
              cases h
              obtain ⟨l', e1, e2⟩ := fillL_sound hps (hzr hs) hl
              refine ⟨.agg l', by obtain ⟨l'⟩ := l'; exact .agg _ _ e2, ?_⟩
              simp only [Instr.build, Sem.run_bind, run_z hE hz, Result.andThen_ok, run_u hE hu, places_run hE hp, List.getElem?_toArray, e1, Sem.run_pure]
            · cases h
      | array n e =>
        simp only [hu] at h
        cases hsz : E.sz e with
        | none => simp [hsz] at h
        | some k =>
          simp only [hsz] at h
          cases hs : scalar z with
          | false => simp [hs] at h
          | true =>
            simp only [hs, cond_true] at h
            split at h
            · rename_i l hl
              cases h
              obtain ⟨l', e1, e2⟩ := fillL_sound hps (hzr hs) hl
              refine ⟨.agg l', by obtain ⟨l'⟩ := l'; exact .agg _ _ e2, ?_⟩
              simp only [Instr.build, Sem.run_bind, run_z hE hz, Result.andThen_ok, run_u hE hu, run_sz hE hsz, e1, Sem.run_pure]
            · cases h
      | _ => simp [hu] at h

include hE in
theorem afieldAddr_sound {s : TypeId} {x : RV} {f : Nat} {y v : Value} (hx : VRel m (x.f a) y) (h : (afieldAddr E s x f).f a H = some v) :
    ∃ v', VRel m v v' ∧ (Instr.fieldAt s y f).run E.P w = .ok v' w := by
  unfold afieldAddr at h
  cases hu : E.u s with
  | none => simp [hu, rdNone] at h
  | some d =>
    cases d with
    | struct fs =>
      simp only [hu] at h
      cases hf : fs[f]? with
      | none => simp [hf, rdNone] at h
      | some fd =>
        simp only [hf] at h
        cases hs : E.sz fd.type with
        | none => simp [hs, rdNone] at h
        | some n =>
          cases n with
          | zero => simp [hs, rdNone] at h
          | succ n =>
            simp only [hs] at h
            split at h
            · rename_i id off hxv
              cases h
              rw [hxv] at hx
              obtain ⟨i, hi, rfl⟩ := hx.ptr_inv
              refine ⟨_, .ptr _ _ i hi, ?_⟩
              simp [Instr.fieldAt, run_u hE hu, hf, Instr.sureAddr, fieldPlace, run_sz hE hs, addr_add, Nat.add_assoc]
            · cases h
    | _ => simp [hu, rdNone] at h

include hE in
theorem afield_sound {t : TypeId} {x : RV} {f : Nat} {y v : Value} (hx : VRel m (x.f a) y) (h : (afield E t x f).f a H = some v) :
    ∃ v', VRel m v v' ∧ (Instr.field t y f).run E.P w = .ok v' w := by
  unfold afield at h
  cases hu : E.u t with
  | none => simp [hu, rdNone] at h
  | some d =>
    cases d with
    | struct fs =>
      simp only [hu] at h
      cases hf : fs[f]? with
      | none => simp [hf, rdNone] at h
      | some fd =>
        simp only [hf] at h
        split at h
        · rename_i cs hxv
          obtain ⟨cs⟩ := cs
          rw [hxv] at hx
          obtain ⟨l', rfl, hl⟩ := hx.agg_inv
          obtain ⟨v', e1, e2⟩ := apart_sound (w := w) hE hl h
          refine ⟨v', e1, ?_⟩
          simp [Instr.field, run_u hE hu, hf, asAgg, e2]
        · cases h
    | _ => simp [hu, rdNone] at h

include hE in
theorem aindexAddr_sound {t : TypeId} {x i : RV} {y j v : Value} (hx : VRel m (x.f a) y) (hi : VRel m (i.f a) j) (h : (aindexAddr E t x i).f a H = some v) :
    ∃ v', VRel m v v' ∧ (Instr.indexAt t y j).run E.P w = .ok v' w := by
  unfold aindexAddr at h
  cases hu : E.u t with
  | none => simp [hu, rdNone] at h
  | some d =>
    cases d with
    | array len e =>
      simp only [hu] at h
      cases hs : E.sz e with
      | none => simp [hs, rdNone] at h
      | some s =>
        simp only [hs] at h
        split at h
        · rename_i n hn
          obtain ⟨k, hk⟩ := nat?_some hn
          rw [hk] at hi
          have := hi.int_inv; subst this
          split at h
          · rename_i id off hxv
            cases hb : Nat.blt n len with
            | false => rw [hb] at h; cases h
            | true =>
              rw [hb] at h
              simp only [cond_true, Option.some.injEq] at h
              subst h
              rw [hxv] at hx
              obtain ⟨i, hi, rfl⟩ := hx.ptr_inv
              refine ⟨_, .ptr _ _ i hi, ?_⟩
              have h1 : (0 : Int) ≤ Int.ofNat n ∧ Int.ofNat n < (len : Int) := ⟨Int.natCast_nonneg n, by have := blt_lt hb; show (n : Int) < len; omega⟩
              simp only [Instr.indexAt, asIntOf, pure_bind, Sem.run_bind, run_u hE hu, Result.andThen_ok, Instr.sureAddr]
              rw [if_pos h1]
              simp [run_sz hE hs, addr_add, Nat.add_assoc]
          · cases h
        · cases h
    | slice e =>
      simp only [hu] at h
      cases hs : E.sz e with
      | none => simp [hs, rdNone] at h
      | some s =>
        simp only [hs] at h
        split at h
        · rename_i n hn
          obtain ⟨k, hk⟩ := nat?_some hn
          rw [hk] at hi
          have := hi.int_inv; subst this
          split at h
          · rename_i id off len cap hxv
            cases hb : Nat.blt n len with
            | false => rw [hb] at h; cases h
            | true =>
              rw [hb] at h
              simp only [cond_true, Option.some.injEq] at h
              subst h
              rw [hxv] at hx
              have hlt := blt_lt hb
              obtain ⟨i, hi, ⟨hl, rfl⟩ | ⟨h0, _⟩⟩ := hx.sl_inv
              · refine ⟨_, .ptr _ _ i hi, ?_⟩
                have h1 : (0 : Int) ≤ Int.ofNat n ∧ Int.ofNat n < (len : Int) := ⟨Int.natCast_nonneg n, by show (n : Int) < len; omega⟩
                simp only [Instr.indexAt, asIntOf, pure_bind, Sem.run_bind, run_u hE hu, Result.andThen_ok]
                rw [if_pos h1]
                simp [run_sz hE hs, addr_add, Nat.add_assoc]
              · omega
          · cases h
        · cases h
    | _ => simp [hu, rdNone] at h

include hE in
theorem aindex_sound {t : TypeId} {x i : RV} {y j v : Value} (hx : VRel m (x.f a) y) (hi : VRel m (i.f a) j) (h : (aindex E t x i).f a H = some v) :
    ∃ v', VRel m v v' ∧ (Instr.index t y j).run E.P w = .ok v' w := by
  unfold aindex at h
  cases hu : E.u t with
  | none => simp [hu, rdNone] at h
  | some d =>
    cases d with
    | array len e =>
      simp only [hu] at h
      cases hs : E.sz e with
      | none => simp [hs, rdNone] at h
      | some s =>
        simp only [hs] at h
        split at h
        · rename_i n hn
          obtain ⟨k, hk⟩ := nat?_some hn
          rw [hk] at hi
          have := hi.int_inv; subst this
          split at h
          · rename_i cs hxv
            obtain ⟨cs⟩ := cs
            cases hb : Nat.blt n len with
            | false => rw [hb] at h; cases h
            | true =>
              rw [hb] at h
              simp only [cond_true] at h
              rw [hxv] at hx
              obtain ⟨l', rfl, hl⟩ := hx.agg_inv
              obtain ⟨v', e1, e2⟩ := apart_sound (w := w) hE hl h
              refine ⟨v', e1, ?_⟩
              have h1 : (0 : Int) ≤ Int.ofNat n ∧ Int.ofNat n < (len : Int) := ⟨Int.natCast_nonneg n, by have := blt_lt hb; show (n : Int) < len; omega⟩
              simp only [Instr.index, asIntOf, pure_bind, Sem.run_bind, run_u hE hu, Result.andThen_ok]
              rw [if_pos h1]
              simp [run_sz hE hs, e2]
          · cases h
        · cases h
    | string =>
      simp only [hu] at h
      split at h
      · rename_i n hn
        obtain ⟨k, hk⟩ := nat?_some hn
        rw [hk] at hi
        have := hi.int_inv; subst this
        split at h
        · rename_i s hxv
          rw [hxv] at hx
          have := hx.str_inv; subst this
          cases hb : s[n]? with
          | none => simp [hb] at h
          | some b =>
            simp only [hb, Option.map_some, Option.some.injEq] at h
            subst h
            refine ⟨_, .sc _ rfl, ?_⟩
            have h1 : (0 : Int) ≤ Int.ofNat n := Int.natCast_nonneg n
            simp only [Instr.index, asIntOf, pure_bind, Sem.run_bind, run_u hE hu, Result.andThen_ok]
            rw [if_pos h1]
            simp [hb]
        · cases h
      · cases h
    | _ => simp [hu, rdNone] at h
end reads
end Go.Ai
