/-
  All that the evaluator reads is what the model reads; no condition.
-/
import Derived.Test.YtkeomdnlibchcaaGreatAiE
import Derived.Laws.BytesString
import Derived.Lib.UnsafeStr
namespace Go.Ai
open Go.RowKit (Below)

section reads
variable {E : Env} (hE : E.Ok) {m : Emb} {n0 : Nat} {H : AHeap} {w : World} (hR : Rel m n0 H w) {a : AAct} {ρ : Operand → Value} (ha : EvRel m a ρ)

/-- The bound of a slice. -/
inductive BRel (m : Emb) : Option Value → Option Value → Prop
  | none : BRel m none none
  | some {v w : Value} (h : VRel m v w) : BRel m (some v) (some w)

include ha in
theorem BRel.of (x : Option Operand) : BRel m (x.map (ev a)) (x.map ρ) := by
  cases x with
  | none => exact .none
  | some x => exact .some (ha x)

theorem bound_run {P : Program} {v y : Value} {n c : Nat} (hv : VRel m v y) (h : nat? v = some n) (hc : n ≤ c) (code : BoundsCode) (w : World) : (Instr.sliceBound y c code).run P w = .ok n w := by
  obtain ⟨k, rfl⟩ := nat?_some h
  rw [hv.int_inv]
  have h1 : (0 : Int) ≤ Int.ofNat n ∧ Int.ofNat n ≤ (c : Int) := ⟨Int.natCast_nonneg n, by show (n : Int) ≤ c; omega⟩
  simp only [Instr.sliceBound, asIntOf, pure_bind]
  rw [if_pos h1]; rfl

theorem bounds_run {P : Program} {lo hi lo' hi' : Option Value} {b : Bool} {len cap l h : Nat} (hl : BRel m lo lo') (hh : BRel m hi hi') (h1 : optNat len hi = some h) (h2 : optNat 0 lo = some l) (hlh : l ≤ h) (hc : h ≤ cap)
    (w : World) : (Instr.sliceBounds b len cap lo' hi' none).run P w = .ok (l, h, cap) w := by
  cases hh with
  | none =>
    simp only [optNat, Option.some.injEq] at h1
    subst h1
    cases hl with
    | none => simp only [optNat, Option.some.injEq] at h2; subst h2; simp [Instr.sliceBounds]
    | some hv =>
      simp only [optNat] at h2
      simp [Instr.sliceBounds, bound_run hv h2 hlh]
  | some hv =>
    simp only [optNat] at h1
    cases hl with
    | none => simp only [optNat, Option.some.injEq] at h2; subst h2; simp [Instr.sliceBounds, bound_run hv h1 hc]
    | some hu =>
      simp only [optNat] at h2
      simp [Instr.sliceBounds, bound_run hv h1 hc, bound_run hu h2 hlh]

include hE hR in
theorem aslice_sound {t : TypeId} {x y v : Value} {lo hi lo' hi' : Option Value} (hx : VRel m x y) (hl : BRel m lo lo') (hh : BRel m hi hi') (h : aslice E H t x lo hi = some v) :
    ∃ v', VRel m v v' ∧ (Instr.sliceAt t y lo' hi' none).run E.P w = .ok v' w := by
  unfold aslice at h
  split at h
  · rename_i s hu
    split at h
    · rename_i hb h1
      split at h
      · rename_i lb h2
        split at h
        · rename_i hc
          cases h
          have := hx.str_inv; subst this
          refine ⟨_, .sc _ rfl, ?_⟩
          simp only [Instr.sliceAt, Instr.slice, Sem.run_bind, run_u hE hu, Result.andThen_ok, Option.isSome_none, Bool.false_eq_true, if_false]
          simp [bounds_run hl hh h1 h2 hc.1 hc.2]
        · cases h
      · cases h
    · cases h
  · rename_i e id off len cap hu
    split at h
    · rename_i hb lb n h1 h2 hs
      split at h
      · rename_i c k z e' g fz ho
        cases hc : (Nat.ble lb hb && Nat.ble hb cap && (Nat.beq g 0 || Nat.beq g n)) with
        | false => rw [hc] at h; cases h
        | true =>
          rw [hc] at h
          simp only [cond_true, Option.some.injEq] at h
          subst h
          simp only [Bool.and_eq_true, ble_iff, Bool.or_eq_true, beq_iff] at hc
          obtain ⟨i, hi, ⟨hlc, rfl⟩ | ⟨rfl, rfl, p, rfl⟩⟩ := hx.sl_inv
          · obtain ⟨c', fz', _, hcr⟩ := cells_at hR hi ho
            have hrun := bounds_run (P := E.P) (b := true) hl hh h1 h2 hc.1.1 (Nat.le_trans hc.1.2 (Nat.le_add_right cap (i.more off cap))) w
            by_cases he : cap + i.more off cap = lb
            · refine ⟨.slice (some ⟨i.blk, i.sh + off, none⟩) 0 0, ?_, ?_⟩
              · have e1 : hb - lb = 0 := by omega
                have e2 : cap - lb = 0 := by omega
                rw [e1, e2]
                exact .sl0 _ _ i hi _
              · have e1 : hb - lb = 0 := by omega
                rw [he] at hrun
                simp only [Instr.sliceAt, Instr.slice, Sem.run_bind, run_u hE hu, Result.andThen_ok, he, hrun, run_sz hE hs, if_true, e1, Nat.sub_self]
                rfl
            · refine ⟨.slice (some ⟨i.blk, i.sh + (off + lb * n), none⟩) (hb - lb) (cap + i.more off cap - lb), ?_, ?_⟩
              · have e1 : cap + i.more off cap - lb = (cap - lb) + i.more (off + lb * n) (cap - lb) := by
                  have : i.more (off + lb * n) (cap - lb) = i.more off cap := by
                    unfold EInfo.more
                    rcases hc.2 with g0 | gn
                    · rw [(hcr.plain g0).1]; split <;> split <;> rfl
                    · rcases Nat.eq_zero_or_pos g with g0 | gp
                      · rw [(hcr.plain g0).1]; split <;> split <;> rfl
                      · have hes := (hcr.grows gp).2.2.1
                        rw [hes, gn]
                        have : off + lb * n + (cap - lb) * n = off + cap * n := by
                          rw [Nat.add_assoc, ← Nat.add_mul]
                          congr 2; omega
                        rw [this]
                  omega
                rw [e1]
                exact .sl _ _ _ _ i hi (by omega)
              · simp only [Instr.sliceAt, Instr.slice, Sem.run_bind, run_u hE hu, Result.andThen_ok, hrun, run_sz hE hs, if_neg he, Option.map_some, addr_add, Nat.add_assoc]
                rfl
          · have e0 : hb = 0 := by omega
            have e1 : lb = 0 := by omega
            subst e0; subst e1
            refine ⟨.slice (some p) 0 0, by simpa using VRel.sl0 _ _ i hi p, ?_⟩
            have hrun := bounds_run (P := E.P) (b := true) hl hh h1 h2 (Nat.le_refl _) (Nat.le_refl 0) w
            simp only [Instr.sliceAt, Instr.slice, Sem.run_bind, run_u hE hu, Result.andThen_ok, hrun, run_sz hE hs, if_true]
            rfl
      · cases h
    · cases h
  · rename_i e hu
    split at h
    · rename_i h1 h2 hs
      cases h
      have := hx.nilsl_inv; subst this
      refine ⟨_, .sc _ rfl, ?_⟩
      have hrun := bounds_run (P := E.P) (b := true) hl hh h1 h2 (Nat.le_refl _) (Nat.le_refl 0) w
      simp only [Instr.sliceAt, Instr.slice, Sem.run_bind, run_u hE hu, Result.andThen_ok, hrun, run_sz hE hs, if_true]
      rfl
    · cases h
  · cases h

include hE hR in
theorem asliceArr_sound {t e : TypeId} {n : Nat} {x y v : Value} {lo hi lo' hi' : Option Value} (hu : E.u t = some (.array n e)) (hx : VRel m x y) (hl : BRel m lo lo') (hh : BRel m hi hi')
    (h : asliceArr E H n e x lo hi = some v) : ∃ v', VRel m v v' ∧ (Instr.sliceAt t y lo' hi' none).run E.P w = .ok v' w := by
  unfold asliceArr at h
  split at h
  · rename_i id off
    split at h
    · rename_i c k z e' fz ho
      split at h
      · rename_i hb lb s h1 h2 hs
        split at h
        · rename_i hc
          cases h
          obtain ⟨i, hi, rfl⟩ := hx.ptr_inv
          obtain ⟨c', fz', _, hcr⟩ := cells_at hR hi ho
          have hrun := bounds_run (P := E.P) (b := false) hl hh h1 h2 hc.1 hc.2 w
          have hmore : ∀ o c, i.more o c = 0 := fun o c => by unfold EInfo.more; rw [(hcr.plain rfl).1]; split <;> rfl
          by_cases he : n = lb
          · refine ⟨.slice (some ⟨i.blk, i.sh + off, none⟩) 0 0, ?_, ?_⟩
            · have e1 : hb - lb = 0 := by omega
              have e2 : n - lb = 0 := by omega
              rw [e1, e2]
              exact .sl0 _ _ i hi _
            · have e1 : hb - lb = 0 := by omega
              have e2 : n - lb = 0 := by omega
              simp only [Instr.sliceAt, Sem.run_bind, run_u hE hu, Result.andThen_ok, Instr.sureAddr, pure_bind, hrun, run_sz hE hs, if_pos he, e1, e2]
              rfl
          · refine ⟨.slice (some ⟨i.blk, i.sh + (off + lb * s), none⟩) (hb - lb) (n - lb), ?_, ?_⟩
            · have := VRel.sl (m := m) id (off + lb * s) (hb - lb) (n - lb) i hi (by omega)
              rw [hmore] at this
              exact this
            · simp only [Instr.sliceAt, Sem.run_bind, run_u hE hu, Result.andThen_ok, Instr.sureAddr, pure_bind, hrun, run_sz hE hs, if_neg he, addr_add, Nat.add_assoc]
              rfl
        · cases h
      · cases h
    · cases h
  · cases h

/-! ### maps -/
theorem EsRel.length {m : Emb} : ∀ {a b : List MapEntry}, EsRel m a b → a.length = b.length
  | _, _, .nil => rfl
  | _, _, .cons _ _ _ k => by simp [EsRel.length k]
theorem EsRel.get {m : Emb} : ∀ {a b : List MapEntry}, EsRel m a b → ∀ {i : Nat} {e : MapEntry}, a[i]? = some e → ∃ f, b[i]? = some f ∧ VRel m e.key f.key ∧ VRel m e.val f.val ∧ e.born = f.born
  | _, _, .nil, i, v, h => by simp at h
  | _, _, .cons (e := x) (f := y) hk hv hb k, i, v, e => by
    cases i with
    | zero => simp at e; subst e; exact ⟨y, rfl, hk, hv, hb⟩
    | succ i => rw [List.getElem?_cons_succ] at e; obtain ⟨w, h1, h2⟩ := EsRel.get k e; exact ⟨w, by rw [List.getElem?_cons_succ]; exact h1, h2⟩

/-- Looking for a key: where it stands, the same on both sides; and the value there. -/
theorem findNow_rel {m : Emb} (d : TypeDesc) (k : Value) : ∀ {a b : List MapEntry} (i : Nat), EsRel m a b → a.all (fun e => scalar e.key) = true → ∀ {r : Option (Nat × Value)}, Instr.findNow d k a i = some r →
    ∃ r', Instr.findNow d k b i = some r' ∧ (r = none → r' = none) ∧ ∀ p, r = some p → i ≤ p.1 ∧ ∃ f, b[p.1 - i]? = some f ∧ r' = some (p.1, f.val)
  | _, _, i, .nil, _, r, h => by simp only [Instr.findNow, Option.some.injEq] at h; subst h; exact ⟨none, rfl, fun _ => rfl, fun p hp => by cases hp⟩
  | _, _, i, .cons (e := x) (f := y) (b := b) hk hv hb t, hs, r, h => by
    simp only [List.all_cons, Bool.and_eq_true] at hs
    have hkey := hk.eq_of_scalar hs.1
    simp only [Instr.findNow] at h ⊢
    rw [hkey]
    cases hn : Instr.sameNow d k x.key with
    | none => rw [hn] at h; cases h
    | some s =>
      rw [hn] at h
      cases s with
      | true =>
        simp only [Option.some.injEq] at h
        subst h
        exact ⟨_, rfl, (fun e => by cases e), (fun p hp => by cases hp; exact ⟨Nat.le_refl _, y, by simp, rfl⟩)⟩
      | false =>
        simp only at h ⊢
        obtain ⟨r', e1, e2, e3⟩ := findNow_rel d k (i + 1) t hs.2 h
        refine ⟨r', e1, e2, fun p hp => ?_⟩
        obtain ⟨h1, f, h2, h3⟩ := e3 p hp
        refine ⟨by omega, f, ?_, h3⟩
        have : p.1 - i = (p.1 - (i + 1)) + 1 := by omega
        rw [this, List.getElem?_cons_succ]; exact h2

theorem findNow_none {m : Emb} (d : TypeDesc) (k : Value) : ∀ {a b : List MapEntry} (i : Nat), EsRel m a b → a.all (fun e => scalar e.key) = true → Instr.findNow d k a i = none → Instr.findNow d k b i = none
  | _, _, i, .nil, _, h => by simp [Instr.findNow] at h
  | _, _, i, .cons (e := x) (f := y) hk hv hb t, hs, h => by
    simp only [List.all_cons, Bool.and_eq_true] at hs
    have hkey := hk.eq_of_scalar hs.1
    simp only [Instr.findNow] at h ⊢
    rw [hkey]
    cases hn : Instr.sameNow d k x.key with
    | none => rfl
    | some s =>
      rw [hn] at h
      cases s with
      | true => cases h
      | false => exact findNow_none d k (i + 1) t hs.2 h

theorem afind_rel {m : Emb} {E : Env} {w : World} (kt : TypeId) (k : Value) : ∀ {a b : List MapEntry} (i : Nat), EsRel m a b → a.all (fun e => scalar e.key) = true → ∀ {r : Option Nat}, afind E kt k a i = some r →
    ∃ r', (Instr.findAsking kt k b i).run E.P w = .ok r' w ∧ (r = none → r' = none) ∧ ∀ p, r = some p → i ≤ p ∧ ∃ f, b[p - i]? = some f ∧ r' = some (p, f.val)
  | _, _, i, .nil, _, r, h => by simp only [afind, Option.some.injEq] at h; subst h; exact ⟨none, rfl, fun _ => rfl, fun p hp => by cases hp⟩
  | _, _, i, .cons (e := x) (f := y) (b := b) hk hv hb t, hs, r, h => by
    simp only [List.all_cons, Bool.and_eq_true] at hs
    have hkey := hk.eq_of_scalar hs.1
    simp only [afind] at h
    cases hq : ssem E.P (Op.equal kt k x.key) with
    | none => rw [hq] at h; cases h
    | some s =>
      rw [hq] at h
      have hrun := ssem_run _ _ _ hq w
      cases s with
      | true =>
        simp only [Option.some.injEq] at h
        subst h
        refine ⟨some (i, y.val), ?_, (fun e => by cases e), (fun p hp => by cases hp; exact ⟨Nat.le_refl _, y, by simp, rfl⟩)⟩
        simp [Instr.findAsking, hkey, hrun]
      | false =>
        simp only at h
        obtain ⟨r', e1, e2, e3⟩ := afind_rel (w := w) kt k (i + 1) t hs.2 h
        refine ⟨r', by simp [Instr.findAsking, hkey, hrun, e1], e2, fun p hp => ?_⟩
        obtain ⟨h1, f, h2, h3⟩ := e3 p hp
        refine ⟨by omega, f, ?_, h3⟩
        have : p - i = (p - (i + 1)) + 1 := by omega
        rw [this, List.getElem?_cons_succ]; exact h2

include hE in
theorem akey_sound {kt : TypeId} {k : Value} {es es' : List MapEntry} (hes : EsRel m es es') {r : Option Nat} (h : akey E kt k es = some r) :
    ∃ r', (Instr.findKey kt k es').run E.P w = .ok r' w ∧ (r = none → r' = none) ∧ ∀ p, r = some p → ∃ f, es'[p]? = some f ∧ r' = some (p, f.val) := by
  unfold akey at h
  split at h
  · rename_i hs
    simp only [Bool.and_eq_true] at hs
    cases hu : E.u kt with
    | none => simp [hu] at h
    | some d =>
      simp only [hu] at h
      split at h
      · rename_i q hq
        simp only [Option.some.injEq] at h
        obtain ⟨r', e1, e2, e3⟩ := findNow_rel d k 0 hes hs.2 hq
        refine ⟨r', ?_, ?_, ?_⟩
        · simp [Instr.findKey, run_u hE hu, e1]
        · intro e; apply e2; subst h; cases q <;> simp_all
        · intro p hp
          subst h
          cases q with
          | none => simp at hp
          | some q =>
            simp at hp; subst hp
            obtain ⟨_, f, h1, h2⟩ := e3 q rfl
            exact ⟨f, by simpa using h1, h2⟩
      · rename_i hq
        have e0 := findNow_none d k 0 hes hs.2 hq
        obtain ⟨r', e1, e2, e3⟩ := afind_rel (w := w) kt k 0 hes hs.2 h
        refine ⟨r', ?_, e2, ?_⟩
        · simp [Instr.findKey, run_u hE hu, e0, e1]
        · intro p hp
          obtain ⟨_, f, h1, h2⟩ := e3 p hp
          exact ⟨f, by simpa using h1, h2⟩
  · cases h

include hR in
theorem map_at {id : Nat} {i : EInfo} {es : List MapEntry} {clock : Nat} (hi : m id = some i) (ho : H.get id = some (.map es clock)) :
    ∃ es' : Array MapEntry, w.heap[i.blk]? = some (.map es' clock) ∧ EsRel m es es'.toList ∧ i.ro = false := by
  obtain ⟨o', h1, h2⟩ := hR.obj id i _ hi ho
  cases h2 with
  | map _ es' _ h hr => exact ⟨es', h1, h, hr⟩

theorem run_getObj_map {P : Program} {w : World} {r : Nat} {es : Array MapEntry} {clock : Nat} (h : w.heap[r]? = some (.map es clock)) : (getObj r).run P w = .ok (.map es clock) w := by
  simp [getObj, Sem.run, h]

include hE hR in
theorem alookup_sound {t : TypeId} {x k y k' v : Value} {ok : Bool} (hx : VRel m x y) (hk : VRel m k k') (h : alookup E H t x k ok = some v) :
    ∃ v', VRel m v v' ∧ (Instr.lookup t y k' ok).run E.P w = .ok v' w := by
  unfold alookup at h
  split at h
  · rename_i kt et hu
    have hes : ∀ es, (match x with
      | .map none => some []
      | .map (some r) => match H.get r with | some (.map es _) => some es | _ => none
      | _ => none : Option (List MapEntry)) = some es → ∃ es' : Array MapEntry, EsRel m es es'.toList ∧
        ((y = .map none ∧ es' = #[]) ∨ ∃ r clock, y = .map (some r) ∧ w.heap[r]? = some (.map es' clock)) := by
      intro es he
      split at he
      · cases he
        have := hx.nilmap_inv; subst this
        exact ⟨#[], .nil, .inl ⟨rfl, rfl⟩⟩
      · rename_i r
        split at he
        · rename_i es2 clock ho
          cases he
          obtain ⟨i, hi, rfl⟩ := hx.mp_inv
          obtain ⟨es', h1, h2, _⟩ := map_at hR hi ho
          exact ⟨es', h2, .inr ⟨_, _, rfl, h1⟩⟩
        · cases he
      · cases he
    dsimp only at h
    split at h
    · cases h
    · rename_i es he
      obtain ⟨es', h1, h2⟩ := hes es he
      cases hs : scalar k with
      | false => simp [hs] at h
      | true =>
        have := hk.eq_of_scalar hs; subst this
        simp only [hs, Bool.not_true, Bool.false_eq_true, if_false] at h
        have hemp : es'.isEmpty = es.isEmpty := by
          have hl := h1.length
          show decide (es'.size = 0) = es.isEmpty
          have hl' : es.length = es'.size := by rw [hl]; simp
          rw [← hl']
          cases es <;> simp
        split at h
        · rename_i i hc hkey
          split at h
          · rename_i e he2
            cases h
            obtain ⟨r', e1, _, e3⟩ := akey_sound (w := w) hE h1 hkey
            obtain ⟨f, e4, e5⟩ := e3 i rfl
            obtain ⟨f', e6, _, hv, _⟩ := h1.get he2
            rw [e4] at e6; cases e6
            refine ⟨if ok then .tuple #[f.val, .bool true] else f.val, ?_, ?_⟩
            · cases ok
              · exact hv
              · exact .tup _ _ (.cons hv (.cons (.sc _ rfl) .nil))
            · rcases h2 with ⟨rfl, rfl⟩ | ⟨r, clock, rfl, h2⟩
              · simp only [Instr.lookup, Sem.run_bind, run_u hE hu, Result.andThen_ok, Sem.run_pure, hemp, ssem_run _ _ _ hc w, e1, e5]
              · simp only [Instr.lookup, Sem.run_bind, run_u hE hu, Result.andThen_ok, run_getObj_map h2, Sem.run_pure, hemp, ssem_run _ _ _ hc w, e1, e5]
          · cases h
        · rename_i hc hkey
          split at h
          · rename_i z hz
            split at h
            · rename_i hzs
              cases h
              obtain ⟨r', e1, e2, _⟩ := akey_sound (w := w) hE h1 hkey
              refine ⟨if ok then .tuple #[z, .bool false] else z, ?_, ?_⟩
              · cases ok
                · exact .sc _ hzs
                · exact .tup _ _ (.cons (.sc _ hzs) (.cons (.sc _ rfl) .nil))
              · rcases h2 with ⟨rfl, rfl⟩ | ⟨r, clock, rfl, h2⟩
                · simp only [Instr.lookup, Sem.run_bind, run_u hE hu, Result.andThen_ok, Sem.run_pure, hemp, ssem_run _ _ _ hc w, e1, e2 rfl, run_z hE hz]
                · simp only [Instr.lookup, Sem.run_bind, run_u hE hu, Result.andThen_ok, run_getObj_map h2, Sem.run_pure, hemp, ssem_run _ _ _ hc w, e1, e2 rfl, run_z hE hz]
            · cases h
          · cases h
        · cases h
  · cases h

/-! ### the rest -/
include hR in
theorem iter_at {id : Nat} {i : EInfo} {mm : Option Nat} {since : Nat} {seen : Array Nat} {stepped : Nat} (hi : m id = some i) (ho : H.get id = some (.mapIter mm since seen stepped)) :
    ∃ mm', w.heap[i.blk]? = some (.mapIter mm' since seen stepped) ∧ (∀ id, mm = some id → ∃ j, m id = some j ∧ mm' = some j.blk) ∧ (mm = none → mm' = none) ∧ i.ro = false ∧ i.sh = 0 := by
  obtain ⟨o', h1, h2⟩ := hR.obj id i _ hi ho
  cases h2 with
  | mapIter _ mm' _ _ _ h h0 hr hs => exact ⟨mm', h1, h, h0, hr, hs⟩

theorem find?_rel {m : Emb} (st : Nat) : ∀ {a b : List MapEntry}, EsRel m a b → ∀ {e : MapEntry}, a.find? (·.born == st) = some e → ∃ f, b.find? (·.born == st) = some f ∧ VRel m e.key f.key ∧ VRel m e.val f.val
  | _, _, .nil, e, h => by simp at h
  | _, _, .cons (e := x) (f := y) hk hv hb t, e, h => by
    rw [List.find?_cons] at h ⊢
    rw [← hb]
    cases hq : x.born == st with
    | true => rw [hq] at h; cases h; exact ⟨y, by simp, hk, hv⟩
    | false => rw [hq] at h; exact find?_rel st t h

include hR in
theorem aentry_sound {it : RV} {y v : Value} (hx : VRel m (it.f a) y) (h : (aentry it).f a H = some v) : ∃ v', VRel m v v' ∧ (Instr.entry y).run E.P w = .ok v' w := by
  simp only [aentry] at h
  split at h
  · rename_i id hxv
    rw [hxv] at hx
    obtain ⟨i, hi, rfl⟩ := hx.ptr_inv
    split at h
    · rename_i mm since seen stepped ho
      obtain ⟨mm', h1, h2, _, _, hs⟩ := iter_at hR hi ho
      split at h
      · rename_i st es clock hb hm
        split at h
        · rename_i hc
          split at h
          · rename_i e he
            cases h
            obtain ⟨j, hj, rfl⟩ := h2 _ rfl
            obtain ⟨es', h3, h4, _⟩ := map_at hR hj hm
            obtain ⟨f, h5, h6, h7⟩ := find?_rel st h4 he
            refine ⟨.tuple ⟨[f.key, f.val]⟩, .tup _ _ (.cons h6 (.cons h7 .nil)), ?_⟩
            have h8 : es'.find? (·.born == st) = some f := by rw [← Array.find?_toList]; exact h5
            have h9 : (getObj i.blk).run E.P w = .ok (.mapIter (some j.blk) since seen stepped) w := by simp [getObj, Sem.run, h1]
            simp [Instr.entry, hs, h9, hb, run_getObj_map h3, hc, h8]
          · cases h
        · cases h
      · cases h
    · cases h
  · cases h

include hE in
theorem alenOf_sound {t : TypeId} {x : RV} {y v : Value} (hR : Rel m n0 H w) (hx : VRel m (x.f a) y) (h : (alenOf E t x).f a H = some v) (ts : Array TypeId) (ht : ts[0]? = some t) (ty : TypeId) (args : Array Value) (hargs : args[0]? = some y) :
    ∃ v', VRel m v v' ∧ (Builtin.len_ ts ty args).run E.P w = .ok v' w := by
  unfold alenOf at h
  split at h
  · rename_i hu
    simp only at h
    split at h
    · rename_i s hxv
      cases h
      rw [hxv] at hx
      have := hx.str_inv; subst this
      exact ⟨_, .sc _ rfl, by simp [Builtin.len_, ht, hargs, run_u hE hu]⟩
    · cases h
  · rename_i e hu
    simp only at h
    split at h
    · rename_i p n c hxv
      cases h
      rw [hxv] at hx
      have : ∃ p' c', y = .slice p' n c' := by cases hx <;> exact ⟨_, _, rfl⟩
      obtain ⟨p', c', rfl⟩ := this
      exact ⟨_, .sc _ rfl, by simp [Builtin.len_, ht, hargs, run_u hE hu]⟩
    · cases h
  · rename_i n e hu
    cases h
    exact ⟨_, .sc _ rfl, by simp [Builtin.len_, ht, hargs, run_u hE hu]⟩
  · rename_i k e hu
    simp only at h
    split at h
    · rename_i hxv
      cases h
      rw [hxv] at hx
      have := hx.nilmap_inv; subst this
      exact ⟨_, .sc _ rfl, by simp [Builtin.len_, ht, hargs, run_u hE hu]⟩
    · rename_i r hxv
      split at h
      · rename_i es clock ho
        cases h
        rw [hxv] at hx
        obtain ⟨i, hi, rfl⟩ := hx.mp_inv
        obtain ⟨es', h3, h4, _⟩ := map_at hR hi ho
        have hl := h4.length
        refine ⟨_, .sc _ rfl, ?_⟩
        have hl' : es.length = es'.size := by rw [hl]; simp
        simp [Builtin.len_, ht, hargs, run_u hE hu, run_getObj_map h3, hl']
      · cases h
    · cases h
  · simp [rdNone] at h

def amaxF (mx : Bool) : Option Int → Value → Option Int := fun acc v => match acc, v with
  | some a, .int _ y => some (if mx then (if y > a then y else a) else (if y < a then y else a))
  | _, _ => none
theorem amaxF_none (mx : Bool) (l : List Value) : l.foldl (amaxF mx) none = none := by
  induction l with
  | nil => rfl
  | cons v l ih => exact ih
theorem foldlM_max {P : Program} {w : World} (mx : Bool) (k : IntKind) : ∀ (l : List Value) (x : Int) (z : Int), l.foldl (amaxF mx) (some x) = some z →
    (l.foldlM (if mx then Builtin.max2 else Builtin.min2) (.int k x)).run P w = .ok (.int k z) w ∧ scalars l = true
  | [], x, z, h => by simp at h; subst h; exact ⟨rfl, rfl⟩
  | v :: l, x, z, h => by
    simp only [List.foldl_cons] at h
    cases v with
    | int k' y =>
      obtain ⟨h1, h2⟩ := foldlM_max mx k l _ z h
      refine ⟨?_, by simp [scalars, scalar, h2]⟩
      simp only [List.foldlM_cons, Sem.run_bind]
      cases mx
      · simpa [Builtin.min2] using h1
      · simpa [Builtin.max2] using h1
    | _ => exact absurd h (by rw [show amaxF mx (some x) _ = none from rfl, amaxF_none]; simp)

theorem amax_sound {mx : Bool} {l l' : List Value} {v : Value} (hl : LRel m l l') (h : amax mx l = some v) (w : World) :
    scalar v = true ∧ ∃ x rest, l' = x :: rest ∧ (rest.foldlM (if mx then Builtin.max2 else Builtin.min2) x).run E.P w = .ok v w := by
  cases l with
  | nil => simp [amax] at h
  | cons x l =>
    cases x with
    | int k x =>
      change ((l.foldl (amaxF mx) (some x)).map (Value.int k)) = some v at h
      cases hz : l.foldl (amaxF mx) (some x) with
      | none => rw [hz] at h; cases h
      | some z =>
        rw [hz] at h
        cases h
        obtain ⟨h1, h2⟩ := foldlM_max (P := E.P) (w := w) mx k l x z hz
        have e : scalars (Value.int k x :: l) = true := by simp [scalars, scalar, h2]
        have := hl.eq_of_scalars e
        subst this
        exact ⟨rfl, _, _, rfl, h1⟩
    | _ => simp [amax] at h

theorem bytesOf_ints : ∀ {l : List Value} {bs : List UInt8}, bytesOf? l = some bs → ∃ ns : List Int, l = ns.map (Value.int .u8) ∧ bs = ns.map fun n => UInt8.ofNat n.toNat
  | [], bs, h => by simp only [bytesOf?, Option.some.injEq] at h; subst h; exact ⟨[], rfl, rfl⟩
  | v :: l, bs, h => by
    simp only [bytesOf?] at h
    split at h
    · rename_i b bs' h1 h2
      cases h
      obtain ⟨ns, e1, e2⟩ := bytesOf_ints h2
      unfold byteOf? at h1
      split at h1
      · rename_i n
        cases h1
        exact ⟨n :: ns, by rw [e1]; rfl, by rw [e2]; rfl⟩
      · cases h1
    · cases h
theorem scalars_ints (k : IntKind) (ns : List Int) : scalars (ns.map (Value.int k)) = true := by
  rw [scalars_iff]
  intro v hv
  simp at hv
  obtain ⟨n, _, rfl⟩ := hv
  rfl
theorem foldl_push_ints (ns : List Int) : ∀ s : ByteArray, ns.foldl (fun r n => r.push (UInt8.ofNat n.toNat)) s = ⟨⟨s.data.toList ++ ns.map fun n => UInt8.ofNat n.toNat⟩⟩ := by
  induction ns with
  | nil => intro s; simp
  | cons n ns ih =>
    intro s
    rw [List.foldl_cons, ih]
    simp [ByteArray.push]

include hR in
theorem abytes_sound {x y v : Value} (hx : VRel m x y) (h : abytes H x = some v) : ∃ v', VRel m v v' ∧ (Conv.bytesToString y).run E.P w = .ok v' w := by
  unfold abytes at h
  split at h
  · cases h
    have := hx.nilsl_inv; subst this
    exact ⟨_, .sc _ rfl, by simp [Conv.bytesToString]⟩
  · rename_i id off len cap
    split at h
    · rename_i c k z e g fz ho
      split at h
      · rename_i l hl
        cases hb : bytesOf? l with
        | none => rw [hb] at h; cases h
        | some bs =>
          rw [hb] at h
          cases h
          unfold rd at hl
          cases hc : Nat.ble (off + len) k with
          | false => rw [hc] at hl; cases hl
          | true =>
            rw [hc] at hl
            simp only [cond_true, Option.some.injEq] at hl
            subst hl
            obtain ⟨ns, e1, e2⟩ := bytesOf_ints hb
            obtain ⟨i, hi, ⟨_, rfl⟩ | ⟨rfl, rfl, p, rfl⟩⟩ := hx.sl_inv
            · obtain ⟨l', h1, h2⟩ := cells_row (E := E) hR hi ho (ble_iff.1 hc)
              rw [e1] at h2
              have := h2.eq_of_scalars (scalars_ints _ _)
              subst this
              refine ⟨.string ⟨⟨bs⟩⟩, .sc _ rfl, ?_⟩
              rw [run_bytesToString w _ len _ ns h1, foldl_push_ints, e2]
              rfl
            · have : ns = [] := by
                have := congrArg List.length e1
                rw [listAt_length] at this
                simpa using this.symm
              subst this
              simp at e2
              subst e2
              refine ⟨.string ⟨⟨[]⟩⟩, .sc _ rfl, ?_⟩
              have h1 : (loadCells p 0).run E.P w = .ok (([] : List Int).map (Value.int .u8)).toArray w := rfl
              rw [run_bytesToString w _ 0 _ [] h1]
              rfl
      · cases h
    · cases h
  · cases h

theorem unary_run {P : Program} {w : World} (b : Bool) : (Op.unary .not (.bool b)).run P w = .ok (.bool !b) w := rfl

include hE hR in
theorem aptr_sound {s d : TypeId} {id off : Nat} {y v : Value} (hx : VRel m (.pointer (some ⟨id, off, none⟩)) y) (h : aptr E H s d id off = some v) :
    ∃ v', VRel m v v' ∧ (convert s d y).run E.P w = .ok v' w := by
  unfold aptr at h
  obtain ⟨i, hi, rfl⟩ := hx.ptr_inv
  split at h
  · rename_i c n z e fz ho
    obtain ⟨c', fz', h1, hcr⟩ := cells_at hR hi ho
    have hsh : w.shape? i.blk = some (e, c'.size) := by simp [World.shape?, h1]
    have hobj : (viewAt i.blk).run E.P w = .ok none w := by simp [viewAt, hsh]
    split at h
    · rename_i t hu hd
      split at h
      · rename_i hc
        cases h
        refine ⟨_, .ptr id off i hi, ?_⟩
        cases hs : E.sz t with
        | none => simp [hs] at hc
        | some k =>
          simp [hs] at hc
          have hroom := hcr.room
          have hnot : ¬ (c'.size ≤ i.sh + off) := by omega
          have hcells : (cellsIn i.blk).run E.P w = .ok (some c'.size) w := by simp [cellsIn, hsh]
          simp [convert, run_u hE hu, run_u hE hd, Conv.unsafePointer, Conv.seenAt, hobj, run_sz hE hs, hc.2, hcells, hnot]
      · cases h
    · rename_i u hu hd
      split at h
      · rename_i hc
        cases h
        refine ⟨_, .ptr id off i hi, ?_⟩
        cases hs : E.sz u with
        | none => simp [hs] at hc
        | some k =>
          simp [hs] at hc
          have hro : i.ro = false := by
            cases hr : i.ro with
            | false => rfl
            | true =>
              have := hcr.isro hr
              rw [this] at hc
              simp at hc
              omega
          obtain ⟨hsh0, hsz⟩ := (hcr.plain rfl).2 hro
          have hv : (variablesAt ⟨i.blk, i.sh + off, none⟩ u 1).run E.P w = .ok true w := by
            simp [variablesAt, hsh, hsz, hsh0, hc.2.2]
          simp [convert, run_u hE hu, run_u hE hd, Conv.unsafePointer, Conv.seenAt, hobj, run_sz hE hs, hc.1, hv]
      · cases h
    · cases h
  · cases h
include hE hR in
theorem aconvert_sound {s d : TypeId} {x : RV} {y v : Value} (hx : VRel m (x.f a) y) (h : (aconvert E s d x).f a H = some v) :
    ∃ v', VRel m v v' ∧ (convert s d y).run E.P w = .ok v' w := by
  unfold aconvert at h
  split at h
  · rename_i e hs
    split at h
    · rename_i hd
      split at h
      · rename_i he
        simp only at h
        split at h
        · rename_i p l c hxv
          rw [hxv] at hx
          obtain ⟨v', e1, e2⟩ := abytes_sound (E := E) hR hx h
          refine ⟨v', e1, ?_⟩
          have : ∃ p' c', y = .slice p' l c' := by cases hx <;> exact ⟨_, _, rfl⟩
          obtain ⟨p', c', rfl⟩ := this
          rw [run_convert_bytes_string w s d e p' l c' (hE.u _ _ hs) (hE.u _ _ he) (hE.u _ _ hd), e2]
        · cases h
      · simp [rdNone] at h
    · simp [rdNone] at h
  · rename_i hns
    simp only at h
    split at h
    · rename_i id off hxv
      rw [hxv] at hx
      exact aptr_sound hE hR hx h
    · cases h
    · rename_i hp hsl
      unfold aconv at h
      split at h
      · rename_i ds k j n hs hd hxi
        cases h
        rw [hxi] at hx
        have := hx.int_inv; subst this
        exact ⟨_, .sc _ rfl, by simp [convert, run_u hE hs, run_u hE hd, Conv.intToInt, fwrap_eq]⟩
      · cases h
      · cases h
      · split at h
        · rename_i hsc
          obtain ⟨h1, h2⟩ := sc_some h
          rw [hx.eq_of_scalar hsc]
          exact ⟨v, .sc _ h2, ssem_run _ _ _ h1 w⟩
        · cases h

/-- ████ What the evaluator reads, the model reads. -/
theorem pread_sound (hE : E.Ok) (hR : Rel m n0 H w) (ha : EvRel m a ρ) (o : Oper) {v : Value} (h : pread E a H o = some v) : ∃ v', VRel m v v' ∧ (execOp ρ o).run E.P w = .ok (.value v') w := by
  obtain ⟨dst, op, type, pos, after, guard⟩ := o
  have lift : ∀ {s : Sem Value}, (∃ v', VRel m v v' ∧ s.run E.P w = .ok v' w) → ∃ v', VRel m v v' ∧ (do pure (.value (← s)) : Sem Next).run E.P w = .ok (.value v') w := by
    rintro s ⟨v', h1, h2⟩
    exact ⟨v', h1, by simp [h2]⟩
  unfold pread at h
  cases op with
  | move x => simp only [rread, Option.some.injEq] at h; subst h; exact ⟨_, ha x, rfl⟩
  | assign x => simp only [rread, Option.some.injEq] at h; subst h; exact ⟨_, ha x, rfl⟩
  | pick c x y =>
    simp only [rread] at h
    split at h
    · rename_i b hb
      cases h
      have hc := ha c
      change ev a c = _ at hb
      rw [hb] at hc
      have hc := hc.bool_inv
      refine ⟨if b then ρ x else ρ y, ?_, ?_⟩
      · cases b
        · exact ha y
        · exact ha x
      · simp [execOp, hc, asBool]
    · cases h
  | load t x => exact lift (aload_sound hE hR (ha x) h)
  | nilCheck x =>
    simp only [rread] at h
    have hx := ha x
    split at h
    · rename_i p hp
      cases h
      change ev a x = _ at hp
      rw [hp] at hx
      obtain ⟨r, hr, hn⟩ := hx.anyptr
      cases r with
      | none => simp at hn
      | some r => exact ⟨.pointer (some r), by rw [← hr]; exact hx, by simp [execOp, hr]⟩
    · rename_i f c d hf
      cases h
      change ev a x = _ at hf
      rw [hf] at hx
      obtain ⟨c⟩ := c; obtain ⟨d⟩ := d
      obtain ⟨c', d', hr, h1, h2⟩ := hx.fn_inv
      exact ⟨_, .fn f _ _ _ _ h1 h2, by simp [execOp, hr]⟩
    · rename_i f c d hf
      cases h
      change ev a x = _ at hf
      rw [hf] at hx
      obtain ⟨i, hi, hr, rfl, rfl⟩ := hx.yl_inv
      exact ⟨_, .yl _ i hi, by simp [execOp, hr]⟩
    · cases h
  | binOp op t x y yt => exact lift (abin_sound hE ha h)
  | unOp op t x =>
    have hx := ha x
    have hrest : ∀ {op : UnOp}, (if scalar (ev a x) then sc (ssem E.P (Op.unary op (ev a x))) else none) = some v →
        ∃ v', VRel m v v' ∧ (do pure (.value (← Op.unary op (ρ x))) : Sem Next).run E.P w = .ok (.value v') w := by
      intro op h
      split at h
      · rename_i hs
        obtain ⟨h1, h2⟩ := sc_some h
        have e := hx.eq_of_scalar hs
        exact ⟨v, .sc _ h2, by rw [e]; simp [ssem_run _ _ _ h1 w]⟩
      · cases h
    have hnot : ∀ b, ev a x = .bool b → some (Value.bool (!b)) = some v → ∃ v', VRel m v v' ∧ (do pure (.value (← Op.unary .not (ρ x))) : Sem Next).run E.P w = .ok (.value v') w := by
      intro b hb h
      cases h
      rw [hb] at hx
      exact ⟨_, .sc _ rfl, by simp [hx.bool_inv, unary_run]⟩
    cases op with
    | not =>
      simp only [rread] at h
      cases hv : ev a x with
      | bool b =>
        have hv' : (rv x).f a = .bool b := hv
        rw [hv'] at h
        exact hnot b hv h
      | _ =>
        have hv' : (rv x).f a = _ := hv
        rw [hv'] at h
        rw [hv] at hrest
        exact hrest h
    | _ => exact hrest h
  | convert s d x => exact lift (aconvert_sound hE hR (ha x) h)
  | makeInterface t x =>
    simp only [rread] at h
    cases hu : E.u t with
    | none => simp [hu, rdNone] at h
    | some d =>
      have hrun : (∀ ms, d ≠ .interface ms) → (Instr.makeInterface t (ρ x)).run E.P w = .ok (.iface t (ρ x)) w := by
        intro hd
        simp only [Instr.makeInterface, Sem.run_bind, run_u hE hu, Result.andThen_ok]
        cases d <;> first | rfl | exact absurd rfl (hd _)
      cases d with
      | interface ms => simp [hu, rdNone] at h
      | _ =>
        simp only [hu] at h
        split at h
        · cases h
          refine ⟨_, .ifc _ _ _ (ha x), ?_⟩
          simp only [execOp, Sem.run_bind, hrun (by intro ms e; cases e), Result.andThen_ok]
          rfl
        · cases h
  | makeFunc fn x y =>
    cases fn with
    | func f =>
      simp only [rread, Option.some.injEq] at h
      subst h
      refine ⟨.func (.func f) (x.map ρ) (y.map ρ), ?_, rfl⟩
      have hl : ∀ z : Array Operand, LRel m (z.map (ev a)).toList (z.map ρ).toList := fun z => by
        simp only [Array.toList_map]
        exact LRel.map _ _ _ fun o _ => ha o
      exact .fn f (x.map (ev a)).toList (y.map (ev a)).toList (x.map ρ).toList (y.map ρ).toList (hl x) (hl y)
    | _ => simp [rread, rdNone] at h
  | fieldAddr s x f => exact lift (afieldAddr_sound hE (ha x) h)
  | field t x f => exact lift (afield_sound hE (ha x) h)
  | indexAddr t x i => exact lift (aindexAddr_sound hE (ha x) (ha i) h)
  | index t x i => exact lift (aindex_sound hE (ha x) (ha i) h)
  | lookup t mm k ok => exact lift (alookup_sound hE hR (ha mm) (ha k) h)
  | extract x i =>
    simp only [rread] at h
    have hx := ha x
    split at h
    · rename_i l hl
      change ev a x = _ at hl
      rw [hl] at hx
      obtain ⟨l', hr, hlr⟩ := hx.tup_inv
      rw [rd1_eq] at h
      obtain ⟨v', h1, h2⟩ := hlr.get h
      exact ⟨v', h2, by simp [execOp, hr, Instr.extract, h1]⟩
    · cases h
  | build t ps => exact lift (abuild_sound hE ha h)
  | slice t x lo hi mx =>
    simp only [rread] at h
    split at h
    · split at h
      · rename_i n e hu
        exact lift (asliceArr_sound hE hR hu (ha x) (BRel.of ha lo) (BRel.of ha hi) h)
      · exact lift (aslice_sound hE hR (ha x) (BRel.of ha lo) (BRel.of ha hi) h)
    · simp [rdNone] at h
  | entry it => exact lift (aentry_sound hR (ha it) h)
  | call c =>
    obtain ⟨callee, args, argTypes⟩ := c
    cases callee with
    | builtin b =>
      have hex : ∀ {s : Sem Value} {v' : Value}, s.run E.P w = .ok v' w → (∀ cs, builtin b argTypes type cs (args.map ρ) = (do pure (.value (← s)))) →
          (execOp ρ { dst, op := .call { callee := .builtin b, args, argTypes }, type, pos, after, guard }).run E.P w = .ok (.value v') w := by
        intro s v' h1 h2
        simp only [execOp, resolve, pure_bind, invoke]
        rw [h2 _]
        simp [h1]
      simp only [rread, acallRead] at h
      split at h
      · split at h
        · rename_i x t hx ht
          obtain ⟨v', h1, h2⟩ := alenOf_sound hE hR (ha x) h argTypes ht type (args.map ρ) (by simp [hx])
          exact ⟨v', h1, hex h2 fun _ => rfl⟩
        · simp [rdNone] at h
      · split at h
        · rename_i x hx
          have hax := ha x
          have hargs : args.map ρ = #[ρ x] := by
            obtain ⟨args⟩ := args
            simp only at hx
            subst hx
            simp
          simp only at h
          split at h
          · rename_i p c hv
            cases h
            rw [hv] at hax
            refine ⟨_, .sc _ rfl, hex (s := Builtin.unsafeSliceData_ argTypes type (args.map ρ)) ?_ fun _ => rfl⟩
            rw [hargs, hax.nilsl_inv]
            rfl
          · rename_i id off n c hv
            cases h
            rw [hv] at hax
            obtain ⟨i, hi, ⟨_, hr⟩ | ⟨_, h0, _⟩⟩ := hax.sl_inv
            · refine ⟨_, .ptr _ _ i hi, hex (s := Builtin.unsafeSliceData_ argTypes type (args.map ρ)) ?_ fun _ => rfl⟩
              rw [hargs, hr, Go.Lib.run_unsafeSliceData_row]
              omega
            · cases h0
          · cases h
        · simp [rdNone] at h
      · have hl : LRel m (args.toList.map (ev a)) (args.map ρ).toList := by
          simp only [Array.toList_map]; exact LRel.map _ _ _ fun o _ => ha o
        obtain ⟨h1, x, rest, h2, h3⟩ := amax_sound (E := E) hl h w
        refine ⟨v, .sc _ h1, hex (s := Builtin.max_ argTypes type (args.map ρ)) ?_ fun _ => rfl⟩
        simp only [Builtin.max_, h2]
        exact h3
      · have hl : LRel m (args.toList.map (ev a)) (args.map ρ).toList := by
          simp only [Array.toList_map]; exact LRel.map _ _ _ fun o _ => ha o
        obtain ⟨h1, x, rest, h2, h3⟩ := amax_sound (E := E) hl h w
        refine ⟨v, .sc _ h1, hex (s := Builtin.min_ argTypes type (args.map ρ)) ?_ fun _ => rfl⟩
        simp only [Builtin.min_, h2]
        exact h3
      · simp [rdNone] at h
    | _ => simp [rread, rdNone] at h
  | _ => simp [rread, rdNone] at h
end reads
end Go.Ai
