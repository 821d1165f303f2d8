/-
  What the evaluator does to maps is what the model does; no condition.
-/
import Derived.Test.YtkeomdnlibchcaaGreatAiH
namespace Go.Ai
open Go.RowKit (Below)

theorem EsRel.set_modify {m : Emb} : ∀ {a b : List MapEntry}, EsRel m a b → ∀ (i : Nat) (x : MapEntry) (g : MapEntry → MapEntry), (∀ e f, a[i]? = some e → b[i]? = some f → VRel m e.val f.val → e.born = f.born → VRel m x.key (g f).key ∧ VRel m x.val (g f).val ∧ x.born = (g f).born) →
    EsRel m (a.set i x) (b.modify i g)
  | _, _, .nil, i, x, g, _ => by simp; exact .nil
  | _, _, .cons (e := e) (f := f) hk hv hb t, i, x, g, h => by
    cases i with
    | zero =>
      obtain ⟨h1, h2, h3⟩ := h e f rfl rfl hv hb
      exact .cons h1 h2 h3 t
    | succ i => exact .cons hk hv hb (EsRel.set_modify t i x g fun e f h1 h2 => h e f (by simpa using h1) (by simpa using h2))
theorem EsRel.append {m : Emb} : ∀ {a b c d : List MapEntry}, EsRel m a b → EsRel m c d → EsRel m (a ++ c) (b ++ d)
  | _, _, _, _, .nil, k => k
  | _, _, _, _, .cons hk hv hb t, k => .cons hk hv hb (EsRel.append t k)
theorem EsRel.erase {m : Emb} : ∀ {a b : List MapEntry}, EsRel m a b → ∀ (i : Nat), EsRel m (a.eraseIdx i) (b.eraseIdx i)
  | _, _, .nil, i => by simp; exact .nil
  | _, _, .cons hk hv hb t, i => by
    cases i with
    | zero => exact t
    | succ i => exact .cons hk hv hb (EsRel.erase t i)
theorem EsRel.findIdx {m : Emb} (p : MapEntry → Bool) (hp : ∀ e f : MapEntry, e.born = f.born → p e = p f) : ∀ {a b : List MapEntry}, EsRel m a b → b.findIdx? p = a.findIdx? p
  | _, _, .nil => rfl
  | _, _, .cons (e := e) (f := f) hk hv hb t => by
    rw [List.findIdx?_cons, List.findIdx?_cons, ← hp e f hb, EsRel.findIdx p hp t]

theorem akey_scalar {E : Env} {kt : TypeId} {k : Value} {es : List MapEntry} {r : Option Nat} (h : akey E kt k es = some r) : scalar k = true ∧ ∀ e ∈ es, scalar e.key = true := by
  unfold akey at h
  split at h
  · rename_i hs
    simp only [Bool.and_eq_true, List.all_eq_true] at hs
    exact hs
  · cases h

theorem run_setObj_map {P : Program} {w : World} {r : Nat} {es : Array MapEntry} {clock : Nat} (h : w.heap[r]? = some (.map es clock)) (o : Obj) :
    (setObj r o).run P w = .ok () { w with heap := w.heap.setIfInBounds r o } := by
  simp [setObj, Sem.run, h]

theorem setObj_one {w : World} {r : Nat} {q : Obj} (h : w.heap[r]? = some q) (o : Obj) : OneBlock r o w { w with heap := w.heap.setIfInBounds r o } := by
  have hlt : r < w.heap.size := by
    rcases Nat.lt_or_ge r w.heap.size with hh | hh
    · exact hh
    · rw [Array.getElem?_eq_none hh] at h; cases h
  refine ⟨rfl, rfl, rfl, by simp, ?_, fun k hk => ?_⟩
  · show (w.heap.setIfInBounds r o)[r]? = _
    rw [Array.getElem?_setIfInBounds, if_pos rfl, if_pos hlt]
  · show (w.heap.setIfInBounds r o)[k]? = _
    rw [Array.getElem?_setIfInBounds, if_neg (by omega)]

section
variable {E : Env} (hE : E.Ok) {m : Emb} {n0 : Nat} {H : AHeap} {w : World} (hR : Rel m n0 H w)

include hR in
/-- A map turned, on both sides. -/
theorem map_turn {id : Nat} {i : EInfo} {es es2 : List MapEntry} {es' es2' : Array MapEntry} {clock clock2 : Nat} (hi : m id = some i) (ho : H.get id = some (.map es clock)) (hw : w.heap[i.blk]? = some (.map es' clock)) (hro : i.ro = false)
    (hrel : EsRel m es2 es2'.toList) : ∃ w', (setObj i.blk (.map es2' clock2)).run E.P w = .ok () w' ∧ Rel m n0 (H.set id (.map es2 clock2)) w' ∧ Below n0 w w' ∧ Untouched m m H (H.set id (.map es2 clock2)) := by
  have h1 := setObj_one hw (.map es2' clock2)
  exact ⟨_, run_setObj_map hw _, hR.set hi hro ⟨_, ho, by intro hd; cases hd⟩ (.map _ _ _ hrel hro) h1, h1.below ((hR.low id i hi).1 hro),
    Untouched.one hi fun id' hne => by rw [AHeap.get_set, if_neg hne]⟩

theorem keys_same {es es' : List MapEntry} (h : EsRel m es es') (hs : ∀ e ∈ es, scalar e.key = true) {i : Nat} {e : MapEntry} (he : es[i]? = some e) : ∃ f, es'[i]? = some f ∧ f.key = e.key ∧ VRel m e.val f.val ∧ e.born = f.born := by
  obtain ⟨f, h1, h2, h3, h4⟩ := h.get he
  exact ⟨f, h1, h2.eq_of_scalar (hs e (List.mem_of_getElem? he)), h3, h4⟩

theorem run_keyThatStays {P : Program} {w : World} {old new : Value} (h : Instr.sameBits 10000 old new = true) : (Instr.keyThatStays old new).run P w = .ok new w := by
  simp [Instr.keyThatStays, h]

include hE hR in
theorem amapUpdate_sound {t : TypeId} {mm k v y k' u : Value} {K : VK} (hm : VRel m mm y) (hk : VRel m k k') (hv : VRel m v u) (h : aSt (amapUpdate E H t mm k v) K) :
    Out E m n0 H w (do Instr.mapUpdate t y k' u; pure .skip) K := by
  unfold aSt at h
  split at h
  · rename_i H' hq
    unfold amapUpdate at hq
    split at hq
    · rename_i kt et r hu
      split at hq
      · rename_i es clock ho
        split at hq
        · cases hq
        · rename_i hs
          obtain ⟨i, hi, rfl⟩ := hm.mp_inv
          obtain ⟨es', h1, h2, hro⟩ := map_at hR hi ho
          split at hq
          · rename_i j hc hkey
            obtain ⟨hks, hes⟩ := akey_scalar hkey
            have := hk.eq_of_scalar hks; subst this
            split at hq
            · rename_i e he
              split at hq
              · rename_i hsb
                cases hq
                obtain ⟨r', e1, _, e3⟩ := akey_sound (w := w) hE h2 hkey
                obtain ⟨f, e4, e5⟩ := e3 j rfl
                obtain ⟨f2, e6, e7, _, e9⟩ := keys_same h2 hes he
                rw [e4] at e6; cases e6
                obtain ⟨w', h3, h4, h5, h6⟩ := map_turn (E := E) (es2 := es.set j { e with key := k', val := v }) (es2' := es'.modify j fun e => { e with key := k', val := u }) (clock2 := clock) hR hi ho h1 hro (by
                  rw [Array.toList_modify]
                  refine h2.set_modify j _ _ fun e' f' g1 g2 g3 g4 => ⟨.sc _ hks, hv, ?_⟩
                  rw [he] at g1; cases g1; exact g4)
                refine ⟨undef, _, m, .skip, w', h, ?_, .inr ⟨rfl, rfl⟩, h4, Emb.le_refl m, h5, h6, Nat.le_refl _⟩
                have e4' : es'[j]? = some f := by rw [← Array.getElem?_toList]; exact e4
                simp [Instr.mapUpdate, run_u hE hu, run_getObj_map h1, ssem_run _ _ _ hc w, e1, e5, e4', e7, run_keyThatStays hsb, h3]
              · cases hq
            · cases hq
          · rename_i hc hkey
            cases hq
            obtain ⟨hks, hes⟩ := akey_scalar hkey
            have := hk.eq_of_scalar hks; subst this
            obtain ⟨r', e1, e2, _⟩ := akey_sound (w := w) hE h2 hkey
            have e2 := e2 rfl
            subst e2
            obtain ⟨w', h3, h4, h5, h6⟩ := map_turn (E := E) (es2 := es ++ [{ key := k', val := v, born := clock }]) (es2' := es'.push { key := k', val := u, born := clock }) (clock2 := clock + 1) hR hi ho h1 hro (by
              rw [Array.toList_push]
              exact h2.append (.cons (.sc _ hks) hv rfl .nil))
            refine ⟨undef, _, m, .skip, w', h, ?_, .inr ⟨rfl, rfl⟩, h4, Emb.le_refl m, h5, h6, Nat.le_refl _⟩
            simp [Instr.mapUpdate, run_u hE hu, run_getObj_map h1, ssem_run _ _ _ hc w, e1, h3]
          · cases hq
      · cases hq
    · cases hq
  · exact h.elim

include hE hR in
theorem amapEntry_sound {t : TypeId} {mm k y k' : Value} {K : VK} (hm : VRel m mm y) (hk : VRel m k k') (h : aVs (amapEntry E H t mm k) K) :
    Out E m n0 H w (do pure (.value (← Instr.mapEntry t y k'))) K := by
  unfold aVs at h
  split at h
  · rename_i v H' hq
    unfold amapEntry at hq
    split at hq
    · rename_i kt et r hu
      split at hq
      · rename_i es clock ho
        split at hq
        · cases hq
        · rename_i hs
          obtain ⟨i, hi, rfl⟩ := hm.mp_inv
          obtain ⟨es', h1, h2, hro⟩ := map_at hR hi ho
          split at hq
          · rename_i j hc hkey
            obtain ⟨hks, hes⟩ := akey_scalar hkey
            have := hk.eq_of_scalar hks; subst this
            split at hq
            · rename_i e he
              split at hq
              · rename_i hsb
                cases hq
                obtain ⟨r', e1, _, e3⟩ := akey_sound (w := w) hE h2 hkey
                obtain ⟨f, e4, e5⟩ := e3 j rfl
                obtain ⟨f2, e6, e7, e8, e9⟩ := keys_same h2 hes he
                rw [e4] at e6; cases e6
                obtain ⟨w', h3, h4, h5, h6⟩ := map_turn (E := E) (es2 := es.set j { e with key := k' }) (es2' := es'.modify j fun e => { e with key := k' }) (clock2 := clock) hR hi ho h1 hro (by
                  rw [Array.toList_modify]
                  refine h2.set_modify j _ _ fun e' f' g1 g2 g3 g4 => ⟨.sc _ hks, ?_, ?_⟩
                  · rw [he] at g1; cases g1; exact g3
                  · rw [he] at g1; cases g1; exact g4)
                have e4' : es'[j]? = some f := by rw [← Array.getElem?_toList]; exact e4
                refine ⟨_, _, m, .value (.tuple #[f.val, goInt f.born]), w', h, ?_, .inl ⟨_, rfl, ?_⟩, h4, Emb.le_refl m, h5, h6, Nat.le_refl _⟩
                · simp [Instr.mapEntry, run_u hE hu, run_getObj_map h1, ssem_run _ _ _ hc w, e1, e5, e4', e7, run_keyThatStays hsb, h3]
                · exact .tup _ _ (.cons e8 (.cons (by rw [e9]; exact .sc _ rfl) .nil))
              · cases hq
            · cases hq
          · rename_i hc hkey
            split at hq
            · rename_i z hz
              split at hq
              · rename_i hzs
                cases hq
                obtain ⟨hks, hes⟩ := akey_scalar hkey
                have := hk.eq_of_scalar hks; subst this
                obtain ⟨r', e1, e2, _⟩ := akey_sound (w := w) hE h2 hkey
                have e2 := e2 rfl
                subst e2
                obtain ⟨w', h3, h4, h5, h6⟩ := map_turn (E := E) (es2 := es ++ [{ key := k', val := z, born := clock }]) (es2' := es'.push { key := k', val := z, born := clock }) (clock2 := clock + 1) hR hi ho h1 hro (by
                  rw [Array.toList_push]
                  exact h2.append (.cons (.sc _ hks) (.sc _ hzs) rfl .nil))
                refine ⟨_, _, m, .value (.tuple #[z, goInt clock]), w', h, ?_, .inl ⟨_, rfl, .tup _ _ (.cons (.sc _ hzs) (.cons (.sc _ rfl) .nil))⟩, h4, Emb.le_refl m, h5, h6, Nat.le_refl _⟩
                simp [Instr.mapEntry, run_u hE hu, run_getObj_map h1, ssem_run _ _ _ hc w, e1, run_z hE hz, h3]
              · cases hq
            · cases hq
          · cases hq
      · cases hq
    · cases hq
  · exact h.elim

omit hE in
theorem arr_findIdx? {α : Type} (p : α → Bool) (a : Array α) : a.findIdx? p = a.toList.findIdx? p := by
  cases a; simp

include hR in
theorem aentryStore_sound {t : TypeId} {mm s v y s' u : Value} {K : VK} (hm : VRel m mm y) (hs : VRel m s s') (hv : VRel m v u) (h : aSt (aentryStore H mm s v) K) :
    Out E m n0 H w (do Instr.entryStore t y s' u; pure .skip) K := by
  unfold aSt at h
  split at h
  · rename_i H' hq
    unfold aentryStore at hq
    split at hq
    · rename_i r born hsi
      split at hq
      · rename_i es clock ho
        split at hq
        · cases hq
        · split at hq
          · rename_i j hj
            split at hq
            · rename_i e he
              cases hq
              obtain ⟨i, hi, rfl⟩ := hm.mp_inv
              obtain ⟨es', h1, h2, hro⟩ := map_at hR hi ho
              have hs' : ∃ k, s = .int k born := by
                unfold intOf? at hsi
                split at hsi
                · cases hsi; exact ⟨_, rfl⟩
                · cases hsi
              obtain ⟨k, rfl⟩ := hs'
              have := hs.int_inv; subst this
              have hf : es'.findIdx? (fun e => (e.born : Int) == born) = some j := by
                rw [arr_findIdx?, h2.findIdx _ (fun e f hb => by rw [hb])]
                exact hj
              obtain ⟨w', h3, h4, h5, h6⟩ := map_turn (E := E) (es2 := es.set j { e with val := v }) (es2' := es'.modify j fun e => { e with val := u }) (clock2 := clock) hR hi ho h1 hro (by
                rw [Array.toList_modify]
                obtain ⟨f, g1, g2, g3, g4⟩ := h2.get he
                refine h2.set_modify j _ _ fun e' f' q1 q2 q3 q4 => ⟨?_, hv, ?_⟩
                · rw [g1] at q2; cases q2; exact g2
                · rw [g1] at q2; cases q2; exact g4)
              refine ⟨undef, _, m, .skip, w', h, ?_, .inr ⟨rfl, rfl⟩, h4, Emb.le_refl m, h5, h6, Nat.le_refl _⟩
              simp [Instr.entryStore, run_getObj_map h1, asInt, asIntOf, hf, h3]
            · cases hq
          · cases hq
      · cases hq
    · cases hq
  · exact h.elim

include hE hR in
theorem adelete_sound {t ty : TypeId} {ts : Array TypeId} {args : Array Value} {mm k y k' : Value} {K : VK} (hm : VRel m mm y) (hk : VRel m k k') (ht : ts[0]? = some t) (ha0 : args[0]? = some y) (ha1 : args[1]? = some k')
    (h : aSt (adelete E H t mm k) (fun _ H => K (.tuple #[]) H)) :
    Out E m n0 H w (do pure (.value (← Builtin.delete_ ts ty args))) K := by
  unfold aSt at h
  split at h
  · rename_i H' hq
    unfold adelete at hq
    split at hq
    · rename_i kt et r hu
      split at hq
      · rename_i es clock ho
        split at hq
        · cases hq
        · rename_i hs
          obtain ⟨i, hi, rfl⟩ := hm.mp_inv
          obtain ⟨es', h1, h2, hro⟩ := map_at hR hi ho
          have hemp : es'.isEmpty = es.isEmpty := by
            have hl := h2.length
            show decide (es'.size = 0) = es.isEmpty
            have hl' : es.length = es'.size := by rw [hl]; simp
            rw [← hl']
            cases es <;> simp
          split at hq
          · rename_i j hc hkey
            cases hq
            obtain ⟨hks, hes⟩ := akey_scalar hkey
            have := hk.eq_of_scalar hks; subst this
            obtain ⟨r', e1, _, e3⟩ := akey_sound (w := w) hE h2 hkey
            obtain ⟨f, e4, e5⟩ := e3 j rfl
            obtain ⟨w', h3, h4, h5, h6⟩ := map_turn (E := E) (es2 := es.eraseIdx j) (es2' := es'.eraseIdxIfInBounds j) (clock2 := clock) hR hi ho h1 hro (by
              rw [Array.toList_eraseIdxIfInBounds]
              exact h2.erase j)
            refine ⟨_, _, m, .value (.tuple #[]), w', h, ?_, .inl ⟨_, rfl, .sc _ rfl⟩, h4, Emb.le_refl m, h5, h6, Nat.le_refl _⟩
            simp [Builtin.delete_, ht, ha0, ha1, run_u hE hu, run_getObj_map h1, hemp, ssem_run _ _ _ hc w, e1, e5, h3]
          · rename_i hc hkey
            cases hq
            obtain ⟨hks, hes⟩ := akey_scalar hkey
            have := hk.eq_of_scalar hks; subst this
            obtain ⟨r', e1, e2, _⟩ := akey_sound (w := w) hE h2 hkey
            have e2 := e2 rfl
            subst e2
            obtain ⟨w', h3, h4, h5, h6⟩ := map_turn (E := E) (es2 := es) (es2' := es') (clock2 := clock) hR hi ho h1 hro h2
            refine ⟨_, _, m, .value (.tuple #[]), w', h, ?_, .inl ⟨_, rfl, .sc _ rfl⟩, h4, Emb.le_refl m, h5, h6, Nat.le_refl _⟩
            simp [Builtin.delete_, ht, ha0, ha1, run_u hE hu, run_getObj_map h1, hemp, ssem_run _ _ _ hc w, e1, h3]
          · cases hq
      · cases hq
    · cases hq
  · exact h.elim

/-! ### ranging over a map -/
include hR in
/-- A new block that stands for a new object. -/
theorem out_new {x : AObj} {o' : Obj} {w' : World} {v v' : Value} {nx : Sem Next} {K : VK} (hrun : nx.run E.P w = .ok (.value v') w') (hw : MoreBlock o' w w')
    (hrel : ∀ m', m.le m' → m' H.next = some (EInfo.at w.heap.size) → VRel m' v v' ∧ ORel m' (EInfo.at w.heap.size) x o') (h : K v (H.new x)) : Out E m n0 H w nx K := by
  have hf := hR.fresh
  obtain ⟨h1, h2⟩ := hrel (m.put H.next (EInfo.at w.heap.size)) (Emb.le_put hf) (Emb.put_same _ _ _)
  refine ⟨v, H.new x, m.put H.next (EInfo.at w.heap.size), .value v', w', h, hrun, .inl ⟨v', rfl, h1⟩,
    (hR.pend x).add hf (by simp) (by simp) rfl rfl h2 hw, Emb.le_put hf, hw.below hR.size, fun id h3 h4 => ⟨?_, ?_⟩, by simp⟩
  · unfold Emb.put; rw [if_neg (by omega)]; exact h3
  · rw [AHeap.get_new, if_neg (by omega)]

include hE hR in
theorem arange_sound {t : TypeId} {x : RV} {a : AAct} {y : Value} {K : VK} (hx : VRel m (x.f a) y) (h : arange E t x a H K) : Out E m n0 H w (do pure (.value (← Instr.range t y))) K := by
  unfold arange at h
  split at h
  · rename_i hu hxv
    rw [hxv] at hx
    rw [hx.nilmap_inv]
    exact out_new (x := .mapIter none 0 #[] 0) (o' := .mapIter none 0 #[] 0) (w' := { w with heap := w.heap.push (.mapIter none 0 #[] 0) }) (v' := .pointer (some ⟨w.heap.size, 0, none⟩)) hR (by simp [Instr.range, run_u hE hu]) ⟨rfl, rfl, rfl, rfl⟩
      (fun m' _ hm => ⟨ptr_here hm, .mapIter _ _ _ _ _ (fun id e => by cases e) (fun _ => rfl) rfl rfl⟩) h
  · rename_i mm hu hxv
    split at h
    · rename_i es clock ho
      rw [hxv] at hx
      obtain ⟨i, hi, rfl⟩ := hx.mp_inv
      obtain ⟨es', h1, _, _⟩ := map_at hR hi ho
      exact out_new (x := .mapIter (some mm) clock #[] clock) (o' := .mapIter (some i.blk) clock #[] clock) (w' := { w with heap := w.heap.push (.mapIter (some i.blk) clock #[] clock) }) (v' := .pointer (some ⟨w.heap.size, 0, none⟩)) hR
        (by simp [Instr.range, run_u hE hu, run_getObj_map h1]) ⟨rfl, rfl, rfl, rfl⟩
        (fun m' hle hm => ⟨ptr_here hm, .mapIter _ _ _ _ _ (fun id e => by cases e; exact ⟨i, hle _ _ hi, rfl⟩) (fun e => by cases e) rfl rfl⟩) h
    · exact h.elim
  · exact h.elim
end
end Go.Ai
