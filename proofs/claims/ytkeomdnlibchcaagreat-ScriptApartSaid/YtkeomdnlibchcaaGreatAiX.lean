/-
  Regions that draw their order: what the evaluator does is what the machine does; no condition.
-/
import Derived.Test.YtkeomdnlibchcaaGreatAiW
namespace Go.Ai
open Go.RowKit (Below)

theorem ent_uniq : ∀ {d : List Ent}, (d.map Ent.i).Nodup → ∀ {e e' : Ent}, e ∈ d → e' ∈ d → e.i = e'.i → e = e'
  | [], _, e, _, h, _, _ => by simp at h
  | x :: d, hn, e, e', h, h', he => by
    rw [List.map_cons, List.nodup_cons] at hn
    rcases List.mem_cons.1 h with rfl | h1 <;> rcases List.mem_cons.1 h' with rfl | h2
    · rfl
    · exact absurd (List.mem_map.2 ⟨e', h2, he.symm⟩) hn.1
    · exact absurd (List.mem_map.2 ⟨e, h1, he⟩) hn.1
    · exact ent_uniq hn.2 h1 h2 he

theorem map_p (d : List Ent) : (d.map Ent.p).map (·.1) = d.map Ent.i := by
  rw [List.map_map]; rfl

theorem looks_cases {ops : Array Oper} {o : Oper} {t : Tmp} (h : t ∈ o.looksAt ops) : t ∈ namesOf o ∨ ∃ g w q, o.guard = some (g, w) ∧ ops[g]? = some q ∧ q.dst = some t := by
  unfold Oper.looksAt at h
  rw [List.mem_append] at h
  rcases h with h | h
  · left
    unfold namesOf
    rw [List.mem_append]
    exact .inr h
  · right
    cases hg : o.guard with
    | none => rw [hg] at h; simp at h
    | some g =>
      obtain ⟨g, w⟩ := g
      rw [hg] at h
      simp only [Option.mem_toList] at h
      cases hq : ops[g]? with
      | none => rw [hq] at h; simp at h
      | some q => rw [hq] at h; exact ⟨g, w, q, rfl, hq, by simpa using h⟩

section
variable {E : Env} {ops : Array Oper} {l : List (Nat × Oper)} {n0 : Nat} {m0 : Emb} {H0 : AHeap} {w0 : World} {a0 : AAct} {act0 : Act}
  {d : List Ent} {r : List (Nat × Oper)} {ps : List Pend} {a : AAct} {H : AHeap} {listed : Array Bool} {m : Emb} {act : Act} {w : World}
  (hD : DOk E ops) (hO : OrdOk E ops l) (hA0 : ARel m0 a0 act0) (h : DInv E ops l n0 m0 H0 w0 a0 act0 d r ps a H listed m act w)

include hO h in
theorem DInv.opsAt {e : Ent} (he : e ∈ d) : ops[e.i]? = some e.o := hO.mem e.p (by rw [h.split]; exact List.mem_append_left _ (List.mem_map_of_mem he))

include hO h in
theorem DInv.nodup : (d.map Ent.i ++ r.map (·.1)).Nodup := by
  have := hO.nodup
  rw [h.split, List.map_append, map_p] at this
  exact this
include hO h in
theorem DInv.uniq {e e' : Ent} (he : e ∈ d) (he' : e' ∈ d) (hi : e.i = e'.i) : e = e' := ent_uniq (List.nodup_append.1 (h.nodup hO)).1 he he' hi

include hO h in
theorem DInv.notin {q : Nat × Oper} (hq : q ∈ r) {e : Ent} (he : e ∈ d) : e.i ≠ q.1 := by
  have := (List.nodup_append.1 (h.nodup hO)).2.2
  exact this e.i (List.mem_map_of_mem he) q.1 (List.mem_map_of_mem hq)

include hD hO h hA0 in
theorem DInv.look {d1 d2 : List Ent} (hd : d = d1 ++ d2) {x : AAct} (hx : FrIs a0 d1 x) {j : Nat} {o : Oper} (ho : ops[j]? = some o) (hj : ¬ L listed j) (hf : Free o listed) (hpre : ∀ i, Pre ops j i → i ∈ d1.map Ent.i)
    (hnot : ∀ e ∈ d1, ¬ Pre ops e.i j ∧ e.i ≠ j) {t : Tmp} (ht : t ∈ o.looksAt ops) : VRel m (x.tmp t) (act.tmps.getD t undef) := by
  have h0 : VRel m (a0.tmp t) (act0.tmps.getD t undef) := (hA0.tmp t).mono h.ext.le
  have hpair : ∀ i p, ops[i]? = some p → i ≠ j → p.dst = some t → Pre ops j i ∨ Pre ops i j := by
    intro i p hp hne hpt
    rcases looks_cases ht with hn | ⟨g, w, q, hg, hq, hqt⟩
    · exact hD.apart j o i p ho hp hne t hpt hn
    · have := hD.once g q i p hq hp t hqt hpt
      subst this
      exact .inl (hD.guard j o ho _ w hg)
  by_cases hlt : t < a0.n
  · by_cases hex : ∃ e ∈ d1, e.o.dst = some t
    · obtain ⟨e, he, het⟩ := hex
      have hed : e ∈ d := by rw [hd]; exact List.mem_append_left _ he
      have heo := h.opsAt hO hed
      have hl : L listed e.i := by
        rcases hpair e.i e.o heo (hnot e he).2 het with hp | hp
        · exact h.closed.pre ho hf hp
        · exact absurd hp (hnot e he).1
      rw [hx.set e he t het hlt]
      exact h.mt.set e hed hl t het hlt
    · rw [hx.old t fun e he het => absurd ⟨e, he, het⟩ hex, h.mt.old t]
      · exact h0
      · intro e he hl het
        exfalso
        have heo := h.opsAt hO he
        have hne : e.i ≠ j := fun hh => hj (by rw [← hh]; exact hl)
        rcases hpair e.i e.o heo hne het with hp | hp
        · obtain ⟨e1, he1, hi⟩ := List.mem_map.1 (hpre _ hp)
          have : e1 = e := h.uniq hO (by rw [hd]; exact List.mem_append_left _ he1) he hi
          subst this
          exact hex ⟨e1, he1, het⟩
        · exact hj (h.closed.pre heo (h.closed _ _ heo hl) hp)
  · rw [hx.old t fun _ _ _ => hlt, h.mt.old t fun _ _ _ _ => hlt]
    exact h0

include hD hO h hA0 in
theorem DInv.keep {d1 d2 : List Ent} (hd : d = d1 ++ d2) {x : AAct} (hx : FrIs a0 d1 x) {j : Nat} {o : Oper} (ho : ops[j]? = some o) (hj : ¬ L listed j) (hf : Free o listed) (hpre : ∀ i, Pre ops j i → i ∈ d1.map Ent.i)
    (hnot : ∀ e ∈ d1, ¬ Pre ops e.i j ∧ e.i ≠ j) : ARel m (x.keep (o.looksAt ops)) act :=
  keep_rel (by rw [h.mt.n, hx.n]) (fun t ht => h.look hD hO hA0 hd hx ho hj hf hpre hnot ht) (by rw [hx.ds, h.mt.ds]; exact hA0.ds.mono h.ext.le)

theorem MIs.step (hD : DOk E ops) {m' : Emb} {e : Ent} {v' : Value} (hm : MIs m a0 act0 d listed act) (hle : m.le m') (he : e ∈ d) (hi : e.i < listed.size) (hops : ∀ e' ∈ d, ops[e'.i]? = some e'.o) (huniq : ∀ e' ∈ d, e'.i = e.i → e' = e)
    (hv : VRel m' e.v v') : MIs m' a0 act0 d (listed.setIfInBounds e.i true) (act.put e.o.dst v') := by
  refine ⟨fun e' he' hl t ht hn => ?_, fun t ht => ?_, ?_, ?_⟩
  · rw [put_tmp]
    by_cases hee : e' = e
    · subst hee
      rw [if_pos ⟨ht, by rw [hm.n]; exact hn⟩]
      exact hv
    · have hne : ¬ (e.o.dst = some t ∧ t < act.tmps.size) := fun hh => hee (huniq e' he' (hD.once e.i e.o e'.i e'.o (hops e he) (hops e' he') t hh.1 ht))
      rw [if_neg hne]
      rcases (L_set hi).1 hl with hh | hh
      · exact absurd (huniq e' he' hh) hee
      · exact (hm.set e' he' hh t ht hn).mono hle
  · rw [put_tmp, if_neg]
    · exact hm.old t fun e' he' hl => ht e' he' ((L_set hi).2 (.inr hl))
    · rintro ⟨h1, h2⟩
      exact ht e he ((L_set hi).2 (.inl rfl)) h1 (by rw [← hm.n]; exact h2)
  · rw [← hm.n]; cases e.o.dst <;> simp [Act.put]
  · rw [← hm.ds]; cases e.o.dst <;> rfl

theorem closed_set (hc : Closed ops listed) {j : Nat} {o : Oper} (ho : ops[j]? = some o) (hj : j < listed.size) (hf : Free o listed) : Closed ops (listed.setIfInBounds j true) := by
  intro i p hp hl e he hb
  rw [L_set hj] at hl ⊢
  rcases hl with rfl | hl
  · rw [ho] at hp; cases hp; exact .inr (hf e he hb)
  · exact .inr (hc i p hp hl e he hb)

include hO h in
theorem DInv.lt {e : Ent} (he : e ∈ d) : e.i < listed.size := by
  rw [h.size]
  exact (Array.getElem?_eq_some_iff.1 (h.opsAt hO he)).1

include hO h in
theorem DInv.pre_of {d1 d2 : List Ent} {e : Ent} (hd : d = d1 ++ e :: d2) : (∀ i, Pre ops e.i i → i ∈ d1.map Ent.i) ∧ ∀ e' ∈ d1, ¬ Pre ops e'.i e.i ∧ e'.i ≠ e.i := by
  have hl : l = d1.map Ent.p ++ e.p :: (d2.map Ent.p ++ r) := by rw [h.split, hd]; simp
  have hn : (d1.map Ent.i ++ e.i :: d2.map Ent.i).Nodup := by
    have := (List.nodup_append.1 (h.nodup hO)).1
    rw [hd, List.map_append, List.map_cons] at this
    exact this
  have hn' := List.nodup_append.1 hn
  refine ⟨fun i hi => ?_, fun e' he' => ⟨fun hp => ?_, fun hh => ?_⟩⟩
  · have := hO.ext _ _ _ hl i hi
    rw [map_p] at this
    exact this
  · obtain ⟨d3, d4, hd3⟩ := List.append_of_mem he'
    have hl' : l = d3.map Ent.p ++ e'.p :: (d4.map Ent.p ++ e.p :: (d2.map Ent.p ++ r)) := by rw [hl, hd3]; simp
    have := hO.ext _ _ _ hl' _ hp
    rw [map_p] at this
    have hm : e.i ∈ d1.map Ent.i := by rw [hd3, List.map_append]; exact List.mem_append_left _ this
    exact hn'.2.2 _ hm e.i (List.mem_cons_self ..) rfl
  · exact hn'.2.2 e'.i (List.mem_map_of_mem he') e.i (List.mem_cons_self ..) hh

/-- The machine does what the evaluator has done before. -/
theorem pend1 (hE : E.Ok) (hD : DOk E ops) (hO : OrdOk E ops l) (hA0 : ARel m0 a0 act0) (h : DInv E ops l n0 m0 H0 w0 a0 act0 d r ps a H listed m act w) {e : Ent} (he : e ∈ d) (hl : ¬ L listed e.i) (hf : Free e.o listed) {rnd : Bool} :
    OpS E.P rnd ops e.i act w (fun act' w' => ∃ m', DInv E ops l n0 m0 H0 w0 a0 act0 d r ps a H (listed.setIfInBounds e.i true) m' act' w') := by
  obtain ⟨d1, d2, hd⟩ := List.append_of_mem he
  have ho := h.opsAt hO he
  have hlt := h.lt hO he
  have hnd : ∀ c, e.o.op ≠ .defer c := fun c hc => hD.nodefer _ _ ho (by unfold cls; rw [hc])
  obtain ⟨hpre, hnot⟩ := h.pre_of hO hd
  have hA := h.keep hD hO hA0 hd (h.pfr d1 e d2 hd) ho hl hf hpre hnot
  have fin : ∀ {m' : Emb} {v' : Value} {w' : World}, m.le m' → VRel m' e.v v' → Rel m' n0 H w' → Ext n0 m0 m' H0 H w0 w' → (∀ e' ∈ d, ¬ L (listed.setIfInBounds e.i true) e'.i → PendAt E ops H0.next m' H e') →
      ∃ m', DInv E ops l n0 m0 H0 w0 a0 act0 d r ps a H (listed.setIfInBounds e.i true) m' (act.put e.o.dst v') w' := by
    intro m' v' w' hle hv hR hX hP
    refine ⟨m', ⟨h.split, by simp [h.size], closed_set h.closed ho hlt hf, fun j hj => ?_, fun e' he' hh => (L_set hlt).2 (.inr (h.effs e' he' hh)), h.fr,
      h.mt.step hD hle he hlt (fun e' he' => h.opsAt hO he') (fun e' he' hh => h.uniq hO he' he hh) hv, h.pfr, hP, ?_, ?_, hR, hX⟩⟩
    · rcases (L_set hlt).1 hj with rfl | hj
      · exact ⟨e, he, rfl⟩
      · exact h.sub j hj
    · intro e1 he1 e2 he2 hl1 hl2
      exact h.ids e1 he1 e2 he2 (fun hh => hl1 ((L_set hlt).2 (.inr hh))) (fun hh => hl2 ((L_set hlt).2 (.inr hh)))
    · intro e1 he1 hl1
      exact h.pss e1 he1 fun hh => hl1 ((L_set hlt).2 (.inr hh))
  have hother : ∀ e' ∈ d, ¬ L (listed.setIfInBounds e.i true) e'.i → PendAt E ops H0.next m H e' := fun e' he' hl' => h.pend e' he' fun hh => hl' ((L_set hlt).2 (.inr hh))
  rcases h.pend e he hl with ⟨hw, hv⟩ | ⟨hw, hc, hp⟩ | ⟨x, Hm, hw, hc, hp, hn, hb, hid, hmi, hx⟩
  · rw [← wantA_keep] at hw
    exact OpS.skip ho (wantA_sound hA hw) (fin (Emb.le_refl m) (by rw [hv]; exact .sc _ rfl) h.rel h.ext hother)
  · have hw0 := hw
    rw [← wantA_keep] at hw
    have hp' : pread E (e.fr.keep (e.o.looksAt ops)) H e.o = some e.v := by
      unfold pread; rw [rread_congr _ _ keep_agree]; exact hp
    obtain ⟨v', h1, h2⟩ := pread_sound hE h.rel hA.ev e.o hp'
    exact OpS.value ho (wantA_sound hA hw) hnd h2 (fin (Emb.le_refl m) h1 h.rel h.ext hother)
  · have hw0 := hw
    rw [← wantA_keep] at hw
    have hp' : amake E (e.fr.keep (e.o.looksAt ops)) Hm e.o = some (e.v, x) := by
      unfold amake; rw [rmake_congr _ _ keep_agree]; exact hp
    obtain ⟨s, h1, v', o', w', h2, h3, h4⟩ := amake_sound (m := m) (w := w) hE hA.ev e.o hp'
    rw [hn] at h4
    obtain ⟨q1, q2⟩ := h4 (m.put e.id (EInfo.at w.heap.size)) (Emb.le_put hmi) (Emb.put_same _ _ _)
    refine OpS.value ho (wantA_sound hA hw) hnd (v := v') (w' := w') (by rw [h1]; simp only [Sem.run_bind, h2, Result.andThen_ok, Sem.run_pure])
      (fin (Emb.le_put hmi) q1 (h.rel.add hmi hid hx rfl rfl q2 h3) ⟨Emb.le_trans h.ext.le (Emb.le_put hmi), h.ext.below.trans (h3.below h.rel.size), fun id k1 k2 => ?_, h.ext.next⟩ ?_)
    · obtain ⟨u1, u2⟩ := h.ext.un id k1 k2
      refine ⟨?_, u2⟩
      unfold Emb.put
      rw [if_neg (by omega)]
      exact u1
    · intro e' he' hl'
      rcases hother e' he' hl' with ⟨k1, k2⟩ | ⟨k1, k2, k3⟩ | ⟨x', Hm', k1, k2, k3, k4, kb, k5, k6, k7⟩
      · exact .skip k1 k2
      · exact .read k1 k2 k3
      · refine .make x' Hm' k1 k2 k3 k4 kb k5 ?_ k7
        unfold Emb.put
        rw [if_neg]
        · exact k6
        · intro hid'
          have := h.ids e' he' e he (fun hh => hl' ((L_set hlt).2 (.inr hh))) hl k2 hc k1 hw0 hid'
          subst this
          exact hl' ((L_set hlt).2 (.inl rfl))

/-- The evaluator does one operation more. -/
theorem DInv.app (hD : DOk E ops) (hO : OrdOk E ops l) {q : Nat × Oper} (h : DInv E ops l n0 m0 H0 w0 a0 act0 d (q :: r) ps a H listed m act w) {v : Value} {id : Nat} {ps' : List Pend} {H' : AHeap} (hne : (cls E q.2).isEff = false)
    (hR : Rel m n0 H' w) (hX : Ext n0 m m H H' w w) (hps : ∀ p ∈ ps, p ∈ ps') (hnew : PendAt E ops H0.next m H' ⟨q.1, q.2, a, v, id⟩) (hold : ∀ e' ∈ d, ¬ L listed e'.i → PendAt E ops H0.next m H' e')
    (hid : cls E q.2 = .make → wantA ops a q.2 = some true → ∀ e' ∈ d, ¬ L listed e'.i → cls E e'.o = .make → wantA ops e'.fr e'.o = some true → e'.id ≠ id)
    (hpn : cls E q.2 = .read → wantA ops a q.2 = some true → (⟨q.1, q.2, a, v⟩ : Pend) ∈ ps') :
    DInv E ops l n0 m0 H0 w0 a0 act0 (d ++ [⟨q.1, q.2, a, v, id⟩]) r ps' ((rput q.2.dst).f a v) H' listed m act w := by
  have hqo : ops[q.1]? = some q.2 := hO.mem q (by rw [h.split]; exact List.mem_append_right _ (List.mem_cons_self ..))
  have hql : ¬ L listed q.1 := fun hl => by
    obtain ⟨e, he, hi⟩ := h.sub _ hl
    exact h.notin hO (List.mem_cons_self ..) he hi
  have hu : ∀ e' ∈ d, ∀ t, e'.o.dst = some t → q.2.dst ≠ some t := fun e' he' t h1 h2 =>
    h.notin hO (List.mem_cons_self ..) he' (hD.once q.1 q.2 e'.i e'.o hqo (h.opsAt hO he') t h2 h1)
  have hmem : ∀ e', e' ∈ d ++ [(⟨q.1, q.2, a, v, id⟩ : Ent)] → e' ∈ d ∨ e' = ⟨q.1, q.2, a, v, id⟩ := fun e' he' => by simpa using he'
  refine ⟨?_, h.size, h.closed, fun j hj => ?_, fun e' he' hh => ?_, h.fr.snoc ⟨q.1, q.2, a, v, id⟩ hu, ⟨fun e' he' hl t ht hn => ?_, fun t ht => ?_, h.mt.n, h.mt.ds⟩, fun d1 e d2 hd => ?_, fun e' he' hl => ?_,
    fun e1 he1 e2 he2 hl1 hl2 hm1 hm2 hw1 hw2 hi => ?_, fun e' he' hl hc hw => ?_, hR, h.ext.trans hX⟩
  · rw [h.split]; simp [Ent.p]
  · obtain ⟨e, he, hi⟩ := h.sub j hj
    exact ⟨e, List.mem_append_left _ he, hi⟩
  · rcases hmem e' he' with he' | rfl
    · exact h.effs e' he' hh
    · rw [hne] at hh; cases hh
  · rcases hmem e' he' with he' | rfl
    · exact h.mt.set e' he' hl t ht hn
    · exact absurd hl hql
  · exact h.mt.old t fun e' he' => ht e' (List.mem_append_left _ he')
  · rcases List.append_eq_append_iff.1 hd with ⟨d3, h1, h2⟩ | ⟨d3, h1, h2⟩
    · cases d3 with
      | nil =>
        simp only [List.nil_append, List.cons.injEq] at h2
        rw [h1, ← h2.1, List.append_nil]
        exact h.fr
      | cons x d3 =>
        simp only [List.cons_append, List.cons.injEq] at h2
        have := h2.2
        simp at this
    · cases d3 with
      | nil =>
        simp only [List.nil_append, List.cons.injEq] at h2
        rw [List.append_nil] at h1
        rw [← h1, h2.1]
        exact h.fr
      | cons x d3 =>
        simp only [List.cons_append, List.cons.injEq] at h2
        rw [← h2.1] at h1
        exact h.pfr d1 e d3 h1
  · rcases hmem e' he' with he' | rfl
    · exact hold e' he' hl
    · exact hnew
  · rcases hmem e1 he1 with he1 | rfl <;> rcases hmem e2 he2 with he2 | rfl
    · exact h.ids e1 he1 e2 he2 hl1 hl2 hm1 hm2 hw1 hw2 hi
    · exact absurd hi (hid hm2 hw2 e1 he1 hl1 hm1 hw1)
    · exact absurd hi.symm (hid hm1 hw1 e2 he2 hl2 hm2 hw2)
    · rfl
  · rcases hmem e' he' with he' | rfl
    · exact hps _ (h.pss e' he' hl hc hw)
    · exact hpn hc hw

theorem adv1 (hD : DOk E ops) (hO : OrdOk E ops l) {q : Nat × Oper} {b : Nat} {rec : Rec} {Kp : List Pend → AAct → AHeap → Prop} (h : DInv E ops l n0 m0 H0 w0 a0 act0 d (q :: r) ps a H listed m act w) (hne : (cls E q.2).isEff = false)
    (ha : (ropG E ops q.1 q.2 true b).f rec ps a H Kp) : ∃ d' ps' a' H', DInv E ops l n0 m0 H0 w0 a0 act0 d' r ps' a' H' listed m act w ∧ Kp ps' a' H' := by
  have hqo : ops[q.1]? = some q.2 := hO.mem q (by rw [h.split]; exact List.mem_append_right _ (List.mem_cons_self ..))
  rcases ropG_want ha with ⟨hw, ha⟩ | ⟨hw, ha⟩
  · unfold rop at ha
    cases hc : cls E q.2 with
    | read =>
      rw [hc] at ha
      simp only [cond_true] at ha
      cases hv : (rread E q.2.op).f a H with
      | some v =>
        rw [hv] at ha
        exact ⟨_, _, _, _, h.app hD hO (id := 0) hne h.rel (Ext.refl _ _ _ _) (fun p hp => List.mem_cons_of_mem _ hp) (.read hw hc hv) h.pend (fun hm _ => by rw [hc] at hm; cases hm) (fun _ _ => List.mem_cons_self ..), ha⟩
      | none => rw [hv] at ha; exact ha.elim
    | make =>
      rw [hc] at ha
      simp only [cond_true] at ha
      split at ha
      · rename_i p hp
        obtain ⟨v, x⟩ := p
        cases hr : recheck E 0 (H.new x) ps with
        | false => rw [hr] at ha; exact ha.elim
        | true =>
          rw [hr] at ha
          simp only [cond_true] at ha
          have hX : Ext n0 m m H (H.new x) w w := ⟨Emb.le_refl m, Below.refl _ _, fun id h1 h2 => ⟨h1, by rw [AHeap.get_new, if_neg (by omega)]⟩, by simp⟩
          refine ⟨_, _, _, _, h.app hD hO (id := H.next) hne (h.rel.pend x) hX (fun p hp => hp) (.make x H hw hc hp rfl h.ext.next (by simp) h.rel.fresh (by simp)) ?_ ?_ (fun hm => by rw [hc] at hm; cases hm), ha⟩
          · intro e' he' hl
            rcases h.pend e' he' hl with ⟨k1, k2⟩ | ⟨k1, k2, k3⟩ | ⟨x', Hm', k1, k2, k3, k4, kb, k5, k6, k7⟩
            · exact .skip k1 k2
            · refine .read k1 k2 ?_
              rcases recheck_spec E 0 _ ps hr _ (h.pss e' he' hl k2 k1) with hh | hh
              · simp at hh
              · exact hh
            · exact .make x' Hm' k1 k2 k3 k4 kb (by simp; omega) k6 (by rw [AHeap.get_new, if_neg (by omega)]; exact k7)
          · intro _ _ e' he' hl hm hw'
            rcases h.pend e' he' hl with ⟨k1, k2⟩ | ⟨k1, k2, k3⟩ | ⟨x', Hm', k1, k2, k3, k4, kb, k5, k6, k7⟩
            · rw [hw'] at k1; cases k1
            · rw [hm] at k2; cases k2
            · omega
      · exact ha.elim
    | eff => rw [hc] at hne; cases hne
    | defer => exact absurd hc (hD.nodefer _ _ hqo)
  · refine ⟨_, _, _, _, h.app hD hO (id := 0) hne h.rel (Ext.refl _ _ _ _) (fun p hp => hp) (.skip hw rfl) h.pend (fun _ hw' => by rw [hw] at hw'; cases hw') (fun _ hw' => by rw [hw] at hw'; cases hw'), ha⟩

/-- The evaluator and the machine do an operation that writes or calls. -/
theorem eff1 (hE : E.Ok) (hS : E.SumOk) (hT : E.StrOk) (hD : DOk E ops) (hO : OrdOk E ops l) (hA0 : ARel m0 a0 act0) {rec : Rec} (hrec : SoundC E rec) {q : Nat × Oper} {Kp : List Pend → AAct → AHeap → Prop}
    (h : DInv E ops l n0 m0 H0 w0 a0 act0 d (q :: r) ps a H listed m act w) (heff : (cls E q.2).isEff = true) (hf : Free q.2 listed)
    (ha : (ropG E ops q.1 q.2 true ((bef ops).at q.1)).f rec ps a H Kp) :
    OpS E.P a0.rnd ops q.1 act w (fun act' w' => ∃ d' ps' a' H' m', DInv E ops l n0 m0 H0 w0 a0 act0 d' r ps' a' H' (listed.setIfInBounds q.1 true) m' act' w' ∧ Kp ps' a' H') := by
  have ho : ops[q.1]? = some q.2 := hO.mem q (by rw [h.split]; exact List.mem_append_right _ (List.mem_cons_self ..))
  have hql : ¬ L listed q.1 := fun hl => by
    obtain ⟨e, he, hi⟩ := h.sub _ hl
    exact h.notin hO (List.mem_cons_self ..) he hi
  have hlt : q.1 < listed.size := by rw [h.size]; exact (Array.getElem?_eq_some_iff.1 ho).1
  have hnd : ∀ c, q.2.op ≠ .defer c := fun c hc => hD.nodefer _ _ ho (by unfold cls; rw [hc])
  have hpre : ∀ i, Pre ops q.1 i → i ∈ d.map Ent.i := fun i hi => by
    have := hO.ext _ _ _ h.split i hi
    rw [map_p] at this
    exact this
  have hnot : ∀ e ∈ d, ¬ Pre ops e.i q.1 ∧ e.i ≠ q.1 := fun e he => by
    refine ⟨fun hp => ?_, h.notin hO (List.mem_cons_self ..) he⟩
    obtain ⟨d1, d2, hd⟩ := List.append_of_mem he
    have := (h.pre_of hO hd).1 _ hp
    obtain ⟨e1, he1, hi⟩ := List.mem_map.1 this
    exact h.notin hO (List.mem_cons_self ..) (by rw [hd]; exact List.mem_append_left _ he1) hi
  have hA : ARel m (a.keep (q.2.looksAt ops)) act := h.keep hD hO hA0 (List.append_nil d).symm h.fr ho hql hf hpre hnot
  have hu : ∀ e' ∈ d, ∀ t, e'.o.dst = some t → q.2.dst ≠ some t := fun e' he' t h1 h2 =>
    h.notin hO (List.mem_cons_self ..) he' (hD.once q.1 q.2 e'.i e'.o ho (h.opsAt hO he') t h2 h1)
  have fin : ∀ {v v' : Value} {m' : Emb} {H' : AHeap} {w' : World}, VRel m' v v' → Rel m' n0 H' w' → Ext n0 m m' H H' w w' → (∀ e' ∈ d, ¬ L listed e'.i → PendAt E ops H0.next m' H' e') →
      DInv E ops l n0 m0 H0 w0 a0 act0 (d ++ [⟨q.1, q.2, a, v, 0⟩]) r ps ((rput q.2.dst).f a v) H' (listed.setIfInBounds q.1 true) m' (act.put q.2.dst v') w' := by
    intro v v' m' H' w' hv hR hX hP
    let e : Ent := ⟨q.1, q.2, a, v, 0⟩
    have hmem : ∀ e', e' ∈ d ++ [e] → e' ∈ d ∨ e' = e := fun e' he' => by simpa using he'
    have hm0 : MIs m a0 act0 (d ++ [e]) listed act := ⟨fun e' he' hl t ht hn => by
        rcases hmem e' he' with he' | rfl
        · exact h.mt.set e' he' hl t ht hn
        · exact absurd hl hql, fun t ht => h.mt.old t fun e' he' => ht e' (List.mem_append_left _ he'), h.mt.n, h.mt.ds⟩
    refine ⟨by rw [h.split]; simp [Ent.p], by simp [h.size], closed_set h.closed ho hlt hf, fun j hj => ?_, fun e' he' hh => ?_, h.fr.snoc e hu,
      hm0.step hD hX.le (List.mem_append_right _ (List.mem_singleton.2 rfl)) hlt (fun e' he' => ?_) (fun e' he' hh => ?_) hv, fun d1 e1 d2 hd => ?_, fun e' he' hl => ?_, fun e1 he1 e2 he2 hl1 hl2 => ?_, fun e' he' hl => ?_, hR, h.ext.trans hX⟩
    · rcases (L_set hlt).1 hj with rfl | hj
      · exact ⟨e, List.mem_append_right _ (List.mem_singleton.2 rfl), rfl⟩
      · obtain ⟨e1, he1, hi⟩ := h.sub j hj
        exact ⟨e1, List.mem_append_left _ he1, hi⟩
    · rcases hmem e' he' with he' | rfl
      · exact (L_set hlt).2 (.inr (h.effs e' he' hh))
      · exact (L_set hlt).2 (.inl rfl)
    · rcases hmem e' he' with he' | rfl
      · exact h.opsAt hO he'
      · exact ho
    · rcases hmem e' he' with he' | rfl
      · exact absurd hh (h.notin hO (List.mem_cons_self ..) he')
      · rfl
    · rcases List.append_eq_append_iff.1 hd with ⟨d3, h1, h2⟩ | ⟨d3, h1, h2⟩
      · cases d3 with
        | nil =>
          simp only [List.nil_append, List.cons.injEq] at h2
          rw [h1, ← h2.1, List.append_nil]
          exact h.fr
        | cons x d3 =>
          simp only [List.cons_append, List.cons.injEq] at h2
          have := h2.2
          simp at this
      · cases d3 with
        | nil =>
          simp only [List.nil_append, List.cons.injEq] at h2
          rw [List.append_nil] at h1
          rw [← h1, h2.1]
          exact h.fr
        | cons x d3 =>
          simp only [List.cons_append, List.cons.injEq] at h2
          rw [← h2.1] at h1
          exact h.pfr d1 e1 d3 h1
    · rcases hmem e' he' with he' | rfl
      · exact hP e' he' fun hh => hl ((L_set hlt).2 (.inr hh))
      · exact absurd ((L_set hlt).2 (.inl rfl)) hl
    · rcases hmem e1 he1 with he1 | rfl
      · rcases hmem e2 he2 with he2 | rfl
        · exact h.ids e1 he1 e2 he2 (fun hh => hl1 ((L_set hlt).2 (.inr hh))) (fun hh => hl2 ((L_set hlt).2 (.inr hh)))
        · exact absurd ((L_set hlt).2 (.inl rfl)) hl2
      · exact absurd ((L_set hlt).2 (.inl rfl)) hl1
    · rcases hmem e' he' with he' | rfl
      · exact h.pss e' he' fun hh => hl ((L_set hlt).2 (.inr hh))
      · exact absurd ((L_set hlt).2 (.inl rfl)) hl
  rcases ropG_want ha with ⟨hw, ha⟩ | ⟨hw, ha⟩
  · have hw' := hw
    rw [← wantA_keep] at hw
    unfold rop at ha
    cases hc : cls E q.2 with
    | read => rw [hc] at heff; cases heff
    | make => rw [hc] at heff; cases heff
    | defer => rw [hc] at heff; cases heff
    | eff =>
      rw [hc] at ha
      simp only [cond_true] at ha
      have hag : Agree a (a.keep (q.2.looksAt ops)) q.2.op.operands.toList := fun x hx => (keep_agree x hx).symm
      rw [reff_congr (a := a) (a' := a.keep (q.2.looksAt ops)) q.2.op H _ rfl hag] at ha
      have hr : (a.keep (q.2.looksAt ops)).rnd = a0.rnd := h.fr.rnd
      have hef := reff_sound hE hS hT hrec hA.ev h.rel ha
      rw [hr] at hef
      refine (eff_step (rnd := a0.rnd) ho (wantA_sound hA hw) hnd hA h.rel hef).mono ?_
      rintro act' w' ⟨v, v', H', m', h1, h2, rfl, h3, h4⟩
      cases hrc : recheck E ((bef ops).at q.1) H' ps with
      | false => rw [hrc] at h1; exact h1.elim
      | true =>
        rw [hrc] at h1
        simp only [cond_true] at h1
        refine ⟨_, _, _, H', m', fin h2 h3 h4 ?_, h1⟩
        intro e' he' hl
        rcases h.pend e' he' hl with ⟨k1, k2⟩ | ⟨k1, k2, k3⟩ | ⟨x', Hm', k1, k2, k3, k4, kb, k5, k6, k7⟩
        · exact .skip k1 k2
        · refine .read k1 k2 ?_
          rcases recheck_spec E _ _ ps hrc _ (h.pss e' he' hl k2 k1) with hh | hh
          · exact absurd (h.closed.pre ho hf hh) hl
          · exact hh
        · obtain ⟨u1, u2⟩ := h4.un _ k6 k5
          exact .make x' Hm' k1 k2 k3 k4 kb (Nat.lt_of_lt_of_le k5 h4.next) u1 (by rw [u2]; exact k7)
  · rw [← wantA_keep] at hw
    exact OpS.skip ho (wantA_sound hA hw) ⟨_, _, _, H, m, fin (.sc _ rfl) h.rel (Ext.refl _ _ _ _) h.pend, ha⟩

/-- The rest of a region, as the evaluator does it. -/
def arest (E : Env) (ops : Array Oper) (rec : Rec) (r : List (Nat × Oper)) : List Pend → AAct → AHeap → CK → Prop := aops rec (r.map fun (i, o) => ropG E ops i o true ((bef ops).at i))
theorem arest_cons (rec : Rec) (q : Nat × Oper) (K : CK) : arest E ops rec (q :: r) ps a H K = (ropG E ops q.1 q.2 true ((bef ops).at q.1)).f rec ps a H fun ps a H => arest E ops rec r ps a H K := rfl

def Stable (E : Env) (r : List (Nat × Oper)) : Prop := ∀ q r', r = q :: r' → (cls E q.2).isEff = true

theorem advance (hD : DOk E ops) (hO : OrdOk E ops l) {rec : Rec} {K : CK} : ∀ (r : List (Nat × Oper)) (d : List Ent) (ps : List Pend) (a : AAct) (H : AHeap), DInv E ops l n0 m0 H0 w0 a0 act0 d r ps a H listed m act w → arest E ops rec r ps a H K →
    ∃ d' r' ps' a' H', DInv E ops l n0 m0 H0 w0 a0 act0 d' r' ps' a' H' listed m act w ∧ arest E ops rec r' ps' a' H' K ∧ Stable E r'
  | [], d, ps, a, H, h, ha => ⟨d, [], ps, a, H, h, ha, fun q r' e => by cases e⟩
  | q :: r, d, ps, a, H, h, ha => by
    cases he : (cls E q.2).isEff with
    | true => exact ⟨d, q :: r, ps, a, H, h, ha, fun q' r' e => by cases e; exact he⟩
    | false =>
      rw [arest_cons] at ha
      obtain ⟨d', ps', a', H', h1, h2⟩ := adv1 hD hO h he ha
      exact advance hD hO r d' ps' a' H' h1 h2

theorem unlisted (hD : DOk E ops) {listed : Array Bool} (hs : listed.size = ops.size) (hr : Region.ready .any ops listed = []) : ∀ j, j < ops.size → L listed j := by
  intro j
  induction j using Nat.strongRecOn with
  | ind j ih =>
    intro hj
    cases hl : listed.getD j false with
    | true => exact hl
    | false =>
      exfalso
      have ho := Array.getElem?_eq_getElem hj
      have : j ∈ Region.ready .any ops listed := by
        rw [mem_ready]
        refine ⟨?_, _, ho, fun e he hb => ?_⟩
        · have hjs : j < listed.size := by omega
          simp only [Array.getD_eq_getD_getElem?, Array.getElem?_eq_getElem hjs, Option.getD_some] at hl ⊢
          exact hl
        · have he' : e ∈ ops[j].after.toList := by simpa using he
          exact ih e.on (hD.back j _ ho e he' hb) (Nat.lt_trans (hD.back j _ ho e he' hb) hj)
      rw [hr] at this
      cases this

def left (ops : Array Oper) (listed : Array Bool) : Nat := ((List.range ops.size).filter fun j => !listed.getD j false).length

theorem left_set {listed : Array Bool} {i : Nat} (hi : i < ops.size) (hs : listed.size = ops.size) (hl : ¬ L listed i) : left ops (listed.setIfInBounds i true) < left ops listed := by
  unfold left
  have key : ∀ (l : List Nat), (l.filter fun j => !(listed.setIfInBounds i true).getD j false).length ≤ (l.filter fun j => !listed.getD j false).length ∧
      (i ∈ l → (l.filter fun j => !(listed.setIfInBounds i true).getD j false).length < (l.filter fun j => !listed.getD j false).length) := by
    intro l
    induction l with
    | nil => simp
    | cons x l ih =>
      by_cases hx : x = i
      · subst hx
        have h1 : (listed.setIfInBounds x true).getD x false = true := (L_set (by omega)).2 (.inl rfl)
        have h2 : listed.getD x false = false := by cases hh : listed.getD x false with
          | true => exact absurd hh hl
          | false => rfl
        rw [List.filter_cons_of_neg (by rw [h1]; simp), List.filter_cons_of_pos (by rw [h2]; simp), List.length_cons]
        exact ⟨by omega, fun _ => by omega⟩
      · have h1 : (listed.setIfInBounds i true).getD x false = listed.getD x false := getD_set_ne false (Ne.symm hx)
        cases h2 : listed.getD x false with
        | true =>
          rw [List.filter_cons_of_neg (by rw [h1, h2]; simp), List.filter_cons_of_neg (by rw [h2]; simp)]
          exact ⟨ih.1, fun hm => ih.2 (by rcases List.mem_cons.1 hm with e | e; exact absurd e.symm hx; exact e)⟩
        | false =>
          rw [List.filter_cons_of_pos (by rw [h1, h2]; simp), List.filter_cons_of_pos (by rw [h2]; simp), List.length_cons, List.length_cons]
          exact ⟨by omega, fun hm => by have := ih.2 (by rcases List.mem_cons.1 hm with e | e; exact absurd e.symm hx; exact e); omega⟩
  exact (key _).2 (List.mem_range.2 hi)

theorem go_step (fuel t : Nat) (listed : Array Bool) : (Region.ready .any ops listed = [] ∧ Region.linearise.go .any ops (fuel + 1) t listed [] = []) ∨
    ∃ i, i ∈ Region.ready .any ops listed ∧ ∃ t', Region.linearise.go .any ops (fuel + 1) t listed [] = i :: Region.linearise.go .any ops fuel t' (listed.setIfInBounds i true) [] := by
  simp only [Region.linearise.go]
  change (_ ∧ (match (Region.ready .any ops listed)[t % (Region.ready .any ops listed).length]? with
      | some i => Region.linearise.go .any ops fuel (t / (Region.ready .any ops listed).length) (listed.setIfInBounds i true) [i]
      | none => [].reverse) = []) ∨ ∃ i, _ ∧ ∃ t', (match (Region.ready .any ops listed)[t % (Region.ready .any ops listed).length]? with
      | some i => Region.linearise.go .any ops fuel (t / (Region.ready .any ops listed).length) (listed.setIfInBounds i true) [i]
      | none => [].reverse) = _
  cases hi : (Region.ready .any ops listed)[t % (Region.ready .any ops listed).length]? with
  | none =>
    left
    refine ⟨?_, rfl⟩
    cases hr : Region.ready .any ops listed with
    | nil => rfl
    | cons x xs =>
      rw [hr] at hi
      have hlt : t % (x :: xs).length < (x :: xs).length := Nat.mod_lt _ (by simp)
      simp at hi
      simp at hlt
      omega
  | some i =>
    right
    refine ⟨i, List.mem_of_getElem? hi, t / (Region.ready .any ops listed).length, ?_⟩
    simp only []
    rw [linearise_go_acc, List.reverse_singleton, List.singleton_append]

include hA0 in
theorem draws_run (hE : E.Ok) (hS : E.SumOk) (hT : E.StrOk) (hD : DOk E ops) (hO : OrdOk E ops l) {rec : Rec} (hrec : SoundC E rec) {K : CK} {b : Frame} {k : List Item} {cs : List Frame} (hb : b.roundOf.isSome = a0.rnd) (hq : Quiet b cs) :
    ∀ (fuel t : Nat) (listed : Array Bool) (d : List Ent) (r : List (Nat × Oper)) (ps : List Pend) (a : AAct) (H : AHeap) (m : Emb) (act : Act) (w : World), left ops listed ≤ fuel →
      DInv E ops l n0 m0 H0 w0 a0 act0 d r ps a H listed m act w → arest E ops rec r ps a H K → Stable E r →
      ∃ act' w', PC n0 m0 H0 w0 a0.rnd K .normal act' w' ∧ StepsIn Tr E.P (lone (b.atR act (.inRegion ops (Region.linearise.go .any ops fuel t listed []) :: k)) cs w) (lone (b.atR act' k) cs w') := by
  -- the end
  have done : ∀ (listed : Array Bool) (d : List Ent) (r : List (Nat × Oper)) (ps : List Pend) (a : AAct) (H : AHeap) (m : Emb) (act : Act) (w : World), (∀ j, j < ops.size → L listed j) →
      DInv E ops l n0 m0 H0 w0 a0 act0 d r ps a H listed m act w → arest E ops rec r ps a H K → PC n0 m0 H0 w0 a0.rnd K .normal act w := by
    intro listed d r ps a H m act w hall h ha
    have hr : r = [] := by
      cases r with
      | nil => rfl
      | cons q r =>
        exfalso
        have ho : ops[q.1]? = some q.2 := hO.mem q (by rw [h.split]; exact List.mem_append_right _ (List.mem_cons_self ..))
        obtain ⟨e, he, hi⟩ := h.sub _ (hall q.1 (Array.getElem?_eq_some_iff.1 ho).1)
        exact h.notin hO (List.mem_cons_self ..) he hi
    subst hr
    refine ⟨.normal, a, H, m, ha, trivial, ⟨by rw [h.mt.n, h.fr.n], fun t => ?_, by rw [h.fr.ds, h.mt.ds]; exact hA0.ds.mono h.ext.le⟩, h.fr.rnd, h.rel, h.ext⟩
    by_cases hx : ∃ e ∈ d, e.o.dst = some t ∧ t < a0.n
    · obtain ⟨e, he, h1, h2⟩ := hx
      rw [h.fr.set e he t h1 h2]
      exact h.mt.set e he (hall _ (by have := h.lt hO he; rw [h.size] at this; exact this)) t h1 h2
    · rw [h.fr.old t fun e he h1 h2 => hx ⟨e, he, h1, h2⟩, h.mt.old t fun e he _ h1 h2 => hx ⟨e, he, h1, h2⟩]
      exact (hA0.tmp t).mono h.ext.le
  intro fuel
  induction fuel with
  | zero =>
    intro t listed d r ps a H m act w hfu h ha hst
    have hall : ∀ j, j < ops.size → L listed j := by
      intro j hj
      cases hl : listed.getD j false with
      | true => exact hl
      | false =>
        exfalso
        have hm : j ∈ (List.range ops.size).filter fun j => !listed.getD j false := List.mem_filter.2 ⟨List.mem_range.2 hj, by rw [hl]; rfl⟩
        have h0 : ((List.range ops.size).filter fun j => !listed.getD j false).length = 0 := Nat.le_zero.1 hfu
        rw [List.length_eq_zero_iff] at h0
        rw [h0] at hm
        cases hm
    exact ⟨act, w, done _ _ _ _ _ _ _ _ _ hall h ha, one stepR_region_end⟩
  | succ fuel ih =>
    intro t listed d r ps a H m act w hfu h ha hst
    rcases go_step (ops := ops) fuel t listed with ⟨hr, hg⟩ | ⟨i, hi, t', hg⟩
    · rw [hg]
      exact ⟨act, w, done _ _ _ _ _ _ _ _ _ (unlisted hD h.size hr) h ha, one stepR_region_end⟩
    · rw [hg]
      rw [mem_ready] at hi
      obtain ⟨hi1, o, ho, hi2⟩ := hi
      have hlt : i < ops.size := (Array.getElem?_eq_some_iff.1 ho).1
      have hl : ¬ L listed i := fun hl => by
        unfold L at hl
        have his : i < listed.size := by rw [h.size]; exact hlt
        simp only [Array.getD_eq_getD_getElem?, Array.getElem?_eq_getElem his, Option.getD_some] at hl hi1
        rw [hi1] at hl; cases hl
      have hf : Free o listed := fun e he hb => hi2 e (by simpa using he) hb
      have hfu' : left ops (listed.setIfInBounds i true) ≤ fuel := by
        have := left_set (ops := ops) hlt h.size hl
        omega
      by_cases hd : ∃ e ∈ d, e.i = i
      · obtain ⟨e, he, rfl⟩ := hd
        have heo := h.opsAt hO he
        rw [heo] at ho; cases ho
        obtain ⟨act1, w1, ⟨m1, h1⟩, hs1⟩ := pend1 hE hD hO hA0 h he hl hf (rnd := a0.rnd) b k cs (Region.linearise.go .any ops fuel t' (listed.setIfInBounds e.i true) []) hb hq
        obtain ⟨act2, w2, h2, hs2⟩ := ih t' _ d r ps a H m1 act1 w1 hfu' h1 ha hst
        exact ⟨act2, w2, h2, hs1.trans hs2⟩
      · -- then it is the effect ahead of which the evaluator stands
        have hir : i ∈ r.map (·.1) := by
          have := hO.all i hlt
          rw [h.split, List.map_append, map_p, List.mem_append] at this
          rcases this with hm | hm
          · obtain ⟨e, he, hei⟩ := List.mem_map.1 hm
            exact absurd ⟨e, he, hei⟩ hd
          · exact hm
        cases r with
        | nil => simp at hir
        | cons q r =>
          have heff := hst q r rfl
          have hiq : i = q.1 := by
            rw [List.map_cons, List.mem_cons] at hir
            rcases hir with hir | hir
            · exact hir
            · exfalso
              obtain ⟨s, hs, hsi⟩ := List.mem_map.1 hir
              have hp := hO.eff _ _ _ h.split heff s hs
              rw [hsi] at hp
              obtain ⟨e, he, hei⟩ := h.sub _ (h.closed.pre ho hf hp)
              exact h.notin hO (List.mem_cons_self ..) he hei
          subst hiq
          have hqo : ops[q.1]? = some q.2 := hO.mem q (by rw [h.split]; exact List.mem_append_right _ (List.mem_cons_self ..))
          rw [hqo] at ho; cases ho
          rw [arest_cons] at ha
          obtain ⟨act1, w1, ⟨d1, ps1, a1, H1, m1, h1, ha1⟩, hs1⟩ := eff1 hE hS hT hD hO hA0 hrec h heff hf ha b k cs (Region.linearise.go .any ops fuel t' (listed.setIfInBounds q.1 true) []) hb hq
          obtain ⟨d2, r2, ps2, a2, H2, h2, ha2, hst2⟩ := advance hD hO r d1 ps1 a1 H1 h1 ha1
          obtain ⟨act3, w3, h3, hs3⟩ := ih t' _ d2 r2 ps2 a2 H2 m1 act1 w1 hfu' h2 ha2 hst2
          exact ⟨act3, w3, h3, hs1.trans hs3⟩
end

/-- ████ A region that draws its order goes as the evaluator does it. -/
theorem draws_ok {E : Env} (hE : E.Ok) (hS : E.SumOk) (hT : E.StrOk) (hM : E.P.follows .mixedOrders = true) : DrawsOk E := by
  intro ops hd rec hrec id a H K h m n0 w act hR hA b k cs i hb hq hi
  rw [hi.code (fun x => by simp)]
  obtain ⟨hD, hO⟩ := drawOk_ok hd
  have hrep : ∀ j, ¬ L (Array.replicate ops.size false) j := fun j hj => by
    unfold L at hj
    by_cases hlt : j < ops.size <;> simp [hlt] at hj
  let w1 : World := { w with drawn := w.drawn + 1 }
  have hI : DInv E ops (order E ops) n0 m H w a act [] (order E ops) [] a H (Array.replicate ops.size false) m act w1 :=
    ⟨rfl, by simp, fun j o _ hl => absurd hl (hrep j), fun j hj => absurd hj (hrep j), by simp, FrIs.nil a, ⟨by simp, fun _ _ => rfl, hA.size, rfl⟩, fun d1 e d2 hh => by simp at hh, by simp, by simp, by simp,
      hR.heap rfl, Ext.heap rfl rfl rfl rfl⟩
  have h' : arest E ops rec (order E ops) [] a H K := h
  obtain ⟨d2, r2, ps2, a2, H2, h2, ha2, hst2⟩ := advance hD hO (order E ops) [] [] a H hI h'
  have hfu : left ops (Array.replicate ops.size false) ≤ ops.size := by
    unfold left
    refine Nat.le_trans (List.length_filter_le ..) (by simp)
  obtain ⟨act', w', h3, hs⟩ := draws_run hA hE hS hT hD hO hrec hb hq ops.size (w.tape w.drawn (.order b.fn id)) _ d2 r2 ps2 a2 H2 m act w1 hfu h2 ha2 hst2
  refine ⟨.normal, act', w', h3, .head trivial stepR_region_draw ?_⟩
  have he : Region.schedule (E.P.follows .mixedOrders) ops (w.tape w.drawn (.order b.fn id)) = Region.linearise.go .any ops ops.size (w.tape w.drawn (.order b.fn id)) (Array.replicate ops.size false) [] := by
    rw [hM]
    unfold Region.schedule
    rw [Bool.true_or, if_pos rfl]
    rfl
  rw [he]
  exact hs
end Go.Ai
