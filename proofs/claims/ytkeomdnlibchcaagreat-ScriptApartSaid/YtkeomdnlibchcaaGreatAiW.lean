/-
  Regions that draw their order: what is bound, the frames, and what is pending; no condition.
-/
import Derived.Test.YtkeomdnlibchcaaGreatAiT
namespace Go.Ai
open Go.RowKit (Below)

/-! ### what stands ahead -/
def Pre (ops : Array Oper) (j i : Nat) : Prop := ((bef ops).at j).testBit i = true

inductive Reach (ops : Array Oper) : Nat → Nat → Prop
  | one {j : Nat} {o : Oper} {e : Edge} (ho : ops[j]? = some o) (he : e ∈ o.after.toList) (hb : Region.binds .any e = true) : Reach ops j e.on
  | step {j i : Nat} {o : Oper} {e : Edge} (ho : ops[j]? = some o) (he : e ∈ o.after.toList) (hb : Region.binds .any e = true) (h : Reach ops e.on i) : Reach ops j i

theorem edgeBits_cons (acc : T Nat) (s : Nat) (e : Edge) (l : List Edge) : edgeBits acc s (e :: l) =
    bif Region.binds .any e then (bif Nat.testBit s e.on then edgeBits acc s l else edgeBits acc (Nat.lor (Nat.lor s (Nat.shiftLeft 1 e.on)) ((acc.get (path e.on)).getD 0)) l) else edgeBits acc s l := rfl

theorem edgeBits_spec (acc : T Nat) : ∀ (l : List Edge) (s i : Nat), (edgeBits acc s l).testBit i = true → s.testBit i = true ∨ ∃ e ∈ l, Region.binds .any e = true ∧ (i = e.on ∨ ((acc.get (path e.on)).getD 0).testBit i = true)
  | [], s, i, h => .inl h
  | e :: l, s, i, h => by
    rw [edgeBits_cons] at h
    have lift : (s.testBit i = true ∨ ∃ e ∈ l, Region.binds .any e = true ∧ (i = e.on ∨ ((acc.get (path e.on)).getD 0).testBit i = true)) → (s.testBit i = true ∨ ∃ e' ∈ e :: l, Region.binds .any e' = true ∧ (i = e'.on ∨ ((acc.get (path e'.on)).getD 0).testBit i = true)) := by
      rintro (h | ⟨e', h1, h2⟩)
      · exact .inl h
      · exact .inr ⟨e', List.mem_cons_of_mem _ h1, h2⟩
    cases hb : Region.binds .any e with
    | false => rw [hb] at h; exact lift (edgeBits_spec acc l s i h)
    | true =>
      rw [hb] at h
      simp only [cond_true] at h
      cases ht : Nat.testBit s e.on with
      | true => rw [ht] at h; exact lift (edgeBits_spec acc l s i h)
      | false =>
        rw [ht] at h
        simp only [cond_false] at h
        rcases edgeBits_spec acc l _ i h with h | ⟨e', h1, h2⟩
        · have h : ((s ||| 1 <<< e.on) ||| ((acc.get (path e.on)).getD 0)).testBit i = true := h
          rw [Nat.testBit_or, Nat.testBit_or, Bool.or_eq_true, Bool.or_eq_true] at h
          rcases h with (h | h) | h
          · exact .inl h
          · refine .inr ⟨e, List.mem_cons_self .., hb, .inl ?_⟩
            rw [Nat.one_shiftLeft, Nat.testBit_two_pow] at h
            exact (of_decide_eq_true h).symm
          · exact .inr ⟨e, List.mem_cons_self .., hb, .inr h⟩
        · exact .inr ⟨e', List.mem_cons_of_mem _ h1, h2⟩

theorem befF_spec (ops : Array Oper) : ∀ (l : List (Nat × Oper)) (acc : T Nat), (∀ q ∈ l, ops[q.1]? = some q.2) → (∀ j v, acc.get (path j) = some v → ∀ i, v.testBit i = true → Reach ops j i) →
    ∀ j v, (befF l acc).get (path j) = some v → ∀ i, v.testBit i = true → Reach ops j i
  | [], _, _, h => h
  | (j, o) :: l, acc, hl, h => by
    refine befF_spec ops l _ (fun q hq => hl q (List.mem_cons_of_mem _ hq)) fun j' v hv i hi => ?_
    rw [T.get_set] at hv
    by_cases e : j' = j
    · subst e
      rw [if_pos rfl] at hv
      cases hv
      have ho := hl (j', o) (List.mem_cons_self ..)
      rcases edgeBits_spec acc _ _ _ hi with h1 | ⟨e, h1, h2, h3⟩
      · simp at h1
      · have h1 : e ∈ o.after.toList := by simpa using h1
        rcases h3 with rfl | h3
        · exact .one ho h1 h2
        · cases hg : acc.get (path e.on) with
          | none => rw [hg] at h3; simp at h3
          | some v' => rw [hg] at h3; exact .step ho h1 h2 (h _ _ hg _ h3)
    · rw [if_neg e] at hv
      exact h j' v hv i hi

theorem pre_reach {ops : Array Oper} {j i : Nat} (h : Pre ops j i) : Reach ops j i := by
  unfold Pre bef Bef.at at h
  simp only at h
  cases hg : (befF (opsL ops) .leaf).get (path j) with
  | none => rw [hg] at h; simp at h
  | some v => rw [hg] at h; exact befF_spec ops _ _ (opsL_mem ops) (fun j v hv => by simp at hv) j v hg i h

abbrev L (listed : Array Bool) (j : Nat) : Prop := listed.getD j false = true
def Closed (ops : Array Oper) (listed : Array Bool) : Prop := ∀ j o, ops[j]? = some o → L listed j → ∀ e ∈ o.after.toList, Region.binds .any e = true → L listed e.on
def Free (o : Oper) (listed : Array Bool) : Prop := ∀ e ∈ o.after.toList, Region.binds .any e = true → L listed e.on

theorem Closed.reach {ops : Array Oper} {listed : Array Bool} (hc : Closed ops listed) {j i : Nat} (h : Reach ops j i) : ∀ {o : Oper}, ops[j]? = some o → Free o listed → L listed i := by
  induction h with
  | one ho he hb => intro o h1 h2; rw [ho] at h1; cases h1; exact h2 _ he hb
  | step ho he hb h ih =>
    intro o h1 h2
    rw [ho] at h1; cases h1
    have h3 := h2 _ he hb
    cases h with
    | one ho' he' hb' => exact hc _ _ ho' h3 _ he' hb'
    | step ho' he' hb' h' => exact ih ho' (hc _ _ ho' h3)
theorem Closed.pre {ops : Array Oper} {listed : Array Bool} (hc : Closed ops listed) {j i : Nat} {o : Oper} (ho : ops[j]? = some o) (hf : Free o listed) (h : Pre ops j i) : L listed i := hc.reach (pre_reach h) ho hf

theorem L_set {listed : Array Bool} {i j : Nat} (hi : i < listed.size) : L (listed.setIfInBounds i true) j ↔ j = i ∨ L listed j := by
  unfold L
  by_cases e : j = i
  · subst e; simp [hi]
  · rw [getD_set_ne false (Ne.symm e)]; simp [e]

/-! ### what a region that draws its order is -/
structure DOk (E : Env) (ops : Array Oper) : Prop where
  nodefer : ∀ (j : Nat) (o : Oper), ops[j]? = some o → cls E o ≠ .defer
  back : ∀ (j : Nat) (o : Oper), ops[j]? = some o → ∀ e ∈ o.after.toList, Region.binds .any e = true → e.on < j
  guard : ∀ (j : Nat) (o : Oper), ops[j]? = some o → ∀ g w, o.guard = some (g, w) → Pre ops j g
  once : ∀ (j : Nat) (o : Oper) (i : Nat) (p : Oper), ops[j]? = some o → ops[i]? = some p → ∀ t, o.dst = some t → p.dst = some t → i = j
  apart : ∀ (j : Nat) (o : Oper) (i : Nat) (p : Oper), ops[j]? = some o → ops[i]? = some p → i ≠ j → ∀ t, p.dst = some t → t ∈ namesOf o → Pre ops j i ∨ Pre ops i j

structure OrdOk (E : Env) (ops : Array Oper) (l : List (Nat × Oper)) : Prop where
  mem : ∀ q ∈ l, ops[q.1]? = some q.2
  all : ∀ i, i < ops.size → i ∈ l.map (·.1)
  nodup : (l.map (·.1)).Nodup
  ext : ∀ d q r, l = d ++ q :: r → ∀ i, Pre ops q.1 i → i ∈ d.map (·.1)
  eff : ∀ d q r, l = d ++ q :: r → (cls E q.2).isEff = true → ∀ s ∈ r, Pre ops s.1 q.1

theorem ordOk_cons (E : Env) (n : Nat) (b : Bef) (q : Nat × Oper) (l : List (Nat × Oper)) (s : Nat) : ordOk E n b (q :: l) s =
    (!s.testBit q.1 && (Nat.beq (Nat.land (b.at q.1) s) (b.at q.1) && ((!(cls E q.2).isEff || l.all fun r => (b.at r.1).testBit q.1) && ordOk E n b l (Nat.lor s (2 ^ q.1))))) := rfl

theorem ordOk_spec (E : Env) (n : Nat) (b : Bef) : ∀ (l : List (Nat × Oper)) (s : Nat) (d0 : List Nat), (∀ i, s.testBit i = true ↔ i ∈ d0) → ordOk E n b l s = true →
    (l.map (·.1)).Nodup ∧ (∀ q ∈ l, q.1 ∉ d0) ∧ (∀ i, i < n → i ∈ d0 ∨ i ∈ l.map (·.1)) ∧
    (∀ d q r, l = d ++ q :: r → (∀ i, (b.at q.1).testBit i = true → i ∈ d0 ∨ i ∈ d.map (·.1)) ∧ ((cls E q.2).isEff = true → ∀ t ∈ r, (b.at t.1).testBit q.1 = true))
  | [], s, d0, hs, h => by
    have h : Nat.beq s (2 ^ n - 1) = true := h
    have h := Nat.eq_of_beq_eq_true h
    refine ⟨by simp, by simp, fun i hi => .inl ((hs i).1 (by rw [h, Nat.testBit_two_pow_sub_one]; simpa using hi)), fun d q r e => by simp at e⟩
  | q :: l, s, d0, hs, h => by
    rw [ordOk_cons] at h
    simp only [Bool.and_eq_true, Bool.not_eq_true'] at h
    obtain ⟨h1, h2, h3, h4⟩ := h
    have h2 := Nat.eq_of_beq_eq_true h2
    have hs' : ∀ i, (Nat.lor s (2 ^ q.1)).testBit i = true ↔ i ∈ q.1 :: d0 := by
      intro i
      have : (s ||| 2 ^ q.1).testBit i = (s.testBit i || (2 ^ q.1).testBit i) := Nat.testBit_or ..
      show (s ||| 2 ^ q.1).testBit i = true ↔ _
      rw [this, Nat.testBit_two_pow, Bool.or_eq_true, hs i, decide_eq_true_eq, List.mem_cons]
      constructor
      · rintro (h | h)
        · exact .inr h
        · exact .inl h.symm
      · rintro (h | h)
        · exact .inr h.symm
        · exact .inl h
    obtain ⟨g1, g2, g3, g4⟩ := ordOk_spec E n b l _ (q.1 :: d0) hs' h4
    have hq : q.1 ∉ d0 := fun hm => by rw [(hs q.1).2 hm] at h1; cases h1
    refine ⟨?_, ?_, ?_, ?_⟩
    · rw [List.map_cons, List.nodup_cons]
      refine ⟨fun hm => ?_, g1⟩
      obtain ⟨p, hp, e⟩ := List.mem_map.1 hm
      exact g2 p hp (by rw [e]; exact List.mem_cons_self ..)
    · intro p hp
      rcases List.mem_cons.1 hp with rfl | hp
      · exact hq
      · exact fun hm => g2 p hp (List.mem_cons_of_mem _ hm)
    · intro i hi
      rcases g3 i hi with h | h
      · rcases List.mem_cons.1 h with rfl | h
        · exact .inr (by simp)
        · exact .inl h
      · exact .inr (by rw [List.map_cons]; exact List.mem_cons_of_mem _ h)
    · intro d p r e
      cases d with
      | nil =>
        simp only [List.nil_append, List.cons.injEq] at e
        obtain ⟨rfl, rfl⟩ := e
        refine ⟨fun i hi => .inl ((hs i).1 ?_), fun he t ht => ?_⟩
        · have h2 : (b.at q.1 &&& s) = b.at q.1 := h2
          have : (b.at q.1 &&& s).testBit i = true := by rw [h2]; exact hi
          rw [Nat.testBit_and, Bool.and_eq_true] at this
          exact this.2
        · rw [he] at h3
          simp only [Bool.not_true, Bool.false_or, List.all_eq_true] at h3
          exact h3 t ht
      | cons x d =>
        simp only [List.cons_append, List.cons.injEq] at e
        obtain ⟨rfl, e⟩ := e
        obtain ⟨f1, f2⟩ := g4 d p r e
        refine ⟨fun i hi => ?_, f2⟩
        rcases f1 i hi with h | h
        · rcases List.mem_cons.1 h with rfl | h
          · exact .inr (by simp)
          · exact .inl h
        · exact .inr (by rw [List.map_cons]; exact List.mem_cons_of_mem _ h)

theorem asap_mem (E : Env) (b : Bef) : ∀ (es all : List (Nat × Oper)) (x : Nat × Oper), x ∈ asap E b es all → x ∈ es ∨ x ∈ all
  | [], all, x, h => .inr h
  | e :: es, all, x, h => by
    unfold asap at h
    simp only at h
    rw [List.mem_append, List.mem_cons] at h
    rcases h with h | h | h
    · right
      rw [List.partition_eq_filter_filter] at h
      exact (List.mem_filter.1 h).1
    · exact .inl (by rw [h]; exact List.mem_cons_self ..)
    · rcases asap_mem E b es _ x h with h | h
      · exact .inl (List.mem_cons_of_mem _ h)
      · right
        have := (List.mem_filter.1 h).1
        rw [List.partition_eq_filter_filter] at this
        exact (List.mem_filter.1 this).1

theorem order_mem (E : Env) (ops : Array Oper) : ∀ q ∈ order E ops, ops[q.1]? = some q.2 := by
  intro q hq
  unfold order at hq
  rcases asap_mem E _ _ _ q hq with h | h
  · exact opsL_mem ops q (List.mem_filter.1 h).1
  · exact opsL_mem ops q h

theorem opsL_of (ops : Array Oper) {j : Nat} {o : Oper} (h : ops[j]? = some o) : (j, o) ∈ opsL ops := by
  unfold opsL
  refine List.mem_map.2 ⟨(o, j), ?_, rfl⟩
  rw [List.mem_zipIdx_iff_getElem?]
  simpa using h

theorem drawOk_ok {E : Env} {ops : Array Oper} (h : drawOk E ops = true) : DOk E ops ∧ OrdOk E ops (order E ops) := by
  unfold drawOk at h
  simp only [Bool.and_eq_true, List.all_eq_true] at h
  obtain ⟨h1, h2⟩ := h
  have key : ∀ j o, ops[j]? = some o → _ := fun j o ho => h2 (j, o) (opsL_of ops ho)
  simp only [Bool.and_eq_true] at key
  obtain ⟨g1, g2, g3, g4⟩ := ordOk_spec E _ _ _ 0 [] (fun i => by simp) h1
  refine ⟨⟨?_, ?_, ?_, ?_, ?_⟩, ⟨order_mem E ops, fun i hi => by simpa using g3 i hi, g1, fun d q r e i hi => by simpa using (g4 d q r e).1 i hi, fun d q r e he s hs => (g4 d q r e).2 he s hs⟩⟩
  · intro j o ho hc
    have := (key j o ho).1.1.1
    rw [hc] at this
    cases this
  · intro j o ho e he hb
    have := (key j o ho).1.1.2
    have := this e he
    rw [hb] at this
    simp only [Bool.not_true, Bool.false_or] at this
    exact blt_lt this
  · intro j o ho g w hg
    have := (key j o ho).1.2
    rw [hg] at this
    simp only [Bool.and_eq_true] at this
    exact this.1
  · intro j o i p ho hp t ht hpt
    have := (key j o ho).2
    have := this (i, p) (opsL_of ops hp)
    simp only [ht, hpt, Bool.or_eq_true, Bool.and_eq_true] at this
    rcases this with h | ⟨h, _⟩
    · exact Nat.eq_of_beq_eq_true h
    · rw [Nat.beq_refl] at h; cases h
  · intro j o i p ho hp hne t ht hn
    have := (key j o ho).2
    have := this (i, p) (opsL_of ops hp)
    simp only [Bool.or_eq_true, Bool.and_eq_true] at this
    rcases this with h | ⟨_, (h | h) | h⟩
    · exact absurd (Nat.eq_of_beq_eq_true h) hne
    · exact .inl h
    · exact .inr h
    · rw [ht] at h
      simp only [Bool.not_eq_true', List.contains_eq_mem, decide_eq_false_iff_not] at h
      exact absurd hn h

/-! ### frames -/
noncomputable def setAll (l : List (Tmp × Value)) (t : T Value) : T Value := l.foldl (fun t p => t.set p.2 (path p.1)) t
theorem setAll_get : ∀ (l : List (Tmp × Value)) (t : T Value) (i : Nat), (setAll l t).get (path i) = t.get (path i) ∨ ∃ p ∈ l, p.1 = i ∧ (setAll l t).get (path i) = some p.2
  | [], t, i => .inl rfl
  | p :: l, t, i => by
    show (setAll l (t.set p.2 (path p.1))).get (path i) = _ ∨ _
    rcases setAll_get l (t.set p.2 (path p.1)) i with h | ⟨q, h1, h2, h3⟩
    · rw [T.get_set] at h
      by_cases e : i = p.1
      · rw [if_pos e] at h; exact .inr ⟨p, List.mem_cons_self .., e.symm, h⟩
      · rw [if_neg e] at h; exact .inl h
    · exact .inr ⟨q, List.mem_cons_of_mem _ h1, h2, h3⟩
theorem setAll_some : ∀ (l : List (Tmp × Value)) (t : T Value) (i : Nat), (∃ p ∈ l, p.1 = i) → ∃ p ∈ l, p.1 = i ∧ (setAll l t).get (path i) = some p.2
  | [], t, i, h => by obtain ⟨p, h, _⟩ := h; simp at h
  | p :: l, t, i, h => by
    show ∃ q ∈ p :: l, q.1 = i ∧ (setAll l (t.set p.2 (path p.1))).get (path i) = some q.2
    rcases setAll_get l (t.set p.2 (path p.1)) i with h' | ⟨q, h1, h2, h3⟩
    · obtain ⟨q, hq, hi⟩ := h
      rcases List.mem_cons.1 hq with rfl | hq
      · rw [T.get_set, if_pos hi.symm] at h'
        exact ⟨q, List.mem_cons_self .., hi, h'⟩
      · obtain ⟨q', a, b, c⟩ := setAll_some l (t.set p.2 (path p.1)) i ⟨q, hq, hi⟩
        exact ⟨q', List.mem_cons_of_mem _ a, b, c⟩
    · exact ⟨q, List.mem_cons_of_mem _ h1, h2, h3⟩

noncomputable def AAct.keep (a : AAct) (l : List Tmp) : AAct := { n := a.n, ds := a.ds, rnd := a.rnd, t := setAll (l.map fun t => (t, a.tmp t)) .leaf }

theorem keep_tmp (a : AAct) (l : List Tmp) (t : Nat) : (a.keep l).tmp t = if t ∈ l then a.tmp t else poison := by
  rw [tmp_eq]
  show ((setAll (l.map fun t => (t, a.tmp t)) .leaf).get (path t)).getD poison = _
  by_cases hm : t ∈ l
  · obtain ⟨p, h1, h2, h3⟩ := setAll_some (l.map fun t => (t, a.tmp t)) .leaf t ⟨(t, a.tmp t), List.mem_map.2 ⟨t, hm, rfl⟩, rfl⟩
    obtain ⟨q, hq, rfl⟩ := List.mem_map.1 h1
    simp only at h2
    subst h2
    rw [if_pos hm, h3]; rfl
  · rw [if_neg hm]
    rcases setAll_get (l.map fun t => (t, a.tmp t)) .leaf t with h | ⟨p, h1, h2, _⟩
    · rw [h]; rfl
    · obtain ⟨q, hq, rfl⟩ := List.mem_map.1 h1
      simp only at h2
      subst h2
      exact absurd hq hm

theorem keep_rel {m : Emb} {a : AAct} {act : Act} {l : List Tmp} (hs : act.tmps.size = a.n) (h : ∀ t ∈ l, VRel m (a.tmp t) (act.tmps.getD t undef)) (hd : DsRel m a.ds act.defers) : ARel m (a.keep l) act := by
  refine ⟨hs, fun t => ?_, hd⟩
  rw [keep_tmp]
  by_cases hm : t ∈ l
  · rw [if_pos hm]; exact h t hm
  · rw [if_neg hm]; exact .top _ _

theorem looks_op {ops : Array Oper} {o : Oper} {t : Tmp} (h : .tmp t ∈ o.op.operands.toList) : t ∈ o.looksAt ops := by
  unfold Oper.looksAt
  rw [List.mem_append]
  exact .inl (List.mem_filterMap.2 ⟨.tmp t, h, rfl⟩)

theorem keep_agree {a : AAct} {ops : Array Oper} {o : Oper} : Agree (a.keep (o.looksAt ops)) a o.op.operands.toList := by
  intro x hx
  cases x with
  | tmp t => rw [rv_tmp, rv_tmp, keep_tmp, if_pos (looks_op hx)]
  | const v => simp only [rv]; cases scalar v <;> rfl
  | global g => rfl
  | func f => rfl

noncomputable def wantA (ops : Array Oper) (a : AAct) (o : Oper) : Option Bool :=
  match o.guard with
  | none => some true
  | some (g, want) => match (rwant ops g).f a with
    | .bool b => some (cond want b (!b))
    | .tuple _ => some false
    | _ => none

theorem wantA_keep {ops : Array Oper} {a : AAct} {o : Oper} : wantA ops (a.keep (o.looksAt ops)) o = wantA ops a o := by
  unfold wantA
  cases hg : o.guard with
  | none => rfl
  | some g =>
    obtain ⟨g, want⟩ := g
    simp only
    have : (rwant ops g).f (a.keep (o.looksAt ops)) = (rwant ops g).f a := by
      unfold rwant
      cases hp : ops[g]? with
      | none => rfl
      | some p =>
        simp only
        cases hd : p.dst with
        | none => rfl
        | some d =>
          simp only [rv_tmp]
          rw [keep_tmp, if_pos]
          unfold Oper.looksAt
          rw [List.mem_append]
          right
          rw [hg]
          simp [hp, hd]
    rw [this]

theorem wantA_sound {ops : Array Oper} {m : Emb} {a : AAct} {act : Act} {o : Oper} (hA : ARel m a act) {c : Bool} (h : wantA ops a o = some c) : Region.wanted o (yielded ops act.tmps) = c := by
  unfold wantA at h
  unfold Region.wanted
  cases hg : o.guard with
  | none => rw [hg] at h; simpa using h
  | some g =>
    obtain ⟨g, want⟩ := g
    rw [hg] at h
    simp only at h ⊢
    obtain ⟨y1, y2⟩ := yields (ops := ops) (j := g) hA
    split at h
    · rename_i b hb
      rw [y1 b hb]
      cases h
      cases want <;> cases b <;> rfl
    · rename_i l hl
      rw [y2 l hl]
      cases h
      rfl
    · cases h

theorem ropG_want {E : Env} {rec : Rec} {ops : Array Oper} {i before : Nat} {o : Oper} {draw : Bool} {a : AAct} {H : AHeap} {ps : List Pend} {K : List Pend → AAct → AHeap → Prop} (h : (ropG E ops i o draw before).f rec ps a H K) :
    (wantA ops a o = some true ∧ (rop E i o draw before).f rec ps a H K) ∨ (wantA ops a o = some false ∧ K ps ((rput o.dst).f a undef) H) := by
  unfold ropG at h
  unfold wantA
  cases hg : o.guard with
  | none => rw [hg] at h; exact .inl ⟨rfl, h⟩
  | some g =>
    obtain ⟨g, want⟩ := g
    rw [hg] at h
    simp only at h ⊢
    split at h
    · rename_i b hb
      rw [hb]
      simp only
      cases hc : cond want b (!b) with
      | true => rw [hc] at h; exact .inl ⟨rfl, h⟩
      | false => rw [hc] at h; exact .inr ⟨rfl, h⟩
    · rename_i l hl
      rw [hl]
      exact .inr ⟨rfl, h⟩
    · exact h.elim

theorem rput_tmp (d : Option Tmp) (a : AAct) (v : Value) (t : Nat) : ((rput d).f a v).tmp t = if d = some t ∧ t < a.n then v else a.tmp t := by
  cases d with
  | none => rw [if_neg (by simp)]; rfl
  | some d =>
    rw [tmp_eq, tmp_eq]
    obtain ⟨n, tr, ds, r⟩ := a
    simp only [rput_some]
    cases hb : Nat.blt d n with
    | true =>
      have := blt_lt hb
      simp only [cond_true]
      rw [T.get_set]
      by_cases e : t = d
      · subst e; rw [if_pos rfl, if_pos ⟨rfl, this⟩]; rfl
      · rw [if_neg e, if_neg (by rintro ⟨h, _⟩; cases h; exact e rfl)]
    | false =>
      have : ¬ d < n := fun h => by rw [show Nat.blt d n = true from Nat.ble_eq_true_of_le h] at hb; cases hb
      simp only [cond_false]
      rw [if_neg (by rintro ⟨h, k⟩; cases h; exact this k)]

theorem put_tmp (d : Option Tmp) (act : Act) (v : Value) (t : Nat) : (act.put d v).tmps.getD t undef = if d = some t ∧ t < act.tmps.size then v else act.tmps.getD t undef := by
  cases d with
  | none => rw [if_neg (by simp)]; rfl
  | some d =>
    simp only [Act.put, Array.getD_eq_getD_getElem?]
    by_cases e : t = d
    · subst e
      by_cases h : t < act.tmps.size
      · rw [if_pos ⟨rfl, h⟩]; simp [h]
      · rw [if_neg (by rintro ⟨_, k⟩; exact h k), Array.getElem?_eq_none (by simpa using h), Array.getElem?_eq_none (by simpa using h)]
    · rw [if_neg (by rintro ⟨h, _⟩; cases h; exact e rfl), Array.getElem?_setIfInBounds_ne (Ne.symm e)]

/-! ### what the evaluator has done -/
structure Ent where
  i : Nat
  o : Oper
  fr : AAct
  v : Value
  id : Nat
def Ent.p (e : Ent) : Nat × Oper := (e.i, e.o)

structure FrIs (a0 : AAct) (d : List Ent) (a : AAct) : Prop where
  set : ∀ e ∈ d, ∀ t, e.o.dst = some t → t < a0.n → a.tmp t = e.v
  old : ∀ t, (∀ e ∈ d, e.o.dst = some t → ¬ t < a0.n) → a.tmp t = a0.tmp t
  n : a.n = a0.n
  ds : a.ds = a0.ds
  rnd : a.rnd = a0.rnd

theorem FrIs.nil (a0 : AAct) : FrIs a0 [] a0 := ⟨by simp, fun _ _ => rfl, rfl, rfl, rfl⟩
theorem FrIs.snoc {a0 : AAct} {d : List Ent} {a : AAct} (h : FrIs a0 d a) (e : Ent) (hu : ∀ e' ∈ d, ∀ t, e'.o.dst = some t → e.o.dst ≠ some t) : FrIs a0 (d ++ [e]) ((rput e.o.dst).f a e.v) := by
  refine ⟨fun e' he' t ht hn => ?_, fun t ht => ?_, by rw [rput_n, h.n], by rw [rput_ds, h.ds], by rw [rput_rnd, h.rnd]⟩
  · rw [rput_tmp]
    rcases List.mem_append.1 he' with he' | he'
    · rw [if_neg (fun hh => hu e' he' t ht hh.1)]
      exact h.set e' he' t ht hn
    · rw [List.mem_singleton] at he'
      subst he'
      rw [if_pos ⟨ht, by rw [h.n]; exact hn⟩]
  · rw [rput_tmp, if_neg]
    · exact h.old t fun e' he' => ht e' (List.mem_append_left _ he')
    · rintro ⟨h1, h2⟩
      exact ht e (List.mem_append_right _ (List.mem_singleton.2 rfl)) h1 (by rw [h.n] at h2; exact h2)

structure MIs (m : Emb) (a0 : AAct) (act0 : Act) (d : List Ent) (listed : Array Bool) (act : Act) : Prop where
  set : ∀ e ∈ d, L listed e.i → ∀ t, e.o.dst = some t → t < a0.n → VRel m e.v (act.tmps.getD t undef)
  old : ∀ t, (∀ e ∈ d, L listed e.i → e.o.dst = some t → ¬ t < a0.n) → act.tmps.getD t undef = act0.tmps.getD t undef
  n : act.tmps.size = a0.n
  ds : act.defers = act0.defers

/-- An operation that the evaluator has done, and the machine has not. -/
inductive PendAt (E : Env) (ops : Array Oper) (b : Nat) (m : Emb) (H : AHeap) (e : Ent) : Prop
  | skip (h : wantA ops e.fr e.o = some false) (hv : e.v = undef)
  | read (h : wantA ops e.fr e.o = some true) (hc : cls E e.o = .read) (hp : pread E e.fr H e.o = some e.v)
  | make (x : AObj) (Hm : AHeap) (h : wantA ops e.fr e.o = some true) (hc : cls E e.o = .make) (hp : amake E e.fr Hm e.o = some (e.v, x)) (hn : Hm.next = e.id) (hb : b ≤ e.id) (hid : e.id < H.next) (hm : m e.id = none) (hx : H.get e.id = some x)

structure DInv (E : Env) (ops : Array Oper) (l : List (Nat × Oper)) (n0 : Nat) (m0 : Emb) (H0 : AHeap) (w0 : World) (a0 : AAct) (act0 : Act)
    (d : List Ent) (r : List (Nat × Oper)) (ps : List Pend) (a : AAct) (H : AHeap) (listed : Array Bool) (m : Emb) (act : Act) (w : World) : Prop where
  split : l = d.map Ent.p ++ r
  size : listed.size = ops.size
  closed : Closed ops listed
  sub : ∀ j, L listed j → ∃ e ∈ d, e.i = j
  effs : ∀ e ∈ d, (cls E e.o).isEff = true → L listed e.i
  fr : FrIs a0 d a
  mt : MIs m a0 act0 d listed act
  pfr : ∀ d1 e d2, d = d1 ++ e :: d2 → FrIs a0 d1 e.fr
  pend : ∀ e ∈ d, ¬ L listed e.i → PendAt E ops H0.next m H e
  ids : ∀ e ∈ d, ∀ e' ∈ d, ¬ L listed e.i → ¬ L listed e'.i → cls E e.o = .make → cls E e'.o = .make → wantA ops e.fr e.o = some true → wantA ops e'.fr e'.o = some true → e.id = e'.id → e = e'
  pss : ∀ e ∈ d, ¬ L listed e.i → cls E e.o = .read → wantA ops e.fr e.o = some true → (⟨e.i, e.o, e.fr, e.v⟩ : Pend) ∈ ps
  rel : Rel m n0 H w
  ext : Ext n0 m0 m H0 H w0 w

theorem recheck_spec (E : Env) (before : Nat) (H : AHeap) : ∀ (ps : List Pend), recheck E before H ps = true → ∀ p ∈ ps, before.testBit p.i = true ∨ pread E p.a H p.o = some p.v
  | [], _, p, hp => by simp at hp
  | q :: ps, h, p, hp => by
    unfold recheck at h
    cases hb : before.testBit q.i with
    | true =>
      rw [hb] at h
      rcases List.mem_cons.1 hp with rfl | hp
      · exact .inl hb
      · exact recheck_spec E before H ps h p hp
    | false =>
      rw [hb] at h
      simp only [cond_false] at h
      split at h
      · rename_i v hv
        cases hs : same v q.v with
        | false => rw [hs] at h; cases h
        | true =>
          rw [hs] at h
          rcases List.mem_cons.1 hp with rfl | hp
          · exact .inr (by rw [hv, eq_of_same hs])
          · exact recheck_spec E before H ps h p hp
      · cases h
end Go.Ai
