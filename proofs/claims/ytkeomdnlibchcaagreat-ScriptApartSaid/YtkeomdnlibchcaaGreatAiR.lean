/-
  Code: what the evaluator does is what the machine does; of regions that draw their order, as far as that is told.
-/
import Derived.Test.YtkeomdnlibchcaaGreatAiQ
namespace Go.Ai
open Go.RowKit (Below)

section
variable {E : Env} (hE : E.Ok) (hS : E.SumOk) (hT : E.StrOk) {m : Emb} {n0 : Nat} {H : AHeap} {w : World}

theorem stepR_scope {P : Program} {b : Frame} {a : Act} {k : List Item} {cs : List Frame} {w : World} {c : Code} : step P (lone (b.atR a (.code (.scope c) :: k)) cs w) = .next (lone (b.atR a (.code c :: .inScope c :: k)) cs w) :=
  step_lone_go (by simp [stepG, stepG.exec, Frame.atR])
theorem stepR_inScope {P : Program} {b : Frame} {a : Act} {k : List Item} {cs : List Frame} {w : World} {c : Code} : step P (lone (b.atR a (.inScope c :: k)) cs w) = .next (lone (b.atR a k) cs w) :=
  step_lone_go (by simp [stepG, stepG.exec, Frame.atR])

theorem scope_sound {rec : Rec} (hrec : SoundC E rec) (body : Code) {K : CK} {rnd : Bool} (b : Frame) (k : List Item) (cs : List Frame) (hb : b.roundOf.isSome = rnd) (hq : Quiet b cs) : ∀ (n : Nat) (c : Code) (a : AAct) (H : AHeap) (m : Emb) (w : World) (act : Act),
    a.rnd = rnd → ascope rec body n c a H K → Rel m n0 H w → ARel m a act →
    ∃ e act' w', PC n0 m H w rnd K e act' w' ∧ ArrivesIn Tr E.P (lone (b.atR act (.code c :: .inScope body :: k)) cs w) b k cs e act' w'
  | 0, c, a, H, m, w, act, hr, h, hR, hA => h.elim
  | n + 1, c, a, H, m, w, act, hr, h, hR, hA => by
    obtain ⟨e, act1, w1, ⟨e1, a1, H1, m1, hK, hX, hA1, hr1, hR1, hE1⟩, harr⟩ := hrec c a H _ h m n0 w act hR hA b (.inScope body :: k) cs (.code c) (by rw [hb, hr]) hq (.inl rfl)
    have hr1' : a1.rnd = rnd := hr1.trans hr
    cases e1 with
    | normal =>
      cases e with
      | normal => exact ⟨.normal, act1, w1, ⟨.normal, a1, H1, m1, hK, trivial, hA1, hr1', hR1, hE1⟩, StepsIn.trans harr (one stepR_inScope)⟩
      | exit j => exact hX.elim
      | goto j => exact hX.elim
      | ret => exact hX.elim
      | panic ch => exact hX.elim
      | outgrown => exact hX.elim
    | exit id =>
      cases e with
      | exit j =>
        have hx : exitTo j (.inScope body :: k) = exitTo j k := by simp [exitTo]
        exact ⟨.exit j, act1, w1, ⟨.exit id, a1, H1, m1, hK, hX, hA1, hr1', hR1, hE1⟩, fun k' hk => harr.1 k' (by rw [hx]; exact hk), fun h1 h2 => harr.2 h1 (by rw [hx]; exact h2)⟩
      | normal => exact hX.elim
      | goto j => exact hX.elim
      | ret => exact hX.elim
      | panic ch => exact hX.elim
      | outgrown => exact hX.elim
    | ret =>
      cases e with
      | ret => exact ⟨.ret, act1, w1, ⟨.ret, a1, H1, m1, hK, trivial, hA1, hr1', hR1, hE1⟩, harr⟩
      | normal => exact hX.elim
      | goto j => exact hX.elim
      | exit j => exact hX.elim
      | panic ch => exact hX.elim
      | outgrown => exact hX.elim
    | goto l =>
      cases e with
      | goto j =>
        have hj : l = j := hX
        subst hj
        simp only at hK
        split at hK
        · rename_i rest hf
          have hg : gotoIn l (.inScope body :: k) = some (.code rest :: .inScope body :: k) := by simp [gotoIn, hf]
          obtain ⟨e2, act2, w2, h2, h3⟩ := scope_sound hrec body b k cs hb hq n rest a1 H1 m1 w1 act1 hr1' hK hR1 hA1
          exact ⟨e2, act2, w2, h2.ext hE1, .of_steps (harr.1 _ hg) h3⟩
        · rename_i hf
          have hx : gotoIn l (.inScope body :: k) = gotoIn l k := by simp [gotoIn, hf]
          exact ⟨.goto l, act1, w1, ⟨.goto l, a1, H1, m1, hK, rfl, hA1, hr1', hR1, hE1⟩, fun k' hk => harr.1 k' (by rw [hx]; exact hk), fun h1 h2 => harr.2 h1 (by rw [hx]; exact h2)⟩
      | normal => exact hX.elim
      | exit j => exact hX.elim
      | ret => exact hX.elim
      | panic ch => exact hX.elim
      | outgrown => exact hX.elim

theorem alloc_more (w : World) (o : Obj) : MoreBlock o w (w.alloc o) := ⟨rfl, rfl, rfl, rfl⟩

theorem tmps_rel {a : AAct} {act : Act} (hA : ARel m a act) : LRel m ((Array.range a.n).map a.tmp).toList act.tmps.toList := by
  refine LRel.of (by simp [hA.size]) fun i h1 h2 => ?_
  have ht := hA.tmp i
  have h2' : i < act.tmps.size := by simpa using h2
  rw [Array.getD_eq_getD_getElem?, Array.getElem?_eq_getElem h2'] at ht
  simpa using ht

include hE hS in
theorem rangeFunc_sound {rec : Rec} (hrec : SoundC E rec) {f : Operand} {ps : Array Tmp} {assign body : Code} {a : AAct} {act : Act} {K : CK} (h : arangeFunc E rec f ps assign body a H K) (hR : Rel m n0 H w) (hA : ARel m a act) :
    W E.P a.rnd (.rangeFunc f ps assign body) (PC n0 m H w a.rnd K) act w := by
  unfold arangeFunc at h
  by_cases hrn : a.rnd = true
  · rw [if_pos hrn] at h; exact h.elim
  rw [if_neg hrn] at h
  have hrn : a.rnd = false := by simpa using hrn
  simp only [AHeap.next_new, Nat.add_sub_cancel] at h
  intro b k cs i hb hq hi
  rw [hi.code (fun x => by simp)]
  have hro : b.roundOf = none := by rw [hrn] at hb; simpa using hb
  -- the two blocks
  have hf1 := hR.fresh
  let m1 := m.put H.next (EInfo.at w.heap.size)
  let w1 := w.alloc (.deferred (some []))
  have hR1 : Rel m1 n0 (H.new (.deferred (some []))) w1 := (hR.pend _).add hf1 (by simp) (by simp) rfl rfl (ORel.deferred (some []) (some []) (fun l e => by cases e; exact ⟨[], rfl, .nil⟩) rfl) (alloc_more w _)
  have hE1 : Ext n0 m m1 H (H.new (.deferred (some []))) w w1 := ⟨Emb.le_put hf1, (alloc_more w _).below hR.size, fun id a1 a2 => ⟨by show m.put _ _ _ = none; unfold Emb.put; rw [if_neg (by omega)]; exact a1, by rw [AHeap.get_new, if_neg (by omega)]⟩, by simp⟩
  have hf2 := hR1.fresh
  have hsz1 : w1.heap.size = w.heap.size + 1 := by simp [w1]
  let lrec : Loop := { state := .ready, pending := none, fn := 0, tmps := (Array.range a.n).map a.tmp, params := ps, assign, body, defers := H.next }
  let lrec' : Loop := { state := .ready, pending := none, fn := b.fn, tmps := act.tmps, params := ps, assign, body, defers := w.heap.size }
  let m2 := m1.put (H.next + 1) (EInfo.at (w.heap.size + 1))
  let w2 := w1.alloc (.loop lrec')
  have hR2 : Rel m2 n0 ((H.new (.deferred (some []))).new (.loop lrec)) w2 := by
    refine (hR1.pend _).add hf2 (by simp) (by simp) hsz1.symm rfl (ORel.loop lrec lrec' ⟨rfl, rfl, ?_, rfl, rfl, rfl⟩ rfl) (alloc_more w1 _)
    exact (tmps_rel hA).mono (Emb.le_trans (Emb.le_put hf1) (Emb.le_put hf2))
  have hE2 : Ext n0 m1 m2 (H.new (.deferred (some []))) ((H.new (.deferred (some []))).new (.loop lrec)) w1 w2 :=
    ⟨Emb.le_put hf2, (alloc_more w1 _).below hR1.size, fun id a1 a2 => ⟨by
      have a2' : id < H.next + 1 := by simpa using a2
      show m1.put _ _ _ = none; unfold Emb.put; rw [if_neg (by omega)]; exact a1, by
      have a2' : id < H.next + 1 := by simpa using a2
      rw [AHeap.get_new, if_neg (by simp; omega)]⟩, by simp⟩
  have hE12 := hE1.trans hE2
  have hml : m2 (H.next + 1) = some (EInfo.at (w.heap.size + 1)) := Emb.put_same _ _ _
  have hmd : m2 H.next = some (EInfo.at w.heap.size) := (Emb.le_put hf2) _ _ (Emb.put_same _ _ _)
  have hA2 : ARel m2 { a with ds := { target := .collected H.next, args := #[] } :: a.ds } { act with defers := [{ target := .collected w.heap.size, args := #[] }] ++ act.defers } := by
    have := hA.mono hE12.le
    exact ⟨this.size, this.tmp, .cons (.collected H.next _ hmd rfl) this.ds⟩
  split at h
  · rename_i g first captured hev
    have hfe := hA2.ev f
    rw [hev] at hfe
    obtain ⟨first⟩ := first
    obtain ⟨captured⟩ := captured
    obtain ⟨c1, d1, hρ, l1, l2⟩ := hfe.fn_inv
    have hρ' : act.eval f = .func (.func g) ⟨c1⟩ ⟨d1⟩ := by
      have : ({ act with defers := [{ target := .collected w.heap.size, args := #[] }] ++ act.defers } : Act).eval f = act.eval f := by cases f <;> rfl
      rw [← this]; exact hρ
    have hargs : LRel m2 (((⟨first⟩ ++ #[Value.func (.yield (H.next + 1)) #[] #[]]) ++ ⟨captured⟩ : Array Value).toList) (c1 ++ [Value.func (.yield (w.heap.size + 1)) #[] #[]] ++ d1) := by
      have := (l1.append (.cons (.yl (H.next + 1) _ hml) .nil)).append l2
      rw [show ((⟨first⟩ ++ #[Value.func (.yield (H.next + 1)) #[] #[]]) ++ ⟨captured⟩ : Array Value).toList = first ++ [Value.func (.yield (H.next + 1)) #[] #[]] ++ captured from by rw [Array.toList_append, Array.toList_append]]
      exact this
    have hcalls := acall_sound hE hS hrec h hR2 hargs
    have hent := acall_enter hE hS h (c1 ++ [Value.func (.yield (w.heap.size + 1)) #[] #[]] ++ d1).toArray w2
    have he : (Instr.enterLoop b.fn act.tmps ps assign body b.roundOf).run E.P w = .ok (w.heap.size + 1, [{ target := .collected w.heap.size, args := #[] }]) w2 := by
      rw [hro]; exact run_enterLoop_outer _ _ _ _ _
    have hres : (resolve act.eval (rangeCall f (w.heap.size + 1)) 0).run E.P w2 = .ok { target := .fn (.func g) ⟨d1⟩, args := (c1 ++ [Value.func (.yield (w.heap.size + 1)) #[] #[]]).toArray } w2 := by
      simp only [resolve, hρ', Deferred.ofValue, Sem.run_pure]
      congr 2
      apply Array.ext'
      simp [Act.eval]
    have hinv : (invoke (.fn (.func g) ⟨d1⟩) (c1 ++ [Value.func (.yield (w.heap.size + 1)) #[] #[]]).toArray).run E.P w2 = .ok (.enter g (c1 ++ [Value.func (.yield (w.heap.size + 1)) #[] #[]] ++ d1).toArray) w2 := by
      simp only [invoke]
      simpa using hent
    have hst := stepR_rangeFunc (P := E.P) (b := b) (a := act) (k := k) (cs := cs) (w := w) he hres hinv
    obtain ⟨e, w3, fr, ⟨v, rfl, v0, H3, m3, hK3, _, hR3, hE3⟩, hs3, _, hl3⟩ := hcalls (b.atR { act with defers := [{ target := .collected w.heap.size, args := #[] }] ++ act.defers } (.inRangeFunc (w.heap.size + 1) :: k) :: cs)
    have hback := step_leave_returned (c := b.atR { act with defers := [{ target := .collected w.heap.size, args := #[] }] ++ act.defers } (.inRangeFunc (w.heap.size + 1) :: k)) (cs := cs) hl3
    rw [finish_atR_inRangeFunc] at hback
    have s3 := (one hst).trans ((StepsIn.of_steps hs3).trans (one hback))
    split at hK3
    · rename_i r ho3
      split at hK3
      · exact hK3.elim
      · rename_i hbusy
        have hml3 := hE3.le _ _ hml
        obtain ⟨r', hw3, hlr, hro3⟩ := loop_at hR3 hml3 ho3
        have hend := run_endLoop (P := E.P) hw3 (by rw [hlr.state]; exact hbusy)
        obtain ⟨hR4, hE4⟩ := loop_turn hR3 (r2 := { r with state := .exhausted }) (r2' := { r' with state := .exhausted }) hml3 ho3 hw3 hro3 ⟨rfl, hlr.pending, hlr.tmps, hlr.params, hlr.assign, hlr.body⟩
        have s4 := s3.trans (one (stepR_endRangeFunc (b := b) (a := { act with defers := [{ target := .collected w.heap.size, args := #[] }] ++ act.defers }) (k := k) (cs := cs) hend))
        have hExt := hE12.trans (hE3.trans hE4)
        have hA4 := hA2.mono (Emb.le_trans hE3.le hE4.le)
        split at hK3
        · rename_i hp
          have hit : (r'.pending.map Item.code).toList ++ k = k := by rw [hlr.pending, hp]; rfl
          rw [hit] at s4
          exact ⟨.normal, _, _, ⟨.normal, _, _, m3, hK3, trivial, hA4, rfl, hR4, hExt⟩, s4⟩
        · rename_i c hp
          have hit : (r'.pending.map Item.code).toList ++ k = .code c :: k := by rw [hlr.pending, hp]; rfl
          rw [hit] at s4
          obtain ⟨e, act', w', hQ, harr⟩ := hrec c _ _ _ hK3 m3 n0 _ _ hR4 hA4 b k cs (.code c) hb hq (.inl rfl)
          exact ⟨e, act', w', hQ.ext hExt, .of_steps s4 harr⟩
    · exact hK3.elim
  · exact h.elim

include hE hS hT in
theorem rcode_sound {rec : Rec} (hrec : SoundC E rec) (hD : DrawsOk E) : SoundC E (fun c => (rcode E c).f rec) := by
  intro c a H K h m n0 w act hR hA
  cases c with
  | skip => exact W.skip ⟨.normal, a, H, m, h, trivial, hA, rfl, hR, Ext.refl _ _ _ _⟩
  | label l => exact W.label ⟨.normal, a, H, m, h, trivial, hA, rfl, hR, Ext.refl _ _ _ _⟩
  | exit i => exact W.exit ⟨.exit i, a, H, m, h, rfl, hA, rfl, hR, Ext.refl _ _ _ _⟩
  | goto i => exact W.goto ⟨.goto i, a, H, m, h, rfl, hA, rfl, hR, Ext.refl _ _ _ _⟩
  | ret => exact W.ret ⟨.ret, a, H, m, h, trivial, hA, rfl, hR, Ext.refl _ _ _ _⟩
  | refuse s => exact h.elim
  | scope x =>
    intro b k cs i hb hq hi
    rw [hi.code (fun x => by simp)]
    obtain ⟨e, act', w', h1, h2⟩ := scope_sound hrec x b k cs hb hq 10000 x a H m w act rfl h hR hA
    exact ⟨e, act', w', h1, .of_steps (one stepR_scope) h2⟩
  | rangeFunc f ps x y => exact rangeFunc_sound hE hS hrec h hR hA
  | region id ops draw =>
    cases draw with
    | false => exact region_sound hE hS hT hrec h hR hA
    | true =>
      cases hb : drawOk E ops with
      | true =>
        have h : ((bif !true || drawOk E ops then ⟨fun rec a H K => aops rec (region E ops true).l [] a H K⟩ else ⟨fun _ _ _ _ => False⟩ : RC)).f rec a H K := h
        rw [hb] at h
        exact hD ops hb rec hrec id a H K h m n0 w act hR hA
      | false =>
        have h : ((bif !true || drawOk E ops then ⟨fun rec a H K => aops rec (region E ops true).l [] a H K⟩ else ⟨fun _ _ _ _ => False⟩ : RC)).f rec a H K := h
        rw [hb] at h
        exact h.elim
  | seq x y =>
    refine W.seq ((hrec x a H _ h m n0 w act hR hA).mono fun e act' w' ⟨e', a', H', m', hK, hX, hA', hr, hR', hExt⟩ => ?_)
    cases e' <;> cases e <;> first | exact hX.elim | skip
    · have := hrec y a' H' K hK m' n0 w' act' hR' hA'
      rw [hr] at this
      exact this.mono fun e a w h => h.ext hExt
    · exact ⟨_, a', H', m', hK, hX, hA', hr, hR', hExt⟩
    · exact ⟨_, a', H', m', hK, hX, hA', hr, hR', hExt⟩
    · exact ⟨_, a', H', m', hK, hX, hA', hr, hR', hExt⟩
  | loop x =>
    refine W.loop ((hrec x a H _ h m n0 w act hR hA).mono fun e act' w' ⟨e', a', H', m', hK, hX, hA', hr, hR', hExt⟩ => ?_)
    cases e' <;> cases e <;> first | exact hX.elim | skip
    · have := hrec (.loop x) a' H' K hK m' n0 w' act' hR' hA'
      rw [hr] at this
      exact this.mono fun e a w h => h.ext hExt
    · exact ⟨_, a', H', m', hK, hX, hA', hr, hR', hExt⟩
    · exact ⟨_, a', H', m', hK, hX, hA', hr, hR', hExt⟩
    · exact ⟨_, a', H', m', hK, hX, hA', hr, hR', hExt⟩
  | block id x =>
    refine W.block ((hrec x a H _ h m n0 w act hR hA).mono fun e act' w' ⟨e', a', H', m', hK, hX, hA', hr, hR', hExt⟩ => ?_)
    cases e' with
    | normal => cases e <;> first | exact hX.elim | exact ⟨.normal, a', H', m', hK, hX, hA', hr, hR', hExt⟩
    | goto l => cases e <;> first | exact hX.elim | exact ⟨.goto l, a', H', m', hK, hX, hA', hr, hR', hExt⟩
    | ret => cases e <;> first | exact hX.elim | exact ⟨.ret, a', H', m', hK, hX, hA', hr, hR', hExt⟩
    | exit i' =>
      cases e with
      | normal => exact hX.elim
      | goto l => exact hX.elim
      | ret => exact hX.elim
      | panic c => exact hX.elim
      | outgrown => exact hX.elim
      | exit j' =>
        have hij : i' = j' := hX
        subst hij
        have hK : (bif Nat.beq i' id then K .normal a' H' else K (.exit i') a' H') := hK
        by_cases he : i' = id
        · subst he
          rw [Nat.beq_refl] at hK
          simp only [if_true]
          exact ⟨.normal, a', H', m', hK, trivial, hA', hr, hR', hExt⟩
        · have : Nat.beq i' id = false := by
            cases hb : Nat.beq i' id
            · rfl
            · exact absurd (Nat.eq_of_beq_eq_true hb) he
          rw [this] at hK
          simp only [he, if_false]
          exact ⟨.exit i', a', H', m', hK, rfl, hA', hr, hR', hExt⟩
  | cond c x y =>
    have h : (match (rv c).f a with | .bool b => cond b (rec x a H K) (rec y a H K) | _ => False) := h
    have hc := hA.ev c
    split at h
    · rename_i b hb
      have hb' : act.eval c = .bool b := by
        have : VRel m (.bool b) (act.eval c) := by rw [← hb]; exact hc
        exact this.bool_inv
      refine W.cond hb' ?_
      cases b with
      | true => exact hrec x a H K h m n0 w act hR hA
      | false => exact hrec y a H K h m n0 w act hR hA
    · exact h.elim

include hE hS hT in
/-- ████ What the evaluator does, the machine does. -/
theorem aw_sound (hD : DrawsOk E) : ∀ n, SoundC E (aw E n)
  | 0 => fun _ _ _ _ h => h.elim
  | n + 1 => rcode_sound hE hS hT (aw_sound hD n) hD
end
end Go.Ai
