/-
  What the evaluator does to a frame is what the machine does (the relation, and the single operations); no condition.
-/
import Derived.Test.YtkeomdnlibchcaaGreatAiL
import Derived.RangeFuncRecord
import Derived.RecoverIn
namespace Go.Ai
open Go.RowKit (Below)

/-- What is later than what. -/
structure Ext (n0 : Nat) (m m' : Emb) (H H' : AHeap) (w w' : World) : Prop where
  le : m.le m'
  below : Below n0 w w'
  un : Untouched m m' H H'
  next : H.next ≤ H'.next

theorem Ext.refl (n0 : Nat) (m : Emb) (H : AHeap) (w : World) : Ext n0 m m H H w w := ⟨Emb.le_refl m, Below.refl _ _, Untouched.refl _ _, Nat.le_refl _⟩
theorem Ext.trans {n0 : Nat} {m1 m2 m3 : Emb} {H1 H2 H3 : AHeap} {w1 w2 w3 : World} (h : Ext n0 m1 m2 H1 H2 w1 w2) (k : Ext n0 m2 m3 H2 H3 w2 w3) : Ext n0 m1 m3 H1 H3 w1 w3 :=
  ⟨Emb.le_trans h.le k.le, h.below.trans k.below, fun id a b => by
    obtain ⟨c, d⟩ := h.un id a b
    obtain ⟨e, f⟩ := k.un id c (Nat.lt_of_lt_of_le b h.next)
    exact ⟨e, f.trans d⟩, Nat.le_trans h.next k.next⟩

/-- A frame's temporaries, and its deferred calls. -/
structure ARel (m : Emb) (a : AAct) (act : Act) : Prop where
  size : act.tmps.size = a.n
  tmp : ∀ t, VRel m (a.tmp t) (act.tmps.getD t undef)
  ds : DsRel m a.ds act.defers

theorem ARel.mono {m m' : Emb} (hm : m.le m') {a : AAct} {act : Act} (h : ARel m a act) : ARel m' a act := ⟨h.size, fun t => (h.tmp t).mono hm, h.ds.mono hm⟩

theorem rv_tmp (a : AAct) (t : Nat) : (rv (.tmp t)).f a = a.tmp t := rfl

theorem ARel.ev {m : Emb} {a : AAct} {act : Act} (h : ARel m a act) : EvRel m a act.eval := by
  intro x
  cases x with
  | tmp t => exact h.tmp t
  | const v =>
    cases hs : scalar v with
    | true => simp only [Ai.ev, rv, hs, cond_true]; exact .sc v hs
    | false => simp only [Ai.ev, rv, hs, cond_false]; exact .top _ _
  | global g => exact .top _ _
  | func f => exact .sc _ rfl

theorem rput_some (d n : Nat) (t : T Value) (ds : List Deferred) (r : Bool) (v : Value) : (rput (some d)).f ⟨n, t, ds, r⟩ v = ⟨n, cond (Nat.blt d n) (t.set v (path d)) t, ds, r⟩ := by
  show (⟨n, Bool.rec (motive := fun _ => T Value) t (t.set v (path d)) (Nat.blt d n), ds, r⟩ : AAct) = _
  cases Nat.blt d n <;> rfl
theorem rput_n (d : Option Tmp) (a : AAct) (v : Value) : ((rput d).f a v).n = a.n := by cases d <;> rfl
theorem rput_ds (d : Option Tmp) (a : AAct) (v : Value) : ((rput d).f a v).ds = a.ds := by cases d <;> rfl
theorem rput_rnd (d : Option Tmp) (a : AAct) (v : Value) : ((rput d).f a v).rnd = a.rnd := by cases d <;> rfl
theorem tmp_eq (a : AAct) (t : Nat) : a.tmp t = (a.t.get (path t)).getD poison := by
  cases a with
  | mk n tr ds r =>
    show Option.rec (motive := fun _ => Value) poison (fun v => v) (tr.get (path t)) = _
    cases tr.get (path t) <;> rfl

theorem ARel.put {m : Emb} {a : AAct} {act : Act} (h : ARel m a act) (d : Option Tmp) {v v' : Value} (hv : VRel m v v') : ARel m ((rput d).f a v) (act.put d v') := by
  cases d with
  | none => exact h
  | some d =>
    refine ⟨by rw [rput_n, ← h.size]; simp [Act.put], fun t => ?_, by rw [rput_ds]; exact h.ds⟩
    have ht := h.tmp t
    rw [tmp_eq] at ht ⊢
    obtain ⟨n, tr, ds, r⟩ := a
    have hn : act.tmps.size = n := h.size
    simp only [rput_some, Act.put]
    cases hb : Nat.blt d n with
    | true =>
      have hlt := blt_lt hb
      simp only [cond_true]
      rw [T.get_set]
      by_cases e : t = d
      · subst e
        rw [if_pos rfl]
        simp only [Array.getD_eq_getD_getElem?, Array.getElem?_setIfInBounds, if_true]
        rw [if_pos (by omega)]
        exact hv
      · rw [if_neg e]
        simp only [Array.getD_eq_getD_getElem?, Array.getElem?_setIfInBounds_ne (Ne.symm e)]
        simpa [Array.getD_eq_getD_getElem?] using ht
    | false =>
      have hge : n ≤ d := by
        rcases Nat.lt_or_ge d n with hh | hh
        · have : Nat.blt d n = true := Nat.ble_eq_true_of_le hh
          rw [this] at hb; cases hb
        · exact hh
      simp only [cond_false]
      have : act.tmps.setIfInBounds d v' = act.tmps := by
        unfold Array.setIfInBounds
        rw [dif_neg (by omega)]
      rw [this]
      exact ht

/-! ### frames -/
def Quiet (b : Frame) (cs : List Frame) : Prop := b.kind = .normal ∨ (b.kind = .deferred ∧ ∃ c cs', cs = c :: cs' ∧ c.mode = .returning)

abbrev Tr : Machine → Prop := fun _ => True

theorem one {P : Program} {m m' : Machine} (h : step P m = .next m') : StepsIn Tr P m m' := .one trivial h

def StartsAt (c : Code) (i : Item) : Prop := i = .code c ∨ ∃ x, c = .loop x ∧ i = .inLoop x

/-- How code goes, in whatever frame. -/
def W (P : Program) (rnd : Bool) (c : Code) (Q : Exit → Act → World → Prop) (a : Act) (w : World) : Prop :=
  ∀ (b : Frame) (k : List Item) (cs : List Frame) (i : Item), b.roundOf.isSome = rnd → Quiet b cs → StartsAt c i →
    ∃ e a' w', Q e a' w' ∧ ArrivesIn Tr P (lone (b.atR a (i :: k)) cs w) b k cs e a' w'

/-- How an operation of a region goes. -/
def OpS (P : Program) (rnd : Bool) (ops : Array Oper) (i : Nat) (act : Act) (w : World) (R : Act → World → Prop) : Prop :=
  ∀ (b : Frame) (k : List Item) (cs : List Frame) (rest : List Nat), b.roundOf.isSome = rnd → Quiet b cs →
    ∃ act' w', R act' w' ∧ StepsIn Tr P (lone (b.atR act (.inRegion ops (i :: rest) :: k)) cs w) (lone (b.atR act' (.inRegion ops rest :: k)) cs w')

section ops
variable {P : Program} {rnd : Bool} {ops : Array Oper} {i : Nat} {o : Oper} {act : Act} {w w' : World} {R : Act → World → Prop}

theorem OpS.skip (ho : ops[i]? = some o) (hw : Region.wanted o (yielded ops act.tmps) = false) (h : R (act.put o.dst undef) w) : OpS P rnd ops i act w R := by
  intro b k cs rest _ _
  refine ⟨_, _, h, one ?_⟩
  have := stepR_op_skip (P := P) (b := b) (a := act) (k := k) (cs := cs) (w := w) (ops := ops) (i := i) (rest := rest) (by simp [ho, hw])
  simpa [ho] using this

theorem fin_at (ho : ops[i]? = some o) (b : Frame) (k : List Item) (rest : List Nat) (act : Act) (v : Value) : (b.atR act (.inRegion ops (i :: rest) :: k)).finish v = b.atR (act.put o.dst v) (.inRegion ops rest :: k) := by
  rw [Frame.finish_atR, ho]; rfl

theorem OpS.value (ho : ops[i]? = some o) (hw : Region.wanted o (yielded ops act.tmps) = true) (hd : ∀ c, o.op ≠ .defer c) {v : Value} (hr : (execOp act.eval o).run P w = .ok (.value v) w') (h : R (act.put o.dst v) w') : OpS P rnd ops i act w R := by
  intro b k cs rest _ _
  refine ⟨_, _, h, one (step_lone_go ?_)⟩
  rw [stepGR_op ho hw, Oper.semAt_eq _ _ _ hd, ← fin_at ho]
  simp [stepG.apply, hr]

theorem OpS.skips (ho : ops[i]? = some o) (hw : Region.wanted o (yielded ops act.tmps) = true) (hd : ∀ c, o.op ≠ .defer c) (hr : (execOp act.eval o).run P w = .ok .skip w') (h : R (act.put o.dst undef) w') : OpS P rnd ops i act w R := by
  intro b k cs rest _ _
  refine ⟨_, _, h, one (step_lone_go ?_)⟩
  rw [stepGR_op ho hw, Oper.semAt_eq _ _ _ hd, ← fin_at ho]
  simp [stepG.apply, hr]

theorem OpS.recover (ho : ops[i]? = some o) (hw : Region.wanted o (yielded ops act.tmps) = true) (hd : ∀ c, o.op ≠ .defer c) (hrn : rnd = false) (hr : (execOp act.eval o).run P w = .ok .recover w') (h : R (act.put o.dst .nilIface) w') : OpS P rnd ops i act w R := by
  intro b k cs rest hb hq
  refine ⟨_, _, h, one (step_lone_go ?_)⟩
  have hro : b.roundOf = none := by rw [hrn] at hb; simpa using hb
  have htr : ∀ fr : Frame, fr.kind = b.kind → tryRecover fr cs = none := by
    intro fr hk
    unfold tryRecover
    rcases hq with hn | ⟨hn, c, cs', rfl, hm⟩
    · rw [hk, hn]
    · rw [hk, hn]; simp only [hm]
  rw [stepGR_op ho hw, Oper.semAt_eq _ _ _ hd, ← fin_at ho]
  have := htr (b.atR act (.inRegion ops (i :: rest) :: k)) rfl
  simp only [Frame.atR, hro] at this ⊢
  simp [stepG.apply, hr, this]

theorem OpS.deferred (ho : ops[i]? = some o) (hw : Region.wanted o (yielded ops act.tmps) = true) (hrn : rnd = false) {d : Deferred} (hr : (execOp act.eval o).run P w = .ok (.defer d) w') (h : R ({ act with defers := d :: act.defers }.put o.dst undef) w') : OpS P rnd ops i act w R := by
  intro b k cs rest hb _
  have hro : b.roundOf = none := by rw [hrn] at hb; simpa using hb
  refine ⟨_, _, h, one (step_lone_go ?_)⟩
  have : ({ b.atR act (.inRegion ops (i :: rest) :: k) with defers := d :: act.defers } : Frame).finish undef = b.atR ({ act with defers := d :: act.defers }.put o.dst undef) (.inRegion ops rest :: k) := by
    have := Frame.finish_atR b { act with defers := d :: act.defers } ops i rest k undef
    rw [ho] at this; exact this
  rw [stepGR_op ho hw, hro, Oper.semAt_none]
  simp only [stepG.apply, Sem.runT_eq, hr, GStep.bare_after]
  exact congrArg (fun fr => GStep.go { frame := fr, callers := cs, status := .running, dying := none } w') this

theorem OpS.enter (ho : ops[i]? = some o) (hw : Region.wanted o (yielded ops act.tmps) = true) (hd : ∀ c, o.op ≠ .defer c) {f : FuncId} {args : Array Value} (hr : (execOp act.eval o).run P w = .ok (.enter f args) w')
    (h : Calls P f args w' fun e w'' => ∃ v, e = .returned v ∧ R (act.put o.dst v) w'') : OpS P rnd ops i act w R := by
  intro b k cs rest _ _
  obtain ⟨e, w'', fr, ⟨v, rfl, hR⟩, hs, _, hl⟩ := h (b.atR act (.inRegion ops (i :: rest) :: k) :: cs)
  refine ⟨_, _, hR, ?_⟩
  have h1 : step P (lone (b.atR act (.inRegion ops (i :: rest) :: k)) cs w) = .next (lone (Frame.enter P f args .normal) (b.atR act (.inRegion ops (i :: rest) :: k) :: cs) w') :=
    step_lone_go (by rw [stepGR_op ho hw, Oper.semAt_eq _ _ _ hd]; simp [stepG.apply, hr, Frame.atR])
  have h2 := step_leave_returned (c := b.atR act (.inRegion ops (i :: rest) :: k)) (cs := cs) hl
  rw [fin_at ho] at h2
  exact (one h1).trans ((StepsIn.of_steps hs).trans (one h2))

/-- A round of a range over a function. -/
theorem OpS.round (ho : ops[i]? = some o) (hw : Region.wanted o (yielded ops act.tmps) = true) (hd : ∀ c, o.op ≠ .defer c) {l : Nat} {f : FuncId} {tmps : Array Value} {assign body : Code} (hr : (execOp act.eval o).run P w = .ok (.round l f tmps assign body) w')
    (h : ∀ (c : Frame) (cs : List Frame), ∃ v w'', R (act.put o.dst v) w'' ∧ StepsIn Tr P (lone (Frame.round l f tmps assign body .normal) (c :: cs) w') (lone (c.finish v) cs w'')) : OpS P rnd ops i act w R := by
  intro b k cs rest _ _
  obtain ⟨v, w'', hR, hs⟩ := h (b.atR act (.inRegion ops (i :: rest) :: k)) cs
  refine ⟨_, _, hR, ?_⟩
  have h1 : step P (lone (b.atR act (.inRegion ops (i :: rest) :: k)) cs w) = .next (lone (Frame.round l f tmps assign body .normal) (b.atR act (.inRegion ops (i :: rest) :: k) :: cs) w') :=
    step_lone_go (by rw [stepGR_op ho hw, Oper.semAt_eq _ _ _ hd]; simp [stepG.apply, hr, Frame.atR])
  rw [fin_at ho] at hs
  exact (one h1).trans hs
end ops

/-! ### code -/
section code
variable {P : Program} {rnd : Bool} {Q : Exit → Act → World → Prop} {a : Act} {w : World}

theorem W.mono {c : Code} {Q' : Exit → Act → World → Prop} (h : W P rnd c Q a w) (hq : ∀ e a w, Q e a w → Q' e a w) : W P rnd c Q' a w :=
  fun b k cs i hr hb hi => let ⟨e, a', w', q, r⟩ := h b k cs i hr hb hi; ⟨e, a', w', hq _ _ _ q, r⟩

theorem StartsAt.code {c : Code} {i : Item} (h : StartsAt c i) (hl : ∀ x, c ≠ .loop x) : i = .code c := by
  rcases h with h | ⟨x, hx, _⟩
  · exact h
  · exact absurd hx (hl x)

theorem W.skip (h : Q .normal a w) : W P rnd .skip Q a w := fun b k cs i _ _ hi => by
  rw [hi.code (fun x => by simp)]; exact ⟨.normal, a, w, h, one stepR_skip⟩
theorem W.label {l : Nat} (h : Q .normal a w) : W P rnd (.label l) Q a w := fun b k cs i _ _ hi => by
  rw [hi.code (fun x => by simp)]; exact ⟨.normal, a, w, h, one stepR_label⟩
theorem W.exit {id : Nat} (h : Q (.exit id) a w) : W P rnd (.exit id) Q a w := fun b k cs i _ _ hi => by
  rw [hi.code (fun x => by simp)]; exact ⟨.exit id, a, w, h, fun _ hk => one (stepR_exit hk), fun _ hk => ⟨k, hk, .refl _⟩⟩
theorem W.goto {l : Nat} (h : Q (.goto l) a w) : W P rnd (.goto l) Q a w := fun b k cs i _ _ hi => by
  rw [hi.code (fun x => by simp)]; exact ⟨.goto l, a, w, h, fun _ hk => one (stepR_goto hk), fun _ hk => ⟨k, hk, .refl _⟩⟩
theorem W.ret (h : Q .ret a w) : W P rnd .ret Q a w := fun b k cs i _ _ hi => by
  rw [hi.code (fun x => by simp)]; exact ⟨.ret, a, w, h, fun hn => ⟨_, one (stepR_ret hn)⟩, fun _ => ⟨k, .refl _⟩⟩
theorem W.cond {c : Operand} {x y : Code} {t : Bool} (hc : a.eval c = .bool t) (h : W P rnd (if t then x else y) Q a w) : W P rnd (.cond c x y) Q a w := fun b k cs i hr hb hi => by
  rw [hi.code (fun x => by simp)]
  obtain ⟨e, a', w', q, r⟩ := h b k cs _ hr hb (.inl rfl)
  exact ⟨e, a', w', q, .of_steps (one (stepR_cond hc)) r⟩

/-- One behind the other. -/
theorem W.seq {x y : Code} (h : W P rnd x (fun e a w => match e with | .normal => W P rnd y Q a w | e => Q e a w) a w) : W P rnd (.seq x y) Q a w := by
  intro b k cs i hro hb hi
  rw [hi.code (fun x => by simp)]
  obtain ⟨e, a₁, w₁, hq, harr⟩ := h b (.code y :: k) cs _ hro hb (.inl rfl)
  cases e with
  | normal =>
    obtain ⟨e₂, a₂, w₂, hq₂, harr₂⟩ := hq b k cs _ hro hb (.inl rfl)
    exact ⟨e₂, a₂, w₂, hq₂, .of_steps (.head trivial stepR_seq harr) harr₂⟩
  | exit id => exact ⟨_, a₁, w₁, hq, .of_steps (one stepR_seq) (.pass (x := .code y) rfl (fun _ _ => .inl (by simp)) harr)⟩
  | goto l => exact ⟨_, a₁, w₁, hq, .of_steps (one stepR_seq) (.pass (x := .code y) rfl (fun _ _ => .inl (by simp)) harr)⟩
  | ret => exact ⟨_, a₁, w₁, hq, .of_steps (one stepR_seq) (.pass (x := .code y) rfl (fun _ _ => .inl (by simp)) harr)⟩
  | panic ch => exact ⟨_, a₁, w₁, hq, .of_steps (one stepR_seq) (.pass (x := .code y) rfl (fun _ _ => .inl (by simp)) harr)⟩
  | outgrown => exact ⟨_, a₁, w₁, hq, .of_steps (one stepR_seq) (.pass (x := .code y) rfl (fun _ _ => .inl (by simp)) harr)⟩

theorem W.loop {x : Code} (h : W P rnd x (fun e a w => match e with | .normal => W P rnd (.loop x) Q a w | e => Q e a w) a w) : W P rnd (.loop x) Q a w := by
  intro b k cs i hro hb hi
  have h1 : step P (lone (b.atR a (i :: k)) cs w) = .next (lone (b.atR a (.code x :: .inLoop x :: k)) cs w) := by
    rcases hi with rfl | ⟨y, hy, rfl⟩
    · exact stepR_loop
    · cases hy; exact stepR_inLoop
  obtain ⟨e, a₁, w₁, hq, harr⟩ := h b (.inLoop x :: k) cs _ hro hb (.inl rfl)
  cases e with
  | normal =>
    obtain ⟨e₂, a₂, w₂, hq₂, harr₂⟩ := hq b k cs _ hro hb (.inr ⟨x, rfl, rfl⟩)
    exact ⟨e₂, a₂, w₂, hq₂, .of_steps (.head trivial h1 harr) harr₂⟩
  | exit id => exact ⟨_, a₁, w₁, hq, .of_steps (one h1) (.pass (x := .inLoop x) rfl (fun _ _ => .inl (by simp)) harr)⟩
  | goto l => exact ⟨_, a₁, w₁, hq, .of_steps (one h1) (.pass (x := .inLoop x) rfl (fun _ _ => .inl (by simp)) harr)⟩
  | ret => exact ⟨_, a₁, w₁, hq, .of_steps (one h1) (.pass (x := .inLoop x) rfl (fun _ _ => .inl (by simp)) harr)⟩
  | panic ch => exact ⟨_, a₁, w₁, hq, .of_steps (one h1) (.pass (x := .inLoop x) rfl (fun _ _ => .inl (by simp)) harr)⟩
  | outgrown => exact ⟨_, a₁, w₁, hq, .of_steps (one h1) (.pass (x := .inLoop x) rfl (fun _ _ => .inl (by simp)) harr)⟩

theorem W.block {id : Nat} {c : Code} (h : W P rnd c (fun e a w => match e with | .exit j => if j = id then Q .normal a w else Q (.exit j) a w | e => Q e a w) a w) : W P rnd (.block id c) Q a w := by
  intro b k cs i hro hb hi
  rw [hi.code (fun x => by simp)]
  obtain ⟨e, a₁, w₁, hq, harr⟩ := h b (.inBlock id :: k) cs _ hro hb (.inl rfl)
  cases e with
  | normal => exact ⟨.normal, a₁, w₁, hq, .head trivial stepR_block (StepsIn.trans harr (one stepR_inBlock))⟩
  | exit id' =>
    by_cases hid : id' = id
    · simp only [hid, if_true] at hq
      exact ⟨.normal, a₁, w₁, hq, .head trivial stepR_block (harr.1 k (by simp [exitTo, hid]))⟩
    · simp only [hid, if_false] at hq
      have this : (id == id') = false := by simp; exact fun h => hid h.symm
      have hx : exitTo id' (.inBlock id :: k) = exitTo id' k := by simp [exitTo, this]
      exact ⟨.exit id', a₁, w₁, hq, fun k' hk => .head trivial stepR_block (harr.1 k' (by rw [hx]; exact hk)),
        fun hr' hk => let ⟨k₁, h1, h2⟩ := harr.2 hr' (by rw [hx]; exact hk); ⟨k₁, h1, .head trivial stepR_block h2⟩⟩
  | goto l =>
    have hx : gotoIn l (.inBlock id :: k) = gotoIn l k := by simp [gotoIn]
    exact ⟨_, a₁, w₁, hq, fun k' hk => .head trivial stepR_block (harr.1 k' (by rw [hx]; exact hk)),
      fun hr' hk => let ⟨k₁, h1, h2⟩ := harr.2 hr' (by rw [hx]; exact hk); ⟨k₁, h1, .head trivial stepR_block h2⟩⟩
  | ret => exact ⟨_, a₁, w₁, hq, .of_steps (one stepR_block) harr⟩
  | panic ch => exact ⟨_, a₁, w₁, hq, .of_steps (one stepR_block) harr⟩
  | outgrown => exact ⟨_, a₁, w₁, hq, .of_steps (one stepR_block) harr⟩
end code
end Go.Ai
