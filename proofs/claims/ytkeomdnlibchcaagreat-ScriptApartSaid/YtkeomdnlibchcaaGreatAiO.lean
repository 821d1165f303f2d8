/-
  Calls, and rounds of a range over a function: what the evaluator does is what the machine does; no condition.
-/
import Derived.Test.YtkeomdnlibchcaaGreatAiN
namespace Go.Ai
open Go.RowKit (Below)

/-- What is told of calls that are not looked into is so. -/
structure Env.SumOk (E : Env) : Prop where
  sum : ∀ f l v, E.sum f l = some v → scalars l = true ∧ scalar v = true ∧ (∀ args w, (callFunc f args).run E.P w = .ok (.enter f args) w) ∧
  ∀ w, Calls E.P f l.toArray w fun e w' => e = .returned v ∧ Below w.heap.size w w'
  call : ∀ f, E.con f = true → (∀ args w, (callFunc f args).run E.P w = .ok (.enter f args) w) ∧ ∀ args H K, E.call f args H K → ∀ m n0 w args', Rel m n0 H w → LRel m args args' →
    Calls E.P f args'.toArray w fun e w' => ∃ v, e = .returned v ∧ PV n0 m H w K v w'

section
variable {E : Env} (hE : E.Ok) (hS : E.SumOk) {m : Emb} {n0 : Nat} {H : AHeap} {w : World}

theorem Rel.below {w' : World} (h : Rel m n0 H w) (hb : Below w.heap.size w w') : Rel m n0 H w' :=
  ⟨Nat.le_trans h.size hb.size, fun id i hi => ⟨(h.dom id i hi).1, Nat.lt_of_lt_of_le (h.dom id i hi).2 hb.size⟩, h.low, fun id i o hi ho => by
    obtain ⟨o', h1, h2⟩ := h.obj id i o hi ho
    exact ⟨o', by rw [hb.block _ (h.dom id i hi).2]; exact h1, h2⟩, h.inj⟩
theorem Ext.heap {w' : World} (h1 : w'.os = w.os) (h2 : w'.tape = w.tape) (h3 : w'.output = w.output) (h4 : w'.heap = w.heap) : Ext n0 m m H H w w' :=
  ⟨Emb.le_refl m, Below.same_heap h1 h2 h3 h4, Untouched.refl _ _, Nat.le_refl _⟩

include hE hS in
theorem acall_sound {rec : Rec} (hrec : SoundC E rec) {f : FuncId} {args args' : List Value} {K : VK} (h : acall E rec f args H K) (hR : Rel m n0 H w) (hl : LRel m args args') :
    Calls E.P f args'.toArray w fun e w' => ∃ v, e = .returned v ∧ PV n0 m H w K v w' := by
  unfold acall at h
  split at h
  · rename_i v hv
    obtain ⟨h1, h2, _, h3⟩ := hS.sum f args v hv
    have := hl.eq_of_scalars h1
    subst this
    exact (h3 w).mono fun e w' ⟨he, hb⟩ => ⟨v, he, v, H, m, h, .sc _ h2, hR.below hb, ⟨Emb.le_refl m, hb.mono hR.size, Untouched.refl _ _, Nat.le_refl _⟩⟩
  · cases hc : E.con f with
    | true => rw [hc] at h; exact (hS.call f hc).2 args H K h m n0 w args' hR hl
    | false => rw [hc] at h; exact (acallWith_sound hE hrec (adefers_sound hE hrec 64) h hR hl).calls

include hE hS in
theorem acall_enter {rec : Rec} {f : FuncId} {args : List Value} {K : VK} (h : acall E rec f args H K) (args' : Array Value) (w : World) : (callFunc f args').run E.P w = .ok (.enter f args') w := by
  unfold acall at h
  split at h
  · rename_i v hv
    exact (hS.sum f args v hv).2.2.1 args' w
  · cases hc : E.con f with
    | true => exact (hS.call f hc).1 args' w
    | false =>
      rw [hc] at h
      simp only [cond_false] at h
      unfold acallWith at h
      cases hf : E.fn f with
      | none => rw [hf] at h; exact h.elim
      | some af =>
        obtain ⟨_, _, _, _, _, hcall⟩ := hE.fn f af hf
        exact hcall args' w

/-- A value put into a row, on both sides. -/
theorem LRel.set {m : Emb} : ∀ {a b : List Value}, LRel m a b → ∀ (i : Nat) {v u : Value}, VRel m v u → LRel m (a.set i v) (b.set i u)
  | _, _, .nil, _, _, _, _ => .nil
  | _, _, .cons h t, 0, _, _, hv => .cons hv t
  | _, _, .cons h t, i + 1, _, _, hv => .cons h (LRel.set t i hv)

theorem LRel.params {m : Emb} : ∀ (ps : List Tmp) {args args' : List Value} {x y : Array Value}, LRel m args args' → LRel m x.toList y.toList →
    LRel m ((ps.zip args).foldl (fun tm (p : Tmp × Value) => tm.setIfInBounds p.1 p.2) x).toList ((ps.zip args').foldl (fun tm (p : Tmp × Value) => tm.setIfInBounds p.1 p.2) y).toList
  | [], _, _, _, _, _, h => by simpa using h
  | p :: ps, _, _, _, _, .nil, h => by simpa using h
  | p :: ps, _, _, x, y, .cons hv ht, h => by
    simp only [List.zip_cons_cons, List.foldl_cons]
    refine LRel.params ps ht ?_
    rw [Array.toList_setIfInBounds, Array.toList_setIfInBounds]
    exact h.set p hv

theorem foldl_size (l : List (Tmp × Value)) : ∀ (x : Array Value), (l.foldl (fun tm (p : Tmp × Value) => tm.setIfInBounds p.1 p.2) x).size = x.size := by
  induction l with
  | nil => intro x; rfl
  | cons p l ih => intro x; rw [List.foldl_cons, ih, Array.size_setIfInBounds]

theorem arel_list {x y : List Value} (h : LRel m x y) : ARel m { n := x.length, t := T.ofList x 0 .leaf, ds := [], rnd := true } { tmps := y.toArray, defers := [] } := by
  have hlen := h.length
  refine ⟨by simp; omega, fun t => ?_, .nil⟩
  rw [tmp_eq]
  show VRel m (((T.ofList x 0 .leaf).get (path t)).getD poison) _
  rw [T.get_ofList, Array.getD_eq_getD_getElem?]
  by_cases ht : t < x.length
  · rw [if_pos (by omega)]
    obtain ⟨u, h1, h2⟩ := h.get (i := t) (List.getElem?_eq_getElem ht)
    simp only [Nat.sub_zero, List.getElem?_toArray, h1, List.getElem?_eq_getElem ht, Option.getD_some]
    exact h2
  · rw [if_neg (by omega), T.get_leaf]
    exact .top _ _

theorem loop_at (hR : Rel m n0 H w) {l : Nat} {i : EInfo} {r : Loop} (hi : m l = some i) (ho : H.get l = some (.loop r)) : ∃ r', w.heap[i.blk]? = some (.loop r') ∧ LoopRel m r r' ∧ i.ro = false := by
  obtain ⟨o', h1, h2⟩ := hR.obj l i _ hi ho
  cases h2 with
  | loop _ l' h hr => exact ⟨l', h1, h, hr⟩

/-- A loop's record, turned on both sides. -/
theorem loop_turn (hR : Rel m n0 H w) {l : Nat} {i : EInfo} {r r2 r2' q : Loop} (hi : m l = some i) (ho : H.get l = some (.loop r)) (hw : w.heap[i.blk]? = some (.loop q)) (hro : i.ro = false) (h : LoopRel m r2 r2') :
    Rel m n0 (H.set l (.loop r2)) (w.putObj i.blk (.loop r2')) ∧ Ext n0 m m H (H.set l (.loop r2)) w (w.putObj i.blk (.loop r2')) := by
  have h1 := putObj_one hw (.loop r2')
  exact ⟨hR.set hi hro ⟨_, ho, by intro hd; cases hd⟩ (.loop _ _ h hro) h1, Emb.le_refl m, h1.below ((hR.low l i hi).1 hro), Untouched.one hi fun id' hne => by rw [AHeap.get_set, if_neg hne], Nat.le_refl _⟩

theorem around_sound {rec : Rec} (hrec : SoundC E rec) {l : Nat} {i : EInfo} {args args' : List Value} {K : VK} (h : around rec l args H K) (hR : Rel m n0 H w) (hl : LRel m args args') (hi : m l = some i) :
    ∃ r, w.heap[i.blk]? = some (.loop r) ∧ args'.length = r.params.size ∧ ∀ (c : Frame) (cs : List Frame), ∃ v w', PV n0 m H w K v w' ∧
      StepsIn Tr E.P (lone (Frame.round i.blk r.fn ((r.params.zip args'.toArray).foldl (fun tm (p : Tmp × Value) => tm.setIfInBounds p.1 p.2) r.tmps) r.assign r.body .normal) (c :: cs) w) (lone (c.finish v) cs w') := by
  unfold around at h
  split at h
  · rename_i r ho
    obtain ⟨r', hw, hlr, hro⟩ := loop_at hR hi ho
    split at h
    · exact h.elim
    · rename_i hsz
      refine ⟨r', hw, by rw [hlr.params, ← hl.length]; omega, fun c cs => ?_⟩
      simp only at h
      have htm := LRel.params r.params.toList hl hlr.tmps
      have harel := arel_list htm
      have hn : (((r.params.toList.zip args).foldl (fun tm (p : Tmp × Value) => tm.setIfInBounds p.1 p.2) r.tmps).toList).length = r.tmps.size := by
        rw [Array.length_toList, foldl_size]
      rw [hn] at harel
      have hfold : (r'.params.zip args'.toArray).foldl (fun tm (p : Tmp × Value) => tm.setIfInBounds p.1 p.2) r'.tmps = (r.params.toList.zip args').foldl (fun tm (p : Tmp × Value) => tm.setIfInBounds p.1 p.2) r'.tmps := by
        rw [hlr.params, ← Array.foldl_toList, Array.toList_zip]
      rw [hfold, hlr.assign, hlr.body]
      let b : Frame := { (default : Frame) with fn := r'.fn, kind := .normal, roundOf := some i.blk }
      have hb0 : Frame.round i.blk r'.fn ((r.params.toList.zip args').foldl (fun tm (p : Tmp × Value) => tm.setIfInBounds p.1 p.2) r'.tmps) r.assign r.body .normal =
          b.atR { tmps := ((r.params.toList.zip args').foldl (fun tm (p : Tmp × Value) => tm.setIfInBounds p.1 p.2) r'.tmps).toList.toArray, defers := [] } [.code r.assign, .beginRound, .code r.body] := by
        simp [Frame.round, Frame.atR, b]
      rw [hb0]
      obtain ⟨e, act1, w1, ⟨e1, a1, H1, m1, hK1, hX1, hA1, hrn1, hR1, hE1⟩, harr⟩ := hrec r.assign _ H _ h m n0 w _ hR harel b [.beginRound, .code r.body] (c :: cs) (.code r.assign) rfl (.inl rfl) (.inl rfl)
      cases e1 with
      | exit j => exact hK1.elim
      | goto j => exact hK1.elim
      | ret => exact hK1.elim
      | normal =>
        cases e with
        | exit j => exact hX1.elim
        | goto j => exact hX1.elim
        | ret => exact hX1.elim
        | panic ch => exact hX1.elim
        | outgrown => exact hX1.elim
        | normal =>
          simp only at hK1
          split at hK1
          · rename_i r1 ho1
            split at hK1
            · rename_i hready
              have hi1 := hE1.le _ _ hi
              obtain ⟨r1', hw1, hlr1, _⟩ := loop_at hR1 hi1 ho1
              have hbr := run_beginRound (P := E.P) hw1 (by rw [hlr1.state]; exact hready)
              obtain ⟨hR2, hE2⟩ := loop_turn hR1 (r2 := { r1 with state := .busy }) (r2' := { r1' with state := .busy }) hi1 ho1 hw1 hro ⟨rfl, hlr1.pending, hlr1.tmps, hlr1.params, hlr1.assign, hlr1.body⟩
              have s1 : StepsIn Tr E.P (lone (b.atR act1 [.beginRound, .code r.body]) (c :: cs) w1) (lone (b.atR act1 [.code r.body]) (c :: cs) _) := one (stepR_beginRound rfl hbr)
              have s2 := StepsIn.trans harr s1
              have hrn1' : a1.rnd = true := hrn1
              obtain ⟨e, act3, w3, ⟨e3, a3, H3, m3, hK3, hX3, hA3, hrn3, hR3, hE3⟩, harr3⟩ := hrec r.body a1 _ _ hK1 m1 n0 _ _ hR2 hA1 b [] (c :: cs) (.code r.body) (by rw [hrn1']; rfl) (.inl rfl) (.inl rfl)
              -- behind the body
              have fin : ∀ (jump : Option Code), (match a3.ds, H3.get l with
                  | [], some (.loop r'') => K (.bool jump.isNone) (H3.set l (.loop { r'' with state := if jump.isNone then .ready else .done, pending := jump }))
                  | _, _ => False) → ∃ w4, (Instr.endRound i.blk jump).run E.P w3 = .ok (.bool jump.isNone) w4 ∧ PV n0 m H w K (.bool jump.isNone) w4 := by
                intro jump hj
                split at hj
                · rename_i r3 hds ho3
                  have hi3 := hE3.le _ _ hi1
                  obtain ⟨r3', hw3, hlr3, _⟩ := loop_at hR3 hi3 ho3
                  have her := run_endRound (P := E.P) jump hw3
                  obtain ⟨hR4, hE4⟩ := loop_turn hR3 (r2 := { r3 with state := if jump.isNone then .ready else .done, pending := jump }) (r2' := { r3' with state := if jump.isNone then .ready else .done, pending := jump }) hi3 ho3 hw3 hro ⟨rfl, rfl, hlr3.tmps, hlr3.params, hlr3.assign, hlr3.body⟩
                  exact ⟨_, her, _, _, m3, hj, .sc _ rfl, hR4, hE1.trans (hE2.trans (hE3.trans hE4))⟩
                · exact hj.elim
              cases e3 with
              | normal =>
                cases e with
                | normal =>
                  obtain ⟨w4, f1, f2⟩ := fin none hK3
                  exact ⟨_, w4, f2, s2.trans (StepsIn.trans harr3 (one (stepR_round_end rfl rfl f1)))⟩
                | exit j => exact hX3.elim
                | goto j => exact hX3.elim
                | ret => exact hX3.elim
                | panic ch => exact hX3.elim
                | outgrown => exact hX3.elim
              | ret =>
                cases e with
                | ret =>
                  obtain ⟨w4, f1, f2⟩ := fin (some .ret) hK3
                  obtain ⟨k₁, hs⟩ := harr3.2 rfl
                  exact ⟨_, w4, f2, s2.trans (StepsIn.trans hs (one (stepR_round_ret rfl rfl f1)))⟩
                | exit j => exact hX3.elim
                | goto j => exact hX3.elim
                | normal => exact hX3.elim
                | panic ch => exact hX3.elim
                | outgrown => exact hX3.elim
              | exit id =>
                cases e with
                | exit j =>
                  have hx : id = j := hX3
                  subst hx
                  obtain ⟨w4, f1, f2⟩ := fin (some (.exit id)) hK3
                  obtain ⟨k₁, hk, hs⟩ := harr3.2 rfl rfl
                  exact ⟨_, w4, f2, s2.trans (StepsIn.trans hs (one (stepR_round_exit rfl rfl hk f1)))⟩
                | normal => exact hX3.elim
                | goto j => exact hX3.elim
                | ret => exact hX3.elim
                | panic ch => exact hX3.elim
                | outgrown => exact hX3.elim
              | goto id =>
                cases e with
                | goto j =>
                  have hx : id = j := hX3
                  subst hx
                  obtain ⟨w4, f1, f2⟩ := fin (some (.goto id)) hK3
                  obtain ⟨k₁, hk, hs⟩ := harr3.2 rfl rfl
                  exact ⟨_, w4, f2, s2.trans (StepsIn.trans hs (one (stepR_round_goto rfl rfl hk f1)))⟩
                | normal => exact hX3.elim
                | exit j => exact hX3.elim
                | ret => exact hX3.elim
                | panic ch => exact hX3.elim
                | outgrown => exact hX3.elim
            · exact hK1.elim
          · exact hK1.elim
  · exact h.elim
end
end Go.Ai
