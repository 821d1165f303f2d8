/-
  Regions, ranges over functions, scopes: what the evaluator does is what the machine does; no condition.
-/
import Derived.Test.YtkeomdnlibchcaaGreatAiP
namespace Go.Ai
open Go.RowKit (Below)

def PO (n0 : Nat) (m : Emb) (H : AHeap) (w : World) (rnd : Bool) (K : AAct → AHeap → Prop) : Act → World → Prop := fun act' w' =>
  ∃ a' H' m', K a' H' ∧ ARel m' a' act' ∧ a'.rnd = rnd ∧ Rel m' n0 H' w' ∧ Ext n0 m m' H H' w w'

section
variable {E : Env} (hE : E.Ok) (hS : E.SumOk) (hT : E.StrOk) {m : Emb} {n0 : Nat} {H : AHeap} {w : World}

theorem PO.ext {rnd : Bool} {K : AAct → AHeap → Prop} {m' : Emb} {H' : AHeap} {w' : World} (h : Ext n0 m m' H H' w w') {act : Act} {w2 : World} (k : PO n0 m' H' w' rnd K act w2) : PO n0 m H w rnd K act w2 :=
  let ⟨a', H2, m2, h1, h2, h3, h4, h5⟩ := k
  ⟨a', H2, m2, h1, h2, h3, h4, h.trans h5⟩

theorem put_eq (a : AAct) (d : Option Tmp) (v : Value) : a.put d v = (rput d).f a v := by
  cases d with
  | none => rfl
  | some d =>
    obtain ⟨n, t, ds, r⟩ := a
    simp only [AAct.put, rput_some]
    cases Nat.blt d n <;> rfl

theorem OpS.mono {P : Program} {rnd : Bool} {ops : Array Oper} {i : Nat} {act : Act} {w : World} {R R' : Act → World → Prop} (h : OpS P rnd ops i act w R) (hr : ∀ a w, R a w → R' a w) : OpS P rnd ops i act w R' :=
  fun b k cs rest h1 h2 => let ⟨a', w', h3, h4⟩ := h b k cs rest h1 h2; ⟨a', w', hr _ _ h3, h4⟩

/-- From what an operation comes to, to the machine's step. -/
theorem eff_step {rnd : Bool} {ops : Array Oper} {i : Nat} {o : Oper} {a : AAct} {act : Act} {K : VK} (ho : ops[i]? = some o) (hw : Region.wanted o (yielded ops act.tmps) = true) (hd : ∀ c, o.op ≠ .defer c) (hA : ARel m a act) (hR : Rel m n0 H w)
    (h : EffOut E m n0 H w rnd (execOp act.eval o) K) :
    OpS E.P rnd ops i act w (fun act' w' => ∃ v v' H' m', K v H' ∧ VRel m' v v' ∧ act' = act.put o.dst v' ∧ Rel m' n0 H' w' ∧ Ext n0 m m' H H' w w') := by
  rcases h with ⟨v, H', m', nx, w', h1, h2, h3, h4, h5, h6, h7, h8⟩ | ⟨h1, h2, h3⟩ | ⟨f, args, h1, h2⟩ | ⟨l, f, tmps, assign, body, h1, h2⟩
  · rcases h3 with ⟨v', rfl, hv⟩ | ⟨rfl, rfl⟩
    · exact OpS.value ho hw hd h2 ⟨v, v', H', m', h1, hv, rfl, h4, h5, h6, h7, h8⟩
    · exact OpS.skips ho hw hd h2 ⟨undef, undef, H', m', h1, .sc _ rfl, rfl, h4, h5, h6, h7, h8⟩
  · exact OpS.recover ho hw hd h1 h2 ⟨_, _, H, m, h3, .sc _ rfl, rfl, hR, Ext.refl _ _ _ _⟩
  · exact OpS.enter ho hw hd h1 (h2.mono fun e w' ⟨v, he, v0, H', m', a1, a2, a3, a4⟩ => ⟨v, he, v0, v, H', m', a1, a2, rfl, a3, a4⟩)
  · exact OpS.round ho hw hd h1 fun c cs => by
      obtain ⟨v, w', ⟨v0, H', m', a1, a2, a3, a4⟩, hs⟩ := h2 c cs
      exact ⟨v, w', ⟨v0, v, H', m', a1, a2, rfl, a3, a4⟩, hs⟩

include hE hS hT in
theorem rop_sound {rec : Rec} (hrec : SoundC E rec) {ops : Array Oper} {i before : Nat} {o : Oper} {a : AAct} {act : Act} {ps : List Pend} {K : List Pend → AAct → AHeap → Prop} (ho : ops[i]? = some o) (hw : Region.wanted o (yielded ops act.tmps) = true)
    (hA : ARel m a act) (hR : Rel m n0 H w) (h : (rop E i o false before).f rec ps a H K) : OpS E.P a.rnd ops i act w (PO n0 m H w a.rnd (K ps)) := by
  unfold rop at h
  cases hc : cls E o with
  | read =>
    have hd : ∀ c, o.op ≠ .defer c := fun c e => by unfold cls at hc; rw [e] at hc; cases hc
    rw [hc] at h
    simp only [cond_false] at h
    cases hv : (rread E o.op).f a H with
    | some v =>
      rw [hv] at h
      obtain ⟨v', h1, h2⟩ := pread_sound hE hR hA.ev o (v := v) hv
      exact OpS.value ho hw hd h2 ⟨_, H, m, h, hA.put o.dst h1, rput_rnd _ _ _, hR, Ext.refl _ _ _ _⟩
    | none => rw [hv] at h; exact h.elim
  | make =>
    have hd : ∀ c, o.op ≠ .defer c := fun c e => by unfold cls at hc; rw [e] at hc; cases hc
    rw [hc] at h
    simp only [cond_false] at h
    split at h
    · rename_i p hp
      obtain ⟨v, x⟩ := p
      obtain ⟨s, h1, v', o', w', h2, h3, h4⟩ := amake_sound (m := m) (w := w) hE hA.ev o (v := v) (x := x) hp
      have hf := hR.fresh
      obtain ⟨q1, q2⟩ := h4 (m.put H.next (EInfo.at w.heap.size)) (Emb.le_put hf) (Emb.put_same _ _ _)
      refine OpS.value ho hw hd (v := v') (w' := w') (by rw [h1]; simp only [Sem.run_bind, h2, Result.andThen_ok, Sem.run_pure]) ⟨_, H.new x, m.put H.next (EInfo.at w.heap.size), h, (hA.mono (Emb.le_put hf)).put o.dst q1, rput_rnd _ _ _, (hR.pend x).add hf (by simp) (by simp) rfl rfl q2 h3,
        Emb.le_put hf, h3.below hR.size, fun id a1 a2 => ⟨?_, ?_⟩, by simp⟩
      · unfold Emb.put; rw [if_neg (by omega)]; exact a1
      · rw [AHeap.get_new, if_neg (by omega)]
    · exact h.elim
  | eff =>
    have hd : ∀ c, o.op ≠ .defer c := fun c e => by unfold cls at hc; rw [e] at hc; cases hc
    rw [hc] at h
    simp only [cond_false] at h
    refine (eff_step (rnd := a.rnd) ho hw hd hA hR (reff_sound hE hS hT hrec hA.ev hR h)).mono ?_
    rintro act' w' ⟨v, v', H', m', h1, h2, rfl, h3, h4⟩
    exact ⟨_, H', m', h1, (hA.mono h4.le).put o.dst h2, rput_rnd _ _ _, h3, h4⟩
  | defer =>
    rw [hc] at h
    simp only at h
    split at h
    · rename_i c hop
      unfold adefer at h
      split at h
      · rename_i f hcal
        simp only at h
        split at h
        · rename_i g first captured hev
          by_cases hr : a.rnd = true
          · rw [if_pos hr] at h; exact h.elim
          · rw [if_neg hr] at h
            have hr : a.rnd = false := by simpa using hr
            have hf := hA.ev f
            rw [hev] at hf
            obtain ⟨first⟩ := first
            obtain ⟨captured⟩ := captured
            obtain ⟨c1, d1, hρ, l1, l2⟩ := hf.fn_inv
            have hargs := lrel_evs hA.ev c.args.toList
            have hrun : (execOp act.eval o).run E.P w = .ok (.defer { target := .fn (.func g) ⟨d1⟩, args := ⟨c1 ++ c.args.toList.map act.eval⟩ }) w := by
              unfold execOp
              rw [hop]
              simp only [resolve, hcal, hρ, Deferred.ofValue, pure_bind, Sem.run_pure]
              congr 3
              apply Array.ext'
              simp
            rw [put_eq] at h
            refine OpS.deferred ho hw hr hrun ⟨_, H, m, h, ?_, rput_rnd _ _ _, hR, Ext.refl _ _ _ _⟩
            · have hA2 : ARel m { a with ds := { target := .fn (.func g) ⟨captured⟩, args := ⟨first⟩ ++ c.args.map (ev a) } :: a.ds } { act with defers := { target := .fn (.func g) ⟨d1⟩, args := ⟨c1 ++ c.args.toList.map act.eval⟩ } :: act.defers } := by
                refine ⟨hA.size, hA.tmp, .cons ?_ hA.ds⟩
                have he : (⟨first⟩ ++ c.args.map (ev a) : Array Value) = ⟨first ++ c.args.toList.map (ev a)⟩ := by
                  apply Array.ext'; simp
                rw [he]
                exact .fn g _ _ _ _ l2 (l1.append hargs)
              exact hA2.put o.dst (VRel.sc undef rfl)
        · exact h.elim
      · exact h.elim
    · exact h.elim

theorem yields {ops : Array Oper} {j : Nat} {a : AAct} {act : Act} (hA : ARel m a act) : (∀ b, (rwant ops j).f a = .bool b → yielded ops act.tmps j = some b) ∧ (∀ l, (rwant ops j).f a = .tuple l → yielded ops act.tmps j = none) := by
  unfold rwant yielded
  cases hj : ops[j]? with
  | none => exact ⟨fun b h => by exact absurd h (by simp [undef]), fun l _ => rfl⟩
  | some p =>
    cases hd : p.dst with
    | none => simp only [Option.bind_some, hd]; exact ⟨fun b h => by exact absurd h (by simp [undef]), fun l _ => rfl⟩
    | some d =>
      simp only [Option.bind_some, hd]
      rw [rv_tmp]
      have ht := hA.tmp d
      rw [Array.getD_eq_getD_getElem?] at ht
      refine ⟨fun b h => ?_, fun l h => ?_⟩
      · rw [h] at ht
        have := ht.bool_inv
        cases hx : act.tmps[d]? with
        | none => rw [hx] at this; cases this
        | some v => rw [hx] at this; simp only [Option.getD_some] at this; subst this; rfl
      · rw [h] at ht
        obtain ⟨l⟩ := l
        obtain ⟨l', hy, _⟩ := ht.tup_inv
        cases hx : act.tmps[d]? with
        | none => rfl
        | some v => rw [hx] at hy; simp only [Option.getD_some] at hy; subst hy; rfl

include hE hS hT in
theorem ropG_sound {rec : Rec} (hrec : SoundC E rec) {ops : Array Oper} {i before : Nat} {o : Oper} {a : AAct} {act : Act} {ps : List Pend} {K : List Pend → AAct → AHeap → Prop} (ho : ops[i]? = some o)
    (hA : ARel m a act) (hR : Rel m n0 H w) (h : (ropG E ops i o false before).f rec ps a H K) : OpS E.P a.rnd ops i act w (PO n0 m H w a.rnd (K ps)) := by
  unfold ropG at h
  split at h
  · rename_i hg
    exact rop_sound hE hS hT hrec ho (by unfold Region.wanted; rw [hg]) hA hR h
  · rename_i j want hg
    simp only at h
    obtain ⟨y1, y2⟩ := yields (ops := ops) (j := j) hA
    have hskip : Region.wanted o (yielded ops act.tmps) = false → K ps ((rput o.dst).f a undef) H → OpS E.P a.rnd ops i act w (PO n0 m H w a.rnd (K ps)) := fun hw hk =>
      OpS.skip ho hw ⟨_, H, m, hk, hA.put o.dst (.sc _ rfl), rput_rnd _ _ _, hR, Ext.refl _ _ _ _⟩
    split at h
    · rename_i b hb
      have hy := y1 b hb
      cases hcw : cond want b (!b) with
      | true =>
        rw [hcw] at h
        refine rop_sound hE hS hT hrec ho ?_ hA hR h
        unfold Region.wanted
        rw [hg]
        simp only [hy]
        cases want <;> cases b <;> simp_all
      | false =>
        rw [hcw] at h
        refine hskip ?_ h
        unfold Region.wanted
        rw [hg]
        simp only [hy]
        cases want <;> cases b <;> simp_all
    · rename_i l hb
      have hy := y2 _ hb
      refine hskip ?_ h
      unfold Region.wanted
      rw [hg]
      simp only [hy]
      rfl
    · exact h.elim

/-- The rest of a region, in the text's order. -/
theorem aops_cons (r : RO) (l : List RO) (rec : Rec) (ps : List Pend) (a : AAct) (H : AHeap) (K : CK) : aops rec (r :: l) ps a H K = r.f rec ps a H fun ps a H => aops rec l ps a H K := rfl

include hE hS hT in
theorem aops_sound {rec : Rec} (hrec : SoundC E rec) {ops : Array Oper} {rnd : Bool} {K : CK} : ∀ (l : List (Nat × Oper)), (∀ p ∈ l, ops[p.1]? = some p.2) → ∀ (ps : List Pend) (a : AAct) (H : AHeap) (m : Emb) (w : World) (act : Act), a.rnd = rnd → ARel m a act → Rel m n0 H w →
    aops rec (l.map fun p => ropG E ops p.1 p.2 false 0) ps a H K → ∀ (b : Frame) (k : List Item) (cs : List Frame), b.roundOf.isSome = rnd → Quiet b cs →
    ∃ act' w', PC n0 m H w rnd K .normal act' w' ∧ StepsIn Tr E.P (lone (b.atR act (.inRegion ops (l.map (·.1)) :: k)) cs w) (lone (b.atR act' k) cs w')
  | [], _, ps, a, H, m, w, act, hr, hA, hR, h, b, k, cs, _, _ => ⟨act, w, ⟨.normal, a, H, m, h, trivial, hA, hr, hR, Ext.refl _ _ _ _⟩, one stepR_region_end⟩
  | p :: l, hp, ps, a, H, m, w, act, hr, hA, hR, h, b, k, cs, hb, hq => by
    rw [List.map_cons, aops_cons] at h
    obtain ⟨act1, w1, ⟨a1, H1, m1, h1, hA1, hr1, hR1, hE1⟩, hs⟩ := ropG_sound hE hS hT hrec (hp p (List.mem_cons_self ..)) hA hR h b k cs (l.map (·.1)) (by rw [hb, hr]) hq
    obtain ⟨act2, w2, h2, hs2⟩ := aops_sound hrec l (fun q hq => hp q (List.mem_cons_of_mem _ hq)) ps a1 H1 m1 w1 act1 (hr1.trans hr) hA1 hR1 h1 b k cs hb hq
    exact ⟨act2, w2, h2.ext hE1, hs.trans hs2⟩

theorem opsL_mem (ops : Array Oper) : ∀ p ∈ opsL ops, ops[p.1]? = some p.2 := by
  intro p hp
  unfold opsL at hp
  obtain ⟨q, hq, rfl⟩ := List.mem_map.1 hp
  obtain ⟨o, i⟩ := q
  have := List.mem_zipIdx_iff_getElem?.1 hq
  simpa using this

theorem opsL_fst (ops : Array Oper) : (opsL ops).map (·.1) = List.range ops.size := by
  unfold opsL
  rw [List.map_map]
  have : ∀ (l : List Oper) (n : Nat), (l.zipIdx n).map ((fun p : Nat × Oper => p.1) ∘ fun x : Oper × Nat => (x.2, x.1)) = (List.range' n l.length) := by
    intro l
    induction l with
    | nil => intro n; rfl
    | cons x l ih => intro n; rw [List.zipIdx_cons, List.map_cons, ih, List.length_cons, List.range'_succ]; rfl
  rw [List.range_eq_range', ← Array.length_toList]
  exact this _ 0

/-- A region that draws its order goes as the evaluator does it. -/
def DrawsOk (E : Env) : Prop := ∀ ops, drawOk E ops = true → ∀ rec, SoundC E rec → ∀ (id : Nat) (a : AAct) (H : AHeap) (K : CK), aops rec (region E ops true).l [] a H K → ∀ m n0 w act, Rel m n0 H w → ARel m a act →
  W E.P a.rnd (.region id ops true) (PC n0 m H w a.rnd K) act w

include hE hS hT in
theorem region_sound {rec : Rec} (hrec : SoundC E rec) {ops : Array Oper} {id : Nat} {a : AAct} {act : Act} {K : CK} (h : aops rec (region E ops false).l [] a H K) (hR : Rel m n0 H w) (hA : ARel m a act) :
    W E.P a.rnd (.region id ops false) (PC n0 m H w a.rnd K) act w := by
  intro b k cs i hb hq hi
  rw [hi.code (fun x => by simp)]
  obtain ⟨act', w', h1, h2⟩ := aops_sound hE hS hT hrec (opsL ops) (opsL_mem ops) [] a H m w act rfl hA hR h b k cs hb hq
  rw [opsL_fst] at h2
  exact ⟨.normal, act', w', h1, .head trivial stepR_region h2⟩
end
end Go.Ai
