/-
  Arguments that lie in the caller's memory and are only read; calls that leave the memory as it is; no condition.
-/
import Derived.Test.YtkeomdnlibchcaaGreatAiVd
import Derived.Test.YtkeomdnlibchcaaGreatAiZ
import Derived.WideShapes
namespace Go.Ai
open Go.RowKit (Below)
section
variable {P : Program}

/-- A call that is handed nothing that lies in memory, and that answers nothing that does, leaves what is known of the memory. -/
theorem Ans.still {f : FuncId} {args : List Value} {Q : Value → Prop} (h : Ans P f args AHeap.empty fun v _ => Q v) (ha : scalars args = true) (hq : ∀ v, Q v → scalar v = true) {H : AHeap} {K : VK} (hK : ∀ v, Q v → K v H) : Ans P f args H K :=
  ⟨fun m n0 w args' hR hl => by
    rw [hl.eq_of_scalars ha]
    exact (h.calls ha w).mono fun e w' ⟨v', he, hb, v, _, _, hv, hr⟩ => by
      rw [hr.eq_of_scalar (hq v hv)] at he
      exact ⟨v, he, v, H, m, hK v hv, .sc _ (hq v hv), hR.below hb, ⟨Emb.le_refl m, hb.mono hR.size, Untouched.refl _ _, Nat.le_refl _⟩⟩⟩

/-- A call that is handed what lies in the caller's memory. -/
theorem Ans.callsR {f : FuncId} {args args' : List Value} {K : VK} {H : AHeap} {m : Emb} {w : World} (h : Ans P f args H K) (hR : Rel m w.heap.size H w) (hl : LRel m args args') :
    Calls P f args'.toArray w fun e w' => ∃ v', e = .returned v' ∧ Below w.heap.size w w' ∧ ∃ v H m, K v H ∧ VRel m v v' :=
  (h.h _ _ w args' hR hl).mono fun _ _ ⟨v', he, v, H', m', hK, hv, _, hE⟩ => ⟨v', he, hE.below, v, H', m', hK, hv⟩
theorem Ans.yesR {f : FuncId} {args args' : List Value} {H : AHeap} {m : Emb} {w : World} (h : Ans P f args H fun v _ => v = .bool true) (hR : Rel m w.heap.size H w) (hl : LRel m args args') : Calls P f args'.toArray w (Yes w) :=
  (h.callsR hR hl).mono fun _ _ ⟨_, he, hb, _, _, _, hK, hv⟩ => ⟨by rw [he, hv.eq_of_scalar (by rw [hK]; rfl), hK], hb⟩

/-- A row of the caller's that is only read. -/
theorem Rel.ro {m : Emb} {H : AHeap} {w : World} (hR : Rel m w.heap.size H w) {b sh : Nat} {vs : List Value} {c : Array Value} {t : TypeId} {fz : Nat × Nat} (hb : w.heap[b]? = some (.cells c t fz))
    (hc : ∀ j v, vs[j]? = some v → c[sh + j]? = some v) (hs : ∀ v ∈ vs, scalar v = true) (h0 : vs = [] → sh = 0) :
    Rel (m.put H.next ⟨b, sh, vs.length, 1, 0, true⟩) w.heap.size (H.new (cellsOfList vs t 0 (0, vs.length + 1))) w := by
  have hfresh := hR.fresh
  have hle : m.le (m.put H.next ⟨b, sh, vs.length, 1, 0, true⟩) := Emb.le_put hfresh
  have hbw : b < w.heap.size := by
    rcases Nat.lt_or_ge b w.heap.size with h | h
    · exact h
    · rw [Array.getElem?_eq_none h] at hb; cases hb
  refine ⟨Nat.le_refl _, fun id i h => ?_, fun id i h => ?_, fun id i o h1 h2 => ?_, fun id1 id2 i1 i2 h1 h2 h3 h4 h5 h6 h7 => ?_⟩
  · unfold Emb.put at h
    rw [AHeap.next_new]
    by_cases e1 : id = H.next
    · rw [if_pos e1] at h; cases h; subst e1; exact ⟨Nat.lt_succ_self _, hbw⟩
    · rw [if_neg e1] at h; have := hR.dom id i h; exact ⟨by omega, this.2⟩
  · unfold Emb.put at h
    by_cases e1 : id = H.next
    · rw [if_pos e1] at h; cases h; exact ⟨fun h => (by cases h), fun _ => hbw⟩
    · rw [if_neg e1] at h; exact hR.low id i h
  · unfold Emb.put at h1
    rw [AHeap.get_new] at h2
    by_cases e1 : id = H.next
    · rw [if_pos e1] at h1 h2; cases h1; cases h2
      refine ⟨_, hb, ?_⟩
      unfold cellsOfList
      refine .cells _ _ _ _ _ _ _ _ ?_
      rw [llen_eq]
      refine ⟨?_, fun j hj => ?_, fun j hj hf => ?_, fun _ => ⟨rfl, fun h => (by cases h)⟩, fun h => absurd h (by omega), fun h => (by cases h), fun _ => rfl⟩
      · rcases Nat.eq_zero_or_pos vs.length with hz | hp
        · have := h0 (List.length_eq_zero_iff.1 hz)
          show sh + vs.length ≤ c.size
          omega
        · have h1 := hc (vs.length - 1) vs[vs.length - 1] (List.getElem?_eq_getElem (by omega))
          have := (Array.getElem?_eq_some_iff.1 h1).1
          show sh + vs.length ≤ c.size
          omega
      · refine ⟨vs[j], hc j _ (List.getElem?_eq_getElem hj), ?_⟩
        rw [cellAt_ofList vs [] j hj]
        exact .sc _ (hs _ (List.getElem_mem hj))
      · show frz (0, vs.length + 1) j
        unfold frz
        simp; omega
    · rw [if_neg e1] at h1 h2
      obtain ⟨o', a1, a2⟩ := hR.obj id i o h1 h2
      exact ⟨o', a1, a2.mono hle⟩
  · have key : ∀ {id i}, (m.put H.next ⟨b, sh, vs.length, 1, 0, true⟩) id = some i → i.ro = false → id ≠ H.next ∧ m id = some i := by
      intro id i h hr
      unfold Emb.put at h
      by_cases e1 : id = H.next
      · rw [if_pos e1] at h; cases h; cases hr
      · rw [if_neg e1] at h; exact ⟨e1, h⟩
    obtain ⟨n1, k1⟩ := key h1 h5
    obtain ⟨n2, k2⟩ := key h2 h6
    have lv : ∀ {id}, id ≠ H.next → (H.new (cellsOfList vs t 0 (0, vs.length + 1))).live id → H.live id := by
      rintro id hn ⟨o, a1, a2⟩
      rw [AHeap.get_new, if_neg hn] at a1
      exact ⟨o, a1, a2⟩
    exact hR.inj id1 id2 i1 i2 k1 k2 (lv n1 h3) (lv n2 h4) h5 h6 h7
end

section
variable {E : Env} {a : AAct} {H : AHeap} {o : Oper} {x y : Operand} {t : TypeId}
/-- A slice that is read, its elements of one cell each. -/
inductive Arr (H : AHeap) : Value → List Value → Prop
  | nil : Arr H (.slice none 0 0) []
  | row (id len cap : Nat) (l vs : List Value) (e : TypeId) (g : Nat) (fz : Nat × Nat) (h : Row H id l e g fz) (hlen : vs.length = len) (hv : ∀ (j : Nat) (v : Value), vs[j]? = some v → l[j]? = some v) : Arr H (.slice (some ⟨id, 0, none⟩) len cap) vs
theorem Arr.of_get {H' : AHeap} {s : Value} {vs : List Value} (h : Arr H s vs) (hg : ∀ j, names s j → H'.get j = H.get j) : Arr H' s vs := by
  cases h with
  | nil => exact .nil
  | row id len cap l vs e g fz h hlen hv => exact .row id len cap l vs e g fz (h.of_get (hg id rfl)) hlen hv
theorem Arr.len {s : Value} {vs : List Value} (h : Arr H s vs) : ∃ p c, s = .slice p vs.length c := by
  cases h with
  | nil => exact ⟨_, _, rfl⟩
  | row id len cap l vs e g fz h hlen hv => exact ⟨_, _, by rw [hlen]⟩
theorem Arr.at {s : Value} {vs : List Value} (h : Arr H s vs) {j : Nat} {v : Value} (hv : vs[j]? = some v) : ∃ id c l e g fz, s = .slice (some ⟨id, 0, none⟩) vs.length c ∧ Row H id l e g fz ∧ l[j]? = some v := by
  cases h with
  | nil => simp at hv
  | row id len cap l vs e g fz h hlen hv' => exact ⟨id, cap, l, e, g, fz, by rw [hlen], h, hv' j v hv⟩

theorem pr_lenA {c : Call} {e : TypeId} {p : Option Addr} {n k : Nat} (ho : o.op = .call c) (hc : c.callee = .builtin .len) (ha : c.args = #[x]) (ht : c.argTypes = #[t]) (hu : E.u t = some (.slice e)) (hx : (rv x).f a = .slice p n k) : pread E a H o = some (.int .i64 (n : Int)) := by
  unfold pread; rw [ho]
  simp only [rread, hc, acallRead, ha, ht]
  show (alenOf E t (rv x)).f a H = _
  simp only [alenOf, hu, hx]
  rfl
theorem pr_indexA {e : TypeId} {s id n cap i : Nat} {k : IntKind} (ho : o.op = .indexAddr t x y) (hu : E.u t = some (.slice e)) (hs : E.sz e = some s) (hx : (rv x).f a = .slice (some ⟨id, 0, none⟩) n cap) (hy : (rv y).f a = .int k (i : Int)) (hi : i < n) :
    pread E a H o = some (.pointer (some ⟨id, i * s, none⟩)) := by
  unfold pread; rw [ho]
  simp only [rread, aindexAddr, hu, hs, hx, hy]
  have : nat? (.int k (i : Int)) = some i := rfl
  rw [this]
  simp only [blt_eq, decide_eq_true hi, cond_true, Nat.zero_add]
theorem str_append (l m : List UInt8) : (⟨⟨l⟩⟩ : ByteArray) ++ ⟨⟨m⟩⟩ = ⟨⟨l ++ m⟩⟩ := by
  apply ByteArray.ext
  simp
theorem pr_addS {l m : List UInt8} {u : TypeId} (ho : o.op = .binOp .add t x y u) (hx : (rv x).f a = str l) (hy : (rv y).f a = str m) (hb : l.length + m.length ≤ 9223372036854775807) : pread E a H o = some (str (l ++ m)) := by
  unfold pread; rw [ho]
  simp only [rread, abin, int2, hx, hy, str, ascalar2]
  have hs : scalar (.string ⟨⟨l⟩⟩) = true := rfl
  have hs2 : scalar (.string ⟨⟨m⟩⟩) = true := rfl
  have e1 : (eqGuard .add t x y (.string ⟨⟨l⟩⟩) (.string ⟨⟨m⟩⟩)) = pure () := rfl
  have e2 : binOp .add t (.string ⟨⟨l⟩⟩) (.string ⟨⟨m⟩⟩) = pure (.string ⟨⟨l ++ m⟩⟩) := by
    show Op.stringOp .add ⟨⟨l⟩⟩ ⟨⟨m⟩⟩ = _
    unfold Op.stringOp
    have h1 : (⟨⟨l⟩⟩ : ByteArray).size = l.length := rfl
    have h2 : (⟨⟨m⟩⟩ : ByteArray).size = m.length := rfl
    simp only [h1, h2]
    rw [if_neg (by show ¬ ((l.length + m.length : Nat) : Int) > 9223372036854775807; omega), str_append]
  rw [hs, hs2, e1, e2]
  rfl
theorem pr_neB {u : TypeId} {b c r : Bool} (ho : o.op = .binOp .neq t x y u) (hx : (rv x).f a = .bool b) (hy : (rv y).f a = .bool c) (hg : ascalar2 E .neq t x y (.bool b) (.bool c) = some (.bool r)) : pread E a H o = some (.bool r) := by
  unfold pread; rw [ho]; simp only [rread, abin, int2, hx, hy, aeq]; exact hg
theorem pr_eqBB {u : TypeId} {b c r : Bool} (ho : o.op = .binOp .eql t x y u) (hx : (rv x).f a = .bool b) (hy : (rv y).f a = .bool c) (hg : ascalar2 E .eql t x y (.bool b) (.bool c) = some (.bool r)) : pread E a H o = some (.bool r) := by
  unfold pread; rw [ho]; simp only [rread, abin, int2, hx, hy, aeq]; exact hg
end
end Go.Ai
