/-
  append, copy, and the next entry of a map: what the evaluator does is what the model does; no condition.
-/
import Derived.Test.YtkeomdnlibchcaaGreatAiI
import Derived.Deep.AppendSrc
namespace Go.Ai
open Go.RowKit (Below)

section
variable {E : Env} (hE : E.Ok) {m : Emb} {n0 : Nat} {H : AHeap} {w : World} (hR : Rel m n0 H w)

theorem alen_sound {x y : Value} {k : Nat} (hx : VRel m x y) (h : alen x = some k) (w : World) : (Builtin.lenOf y).run E.P w = .ok k w := by
  unfold alen at h
  split at h
  · cases h; cases hx <;> rfl
  · cases h; rw [hx.str_inv]; rfl
  · cases h

theorem listAt_zero (c : T Value) (z : List Value) (off : Nat) : listAt c z off 0 = [] := List.eq_nil_of_length_eq_zero (listAt_length c z 0 off)

include hR in
/-- A row of cells, whatever was drawn since. -/
theorem cells_row_h {id : Nat} {i : EInfo} {c : T Value} {n : Nat} {z : List Value} {e : TypeId} {g : Nat} {fz : Nat × Nat} (hi : m id = some i) (ho : H.get id = some (.cells c n z e g fz))
    {off k : Nat} (hk : off + k ≤ n) : ∃ l', (∀ w' : World, w'.heap = w.heap → (loadCells ⟨i.blk, i.sh + off, none⟩ k).run E.P w' = .ok l'.toArray w') ∧ LRel m (listAt c z off k) l' ∧
      ∀ j v, l'[j]? = some v → w.cell? ((⟨i.blk, i.sh + off, none⟩ : Addr).add j) = some v := by
  obtain ⟨l', h1, h2⟩ := cells_row (E := E) hR hi ho hk
  have hlen : l'.length = k := by have := h2.length; rw [listAt_length] at this; exact this.symm
  obtain ⟨c', fz', h4, h5⟩ := cells_at hR hi ho
  have hc : ∀ j v, l'[j]? = some v → w.cell? ((⟨i.blk, i.sh + off, none⟩ : Addr).add j) = some v := by
    intro j v hj
    have hjk : j < k := by
      rcases Nat.lt_or_ge j k with h | h
      · exact h
      · rw [List.getElem?_eq_none (by omega)] at hj; cases hj
    obtain ⟨l2, q1, q2⟩ := cells_row (E := E) hR hi ho (off := off) (k := k) hk
    rw [h1] at q1
    have hl2 : l2 = l' := by
      have : l'.toArray = l2.toArray := by injection q1
      simpa using this.symm
    let l3 := (c'.toList.drop (i.sh + off)).take k
    have hget : ∀ j, j < k → l3[j]? = c'[i.sh + (off + j)]? := by
      intro j hj
      simp only [l3, List.getElem?_take, if_pos hj, List.getElem?_drop, Array.getElem?_toList]
      congr 1; omega
    have hlen3 : l3.length = k := by have := h5.room; simp [l3]; omega
    have hr := run_loadCells_list (P := E.P) w ⟨i.blk, i.sh + off, none⟩ l3 (fun j v hj => by
      have hjk : j < k := by
        rcases Nat.lt_or_ge j k with h | h
        · exact h
        · rw [List.getElem?_eq_none (by omega)] at hj; cases hj
      rw [addr_add, cell?_of h4, ← hj, hget j hjk]; congr 1; omega)
    rw [hlen3, h1] at hr
    have h3 : l' = l3 := by
      have : l'.toArray = l3.toArray := by injection hr
      simpa using this
    rw [h3, hget j hjk] at hj
    rw [addr_add, cell?_of h4, ← hj]
    congr 1; omega
  refine ⟨l', fun w' hw => ?_, h2, hc⟩
  have := run_loadCells_list (P := E.P) w' ⟨i.blk, i.sh + off, none⟩ l' (fun j v hj => by
    have := hc j v hj
    simpa [World.cell?, hw] using this)
  rw [hlen] at this
  exact this

include hR in
theorem afirst_sound {n size k : Nat} {x y : Value} {l : List Value} (hx : VRel m x y) (hk : alen x = some k) (hn : n ≤ k) (h : afirst H n size x = some l) :
    ∃ l', (∀ w' : World, w'.heap = w.heap → (Builtin.firstCells size n y).run E.P w' = .ok l'.toArray w') ∧ LRel m l l' := by
  unfold afirst at h
  split at h
  · rename_i id off len cap
    simp only [alen, Option.some.injEq] at hk
    subst hk
    split at h
    · rename_i c kk z e g fz ho
      unfold rd at h
      cases hb : Nat.ble (off + n * size) kk with
      | false => rw [hb] at h; cases h
      | true =>
        rw [hb] at h
        cases h
        obtain ⟨i, hi, ⟨_, rfl⟩ | ⟨rfl, rfl, p, rfl⟩⟩ := hx.sl_inv
        · obtain ⟨l', h1, h2, _⟩ := cells_row_h (E := E) hR hi ho (ble_iff.1 hb)
          exact ⟨l', h1, h2⟩
        · have hn0 : n = 0 := by omega
          subst hn0
          refine ⟨[], fun w' _ => ?_, ?_⟩
          · simp [Builtin.firstCells, loadCells, loadCellsFrom]
          · rw [Nat.zero_mul, listAt_zero]; exact .nil
    · cases h
  · cases h
    rw [hx.nilsl_inv]
    exact ⟨[], fun w' _ => rfl, .nil⟩
  · rename_i s
    cases h
    rw [hx.str_inv]
    refine ⟨_, fun w' _ => ?_, .scalars (l := (s.extract 0 n).data.toList.map fun b => Value.int .u8 b.toNat) ?_⟩
    · simp [Builtin.firstCells]
      apply Array.ext'
      simp
    · rw [scalars_iff]
      intro v hv
      obtain ⟨b, _, rfl⟩ := List.mem_map.1 hv
      rfl
  · cases h

/-- A kind of what is appended that is no number. -/
def NoInt (P : Program) (t : Option TypeId) : Prop := ∀ xt, t = some xt → ∃ d, P.underlying xt = some d ∧ ∀ k, d ≠ .int k

theorem matchFalse {d : TypeDesc} (h : ∀ k, d ≠ .int k) : (match d with | .int _ => true | _ => false) = false := by
  cases d <;> first | rfl | exact absurd rfl (h _)

/-- append, where there is room. -/
theorem run_append_room_any {P : Program} {ts : Array TypeId} {ty t e : TypeId} {args : Array Value} {i : TypeInfo} (ht0 : ts[0]? = some t) (ht : P.underlying t = some (.slice e)) (hi : P.info? e = some i) (hz : NoInt P ts[1]?)
    {base : Option Addr} {sLen sCap n : Nat} {x : Value} {news : List Value} {w w' : World} (ha0 : args[0]? = some (.slice base sLen sCap)) (ha1 : args[1]? = some x) (hlen : ∀ w, (Builtin.lenOf x).run P w = .ok n w) (hnew : (Builtin.firstCells i.size n x).run P w = .ok news.toArray w)
    (hroom : sLen + n ≤ sCap) (hst : match (motive := Option Addr → Prop) base with | some a => (storeCells (a.add (sLen * i.size)) news).run P w = .ok () w' | none => w' = w) :
    (Builtin.append_ ts ty args).run P w = .ok (.slice base (sLen + n) sCap) w' := by
  cases hx : ts[1]? with
  | none =>
    cases base with
    | none => subst hst; simp [Builtin.append_, ht0, ha0, ha1, hx, run_underlying ht, sizeOf, typeInfo, hi, hlen, hnew, hroom]
    | some a => simp [Builtin.append_, ht0, ha0, ha1, hx, run_underlying ht, sizeOf, typeInfo, hi, hlen, hnew, hroom, hst]
  | some xt =>
    obtain ⟨d, h1, h2⟩ := hz xt hx
    have h3 := matchFalse h2
    cases base with
    | none => subst hst; simp [Builtin.append_, ht0, ha0, ha1, hx, run_underlying ht, run_underlying h1, sizeOf, typeInfo, hi, hlen, hnew, hroom, h3]
    | some a => simp [Builtin.append_, ht0, ha0, ha1, hx, run_underlying ht, run_underlying h1, sizeOf, typeInfo, hi, hlen, hnew, hroom, hst, h3]

/-- append, where there is none. -/
theorem run_append_grow_any {P : Program} {ts : Array TypeId} {ty t e : TypeId} {args : Array Value} {i : TypeInfo} {z : Value} (ht0 : ts[0]? = some t) (ht : P.underlying t = some (.slice e)) (hi : P.info? e = some i) (hzz : i.zero = some z) (hz : NoInt P ts[1]?)
    {base : Option Addr} {sLen sCap n : Nat} {x : Value} {olds news : List Value} {w : World} (ha0 : args[0]? = some (.slice base sLen sCap)) (ha1 : args[1]? = some x) (hlen : ∀ w, (Builtin.lenOf x).run P w = .ok n w)
    (hold : (Builtin.firstCells i.size sLen (.slice base sLen sCap)).run P w.drew = .ok olds.toArray w.drew) (hnew : (Builtin.firstCells i.size n x).run P w.drew = .ok news.toArray w.drew)
    (hg : sCap < sLen + n) (h63 : ((sLen + n : Nat) : Int) ≤ 9223372036854775807) (hfit : Builtin.nextslicecap (sLen + n) sCap * i.bytes ≤ 281474976710656) :
    (Builtin.append_ ts ty args).run P w =
      .ok (.slice (some ⟨w.heap.size, 0, none⟩) (sLen + n) (grownCap w (sLen + n) sCap e))
        (w.drew.alloc (.cells ((olds ++ news).toArray ++ Builtin.zeroCells z.cells (grownCap w (sLen + n) sCap e - (sLen + n))) e)) := by
  have hn : ¬ (sLen + n ≤ sCap) := by omega
  have h63' : ¬ (9223372036854775807 < ((sLen : Int) + (n : Int))) := by omega
  have h48' : ¬ (281474976710656 < Builtin.nextslicecap (sLen + n) sCap * i.bytes) := by omega
  cases hx : ts[1]? with
  | none =>
    simp [Builtin.append_, ht0, ha0, ha1, hx, run_underlying ht, sizeOf, typeInfo, zeroValue, hi, hzz, hlen, hn, h63', h48', Question.forced, hnew, hold, newRow, grownCap]
    congr 2
    apply Array.ext'
    simp [List.append_assoc]
  | some xt =>
    obtain ⟨d, h1, h2⟩ := hz xt hx
    have h3 := matchFalse h2
    simp [Builtin.append_, ht0, ha0, ha1, hx, run_underlying ht, run_underlying h1, sizeOf, typeInfo, zeroValue, hi, hzz, hlen, hn, h63', h48', Question.forced, hnew, hold, newRow, grownCap, h3]
    congr 2
    apply Array.ext'
    simp [List.append_assoc]

omit hR in
theorem Rel.kill {m : Emb} {n0 : Nat} {H : AHeap} {w : World} (hR : Rel m n0 H w) (id : Nat) : Rel m n0 (H.set id .dead) w := by
  have hlive : ∀ id', (H.set id .dead).live id' → H.live id' := by
    rintro id' ⟨o, h1, h2⟩
    rw [AHeap.get_set] at h1
    by_cases e : id' = id
    · rw [if_pos e] at h1; cases h1; exact absurd rfl h2
    · rw [if_neg e] at h1; exact ⟨o, h1, h2⟩
  refine ⟨hR.size, hR.dom, hR.low, fun id' i' o h1 h2 => ?_, fun a b c d e f p q => hR.inj a b c d e f (hlive _ p) (hlive _ q)⟩
  rw [AHeap.get_set] at h2
  by_cases e : id' = id
  · rw [if_pos e] at h2
    cases h2
    have hlt : i'.blk < w.heap.size := (hR.dom id' i' h1).2
    exact ⟨w.heap[i'.blk], Array.getElem?_eq_getElem hlt, .dead _⟩
  · rw [if_neg e] at h2
    exact hR.obj id' i' o h1 h2

/-- A slice that grows where it is: what stood for its block is dead, and a new object stands for it. -/
theorem Rel.turn {m : Emb} {n0 : Nat} {H : AHeap} {w : World} (hR : Rel m n0 H w) {id : Nat} {i j : EInfo} {x : AObj} {o' : Obj} {w' : World} (hi : m id = some i) (hro : i.ro = false) (hl : H.live id)
    (hj : j.blk = i.blk) (hjr : j.ro = false) (hx : ORel (m.put H.next j) j x o') (hw : OneBlock i.blk o' w w') : Rel (m.put H.next j) n0 ((H.set id .dead).new x) w' := by
  have hf := hR.fresh
  have hle : m.le (m.put H.next j) := Emb.le_put hf
  have hid : id < H.next := (hR.dom id i hi).1
  have hget : ∀ id', ((H.set id .dead).new x).get id' = if id' = H.next then some x else if id' = id then some .dead else H.get id' := by
    intro id'; rw [AHeap.get_new, AHeap.get_set, AHeap.next_set]
  refine ⟨by rw [hw.size]; exact hR.size, fun id' i' h => ?_, fun id' i' h => ?_, fun id' i' o h1 h2 => ?_, fun id1 id2 i1 i2 h1 h2 h3 h4 h5 h6 h7 => ?_⟩
  · unfold Emb.put at h
    rw [hw.size, AHeap.next_new, AHeap.next_set]
    by_cases e : id' = H.next
    · rw [if_pos e] at h; cases h; exact ⟨by omega, by rw [hj]; exact (hR.dom id i hi).2⟩
    · rw [if_neg e] at h; have := hR.dom id' i' h; exact ⟨by omega, this.2⟩
  · unfold Emb.put at h
    by_cases e : id' = H.next
    · rw [if_pos e] at h; cases h; exact ⟨fun _ => by rw [hj]; exact (hR.low id i hi).1 hro, fun hr => by rw [hjr] at hr; cases hr⟩
    · rw [if_neg e] at h; exact hR.low id' i' h
  · rw [hget] at h2
    unfold Emb.put at h1
    by_cases e : id' = H.next
    · rw [if_pos e] at h1 h2; cases h1; cases h2
      exact ⟨o', by rw [hj]; exact hw.here, hx⟩
    · rw [if_neg e] at h1 h2
      by_cases e2 : id' = id
      · rw [if_pos e2] at h2; cases h2
        have hlt : i'.blk < w'.heap.size := by rw [hw.size]; exact (hR.dom id' i' h1).2
        exact ⟨w'.heap[i'.blk], Array.getElem?_eq_getElem hlt, .dead _⟩
      · rw [if_neg e2] at h2
        obtain ⟨q, h3, h4⟩ := hR.obj id' i' o h1 h2
        by_cases hb : i'.blk = i.blk
        · by_cases hd : o = .dead
          · subst hd
            exact ⟨o', by rw [hb]; exact hw.here, .dead _⟩
          · cases hr : i'.ro with
            | false => exact absurd (hR.inj id' id i' i h1 hi ⟨o, h2, hd⟩ hl hr hro hb) e2
            | true =>
              have a1 := (hR.low id' i' h1).2 hr
              have a2 := (hR.low id i hi).1 hro
              omega
        · exact ⟨q, by rw [hw.other _ hb]; exact h3, h4.mono hle⟩
  · have hlive : ∀ id', id' ≠ H.next → ((H.set id .dead).new x).live id' → id' ≠ id ∧ H.live id' := by
      rintro id' hne ⟨o, e1, e2⟩
      rw [hget, if_neg hne] at e1
      by_cases e : id' = id
      · rw [if_pos e] at e1; cases e1; exact absurd rfl e2
      · rw [if_neg e] at e1; exact ⟨e, o, e1, e2⟩
    unfold Emb.put at h1 h2
    by_cases e1 : id1 = H.next
    · by_cases e2 : id2 = H.next
      · rw [e1, e2]
      · rw [if_pos e1] at h1; rw [if_neg e2] at h2; cases h1
        obtain ⟨q1, q2⟩ := hlive id2 e2 h4
        exact absurd (hR.inj id2 id i2 i h2 hi q2 hl h6 hro (by rw [← h7, hj])) q1
    · by_cases e2 : id2 = H.next
      · rw [if_neg e1] at h1; rw [if_pos e2] at h2; cases h2
        obtain ⟨q1, q2⟩ := hlive id1 e1 h3
        exact absurd (hR.inj id1 id i1 i h1 hi q2 hl h5 hro (by rw [h7, hj])) q1
      · rw [if_neg e1] at h1; rw [if_neg e2] at h2
        exact hR.inj id1 id2 i1 i2 h1 h2 (hlive id1 e1 h3).2 (hlive id2 e2 h4).2 h5 h6 h7

/-- The cells of a row that has grown. -/
theorem grown_rel {m : Emb} {j : EInfo} {C : T Value} {Z : List Value} {n2 size : Nat} {fz : Nat × Nat} {L' : List Value} {rest : Array Value} (hC : ∀ q, q < n2 → ∃ u, L'[q]? = some u ∧ VRel m (cellAt C Z q) u) (hn : L'.length = n2)
    (hs : 0 < size) (hj : j.sh = 0) (hk : j.k = n2) (he : j.es = size) (hx : j.extra * size ≤ rest.size) (hr : j.ro = false) (hf : fz.1 ≤ fz.2 → fz.2 ≤ n2) :
    CellsRel m j C n2 Z size fz (L'.toArray ++ rest) (0, 0) where
  room := by rw [hj]; simp; omega
  cell := fun q hq => by
    obtain ⟨u, h1, h2⟩ := hC q hq
    refine ⟨u, ?_, h2⟩
    rw [hj, Nat.zero_add, Array.getElem?_append_left (by simp; omega)]
    simpa using h1
  froz := fun q _ h => by simp [frz] at h
  plain := fun h => by omega
  grows := fun _ => ⟨hr, hk, he, by rw [hj, he]; simp; omega, fun q _ _ h => by simp [frz] at h⟩
  inside := fun _ h => ⟨hf h, Nat.le_refl _, fun q h => by simp [frz] at h⟩
  isro := fun h => by rw [hr] at h; cases h

/-- The cells of the old row, and the new ones. -/
theorem cells_both {m : Emb} {c : T Value} {z : List Value} {k off : Nat} {old' new new' : List Value} (ho : LRel m (listAt c z off k) old') (hn : LRel m new new') (q : Nat) (hq : q < k + new.length) :
    ∃ u, (old' ++ new')[q]? = some u ∧
      VRel m (cellAt (wrT (cond (Nat.beq off 0) c (T.ofList (listAt c z off k) 0 .leaf)) k new) (cond (Nat.beq off 0) z []) q) u := by
  have hlo := ho.length
  rw [listAt_length] at hlo
  rw [cellAt_wrT]
  by_cases h1 : k ≤ q ∧ q < k + new.length
  · rw [dif_pos h1]
    obtain ⟨u, e1, e2⟩ := hn.get (i := q - k) (List.getElem?_eq_getElem (by omega))
    refine ⟨u, ?_, e2⟩
    rw [List.getElem?_append_right (by omega), ← hlo]; exact e1
  · rw [dif_neg h1]
    have hqk : q < k := by omega
    have hl := listAt_get c z k off q hqk
    obtain ⟨u, e1, e2⟩ := ho.get hl
    refine ⟨u, by rw [List.getElem?_append_left (by omega)]; exact e1, ?_⟩
    cases hb : Nat.beq off 0 with
    | true =>
      have : off = 0 := Nat.eq_of_beq_eq_true hb
      subst this
      simp only [cond_true]
      rw [Nat.zero_add] at e2
      exact e2
    | false =>
      simp only [cond_false]
      rw [cellAt_ofList _ _ _ (by rw [listAt_length]; exact hqk)]
      have := List.getElem?_eq_getElem (l := listAt c z off k) (i := q) (by rw [listAt_length]; exact hqk)
      rw [hl] at this
      rw [← Option.some.inj this]
      exact e2

/-- A new block for a new object, of any kind. -/
theorem out_newI {E : Env} {m : Emb} {n0 : Nat} {H : AHeap} {w : World} (hR : Rel m n0 H w) {Hd : AHeap} {x : AObj} {o' : Obj} {w' : World} {j : EInfo} {v v' : Value} {s : Sem Next} {K : VK} (hrun : s.run E.P w = .ok (.value v') w') (hw : MoreBlock o' w w')
    (hb : j.blk = w.heap.size) (hro : j.ro = false) (hd : Rel m n0 Hd w) (hnx : Hd.next = H.next) (hun : ∀ id, m id = none → id < H.next → Hd.get id = H.get id)
    (hrel : ∀ m', m.le m' → m' H.next = some j → VRel m' v v' ∧ ORel m' j x o') (h : K v (Hd.new x)) : Out E m n0 H w s K := by
  have hf := hR.fresh
  obtain ⟨h1, h2⟩ := hrel (m.put H.next j) (Emb.le_put hf) (Emb.put_same _ _ _)
  refine ⟨v, Hd.new x, m.put H.next j, .value v', w', h, hrun, .inl ⟨v', rfl, h1⟩, ?_, Emb.le_put hf, hw.below hR.size, fun id h3 h4 => ⟨?_, ?_⟩, by simp [hnx]⟩
  · exact (hd.pend x).add hf (by simp [hnx]) (by rw [AHeap.get_new, if_pos hnx.symm]) hb hro h2 hw
  · unfold Emb.put; rw [if_neg (by omega)]; exact h3
  · rw [AHeap.get_new, if_neg (by omega)]; exact hun id h3 h4

theorem drew_more (w : World) (o : Obj) : MoreBlock o w (w.drew.alloc o) := ⟨rfl, rfl, rfl, rfl⟩

include hE hR in
theorem agrow_sound {ts : Array TypeId} {args : Array Value} {ty t e : TypeId} {z : Value} {size len cap n by_ : Nat} {base : Option Addr} {y y' : Value} {new new' : List Value} {H' : AHeap} {K : VK}
    (ht0 : ts[0]? = some t) (hu : E.u t = some (.slice e)) (hsz : E.sz e = some size) (hby : E.bytes e = some by_) (hzz : E.z e = some z) (hz : NoInt E.P ts[1]?) (h0 : 0 < size) (hzc : (vcells z).length = size) (hzs : scalar z = true) (hb4 : by_ ≤ 4096)
    (hs : VRel m (.slice base len cap) y) (ha0 : args[0]? = some y) (ha1 : args[1]? = some y') (hlen : ∀ w, (Builtin.lenOf y').run E.P w = .ok n w)
    (hnew : ∀ w' : World, w'.heap = w.heap → (Builtin.firstCells size n y').run E.P w' = .ok new'.toArray w') (hln : LRel m new new') (hok : ∀ v ∈ new, cellOk v = true) (hnl : new.length = n * size)
    (hg : cap < len + n) (h32 : len + n ≤ 4294967296) (h : agrow H e size base len cap new = some H') (hK : K (.slice (some (here H)) (len + n) (len + n)) H') :
    Out E m n0 H w (do pure (.value (← Builtin.append_ ts ty args))) K := by
  obtain ⟨ti, hti, htz⟩ := hE.z e z hzz
  have hts : ti.size = size := by
    obtain ⟨i2, a1, a2⟩ := hE.sz e size hsz
    rw [hti] at a1; cases a1; exact a2
  have htb : ti.bytes = by_ := by
    obtain ⟨i2, a1, a2⟩ := hE.bytes e by_ hby
    rw [hti] at a1; cases a1; exact a2
  have hzsize : z.cells.size = size := by
    have := (vcells_scalar hzs).1
    rw [← hzc, ← this]; simp
  have hnl' : new'.length = n * size := by rw [← hln.length]; exact hnl
  have hfit : ∀ c, c < len + n → Builtin.nextslicecap (len + n) c * ti.bytes ≤ 281474976710656 := by
    intro c hc
    refine growslice_fits hc ?_
    rw [htb]
    have : (len + n) * by_ ≤ 4294967296 * 4096 := Nat.mul_le_mul h32 hb4
    omega
  -- the new block
  have fresh : ∀ (base' : Option Addr) (cap' : Nat) (old' : List Value) (C : T Value) (Z : List Value) (fz : Nat × Nat) (Hd : AHeap), y = .slice base' len cap' → cap' < len + n →
      (Builtin.firstCells size len y).run E.P w.drew = .ok old'.toArray w.drew → old'.length = len * size →
      (∀ q, q < (len + n) * size → ∃ u, (old' ++ new')[q]? = some u ∧ VRel m (cellAt C Z q) u) → (fz.1 ≤ fz.2 → fz.2 ≤ (len + n) * size) →
      Rel m n0 Hd w → Hd.next = H.next → (∀ id, m id = none → id < H.next → Hd.get id = H.get id) → H' = Hd.new (.cells C ((len + n) * size) Z e size fz) →
      Out E m n0 H w (do pure (.value (← Builtin.append_ ts ty args))) K := by
    intro base' cap' old' C Z fz Hd hy hcap' hold hol hC hfz hd hnx hun heq
    subst hy
    have hr := run_append_grow_any (P := E.P) (ty := ty) (i := ti) ht0 (hE.u _ _ hu) hti htz hz (olds := old') (news := new') (w := w) ha0 ha1 hlen (by rw [hts]; exact hold) (by rw [hts]; exact hnew _ rfl) hcap' (by omega) (hfit _ hcap')
    have hge := grownCap_ge w (len + n) cap' e
    subst heq
    refine out_newI (j := { blk := w.heap.size, sh := 0, k := (len + n) * size, es := size, extra := grownCap w (len + n) cap' e - (len + n), ro := false }) hR (v' := .slice (some ⟨w.heap.size, 0, none⟩) (len + n) (grownCap w (len + n) cap' e)) (by simp only [Sem.run_bind, hr, Result.andThen_ok, Sem.run_pure]; rfl) (drew_more w _) rfl rfl hd hnx hun ?_ hK
    intro m' hle hm'
    refine ⟨?_, .cells _ _ _ _ _ _ _ _ (grown_rel (fun q hq => ?_) (by rw [List.length_append, hol, hnl', Nat.add_mul]) h0 rfl rfl rfl ?_ rfl hfz)⟩
    · have := VRel.sl (m := m') H.next 0 (len + n) (len + n) _ hm' (Nat.le_refl _)
      simp only [EInfo.more, Nat.zero_add, if_true] at this
      rw [show len + n + (grownCap w (len + n) cap' e - (len + n)) = grownCap w (len + n) cap' e by omega] at this
      exact this
    · obtain ⟨u, a1, a2⟩ := hC q hq
      exact ⟨u, a1, a2.mono hle⟩
    · rw [size_zeroCells, hzsize]; exact Nat.le_refl _
  unfold agrow at h
  split at h
  · -- nil
    cases hb : Nat.beq len 0 with
    | false => rw [hb] at h; cases h
    | true =>
      rw [hb] at h
      simp only [cond_true, Option.some.injEq] at h
      have hl0 : len = 0 := Nat.eq_of_beq_eq_true hb
      subst hl0
      have hy := hs.nilsl_inv
      refine fresh none cap [] _ _ _ H hy hg ?_ (by simp) ?_ (fun _ => Nat.zero_le _) hR rfl (fun _ _ _ => rfl) (by rw [← h, cellsOfList, llen_eq, hnl, Nat.zero_add])
      · rw [hy]; rfl
      · intro q hq
        rw [Nat.zero_add] at hq
        rw [cellAt_ofList new [] q (by omega), List.nil_append]
        obtain ⟨u, a1, a2⟩ := hln.get (i := q) (List.getElem?_eq_getElem (by omega))
        exact ⟨u, a1, a2⟩
  · rename_i id off
    split at h
    · rename_i c kk zz e' g fz ho
      cases hb : Nat.ble (off + len * size) kk with
      | false => rw [hb] at h; cases h
      | true =>
        rw [hb] at h
        simp only [cond_true] at h
        have hbk : off + len * size ≤ kk := ble_iff.1 hb
        have hadd : (len + n) * size = len * size + n * size := Nat.add_mul _ _ _
        -- a new block, for a slice that lies in one
        have fresh2 : ∀ (cap' : Nat) (base' : Option Addr) (old' : List Value) (fz2 : Nat × Nat) (Hd : AHeap), y = .slice base' len cap' → cap' < len + n →
            (Builtin.firstCells size len y).run E.P w.drew = .ok old'.toArray w.drew → LRel m (listAt c zz off (len * size)) old' → (fz2.1 ≤ fz2.2 → fz2.2 ≤ (len + n) * size) →
            Rel m n0 Hd w → Hd.next = H.next → (∀ id, m id = none → id < H.next → Hd.get id = H.get id) →
            H' = Hd.new (.cells (wrT (cond (Nat.beq off 0) c (T.ofList (listAt c zz off (len * size)) 0 .leaf)) (len * size) new) (len * size + llen new) (cond (Nat.beq off 0) zz []) e size fz2) →
            Out E m n0 H w (do pure (.value (← Builtin.append_ ts ty args))) K := by
          intro cap' base' old' fz2 Hd hy hcap' hold hlo hfz hd hnx hun heq
          refine fresh base' cap' old' _ _ fz2 Hd hy hcap' hold (by rw [← hlo.length, listAt_length]) (fun q hq => cells_both hlo hln q (by omega)) hfz hd hnx hun ?_
          rw [heq, llen_eq, hnl, hadd]
        obtain ⟨i, hi, hcase⟩ := hs.sl_inv
        -- what the old row holds
        have hold : ∃ (base' : Option Addr) (cap' : Nat) (old' : List Value), y = .slice base' len cap' ∧ (Builtin.firstCells size len y).run E.P w.drew = .ok old'.toArray w.drew ∧ LRel m (listAt c zz off (len * size)) old' ∧
            (cap' < len + n ∨ (y = .slice (some ⟨i.blk, i.sh + off, none⟩) len cap' ∧ cap' = cap + i.extra ∧ i.k = off + cap * i.es ∧ 0 < i.extra ∧ ∀ j v, old'[j]? = some v → w.cell? ((⟨i.blk, i.sh + off, none⟩ : Addr).add j) = some v)) := by
          rcases hcase with ⟨_, hy⟩ | ⟨rfl, rfl, p, hy⟩
          · obtain ⟨l', a1, a2, a3⟩ := cells_row_h (E := E) hR hi ho hbk
            refine ⟨_, _, l', hy, by rw [hy]; exact a1 _ rfl, a2, ?_⟩
            unfold EInfo.more
            by_cases hk : i.k = off + cap * i.es
            · rw [if_pos hk]
              by_cases hx : i.extra = 0
              · exact .inl (by omega)
              · refine .inr ⟨?_, rfl, hk, by omega, a3⟩
                rw [hy]; unfold EInfo.more; rw [if_pos hk]
            · rw [if_neg hk]; exact .inl (by omega)
          · refine ⟨_, _, [], hy, by rw [hy]; simp [Builtin.firstCells, loadCells, loadCellsFrom], ?_, .inl (by omega)⟩
            rw [Nat.zero_mul, listAt_zero]; exact .nil
        obtain ⟨base', cap', old', hy, hold, hlo, hcap'⟩ := hold
        obtain ⟨c', fz', hw1, hcr⟩ := cells_at hR hi ho
        cases hb1 : (Nat.beq g 0 || (Nat.beq g size && !Nat.beq (off + cap * size) kk)) with
        | true =>
          rw [hb1] at h
          simp only [cond_true, Option.some.injEq] at h
          refine fresh2 cap' base' old' _ H hy ?_ hold hlo (fun _ => Nat.zero_le _) hR rfl (fun _ _ _ => rfl) h.symm
          rcases hcap' with hc | ⟨_, hc, hk, hx, _⟩
          · exact hc
          · exfalso
            simp only [Bool.or_eq_true, Bool.and_eq_true, Bool.not_eq_true', beq_iff] at hb1
            rcases hb1 with hg0 | ⟨hgs, hne⟩
            · have := (hcr.plain hg0).1; omega
            · obtain ⟨_, q1, q2, _, _⟩ := hcr.grows (by omega)
              have : Nat.beq (off + cap * size) kk = true := by
                rw [beq_iff]; rw [q2, hgs] at hk; omega
              rw [this] at hne; cases hne
        | false =>
          rw [hb1] at h
          simp only [cond_false] at h
          cases hb2 : (Nat.beq e' e && (Nat.beq g size && Nat.ble fz.2 (off + len * size) && (Nat.beq off 0 || Nat.beq fz.2 0))) with
          | false => rw [hb2] at h; cases h
          | true =>
            rw [hb2] at h
            simp only [cond_true, Option.some.injEq] at h
            simp only [Bool.and_eq_true, Bool.or_eq_true, beq_iff, ble_iff] at hb2
            obtain ⟨hee, ⟨hgs, hf1⟩, hf2⟩ := hb2
            subst hee
            have hfz : fz.1 ≤ fz.2 → fz.2 ≤ (len + n) * size := fun _ => by omega
            rcases hcap' with hc | ⟨hy', hc, hk, hx, hcells⟩
            · exact fresh2 cap' base' old' fz (H.set id .dead) hy hc hold hlo hfz (hR.kill id) rfl (fun id' a1 _ => by
                rw [AHeap.get_set, if_neg]; intro e; subst e; rw [hi] at a1; cases a1) h.symm
            · by_cases hlt : cap' < len + n
              · exact fresh2 cap' base' old' fz (H.set id .dead) hy hlt hold hlo hfz (hR.kill id) rfl (fun id' a1 _ => by
                  rw [AHeap.get_set, if_neg]; intro e; subst e; rw [hi] at a1; cases a1) h.symm
              · -- there is room that was not known of
                obtain ⟨q0, q1, q2, q3, q4⟩ := hcr.grows (by omega)
                have hks : kk = off + cap * size := by rw [q2, hgs] at hk; omega
                have hcs : cap' * size = cap * size + i.extra * size := by rw [hc, Nat.add_mul]
                have hle : (len + n) * size ≤ cap' * size := Nat.mul_le_mul_right _ (by omega)
                rw [q2, hgs] at q3 q4
                have hnf : ∀ q, off + len * size ≤ off + q → off + q < kk + i.extra * size → ¬ frz fz' (i.sh + (off + q)) := by
                  intro q h1 h2 hf
                  by_cases hq : off + q < kk
                  · have := hcr.froz (off + q) hq hf
                    unfold frz at this; omega
                  · exact q4 (off + q) (by omega) h2 hf
                have hcell : ∀ q, q < new'.length → (w.cell? ⟨i.blk, i.sh + off + len * size + 0 + q, none⟩).isSome = true := by
                  intro q hq
                  rw [cell?_of hw1, Array.getElem?_eq_getElem (by omega)]; rfl
                have hfr : ∀ q, q < new'.length → w.frozen? ⟨i.blk, i.sh + off + len * size + 0 + q, none⟩ = false := by
                  intro q hq
                  refine frozen_frz hw1 ?_
                  have := hnf (len * size + q) (by omega) (by omega)
                  rw [show i.sh + off + len * size + 0 + q = i.sh + (off + (len * size + q)) by omega]
                  exact this
                have hst := run_storeCells_cells (P := E.P) i.blk (i.sh + off + len * size) new' 0 w hcell hfr (hln.oneCell hok)
                have hr := run_append_room_any (P := E.P) (ty := ty) (i := ti) ht0 (hE.u _ _ hu) hti hz (news := new') (w := w) (base := some ⟨i.blk, i.sh + off, none⟩) (sLen := len) (sCap := cap') (by rw [ha0, hy']) ha1 hlen (by rw [hts]; exact hnew _ rfl) (by omega) (by
                  simp only [addr_add, hts]; exact hst)
                simp only [Nat.add_zero] at hr
                obtain ⟨c2, h6, h7, h8⟩ := setCells_one new' (i.sh + off + len * size) w c' hw1 (by omega)
                have hlow := (hR.low id i hi).1 q0
                have hfr := hR.fresh
                have hidlt := (hR.dom id i hi).1
                refine ⟨_, H', m.put H.next { blk := i.blk, sh := i.sh + off, k := (len + n) * size, es := size, extra := cap' - (len + n), ro := false }, .value (.slice (some ⟨i.blk, i.sh + off, none⟩) (len + n) cap'), _, hK,
                  by simp only [Sem.run_bind, hr, Result.andThen_ok, Sem.run_pure], .inl ⟨_, rfl, ?_⟩, ?_, Emb.le_put hfr, h6.below hlow, ?_, by rw [← h]; simp⟩
                · have := VRel.sl (m := m.put H.next { blk := i.blk, sh := i.sh + off, k := (len + n) * size, es := size, extra := cap' - (len + n), ro := false }) H.next 0 (len + n) (len + n) _ (Emb.put_same _ _ _) (Nat.le_refl _)
                  simp only [EInfo.more, Nat.zero_add, if_true, Nat.add_zero] at this
                  rw [show len + n + (cap' - (len + n)) = cap' by omega] at this
                  exact this
                · rw [← h]
                  refine hR.turn hi q0 ⟨_, ho, by intro hd; cases hd⟩ rfl rfl (.cells _ _ _ _ _ _ c2 fz' ?_) h6
                  have hxs : (cap' - (len + n)) * size = cap' * size - (len + n) * size := Nat.sub_mul _ _ _
                  rw [llen_eq, hnl, ← hadd]
                  have hlow2 : i.sh + off + cap' * size ≤ c'.size := by omega
                  refine ⟨by rw [h7]; show i.sh + off + (len + n) * size ≤ c'.size; omega, fun q hq => ?_, fun q hq hf => ?_, fun h => by omega, fun _ => ⟨rfl, rfl, rfl, ?_, fun q a1 a2 hf => ?_⟩, fun _ hf => ⟨hfz hf, ?_, fun q hq => ?_⟩, fun h => by cases h⟩
                  · obtain ⟨u, a1, a2⟩ := cells_both hlo hln q (by omega)
                    have hlol : old'.length = len * size := by rw [← hlo.length, listAt_length]
                    refine ⟨u, ?_, a2.mono (Emb.le_put hfr)⟩
                    show c2[i.sh + off + q]? = some u
                    rw [h8]
                    by_cases hq2 : len * size ≤ q
                    · rw [if_pos (by omega), show i.sh + off + q - (i.sh + off + len * size) = q - old'.length by omega, ← List.getElem?_append_right (by omega)]
                      exact a1
                    · rw [if_neg (by omega)]
                      rw [List.getElem?_append_left (by omega)] at a1
                      have := hcells q u a1
                      rw [addr_add, cell?_of hw1] at this
                      exact this
                  · show frz fz q
                    have hf' : frz fz' (i.sh + (off + q)) := by rw [show i.sh + (off + q) = i.sh + off + q by omega]; exact hf
                    by_cases hq2 : off + q < kk
                    · have := hcr.froz (off + q) hq2 hf'
                      unfold frz at this ⊢
                      rcases hf2 with hf2 | hf2
                      · subst hf2; simpa using this
                      · omega
                    · exact absurd hf' (q4 _ (by omega) (by omega))
                  · show i.sh + off + (len + n) * size + (cap' - (len + n)) * size ≤ c2.size
                    rw [h7, hxs]; omega
                  · have a2' : q < (len + n) * size + (cap' - (len + n)) * size := a2
                    rw [hxs] at a2'
                    exact hnf q (by omega) (by omega) (by rw [show i.sh + (off + q) = i.sh + off + q by omega]; exact hf)
                  · exact (hcr.inside q0 hf).2.1
                  · obtain ⟨b1, b2⟩ := (hcr.inside q0 hf).2.2 q hq
                    have := hcr.froz (q - i.sh) (by omega) (by rw [show i.sh + (q - i.sh) = q by omega]; exact hq)
                    show i.sh + off ≤ q ∧ q < i.sh + off + (len + n) * size
                    unfold frz at this
                    rcases hf2 with hf2 | hf2
                    · omega
                    · omega
                · intro id' a1 a2
                  refine ⟨by unfold Emb.put; rw [if_neg (by omega)]; exact a1, ?_⟩
                  rw [← h, AHeap.get_new, AHeap.next_set, if_neg (by omega), AHeap.get_set, if_neg]
                  intro e; subst e; rw [hi] at a1; cases a1
    · cases h
  · cases h

theorem rd_some {c : T Value} {n : Nat} {z : List Value} {off k : Nat} {l : List Value} (h : rd c n z off k = some l) : off + k ≤ n ∧ l = listAt c z off k := by
  unfold rd at h
  cases hb : Nat.ble (off + k) n with
  | false => rw [hb] at h; cases h
  | true => rw [hb] at h; cases h; exact ⟨ble_iff.1 hb, rfl⟩

omit hR in
theorem cond_f {b : Bool} {r : RA} {H : AHeap} {s x : Value} {p : Value × AHeap} (h : (cond b r raNone).f H s x = some p) : b = true ∧ r.f H s x = some p := by
  cases b with
  | true => exact ⟨rfl, h⟩
  | false => cases h

include hE hR in
theorem aappend_sound {ts : Array TypeId} {args : Array Value} {ty t : TypeId} {s x y y' : Value} {K : VK} (ht0 : ts[0]? = some t) (ha0 : args[0]? = some y) (ha1 : args[1]? = some y') (hs : VRel m s y) (hx : VRel m x y')
    (h : aVs ((aappend E t ts[1]?).f H s x) K) : Out E m n0 H w (do pure (.value (← Builtin.append_ ts ty args))) K := by
  unfold aVs at h
  split at h
  · rename_i v H' hq
    unfold aappend at hq
    split at hq
    · rename_i e hu
      split at hq
      · rename_i size by_ z hsz hby hzz
        obtain ⟨hb, hq2⟩ := cond_f hq
        clear hq
        rename _ => hq
        · simp only [Bool.and_eq_true, beq_iff, llen_eq] at hb
          simp only at hq
          obtain ⟨⟨⟨⟨hb1, hb2⟩, hb3⟩, hb4⟩, hb5⟩ := hb
          have h0 := blt_lt hb2
          have hz : NoInt E.P ts[1]? := by
            intro xt hxt
            rw [hxt] at hb1
            simp only at hb1
            cases hd : E.u xt with
            | none => rw [hd] at hb1; cases hb1
            | some d => exact ⟨d, hE.u _ _ hd, fun k e => by subst e; rw [hd] at hb1; cases hb1⟩
          split at hq
          · rename_i base len cap n hal
            split at hq
            · cases hq
            · rename_i new haf
              have hlen := fun w => alen_sound (E := E) hx hal w
              obtain ⟨new', hnew, hln⟩ := afirst_sound (E := E) hR hx hal (Nat.le_refl n) haf
              cases hb6 : (lall cellOk new && Nat.beq (llen new) (n * size)) with
              | false => rw [hb6] at hq; cases hq
              | true =>
                rw [hb6] at hq
                simp only [cond_true] at hq
                simp only [Bool.and_eq_true, beq_iff, llen_eq, lall_iff] at hb6
                obtain ⟨hok, hnl⟩ := hb6
                obtain ⟨ti, hti, htz⟩ := hE.z e z hzz
                have hts : ti.size = size := by
                  obtain ⟨i2, a1, a2⟩ := hE.sz e size hsz
                  rw [hti] at a1; cases a1; exact a2
                cases hb7 : Nat.ble (len + n) cap with
                | true =>
                  rw [hb7] at hq
                  simp only [cond_true] at hq
                  have hle := ble_iff.1 hb7
                  split at hq
                  · cases hq
                    have hy := hs.nilsl_inv
                    have hr := run_append_room_any (P := E.P) (ty := ty) (i := ti) ht0 (hE.u _ _ hu) hti hz (news := new') (w := w) (base := none) (sLen := len) (sCap := cap) (by rw [ha0, hy]) ha1 hlen (by rw [hts]; exact hnew _ rfl) hle rfl
                    refine ⟨_, H, m, _, w, h, by simp only [Sem.run_bind, hr, Result.andThen_ok, Sem.run_pure], .inl ⟨_, rfl, .sc _ rfl⟩, hR, Emb.le_refl m, Below.refl _ _, Untouched.refl _ _, Nat.le_refl _⟩
                  · rename_i id off
                    split at hq
                    · rename_i H2 hp
                      cases hq
                      obtain ⟨i, hi, hcase⟩ := hs.sl_inv
                      obtain ⟨w', h1, h2, h3, h4, h5, _⟩ := putCells_sound (E := E) hR hp hi hln
                      have hfin : ∀ (a : Addr) (cap' : Nat), y = .slice (some a) len cap' → len + n ≤ cap' → (storeCells (a.add (len * size)) new').run E.P w = .ok () w' →
                          VRel m (.slice (some ⟨id, off, none⟩) (len + n) cap) (.slice (some a) (len + n) cap') → Out E m n0 H w (do pure (.value (← Builtin.append_ ts ty args))) K := by
                        intro a cap' hy hle' hst hv
                        have hr := run_append_room_any (P := E.P) (ty := ty) (i := ti) ht0 (hE.u _ _ hu) hti hz (news := new') (w := w) (base := some a) (sLen := len) (sCap := cap') (by rw [ha0, hy]) ha1 hlen (by rw [hts]; exact hnew _ rfl) hle' (by rw [hts]; exact hst)
                        exact ⟨_, H', m, _, w', h, by simp only [Sem.run_bind, hr, Result.andThen_ok, Sem.run_pure], .inl ⟨_, rfl, hv⟩, h2, Emb.le_refl m, h3, Untouched.one hi h5, by omega⟩
                      rcases hcase with ⟨hl, hy⟩ | ⟨rfl, rfl, p, hy⟩
                      · refine hfin _ _ hy (by omega) ?_ (.sl _ _ _ _ _ hi hle)
                        rw [addr_add, Nat.add_assoc]; exact h1
                      · have hn0 : n = 0 := by omega
                        subst hn0
                        have hne : new' = [] := List.eq_nil_of_length_eq_zero (by have := hln.length; omega)
                        subst hne
                        have hww : w' = w := by
                          have h1' : (storeCells ⟨i.blk, i.sh + (off + 0 * size), none⟩ []).run E.P w = .ok () w := rfl
                          rw [h1'] at h1
                          injection h1 with _ h1
                          exact h1.symm
                        subst hww
                        exact hfin p 0 hy (Nat.le_refl _) rfl (.sl0 _ _ _ hi _)
                    · cases hq
                  · cases hq
                | false =>
                  rw [hb7] at hq
                  simp only [cond_false] at hq
                  have hgt : cap < len + n := by
                    rcases Nat.lt_or_ge cap (len + n) with hh | hh
                    · exact hh
                    · rw [ble_iff.2 hh] at hb7; cases hb7
                  cases hb8 : Nat.ble (len + n) 4294967296 with
                  | false => rw [hb8] at hq; cases hq
                  | true =>
                    rw [hb8] at hq
                    simp only [cond_true] at hq
                    split at hq
                    · rename_i H2 hgr
                      cases hq
                      exact agrow_sound hE hR ht0 hu hsz hby hzz hz h0 hb4 hb3 (ble_iff.1 hb5) hs ha0 ha1 hlen hnew hln hok hnl hgt (ble_iff.1 hb8) hgr h
                    · cases hq
          · cases hq
      · cases hq
    · cases hq
  · exact h.elim

include hE hR in
theorem acopy_sound {ts : Array TypeId} {args : Array Value} {ty t : TypeId} {s x y y' : Value} {K : VK} (ht0 : ts[0]? = some t) (ha0 : args[0]? = some y) (ha1 : args[1]? = some y') (hs : VRel m s y) (hx : VRel m x y')
    (h : aVs ((acopy E t).f H s x) K) : Out E m n0 H w (do pure (.value (← Builtin.copy_ ts ty args))) K := by
  unfold aVs at h
  split at h
  · rename_i v H' hq
    unfold acopy at hq
    split at hq
    · rename_i e hu
      split at hq
      · rename_i size hsz
        simp only at hq
        split at hq
        · rename_i base dl cap xl hal
          split at hq
          · rename_i new haf
            have hlen := fun w => alen_sound (E := E) hx hal w
            obtain ⟨new', hnew, hln⟩ := afirst_sound (E := E) hR hx hal (Nat.min_le_left xl dl) haf
            have hnew' := hnew w rfl
            split at hq
            · cases hq
              have hy := hs.nilsl_inv
              refine ⟨_, H, m, .value (goInt (Nat.min xl dl)), w, h, ?_, .inl ⟨_, rfl, .sc _ rfl⟩, hR, Emb.le_refl m, Below.refl _ _, Untouched.refl _ _, Nat.le_refl _⟩
              simp [Builtin.copy_, ht0, ha0, ha1, hy, run_u hE hu, run_sz hE hsz, hlen, hnew']
            · rename_i id off
              split at hq
              · rename_i H2 hp
                cases hq
                obtain ⟨i, hi, hcase⟩ := hs.sl_inv
                obtain ⟨w', h1, h2, h3, h4, h5, _⟩ := putCells_sound (E := E) hR hp hi hln
                have hfin : ∀ (a : Addr) (cap' : Nat), y = .slice (some a) dl cap' → (storeCells a new').run E.P w = .ok () w' → Out E m n0 H w (do pure (.value (← Builtin.copy_ ts ty args))) K := by
                  intro a cap' hy hst
                  refine ⟨_, H', m, .value (goInt (Nat.min xl dl)), w', h, ?_, .inl ⟨_, rfl, .sc _ rfl⟩, h2, Emb.le_refl m, h3, Untouched.one hi h5, by omega⟩
                  simp [Builtin.copy_, ht0, ha0, ha1, hy, run_u hE hu, run_sz hE hsz, hlen, hnew', hst]
                rcases hcase with ⟨hl, hy⟩ | ⟨rfl, rfl, p, hy⟩
                · exact hfin _ _ hy h1
                · have hne : new' = [] := by
                    have e1 : (Nat.min xl 0) = 0 := Nat.min_zero xl
                    rw [e1] at haf
                    have e3 : new = [] := by
                      unfold afirst at haf
                      split at haf
                      · split at haf
                        · rw [(rd_some haf).2, Nat.zero_mul, listAt_zero]
                        · cases haf
                      · cases haf; rfl
                      · cases haf
                        simp
                      · cases haf
                    subst e3
                    exact List.eq_nil_of_length_eq_zero hln.length.symm
                  subst hne
                  have hww : w' = w := by
                    have h1' : (storeCells ⟨i.blk, i.sh + off, none⟩ []).run E.P w = .ok () w := rfl
                    rw [h1'] at h1
                    injection h1 with _ h1
                    exact h1.symm
                  subst hww
                  exact hfin p 0 hy rfl
              · cases hq
            · cases hq
          · cases hq
        · cases hq
      · cases hq
    · cases hq
  · exact h.elim

end
end Go.Ai
