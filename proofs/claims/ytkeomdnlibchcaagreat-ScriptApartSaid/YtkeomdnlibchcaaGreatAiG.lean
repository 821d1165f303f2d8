/-
  What the evaluator makes and writes is what the model makes and writes (blocks, stores, maps); no condition.
-/
import Derived.Test.YtkeomdnlibchcaaGreatAiF
import Derived.Laws.MakeOwn
namespace Go.Ai
open Go.RowKit (Below)

/-- A world in which one block is another one, and all else as it was. -/
structure OneBlock (b : Nat) (o : Obj) (w w' : World) : Prop where
  os : w'.os = w.os
  tape : w'.tape = w.tape
  output : w'.output = w.output
  size : w'.heap.size = w.heap.size
  here : w'.heap[b]? = some o
  other : ∀ k, k ≠ b → w'.heap[k]? = w.heap[k]?

/-- A world with one block more. -/
structure MoreBlock (o : Obj) (w w' : World) : Prop where
  os : w'.os = w.os
  tape : w'.tape = w.tape
  output : w'.output = w.output
  heap : w'.heap = w.heap.push o

theorem OneBlock.below {b n0 : Nat} {o : Obj} {w w' : World} (h : OneBlock b o w w') (hb : n0 ≤ b) : Below n0 w w' :=
  ⟨h.os, h.tape, h.output, Nat.le_of_eq h.size.symm, fun k hk => h.other k (by omega)⟩
theorem MoreBlock.below {n0 : Nat} {o : Obj} {w w' : World} (h : MoreBlock o w w') (hb : n0 ≤ w.heap.size) : Below n0 w w' :=
  ⟨h.os, h.tape, h.output, by rw [h.heap]; simp, fun k hk => by rw [h.heap, Array.getElem?_push, if_neg (by omega)]⟩
theorem Below.same_heap {n0 : Nat} {w w' : World} (h1 : w'.os = w.os) (h2 : w'.tape = w.tape) (h3 : w'.output = w.output) (h4 : w'.heap = w.heap) : Below n0 w w' :=
  ⟨h1, h2, h3, by rw [h4]; exact Nat.le_refl _, fun k _ => by rw [h4]⟩

section
variable {m : Emb} {n0 : Nat} {H : AHeap} {w : World}

/-- One object, and its block, are others. -/
theorem Rel.set (hR : Rel m n0 H w) {id : Nat} {i : EInfo} {x : AObj} {o' : Obj} {w' : World} (hi : m id = some i) (hro : i.ro = false) (hl : H.live id)
    (hx : ORel m i x o') (hw : OneBlock i.blk o' w w') : Rel m n0 (H.set id x) w' := by
  have hlive : ∀ id', (H.set id x).live id' → H.live id' := by
    rintro id' ⟨o, h1, h2⟩
    rw [AHeap.get_set] at h1
    by_cases e : id' = id
    · subst e; exact hl
    · rw [if_neg e] at h1; exact ⟨o, h1, h2⟩
  refine ⟨by rw [hw.size]; exact hR.size, fun id' i' h => by rw [hw.size]; exact hR.dom id' i' h, hR.low, fun id' i' o h1 h2 => ?_, fun id1 id2 i1 i2 h1 h2 h3 h4 => hR.inj id1 id2 i1 i2 h1 h2 (hlive _ h3) (hlive _ h4)⟩
  rw [AHeap.get_set] at h2
  by_cases e : id' = id
  · subst e
    rw [if_pos rfl] at h2
    cases h2
    rw [hi] at h1; cases h1
    exact ⟨o', hw.here, hx⟩
  · rw [if_neg e] at h2
    obtain ⟨q, h3, h4⟩ := hR.obj id' i' o h1 h2
    by_cases hb : i'.blk = i.blk
    · by_cases hd : o = .dead
      · subst hd
        exact ⟨o', by rw [hb]; exact hw.here, .dead _⟩
      · cases hr : i'.ro with
        | false => exact absurd (hR.inj id' id i' i h1 hi ⟨o, h2, hd⟩ hl hr hro hb) e
        | true =>
          have := (hR.low id' i' h1).2 hr
          have := (hR.low id i hi).1 hro
          omega
    · exact ⟨q, by rw [hw.other _ hb]; exact h3, h4⟩

/-- A new object, that nothing of the model stands for yet. -/
theorem Rel.pend (hR : Rel m n0 H w) (x : AObj) : Rel m n0 (H.new x) w := by
  have hne : ∀ id i, m id = some i → id ≠ H.next := fun id i h e => by have := (hR.dom id i h).1; omega
  refine ⟨hR.size, fun id i h => ⟨by have := (hR.dom id i h).1; simp; omega, (hR.dom id i h).2⟩, hR.low, fun id i o h1 h2 => ?_, fun id1 id2 i1 i2 h1 h2 h3 h4 => ?_⟩
  · rw [AHeap.get_new, if_neg (hne id i h1)] at h2
    exact hR.obj id i o h1 h2
  · have hlive : ∀ id i, m id = some i → (H.new x).live id → H.live id := by
      rintro id i h ⟨o, e1, e2⟩
      rw [AHeap.get_new, if_neg (hne id i h)] at e1
      exact ⟨o, e1, e2⟩
    exact hR.inj id1 id2 i1 i2 h1 h2 (hlive _ _ h1 h3) (hlive _ _ h2 h4)

/-- .. and now does: a new block. -/
theorem Rel.add (hR : Rel m n0 H w) {id : Nat} {i : EInfo} {x : AObj} {o' : Obj} {w' : World} (hm : m id = none) (hid : id < H.next) (hx : H.get id = some x) (hb : i.blk = w.heap.size) (hro : i.ro = false)
    (ho : ORel (m.put id i) i x o') (hw : MoreBlock o' w w') : Rel (m.put id i) n0 H w' := by
  have hle : m.le (m.put id i) := Emb.le_put hm
  have hsz : w'.heap.size = w.heap.size + 1 := by rw [hw.heap]; simp
  refine ⟨by rw [hsz]; have := hR.size; omega, fun id' i' h => ?_, fun id' i' h => ?_, fun id' i' o h1 h2 => ?_, fun id1 id2 i1 i2 h1 h2 h3 h4 h5 h6 h7 => ?_⟩
  · unfold Emb.put at h
    by_cases e : id' = id
    · rw [if_pos e] at h; cases h; subst e; exact ⟨hid, by omega⟩
    · rw [if_neg e] at h; have := hR.dom id' i' h; exact ⟨this.1, by omega⟩
  · unfold Emb.put at h
    by_cases e : id' = id
    · rw [if_pos e] at h; cases h; exact ⟨fun _ => by rw [hb]; exact hR.size, fun hr => by rw [hro] at hr; cases hr⟩
    · rw [if_neg e] at h; exact hR.low id' i' h
  · unfold Emb.put at h1
    by_cases e : id' = id
    · rw [if_pos e] at h1; cases h1; subst e
      rw [hx] at h2; cases h2
      exact ⟨o', by rw [hw.heap, hb]; simp, ho⟩
    · rw [if_neg e] at h1
      obtain ⟨q, h3, h4⟩ := hR.obj id' i' o h1 h2
      refine ⟨q, ?_, h4.mono hle⟩
      rw [hw.heap, Array.getElem?_push, if_neg (by have := (hR.dom id' i' h1).2; omega)]
      exact h3
  · unfold Emb.put at h1 h2
    by_cases e1 : id1 = id
    · by_cases e2 : id2 = id
      · rw [e1, e2]
      · rw [if_pos e1] at h1; rw [if_neg e2] at h2; cases h1
        have := (hR.dom id2 i2 h2).2
        omega
    · by_cases e2 : id2 = id
      · rw [if_neg e1] at h1; rw [if_pos e2] at h2; cases h2
        have := (hR.dom id1 i1 h1).2
        omega
      · rw [if_neg e1] at h1; rw [if_neg e2] at h2
        exact hR.inj id1 id2 i1 i2 h1 h2 h3 h4 h5 h6 h7

theorem Emb.put_same (m : Emb) (id : Nat) (i : EInfo) : (m.put id i) id = some i := if_pos rfl
theorem Rel.fresh (hR : Rel m n0 H w) : m H.next = none := by
  cases h : m H.next with
  | none => rfl
  | some i => have := (hR.dom _ _ h).1; omega
/-- Nothing that was there, and that nothing stood for, is touched. -/
def Untouched (m m' : Emb) (H H' : AHeap) : Prop := ∀ id, m id = none → id < H.next → m' id = none ∧ H'.get id = H.get id
theorem Untouched.refl (m : Emb) (H : AHeap) : Untouched m m H H := fun _ h _ => ⟨h, rfl⟩

/-! ### making -/
theorem cellsOfList_at (l : List Value) (i : Nat) (h : i < l.length) : cellAt (T.ofList l 0 .leaf) [] i = l[i] := cellAt_ofList l [] i h

/-- A new row of cells. -/
theorem cellsRel_list {i : EInfo} (hsh : i.sh = 0) (hx : i.extra = 0) (hro : i.ro = false) {l : List Value} {l' : Array Value} (hl : LRel m l l'.toList) : CellsRel m i (T.ofList l 0 .leaf) (llen l) [] 0 (0, 0) l' (0, 0) where
  room := by rw [llen_eq, hsh]; have := hl.length; simp at this; omega
  cell := fun j hj => by
    rw [llen_eq] at hj
    rw [cellsOfList_at l j hj, hsh, Nat.zero_add]
    obtain ⟨v', h1, h2⟩ := hl.get (List.getElem?_eq_getElem hj)
    exact ⟨v', by simpa using h1, h2⟩
  froz := fun j _ h => by simp [frz] at h
  plain := fun _ => ⟨hx, fun _ => ⟨hsh, by rw [llen_eq]; have := hl.length; simp at this; exact this.symm⟩⟩
  grows := fun h => by cases h
  inside := fun _ _ => ⟨Nat.zero_le _, Nat.le_refl _, fun j h => by simp [frz] at h⟩
  isro := fun h => by rw [hro] at h; cases h

/-- .. of zero values. -/
theorem cellsRel_zero {i : EInfo} (hsh : i.sh = 0) (hx : i.extra = 0) (hro : i.ro = false) {z : List Value} {n : Nat} {l' : Array Value} (hs : l'.size = n) (hz : ∀ j, j < n → ∃ v, z[j % z.length]? = some v ∧ scalar v = true ∧ l'[j]? = some v) :
    CellsRel m i .leaf n z 0 (0, 0) l' (0, 0) where
  room := by rw [hsh]; omega
  cell := fun j hj => by
    obtain ⟨v, h1, h2, h3⟩ := hz j hj
    rw [cellAt_leaf, h1, hsh, Nat.zero_add]
    exact ⟨v, h3, .sc _ h2⟩
  froz := fun j _ h => by simp [frz] at h
  plain := fun _ => ⟨hx, fun _ => ⟨hsh, hs⟩⟩
  grows := fun h => by cases h
  inside := fun _ _ => ⟨Nat.zero_le _, Nat.le_refl _, fun j h => by simp [frz] at h⟩
  isro := fun h => by rw [hro] at h; cases h

/-- Where a new block lies. -/
def EInfo.at (b : Nat) : EInfo := { blk := b, sh := 0, k := 0, es := 0, extra := 0, ro := false }

theorem vcells_scalar {z : Value} (h : scalar z = true) : z.cells.toList = vcells z ∧ scalars (vcells z) = true := by
  cases z with
  | agg a => obtain ⟨a⟩ := a; exact ⟨rfl, by simpa [scalar, vcells] using h⟩
  | chan r => cases r <;> simp [scalar] at h
  | _ => exact ⟨rfl, by simp only [vcells, scalars, h, Bool.and_self]⟩

end

section make
variable {E : Env} (hE : E.Ok) {m : Emb} {n0 : Nat} {H : AHeap} {w : World} {a : AAct} {ρ : Operand → Value} (ha : EvRel m a ρ)

/-- What an operation makes: a block, and a value that names it. -/
def Makes (E : Env) (m : Emb) (id : Nat) (w : World) (s : Sem Value) (v : Value) (x : AObj) : Prop :=
  ∃ v' o' w', s.run E.P w = .ok v' w' ∧ MoreBlock o' w w' ∧ ∀ m', m.le m' → m' id = some (EInfo.at w.heap.size) → VRel m' v v' ∧ ORel m' (EInfo.at w.heap.size) x o'

theorem newRow_more (P : Program) (w : World) (t : TypeId) (c : Array Value) : ∃ w', (newRow t c).run P w = .ok ⟨w.heap.size, 0, none⟩ w' ∧ MoreBlock (.cells c t) w w' :=
  ⟨{ w with heap := w.heap.push (.cells c t) }, by simp [newRow], ⟨rfl, rfl, rfl, rfl⟩⟩

theorem ptr_here {m' : Emb} {id b : Nat} (h : m' id = some (EInfo.at b)) : VRel m' (.pointer (some ⟨id, 0, none⟩)) (.pointer (some ⟨b, 0, none⟩)) := .ptr id 0 _ h
theorem sl_here {m' : Emb} {id b : Nat} (h : m' id = some (EInfo.at b)) {l c : Nat} (hl : l ≤ c) : VRel m' (.slice (some ⟨id, 0, none⟩) l c) (.slice (some ⟨b, 0, none⟩) l c) := by
  have := VRel.sl (m := m') id 0 l c _ h hl
  have e : (EInfo.at b).more 0 c = 0 := by unfold EInfo.more; split <;> rfl
  rw [e] at this
  exact this

theorem rep_get (z : List Value) (hz : 0 < z.length) : ∀ (n j : Nat), j < n * z.length → (Nat.rec (motive := fun _ => List Value) [] (fun _ ih => lapp z ih) n)[j]? = z[j % z.length]? := by
  intro n
  induction n with
  | zero => intro j h; simp at h
  | succ n ih =>
    intro j h
    show (lapp z _)[j]? = _
    rw [lapp_eq]
    by_cases hj : j < z.length
    · rw [List.getElem?_append_left hj, Nat.mod_eq_of_lt hj]
    · have e : (n + 1) * z.length = n * z.length + z.length := Nat.succ_mul _ _
      rw [List.getElem?_append_right (by omega), ih (j - z.length) (by omega), ← Nat.mod_eq_sub_mod (by omega)]
theorem rep_len (z : List Value) : ∀ n : Nat, (Nat.rec (motive := fun _ => List Value) [] (fun _ ih => lapp z ih) n : List Value).length = n * z.length := by
  intro n
  induction n with
  | zero => show ([] : List Value).length = _; simp
  | succ n ih =>
    show (lapp z _).length = _
    rw [lapp_eq, List.length_append, ih, Nat.succ_mul, Nat.add_comm]

theorem range_get (z : Array Value) (n j : Nat) (hz : 0 < z.size) (h : j < n) : ((Array.range n).map (z[· % z.size]!))[j]? = z.toList[j % z.toList.length]? := by
  have : j % z.size < z.size := Nat.mod_lt _ hz
  simp [h, this]

include hE ha in
theorem amake_sound (o : Oper) {v : Value} {x : AObj} (h : amake E a H o = some (v, x)) :
    ∃ s : Sem Value, execOp ρ o = (do pure (.value (← s))) ∧ Makes E m H.next w s v x := by
  obtain ⟨dst, op, type, pos, after, guard⟩ := o
  unfold amake at h
  cases op with
  | alloc t =>
    refine ⟨_, rfl, ?_⟩
    simp only [rmake] at h
    cases hz : E.z t with
    | none => simp [hz, rmNone] at h
    | some z =>
      simp only [hz] at h
      cases hs : scalar z with
      | false => simp [hs, rmNone] at h
      | true =>
        simp only [hs, cond_true, Option.some.injEq, Prod.mk.injEq] at h
        obtain ⟨rfl, rfl⟩ := h
        obtain ⟨w', h1, h2⟩ := newRow_more E.P w t z.cells
        refine ⟨_, _, w', by simp [Instr.alloc, run_z hE hz, newVar, h1], h2, fun m' _ hm => ⟨ptr_here hm, .cells _ _ _ _ _ _ _ _ ?_⟩⟩
        obtain ⟨e1, e2⟩ := vcells_scalar hs
        rw [llen_eq]
        refine cellsRel_zero rfl rfl rfl (by rw [← e1]; simp) fun j hj => ?_
        rw [Nat.mod_eq_of_lt hj]
        refine ⟨(vcells z)[j], List.getElem?_eq_getElem hj, (scalars_iff _).1 e2 _ (List.getElem_mem _), ?_⟩
        rw [← Array.getElem?_toList, e1, List.getElem?_eq_getElem hj]
  | box t y =>
    refine ⟨_, rfl, ?_⟩
    simp only [rmake] at h
    have hy := ha y
    cases hs : sane ((rv y).f a) with
    | false => rw [hs] at h; cases h
    | true =>
      rw [hs] at h
      simp only [cond_true, Option.some.injEq, Prod.mk.injEq] at h
      obtain ⟨rfl, rfl⟩ := h
      obtain ⟨w', h1, h2⟩ := newRow_more E.P w t (ρ y).cells
      exact ⟨_, _, w', by simp [Instr.box, newVar, h1], h2, fun m' hle hm => ⟨ptr_here hm, .cells _ _ _ _ _ _ _ _ (cellsRel_list rfl rfl rfl ((hy.mono hle).cells hs))⟩⟩
  | buildSlice t len ps =>
    refine ⟨_, rfl, ?_⟩
    simp only [rmake] at h
    split at h
    · rename_i e hu
      split at h
      · rename_i n z hs hz
        cases hb : (Nat.blt 0 n && Nat.ble (len * n) 1048576 && Nat.beq (llen (vcells z)) n && scalar z) with
        | false => rw [hb] at h; simp [rmNone] at h
        | true =>
          rw [hb] at h
          simp only [cond_true] at h
          simp only [Bool.and_eq_true, blt_iff, ble_iff, beq_iff, llen_eq] at hb
          obtain ⟨⟨⟨hn, hle⟩, hzn⟩, hzs⟩ := hb
          obtain ⟨e1, e2⟩ := vcells_scalar hzs
          have hzsz : z.cells.size = n := by rw [← Array.length_toList, e1, hzn]
          split at h
          · rename_i l hl
            simp only [Option.some.injEq, Prod.mk.injEq] at h
            obtain ⟨rfl, rfl⟩ := h
            have hps : PsRel m (ps.toList.map fun p => (p.1, ev a p.2)) (ps.map fun (i, x) => (i, ρ x)).toList := by
              have := PsRel.of ha ps.toList
              simpa using this
            have hz0 : LRel m (Nat.rec (motive := fun _ => List Value) [] (fun _ ih => lapp (vcells z) ih) len : List Value) ((Array.range (len * n)).map (z.cells[· % z.cells.size]!)).toList := by
              refine LRel.of (by rw [rep_len]; simp [hzn]) fun j h1 h2 => ?_
              have h3 := rep_get (vcells z) (by omega) len j (by rw [rep_len] at h1; exact h1)
              have h4 := range_get z.cells (len * n) j (by omega) (by simpa using h2)
              rw [List.getElem?_eq_getElem h1] at h3
              rw [← Array.getElem?_toList, List.getElem?_eq_getElem h2, e1] at h4
              have h5 : (Nat.rec (motive := fun _ => List Value) [] (fun _ ih => lapp (vcells z) ih) len : List Value)[j] = ((Array.range (len * n)).map (z.cells[· % z.cells.size]!)).toList[j] := Option.some.inj (h3.trans h4.symm)
              rw [← h5]
              refine .sc _ ((scalars_iff _).1 e2 _ (List.mem_of_getElem? h3.symm))
            generalize (ps.map fun (i, x) => (i, ρ x)) = ps' at hps ⊢
            obtain ⟨l', h1, h2⟩ := fillL_sound hps hz0 hl
            obtain ⟨w', h3, h4⟩ := newRow_more E.P w e l'
            refine ⟨.slice (some ⟨w.heap.size, 0, none⟩) len len, _, w', ?_, h4, fun m' hle' hm => ⟨sl_here hm (Nat.le_refl _), .cells _ _ _ _ _ _ _ _ (cellsRel_list rfl rfl rfl (h2.mono hle'))⟩⟩
            have hnot : ¬ (len * n > 2 ^ 24) := by
              have : (2:Nat) ^ 24 = 16777216 := rfl
              omega
            simp only [Instr.buildSlice, Sem.run_bind, run_u hE hu, Result.andThen_ok, run_sz hE hs, if_neg hnot]
            by_cases h0 : len * n = 0
            · have hlen : len = 0 := by
                rcases Nat.mul_eq_zero.1 h0 with h | h
                · exact h
                · omega
              subst hlen
              have : ((Array.range 0).map (z.cells[· % z.cells.size]!)) = #[] := by simp
              rw [h0, this] at h1
              simp only [h0, if_true, pure_bind]
              have h5 : ((Array.range 0).map ((#[] : Array Value)[· % (#[] : Array Value).size]!)) = #[] := by simp
              rw [h5, h1]
              simp only [Sem.run_bind, h3, Result.andThen_ok]
              rfl
            · simp only [if_neg h0, Sem.run_bind, run_z hE hz, Result.andThen_ok, pure_bind, bind_assoc]
              rw [h1]
              simp only [Sem.run_bind, h3, Result.andThen_ok]
              rfl
          · cases h
      · simp [rmNone] at h
    · simp [rmNone] at h
  | makeSlice t l c =>
    refine ⟨_, rfl, ?_⟩
    simp only [rmake] at h
    split at h
    · rename_i e hu
      split at h
      · rename_i n z by_ hs hz hby
        cases hb : (Nat.blt 0 n && Nat.beq (llen (vcells z)) n && scalar z) with
        | false => rw [hb] at h; simp [rmNone] at h
        | true =>
          rw [hb] at h
          simp only [cond_true] at h
          simp only [Bool.and_eq_true, blt_iff, beq_iff, llen_eq] at hb
          obtain ⟨⟨hn, hzn⟩, hzs⟩ := hb
          obtain ⟨e1, e2⟩ := vcells_scalar hzs
          have hzsz : z.cells.size = n := by rw [← Array.length_toList, e1, hzn]
          split at h
          · rename_i lv cv hl hc
            cases hb2 : (Nat.ble lv cv && Nat.ble cv 1099511627776 && Nat.ble (by_ * cv) 70368744177664) with
            | false => rw [hb2] at h; cases h
            | true =>
              rw [hb2] at h
              simp only [cond_true, Option.some.injEq, Prod.mk.injEq] at h
              obtain ⟨rfl, rfl⟩ := h
              simp only [Bool.and_eq_true, ble_iff] at hb2
              obtain ⟨⟨h5, h6⟩, h7⟩ := hb2
              obtain ⟨k, hk⟩ := nat?_some hl
              obtain ⟨k', hk'⟩ := nat?_some hc
              have hl' := ha l; have hc' := ha c
              change ev a l = _ at hk; change ev a c = _ at hk'
              rw [hk] at hl'; rw [hk'] at hc'
              have hl' := hl'.int_inv; have hc' := hc'.int_inv
              rw [hl', hc']
              obtain ⟨ti, hti, hbi⟩ := hE.bytes _ _ hby
              obtain ⟨t2, ht2, hsi⟩ := hE.sz _ _ hs
              obtain ⟨t3, ht3, hzi⟩ := hE.z _ _ hz
              rw [hti] at ht2 ht3; cases ht2; cases ht3
              have hm1 : ((ti.bytes : Int) * (cv : Int)) ≤ 281474976710656 := by
                have : ((ti.bytes * cv : Nat) : Int) ≤ 281474976710656 := by rw [hbi]; omega
                rwa [Int.natCast_mul] at this
              have hrun := run_make (P := E.P) w t e ti z (hE.u _ _ hu) hti hzi k k' lv cv (by omega) (by omega) hm1 (by omega)
              simp only [Int.toNat_natCast, hsi] at hrun
              refine ⟨.slice (some ⟨w.heap.size, 0, none⟩) lv cv, .cells ((Array.range (cv * n)).map (z.cells[· % z.cells.size]!)) e, w.alloc (.cells (madeCells z.cells (cv * n)) e), hrun, ⟨rfl, rfl, rfl, rfl⟩, fun m' hle' hm => ⟨sl_here hm h5, .cells _ _ _ _ _ _ _ _ ?_⟩⟩
              · refine cellsRel_zero rfl rfl rfl (by simp) fun j hj => ?_
                have hlt : j % (vcells z).length < (vcells z).length := Nat.mod_lt _ (by omega)
                refine ⟨(vcells z)[j % (vcells z).length], List.getElem?_eq_getElem hlt, (scalars_iff _).1 e2 _ (List.getElem_mem _), ?_⟩
                rw [range_get z.cells _ j (by omega) hj, e1, List.getElem?_eq_getElem hlt]
          · cases h
      · simp [rmNone] at h
    · simp [rmNone] at h
  | makeMap t r =>
    refine ⟨_, rfl, ?_⟩
    simp only [rmake] at h
    split at h
    · rename_i k e hu
      have hmap : ∀ m' : Emb, m' H.next = some (EInfo.at w.heap.size) → VRel m' (.map (some H.next)) (.map (some w.heap.size)) ∧ ORel m' (EInfo.at w.heap.size) (.map [] 0) (.map #[] 0) :=
        fun m' hm => ⟨.mp _ _ hm, .map _ _ _ .nil rfl⟩
      split at h
      · cases h
        exact ⟨_, _, { w with heap := w.heap.push (.map #[] 0) }, by simp [Instr.makeMap], ⟨rfl, rfl, rfl, rfl⟩, fun m' _ hm => hmap m' hm⟩
      · rename_i q
        simp only at h
        split at h
        · rename_i k n hv
          cases h
          have hq := ha q
          change ev a q = _ at hv
          rw [hv] at hq
          have hq := hq.int_inv
          exact ⟨_, _, { w with heap := w.heap.push (.map #[] 0) }, by simp [Instr.makeMap, hq, run_u hE hu, asInt, asIntOf], ⟨rfl, rfl, rfl, rfl⟩, fun m' _ hm => hmap m' hm⟩
        · cases h
    · simp [rmNone] at h
  | _ => simp [rmake, rmNone] at h
end make
end Go.Ai
