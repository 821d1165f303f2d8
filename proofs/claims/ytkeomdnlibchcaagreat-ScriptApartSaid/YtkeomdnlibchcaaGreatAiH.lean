/-
  What the evaluator writes is what the model writes (cells, maps, rows that grow); no condition.
-/
import Derived.Test.YtkeomdnlibchcaaGreatAiG
import Derived.Laws.IdiomCopy
namespace Go.Ai
open Go.RowKit (Below)

theorem setCell_one {w : World} {b o : Nat} {c : Array Value} {e : TypeId} {fz : Nat × Nat} (h : w.heap[b]? = some (.cells c e fz)) (v : Value) :
    OneBlock b (.cells (c.setIfInBounds o v) e fz) w (w.setCell ⟨b, o, none⟩ v) := by
  refine ⟨rfl, rfl, rfl, by simp [World.setCell], ?_, fun k hk => ?_⟩
  · simp [World.setCell, Array.getElem?_modify, h]
  · simp only [World.setCell, Array.getElem?_modify]
    rw [if_neg (by omega)]

theorem OneBlock.trans {b : Nat} {o o' : Obj} {w w1 w2 : World} (h : OneBlock b o w w1) (k : OneBlock b o' w1 w2) : OneBlock b o' w w2 :=
  ⟨k.os.trans h.os, k.tape.trans h.tape, k.output.trans h.output, k.size.trans h.size, k.here, fun j hj => (k.other j hj).trans (h.other j hj)⟩

theorem setCells_one {b : Nat} {e : TypeId} {fz : Nat × Nat} : ∀ (vs : List Value) (o : Nat) (w : World) (c : Array Value), w.heap[b]? = some (.cells c e fz) → o + vs.length ≤ c.size →
    ∃ c2, OneBlock b (.cells c2 e fz) w (w.setCells b o vs) ∧ c2.size = c.size ∧ ∀ i, c2[i]? = if o ≤ i ∧ i < o + vs.length then vs[i - o]? else c[i]?
  | [], o, w, c, h, _ => ⟨c, ⟨rfl, rfl, rfl, rfl, h, fun _ _ => rfl⟩, rfl, fun i => by rw [if_neg (by simp)]⟩
  | v :: vs, o, w, c, h, hl => by
    simp only [List.length_cons] at hl
    have h1 := setCell_one (o := o) h v
    obtain ⟨c2, h2, h3, h4⟩ := setCells_one vs (o + 1) _ _ h1.here (by simp; omega)
    refine ⟨c2, by rw [World.setCells]; exact h1.trans h2, by rw [h3]; simp, fun i => ?_⟩
    rw [h4 i]
    by_cases hi : o + 1 ≤ i ∧ i < o + 1 + vs.length
    · rw [if_pos hi, if_pos (by simp; omega)]
      have : i - o = (i - (o + 1)) + 1 := by omega
      rw [this, List.getElem?_cons_succ]
    · rw [if_neg hi, Array.getElem?_setIfInBounds]
      by_cases hio : o = i
      · subst hio
        rw [if_pos rfl, if_pos (by omega), if_pos (by simp)]
        simp
      · rw [if_neg hio, if_neg (by simp; omega)]

section
variable {E : Env} {m : Emb} {n0 : Nat} {H : AHeap} {w : World} (hR : Rel m n0 H w)

theorem frozen_frz {b o : Nat} {c : Array Value} {e : TypeId} {fz : Nat × Nat} (h : w.heap[b]? = some (.cells c e fz)) (hn : ¬ frz fz o) : w.frozen? ⟨b, o, none⟩ = false := by
  obtain ⟨lo, hi⟩ := fz
  simp only [World.frozen?, h]
  cases hb : (decide (lo ≤ o) && decide (o < hi)) with
  | false => rfl
  | true =>
    simp only [Bool.and_eq_true, decide_eq_true_eq] at hb
    exact absurd ⟨hb.1, hb.2⟩ hn

theorem lall_iff (p : Value → Bool) (l : List Value) : lall p l = true ↔ ∀ v ∈ l, p v = true := by rw [lall_eq, List.all_eq_true]

theorem LRel.oneCell {vs vs' : List Value} (hl : LRel m vs vs') (h : ∀ v ∈ vs, cellOk v = true) : ∀ v ∈ vs', v.oneCell' = true := by
  intro v hv
  obtain ⟨i, hi, rfl⟩ := List.mem_iff_getElem.1 hv
  have hi' : i < vs.length := by rw [hl.length]; exact hi
  obtain ⟨u, h1, h2⟩ := hl.get (List.getElem?_eq_getElem hi')
  rw [List.getElem?_eq_getElem hi] at h1
  cases h1
  exact cellOk_one h2 (h _ (List.getElem_mem _))

include hR in
theorem putCells_sound {id off : Nat} {vs vs' : List Value} {H' : AHeap} {i : EInfo} (h : putCells H id off vs = some H') (hi : m id = some i) (hl : LRel m vs vs') :
    ∃ w', (storeCells ⟨i.blk, i.sh + off, none⟩ vs').run E.P w = .ok () w' ∧ Rel m n0 H' w' ∧ Below n0 w w' ∧ H'.next = H.next ∧ (∀ id', id' ≠ id → H'.get id' = H.get id') ∧ w'.drawn = w.drawn := by
  unfold putCells at h
  split at h
  · rename_i c n z e g fz ho
    cases hb : (Nat.ble (off + llen vs) n && lall cellOk vs && (Nat.ble fz.2 off || Nat.ble (off + llen vs) fz.1)) with
    | false => rw [hb] at h; cases h
    | true =>
      rw [hb] at h
      simp only [cond_true, Option.some.injEq] at h
      subst h
      simp only [Bool.and_eq_true, Bool.or_eq_true, ble_iff, llen_eq, lall_iff] at hb
      obtain ⟨⟨h1, h2⟩, h3⟩ := hb
      obtain ⟨c', fz', h4, h5⟩ := cells_at hR hi ho
      have hlen := hl.length
      cases hro : i.ro with
      | true =>
        have efz := h5.isro hro
        rw [efz] at h3
        have hnil : vs = [] := by
          rcases h3 with h3 | h3
          · have h3' : n + 1 ≤ off := h3; omega
          · have h3' : off + vs.length ≤ 0 := h3; exact List.eq_nil_of_length_eq_zero (by omega)
        subst hnil
        have hnil' : vs' = [] := List.eq_nil_of_length_eq_zero (by simpa using hlen.symm)
        subst hnil'
        refine ⟨w, rfl, ?_, Below.refl _ _, rfl, fun id' hne => by rw [AHeap.get_set, if_neg hne], rfl⟩
        have hget : ∀ id', (H.set id (.cells (wrT c off []) n z e g fz)).get id' = H.get id' := by
          intro id'
          rw [AHeap.get_set]
          by_cases hq : id' = id
          · subst hq; rw [if_pos rfl, ho]; rfl
          · rw [if_neg hq]
        have hlive : ∀ id', (H.set id (.cells (wrT c off []) n z e g fz)).live id' → H.live id' := fun id' ⟨o, a, b⟩ => ⟨o, by rw [← hget]; exact a, b⟩
        exact ⟨hR.size, hR.dom, hR.low, fun id' i' o a b => hR.obj id' i' o a (by rw [← hget]; exact b), fun a b c d e f p q => hR.inj a b c d e f (hlive _ p) (hlive _ q)⟩
      | false =>
        have hnf : ∀ j, j < vs'.length → w.frozen? ⟨i.blk, i.sh + off + 0 + j, none⟩ = false := by
          intro j hj
          refine frozen_frz h4 fun hf => ?_
          have := h5.froz (off + j) (by omega) (by rw [show i.sh + (off + j) = i.sh + off + 0 + j by omega]; exact hf)
          unfold frz at this
          omega
        have hc : ∀ j, j < vs'.length → (w.cell? ⟨i.blk, i.sh + off + 0 + j, none⟩).isSome = true := by
          intro j hj
          obtain ⟨v', hv, _⟩ := cellv_at hR hi ho (j := off + j) (by omega)
          rw [show i.sh + off + 0 + j = i.sh + (off + j) by omega, hv]; rfl
        have hrun := run_storeCells_cells (P := E.P) i.blk (i.sh + off) vs' 0 w hc hnf (hl.oneCell h2)
        obtain ⟨c2, h6, h7, h8⟩ := setCells_one vs' (i.sh + off) w c' h4 (by have := h5.room; omega)
        refine ⟨_, hrun, ?_, ?_, rfl, fun id' hne => by rw [AHeap.get_set, if_neg hne], ?_⟩
        · refine hR.set hi hro ⟨_, ho, by intro hd; cases hd⟩ (.cells _ _ _ _ _ _ c2 fz' ?_) h6
          refine ⟨by rw [h7]; exact h5.room, fun j hj => ?_, h5.froz, fun hg => ?_, fun hg => ?_, h5.inside, h5.isro⟩
          · rw [cellAt_wrT, h8]
            by_cases hr : off ≤ j ∧ j < off + vs.length
            · rw [dif_pos hr, if_pos (by omega)]
              obtain ⟨u, e1, e2⟩ := hl.get (i := j - off) (List.getElem?_eq_getElem (by omega))
              exact ⟨u, by rw [show i.sh + j - (i.sh + off) = j - off by omega]; exact e1, e2⟩
            · rw [dif_neg hr, if_neg (by omega)]
              exact h5.cell j hj
          · rw [h7]; exact h5.plain hg
          · rw [h7]; exact h5.grows hg
        · have hlow := (hR.low id i hi).1 hro
          exact h6.below hlow
        · have : ∀ (vs : List Value) (o : Nat) (w : World), (w.setCells i.blk o vs).drawn = w.drawn := by
            intro vs
            induction vs with
            | nil => intro o w; rfl
            | cons v vs ih => intro o w; rw [World.setCells, ih]; rfl
          exact this _ _ _
  · cases h

/-- What an operation that writes comes to. -/
def Out (E : Env) (m : Emb) (n0 : Nat) (H : AHeap) (w : World) (s : Sem Next) (K : VK) : Prop :=
  ∃ v H' m' nx w', K v H' ∧ s.run E.P w = .ok nx w' ∧ ((∃ v', nx = .value v' ∧ VRel m' v v') ∨ (nx = .skip ∧ v = undef)) ∧ Rel m' n0 H' w' ∧ m.le m' ∧ Below n0 w w' ∧ Untouched m m' H H' ∧ H.next ≤ H'.next

theorem sane_of_cellOk {v : Value} (h : ∀ u ∈ vcells v, cellOk u = true) : sane v = true := by
  cases v with
  | chan r => have := h (.chan r) (by simp [vcells]); simp [cellOk] at this
  | _ => rfl

theorem Untouched.one {H' : AHeap} {id : Nat} {i : EInfo} (hi : m id = some i) (h : ∀ id', id' ≠ id → H'.get id' = H.get id') : Untouched m m H H' := by
  intro id' h1 _
  refine ⟨h1, h id' ?_⟩
  intro e; subst e; rw [hi] at h1; cases h1

include hR in
theorem astore_sound (hE : E.Ok) {t : TypeId} {x y v u : Value} {K : VK} (hx : VRel m x y) (hv : VRel m v u) (h : aSt ((astore E t).f H x v) K) : Out E m n0 H w (do Instr.storeAt t y u; pure .skip) K := by
  unfold aSt at h
  split at h
  · rename_i H' hq
    unfold astore at hq
    cases hs : E.sz t with
    | none => simp [hs] at hq
    | some n =>
      simp only [hs] at hq
      split at hq
      · rename_i id off
        cases hb : Nat.beq (llen (vcells v)) n with
        | false => rw [hb] at hq; cases hq
        | true =>
          rw [hb] at hq
          simp only [cond_true] at hq
          obtain ⟨i, hi, rfl⟩ := hx.ptr_inv
          have hok : ∀ u ∈ vcells v, cellOk u = true := by
            unfold putCells at hq
            split at hq
            · rename_i c n z e g fz ho
              cases hb2 : (Nat.ble (off + llen (vcells v)) n && lall cellOk (vcells v) && (Nat.ble fz.2 off || Nat.ble (off + llen (vcells v)) fz.1)) with
              | false => rw [hb2] at hq; cases hq
              | true =>
                simp only [Bool.and_eq_true, lall_iff] at hb2
                exact hb2.1.2
            · cases hq
          have hcs := hv.cells (sane_of_cellOk hok)
          obtain ⟨w', h1, h2, h3, h4, h5, _⟩ := putCells_sound (E := E) hR hq hi hcs
          have hsz : u.cells.size = n := by
            have := hcs.length
            simp at this
            rw [beq_iff, llen_eq] at hb
            omega
          refine ⟨undef, H', m, .skip, w', h, ?_, .inr ⟨rfl, rfl⟩, h2, Emb.le_refl m, h3, Untouched.one hi h5, by omega⟩
          simp [Instr.storeAt, Instr.sureAddr, storeVar, run_sz hE hs, hsz, h1]
      · cases hq
  · exact h.elim
end
end Go.Ai
