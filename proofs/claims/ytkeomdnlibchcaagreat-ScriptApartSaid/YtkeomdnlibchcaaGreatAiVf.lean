/-
  A slice of numbers that is handed in; no condition.
-/
import Derived.Test.YtkeomdnlibchcaaGreatAiVe
import Derived.ChangeSlices
namespace Go.Ai
open Go.RowKit (Below)
section
variable {P : Program}
theorem okWide_block {w : World} {r : Go.Reach} {base : Nat} {t e : TypeId} {a : Addr} {len cap : Nat} (ht : P.underlying t = some (.slice e)) (h : Value.okWide P w r base t (.slice (some a) len cap)) :
    a.spot = none ∧ ∃ c u fz, w.heap[a.block]? = some (.cells c u fz) := by
  simp only [Value.okWide, ht, Cell.okWide, Cell.ok] at h
  obtain ⟨_, _, _, h1, row, cells, h2, _⟩ := h
  refine ⟨h1, ?_⟩
  unfold World.shape? at h2
  split at h2
  · rename_i c u fz hc; exact ⟨c, u, fz, hc⟩
  · cases h2

/-- A slice of numbers of the caller's. -/
theorem ints_arg {m : Emb} {H : AHeap} {w : World} (hR : Rel m w.heap.size H w) {k : IntKind} {a : Addr} {len cap : Nat} {zs : List Int} {c : Array Value} {u : TypeId} {fz : Nat × Nat} (hsp : a.spot = none) (hb : w.heap[a.block]? = some (.cells c u fz))
    (hl : len ≤ cap) (hz : zs.length = cap) (hc : ∀ i, i < zs.length → w.cell? (a.add i) = some (.int k (zs.getD i 0))) :
    ∃ m' H' v, Rel m' w.heap.size H' w ∧ m.le m' ∧ VRel m' v (.slice (some a) len cap) ∧ Arr H' v ((zs.take len).map (Value.int k)) ∧ (∀ j, j ≠ H.next → H'.get j = H.get j) ∧ H'.next = H.next + 1 := by
  obtain ⟨b, off, spot⟩ := a
  cases hsp
  have hfresh := hR.fresh
  rcases Nat.eq_zero_or_pos cap with h0 | h0
  · subst h0
    obtain rfl : len = 0 := by omega
    obtain rfl : zs = [] := List.length_eq_zero_iff.1 hz
    have hR' := hR.ro (sh := 0) (vs := []) hb (fun j v h => by simp at h) (fun v h => by simp at h) (fun _ => rfl)
    refine ⟨_, _, .slice (some ⟨H.next, 0, none⟩) 0 0, hR', Emb.le_put hfresh, .sl0 _ _ _ (Emb.put_same _ _ _) _, ?_, fun j hj => by rw [AHeap.get_new, if_neg hj], rfl⟩
    exact .row H.next 0 0 [] [] u 0 (0, 1) (row_list [] []) rfl (fun j v h => by simp at h)
  · have hcell : ∀ j v, (zs.map (Value.int k))[j]? = some v → c[off + j]? = some v := by
      intro j v hj
      rw [List.getElem?_map] at hj
      cases hzj : zs[j]? with
      | none => rw [hzj] at hj; cases hj
      | some z =>
        rw [hzj] at hj
        cases hj
        have hlt := (List.getElem?_eq_some_iff.1 hzj).1
        have h1 := hc j hlt
        have hadd : (Addr.add ⟨b, off, none⟩ j) = ⟨b, off + j, none⟩ := by
          unfold Addr.add
          split
          · rename_i h; subst h; rfl
          · rfl
        rw [hadd] at h1
        unfold World.cell? at h1
        have hb' : w.heap[b]? = some (.cells c u fz) := hb
        simp only [hb'] at h1
        have h2 : c[off + j]? = some (.int k (zs.getD j 0)) := h1
        rw [h2, List.getD_eq_getElem?_getD, hzj]; rfl
    have hne : zs.map (Value.int k) = [] → off = 0 := fun h => by
      have := congrArg List.length h
      simp at this
      subst this
      simp at hz
      omega
    have hR' := hR.ro (sh := off) (vs := zs.map (Value.int k)) hb hcell (fun v h => by obtain ⟨z, _, rfl⟩ := List.mem_map.1 h; rfl) hne
    refine ⟨_, _, .slice (some ⟨H.next, 0, none⟩) len cap, hR', Emb.le_put hfresh, ?_, ?_, fun j hj => by rw [AHeap.get_new, if_neg hj], rfl⟩
    · have h := VRel.sl (m := m.put H.next ⟨b, off, (zs.map (Value.int k)).length, 1, 0, true⟩) H.next 0 len cap _ (Emb.put_same _ _ _) hl
      have e : (⟨b, off, (zs.map (Value.int k)).length, 1, 0, true⟩ : EInfo).more 0 cap = 0 := by unfold EInfo.more; split <;> rfl
      rw [e] at h
      exact h
    · refine .row H.next len cap (zs.map (Value.int k)) _ u 0 (0, (zs.map (Value.int k)).length + 1) ?_ (by simp; omega) (fun j v h => ?_)
      · have := row_list (H := H) (e := u) (g := 0) (fz := (0, (zs.map (Value.int k)).length + 1)) (zs.map (Value.int k)) []
        unfold cellsOfList
        rw [llen_eq]
        exact this
      · have hj := (List.getElem?_eq_some_iff.1 h).1
        simp at hj
        rw [List.getElem?_map, List.getElem?_take_of_lt (by omega)] at h
        rw [List.getElem?_map]
        exact h
end
end Go.Ai
