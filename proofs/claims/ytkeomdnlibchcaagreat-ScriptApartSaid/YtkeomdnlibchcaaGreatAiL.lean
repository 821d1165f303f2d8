/-
  The next entry of a map: what the evaluator does is what the model does; no condition.
-/
import Derived.Test.YtkeomdnlibchcaaGreatAiJ
namespace Go.Ai
open Go.RowKit (Below)

section
variable {E : Env} (hE : E.Ok) {m : Emb} {n0 : Nat} {H : AHeap} {w : World} (hR : Rel m n0 H w)

/-! ### the next entry of a map -/
theorem allK_mem {α : Type} {K : α → Prop} : ∀ {l : List α}, allK l K → ∀ x ∈ l, K x
  | [], _, x, hx => by cases hx
  | [y], h, x, hx => by
    have : x = y := by simpa using hx
    subst this; exact h
  | y :: z :: l, h, x, hx => by
    obtain ⟨h1, h2⟩ : K y ∧ allK (z :: l) K := h
    rcases List.mem_cons.1 hx with rfl | hx
    · exact h1
    · exact allK_mem h2 x hx

theorem EsRel.filter {m : Emb} (p : MapEntry → Bool) (hp : ∀ e f : MapEntry, e.born = f.born → p e = p f) : ∀ {a b : List MapEntry}, EsRel m a b → EsRel m (a.filter p) (b.filter p)
  | _, _, .nil => .nil
  | _, _, .cons (e := e) (f := f) hk hv hb t => by
    rw [List.filter_cons, List.filter_cons, ← hp e f hb]
    split
    · exact .cons hk hv hb (EsRel.filter p hp t)
    · exact EsRel.filter p hp t
theorem EsRel.all {m : Emb} (p : MapEntry → Bool) (hp : ∀ e f : MapEntry, e.born = f.born → p e = p f) : ∀ {a b : List MapEntry}, EsRel m a b → b.all p = a.all p
  | _, _, .nil => rfl
  | _, _, .cons (e := e) (f := f) hk hv hb t => by
    rw [List.all_cons, List.all_cons, ← hp e f hb, EsRel.all p hp t]
theorem EsRel.get' {m : Emb} : ∀ {a b : List MapEntry}, EsRel m a b → ∀ {i : Nat} {f : MapEntry}, b[i]? = some f → ∃ e, a[i]? = some e ∧ VRel m e.key f.key ∧ VRel m e.val f.val ∧ e.born = f.born
  | _, _, .cons hk hv hb t, 0, f, h => by cases h; exact ⟨_, rfl, hk, hv, hb⟩
  | _, _, .cons hk hv hb t, i + 1, f, h => by
    obtain ⟨e, h1, h2⟩ := EsRel.get' t (i := i) (by simpa using h)
    exact ⟨e, by simpa using h1, h2⟩

theorem run_getObj_iter {P : Program} {w : World} {r : Nat} {mm : Option Nat} {s : Nat} {seen : Array Nat} {c : Nat} (h : w.heap[r]? = some (.mapIter mm s seen c)) : (getObj r).run P w = .ok (.mapIter mm s seen c) w := by
  simp [getObj, Sem.run, h]
theorem run_setObj_iter {P : Program} {w : World} {r : Nat} {mm : Option Nat} {s : Nat} {seen : Array Nat} {c : Nat} (h : w.heap[r]? = some (.mapIter mm s seen c)) (o : Obj) : (setObj r o).run P w = .ok () { w with heap := w.heap.setIfInBounds r o } := by
  simp [setObj, Sem.run, h]

/-- The candidates. -/
def cands (l : List MapEntry) (seen : Array Nat) (since : Nat) : List (Option MapEntry) :=
  let left := l.filter fun e => !seen.contains e.born
  (if (left.filter (·.born < since)).isEmpty then [none] else []) ++ (left.filter (·.born < since) ++ left.filter (·.born ≥ since)).map some

theorem cand_eq (L : List MapEntry) (seen : Array Nat) (since : Nat) :
    (if ((L.toArray.filter fun e => !seen.contains e.born).filter (fun e => decide (e.born < since))).isEmpty then (#[none] : Array (Option MapEntry)) else #[]) ++
      (((L.toArray.filter fun e => !seen.contains e.born).filter (fun e => decide (e.born < since))) ++ ((L.toArray.filter fun e => !seen.contains e.born).filter (fun e => decide (e.born ≥ since)))).map some = (cands L seen since).toArray := by
  have e1 : (L.toArray.filter fun e => !seen.contains e.born) = (L.filter fun e => !seen.contains e.born).toArray := by simp
  rw [e1]
  unfold cands
  generalize (L.filter fun e => !seen.contains e.born) = M
  have e2 : M.toArray.filter (fun e => decide (e.born < since)) = (M.filter (fun e => decide (e.born < since))).toArray := by simp
  have e3 : M.toArray.filter (fun e => decide (e.born ≥ since)) = (M.filter (fun e => decide (e.born ≥ since))).toArray := by simp
  simp only [e2, e3]
  generalize (M.filter fun e => decide (e.born < since)) = A
  generalize (M.filter fun e => decide (e.born ≥ since)) = B
  simp only [List.isEmpty_toArray, List.append_toArray, List.map_toArray]
  cases A.isEmpty <;> simp only [Bool.false_eq_true, if_false, if_true, List.append_toArray, List.nil_append] <;> rfl

theorem cands_pos (L : List MapEntry) (seen : Array Nat) (since : Nat) : 0 < (cands L seen since).length := by
  unfold cands
  generalize (L.filter fun e => !seen.contains e.born) = M
  simp only
  generalize (M.filter fun e => decide (e.born < since)) = A
  cases A with
  | nil => simp
  | cons a A => simp

theorem cands_rel {m : Emb} {a b : List MapEntry} (h : EsRel m a b) (seen : Array Nat) (since : Nat) : ∀ (j : Nat) (c' : Option MapEntry), (cands b seen since)[j]? = some c' →
    ∃ c, (cands a seen since)[j]? = some c ∧ ((c = none ∧ c' = none) ∨ ∃ e f : MapEntry, c = some e ∧ c' = some f ∧ VRel m e.key f.key ∧ VRel m e.val f.val ∧ e.born = f.born) := by
  have h1 := h.filter (fun e => !seen.contains e.born) (fun e f hb => by rw [hb])
  have h2 := h1.filter (fun e => decide (e.born < since)) (fun e f hb => by rw [hb])
  have h3 := h1.filter (fun e => decide (e.born ≥ since)) (fun e f hb => by rw [hb])
  unfold cands
  simp only
  generalize List.filter (fun e => decide (e.born < since)) (List.filter (fun e => !seen.contains e.born) a) = A at *
  generalize List.filter (fun e => decide (e.born < since)) (List.filter (fun e => !seen.contains e.born) b) = A' at *
  generalize List.filter (fun e => decide (e.born ≥ since)) (List.filter (fun e => !seen.contains e.born) a) = B at *
  generalize List.filter (fun e => decide (e.born ≥ since)) (List.filter (fun e => !seen.contains e.born) b) = B' at *
  have h4 := h2.append h3
  have hem : A'.isEmpty = A.isEmpty := by cases h2 <;> rfl
  rw [hem]
  intro j c' hj
  have hsome : ∀ k : Nat, ((A' ++ B').map some)[k]? = some c' → ∃ c, ((A ++ B).map some)[k]? = some c ∧ ((c = none ∧ c' = none) ∨ ∃ e f : MapEntry, c = some e ∧ c' = some f ∧ VRel m e.key f.key ∧ VRel m e.val f.val ∧ e.born = f.born) := by
    intro k hk
    rw [List.getElem?_map] at hk
    cases hf : (A' ++ B')[k]? with
    | none => rw [hf] at hk; cases hk
    | some f =>
      rw [hf] at hk
      cases hk
      obtain ⟨e, q1, q2, q3, q4⟩ := h4.get' hf
      exact ⟨some e, by rw [List.getElem?_map, q1]; rfl, .inr ⟨e, f, rfl, rfl, q2, q3, q4⟩⟩
  cases hA : A.isEmpty with
  | false =>
    rw [hA] at hj
    simp only [Bool.false_eq_true, if_false, List.nil_append] at hj ⊢
    exact hsome j hj
  | true =>
    rw [hA] at hj
    simp only [if_true] at hj ⊢
    cases j with
    | zero => simp only [List.cons_append, List.getElem?_cons_zero, Option.some.injEq] at hj ⊢; exact ⟨none, rfl, .inl ⟨rfl, hj.symm⟩⟩
    | succ j => simp only [List.cons_append, List.nil_append, List.getElem?_cons_succ] at hj ⊢; exact hsome j hj

/-- The step, as the model makes it. -/
theorem run_next_any {P : Program} {w w1 : World} {r bm since last clock k : Nat} {seen : Array Nat} {A : Array MapEntry} {ty : TypeId} (hr : w.heap[r]? = some (.mapIter (some bm) since seen last)) (hb : w.heap[bm]? = some (.map A clock))
    (hcheck : (!seen.isEmpty && !A.isEmpty && A.all (fun e => decide (e.born ≥ last))) = false)
    (hrun : (choose (Question.mapNext (cands A.toList seen since).length)).run P w = .ok k w1) {c : Option MapEntry} (hc : (cands A.toList seen since)[k]? = some c) :
    (Instr.next (.pointer (some ⟨r, 0, none⟩)) false ty).run P w =
      (match c with
        | some e => (do setObj r (.mapIter (some bm) since (seen.push e.born) clock); pure (.tuple #[.bool true, e.key, e.val]) : Sem Value)
        | none => pure (.tuple #[.bool false])).run P w1 := by
  have h1 : (getObj r).run P w = .ok (.mapIter (some bm) since seen last) w := run_getObj_iter hr
  have h2 : (getObj bm).run P w = .ok (.map A clock) w := run_getObj_map hb
  have h3 := cand_eq A.toList seen since
  simp only [Array.toArray_toList] at h3
  unfold Instr.next
  simp only [Sem.run_bind, h1, h2, Result.andThen_ok, hcheck, Bool.false_eq_true, if_false, h3, List.size_toArray, hrun, List.getElem?_toArray, hc]
  cases c <;> rfl

theorem run_choose_next (P : Program) (w : World) (n : Nat) (hp : 0 < n) : ∃ (k : Nat) (w1 : World), k < n ∧ w1.heap = w.heap ∧ w1.os = w.os ∧ w1.tape = w.tape ∧ w1.output = w.output ∧ (choose (Question.mapNext n)).run P w = .ok k w1 := by
  by_cases hf : n ≤ 1
  · exact ⟨0, w, hp, rfl, rfl, rfl, rfl, by simp [choose, Sem.run, Question.forced, hf]⟩
  · exact ⟨_, w.drew, Nat.mod_lt _ hp, rfl, rfl, rfl, rfl, by
      simp only [choose, Sem.run, Question.forced, decide_eq_true_eq, hf, if_false, Question.cut]
      rfl⟩

include hR in
theorem anext_sound {it : RV} {a : AAct} {y : Value} {ty : TypeId} {K : VK} (hx : VRel m (it.f a) y) (h : anext it a H K) : Out E m n0 H w (do pure (.value (← Instr.next y false ty))) K := by
  unfold anext at h
  split at h
  · rename_i id hxv
    rw [hxv] at hx
    obtain ⟨i, hi, rfl⟩ := hx.ptr_inv
    split at h
    · rename_i since seen last ho
      obtain ⟨o', h1, h2⟩ := hR.obj id i _ hi ho
      cases h2 with
      | mapIter _ mm' _ _ _ q1 q2 q3 q4 =>
        have := q2 rfl
        subst this
        refine ⟨_, H, m, .value (.tuple #[.bool false]), w, h, ?_, .inl ⟨_, rfl, .sc _ rfl⟩, hR, Emb.le_refl m, Below.refl _ _, Untouched.refl _ _, Nat.le_refl _⟩
        simp only [Instr.next, q4, Nat.add_zero, Sem.run_bind, run_getObj_iter h1, Result.andThen_ok, Sem.run_pure]
    · rename_i mid since seen last ho
      split at h
      · rename_i es clock hm
        obtain ⟨o', h1, h2⟩ := hR.obj id i _ hi ho
        cases h2 with
        | mapIter _ mm' _ _ _ q1 q2 q3 q4 =>
          obtain ⟨j, hj, rfl⟩ := q1 mid rfl
          obtain ⟨es', h3, h4, h5⟩ := map_at hR hj hm
          split at h
          · exact h.elim
          · rename_i hno
            have hcheck : (!seen.isEmpty && !es'.isEmpty && es'.all (fun e => decide (e.born ≥ last))) = false := by
              have e1 : es'.isEmpty = es.isEmpty := by
                obtain ⟨L⟩ := es'
                cases h4 <;> rfl
              have e2 : es'.all (fun e => decide (e.born ≥ last)) = es.all (fun e => decide (e.born ≥ last)) := by
                rw [← Array.all_toList]
                exact h4.all _ (fun e f hb => by rw [hb])
              rw [e1, e2]
              exact Bool.eq_false_iff.2 hno
            obtain ⟨k, w1, hk, g1, g2, g3, g4, hrun⟩ := run_choose_next E.P w _ (cands_pos es'.toList seen since)
            obtain ⟨c, hc1, hc2⟩ := cands_rel h4 seen since k _ (List.getElem?_eq_getElem hk)
            have hK := allK_mem h c (List.mem_of_getElem? hc1)
            rw [q4, Nat.add_zero]
            have hn := run_next_any (P := E.P) (ty := ty) h1 h3 hcheck hrun (List.getElem?_eq_getElem hk)
            rcases hc2 with ⟨rfl, hcn⟩ | ⟨e, f, rfl, hcf, r1, r2, r3⟩
            · rw [hcn] at hn
              exact ⟨_, H, m, .value (.tuple #[.bool false]), w1, hK, by simp only [Sem.run_bind, hn]; rfl, .inl ⟨_, rfl, .sc _ rfl⟩, hR.heap g1, Emb.le_refl m, Below.same_heap g2 g3 g4 g1, Untouched.refl _ _, Nat.le_refl _⟩
            · rw [hcf] at hn
              have hw1 : w1.heap[i.blk]? = some (.mapIter (some j.blk) since seen last) := by rw [g1]; exact h1
              have hone := setObj_one hw1 (.mapIter (some j.blk) since (seen.push f.born) clock)
              have hR1 : Rel m n0 H w1 := hR.heap g1
              refine ⟨_, _, m, .value (.tuple #[.bool true, f.key, f.val]), _, hK, ?_, .inl ⟨_, rfl, .tup _ _ (.cons (.sc _ rfl) (.cons r1 (.cons r2 .nil)))⟩,
                hR1.set hi q3 ⟨_, ho, by intro hd; cases hd⟩ (o' := .mapIter (some j.blk) since (seen.push f.born) clock) ?_ hone, Emb.le_refl m, (Below.same_heap g2 g3 g4 g1).trans (hone.below ((hR.low id i hi).1 q3)),
                Untouched.one hi fun id' hne => by rw [AHeap.get_set, if_neg hne], Nat.le_refl _⟩
              · simp only [Sem.run_bind, hn, run_setObj_iter hw1, Result.andThen_ok, Sem.run_pure]
              · rw [r3]
                exact .mapIter _ _ _ _ _ (fun id' e => by cases e; exact ⟨j, hj, rfl⟩) (fun e => by cases e) q3 q4
      · exact h.elim
    · exact h.elim
  · exact h.elim
end
end Go.Ai
