/-
  A string of bytes that lie somewhere: what the evaluator does is what the model does; no condition.
-/
import Derived.Test.YtkeomdnlibchcaaGreatAiS
import Derived.Lib.UnsafeStr
namespace Go.Ai
open Go.RowKit (Below)

section
variable {E : Env} (hE : E.Ok) {m : Emb} {n0 : Nat} {H : AHeap} {w : World}

theorem liesAt_off {P : Program} {e : TypeId} (hc : P.cellsOf e = 1) (count off n : Nat) (hn : off + n ≤ count) : liesAt P P.depth e count off e n = true := by
  have hd : P.depth = (2 * (P.types.size + Made.depth) + 1) + 1 := rfl
  rw [hd]
  simp only [liesAt, Bool.or_eq_true]
  left
  rw [hd]
  simp [rowAt, hc, hn, sameLayout, Nat.mod_one]

theorem run_loadBytes_ints {P : Program} {w : World} : ∀ (l : List Int) (a : Addr) (acc : ByteArray), (∀ j x, l[j]? = some x → w.cell? (a.add j) = some (.int .u8 x)) →
    (loadBytes a acc l.length).run P w = .ok (l.foldl (fun r n => r.push (UInt8.ofNat n.toNat)) acc) w
  | [], a, acc, _ => by simp [loadBytes]
  | x :: l, a, acc, h => by
    have h0 : w.cell? a = some (.int .u8 x) := by
      have := h 0 x rfl
      simpa [Addr.add] using this
    have ih := run_loadBytes_ints (P := P) l (a.add 1) (acc.push (UInt8.ofNat x.toNat)) (fun j y hy => by
      have := h (j + 1) y (by simpa using hy)
      rw [show (a.add 1).add j = a.add (j + 1) from by simp only [Addr.add]; split <;> simp_all [Addr.add] <;> omega]
      exact this)
    simp only [List.length_cons, loadBytes, Sem.run_bind, run_load, h0, List.foldl_cons]
    exact ih
theorem run_unsafeString_any {P : Program} {ts : Array TypeId} {ty pt e : TypeId} {k : IntKind} {b o n : Nat} {l : List Int} {cells : Nat} (ht : ts[0]? = some pt) (hp : P.underlying pt = some (.pointer e)) (hc : P.cellsOf e = 1)
    (hsh : w.shape? b = some (e, cells)) (hl : l.length = n) (h0 : n ≠ 0) (hn : o + n ≤ cells) (h63 : n < 2 ^ 62) (hcell : ∀ j x, l[j]? = some x → w.cell? ((⟨b, o, none⟩ : Addr).add j) = some (.int .u8 x)) :
    (Builtin.unsafeString_ ts ty #[.pointer (some ⟨b, o, none⟩), .int k n]).run P w = .ok (.string (l.foldl (fun r n => r.push (UInt8.ofNat n.toNat)) .empty)) (w.freeze ⟨b, o, none⟩ n) := by
  have hlb := run_loadBytes_ints (P := P) (w := w) l ⟨b, o, none⟩ .empty hcell
  rw [hl] at hlb
  have hlies := liesAt_off (P := P) hc (cells / P.cellsOf e) o n (by rw [hc]; simpa using hn)
  have hmax : IntKind.i64.max = 9223372036854775807 := rfl
  have h63' : ¬ (9223372036854775807 : Int) < (n : Int) := by omega
  have hneg : ¬ (n : Int) < 0 := by omega
  delta Builtin.unsafeString_
  delta Builtin.unsafeString_.match_3
  dsimp only [Array.casesOn, Array.getLit]
  simp [ht, asInt, asIntOf, hmax, h63', hneg, h0, variablesAt, hsh, elemOf, run_underlying hp, hlies, hlb]

theorem freeze_one {w : World} {b o n : Nat} {c : Array Value} {e : TypeId} {fz : Nat × Nat} (h : w.heap[b]? = some (.cells c e fz)) (h0 : n ≠ 0) :
    OneBlock b (.cells c e (if fz.1 = fz.2 then (o, o + n) else (min fz.1 o, max fz.2 (o + n)))) w (w.freeze ⟨b, o, none⟩ n) := by
  obtain ⟨lo, hi⟩ := fz
  unfold World.freeze
  rw [if_neg h0]
  refine ⟨rfl, rfl, rfl, by simp, ?_, fun k hk => ?_⟩
  · show (w.heap.modify b _)[b]? = _
    rw [Array.getElem?_modify, if_pos rfl, h]
    simp
  · show (w.heap.modify b _)[k]? = _
    rw [Array.getElem?_modify, if_neg (Ne.symm hk)]

theorem frozen_rel {m : Emb} {i : EInfo} {c : T Value} {k : Nat} {z : List Value} {g : Nat} {fz fz' : Nat × Nat} {c' : Array Value} (h : CellsRel m i c k z g fz c' fz') {off n : Nat} (h0 : n ≠ 0) (hn : off + n ≤ k) (h1 : fz.1 ≤ fz.2) (h2 : fz.2 ≤ k) :
    i.ro = false ∧ CellsRel m i c k z g (if fz.1 = fz.2 then (off, off + n) else (min fz.1 off, max fz.2 (off + n))) c' (if fz'.1 = fz'.2 then (i.sh + off, i.sh + off + n) else (min fz'.1 (i.sh + off), max fz'.2 (i.sh + off + n))) := by
  have hro : i.ro = false := by
    cases hr : i.ro with
    | false => rfl
    | true =>
      have := h.isro hr
      rw [this] at h2
      simp only at h2
      omega
  obtain ⟨_, i1, i2⟩ := h.inside hro h1
  have key : ∀ p, frz (if fz'.1 = fz'.2 then (i.sh + off, i.sh + off + n) else (min fz'.1 (i.sh + off), max fz'.2 (i.sh + off + n))) p →
      i.sh ≤ p ∧ p < i.sh + k ∧ frz (if fz.1 = fz.2 then (off, off + n) else (min fz.1 off, max fz.2 (off + n))) (p - i.sh) := by
    intro p hp
    by_cases he : fz'.1 = fz'.2
    · rw [if_pos he] at hp
      unfold frz at hp ⊢
      simp only at hp
      by_cases hf : fz.1 = fz.2
      · rw [if_pos hf]; simp only; omega
      · rw [if_neg hf]; simp only; omega
    · rw [if_neg he] at hp
      have hlo := i2 fz'.1 ⟨Nat.le_refl _, by omega⟩
      have hhi := i2 (fz'.2 - 1) ⟨by omega, by omega⟩
      have f1 := h.froz (fz'.1 - i.sh) (by omega) ⟨by omega, by omega⟩
      have f2 := h.froz (fz'.2 - 1 - i.sh) (by omega) ⟨by omega, by omega⟩
      unfold frz at hp f1 f2 ⊢
      simp only at hp
      rw [if_neg (by omega)]
      simp only
      omega
  refine ⟨hro, h.room, h.cell, fun j hj hf => ?_, h.plain, fun hg => ?_, fun _ _ => ⟨?_, ?_, fun p hp => ⟨(key p hp).1, (key p hp).2.1⟩⟩, fun hr => by rw [hro] at hr; cases hr⟩
  · have := (key _ hf).2.2
    rwa [Nat.add_sub_cancel_left] at this
  · obtain ⟨a1, a2, a3, a4, a5⟩ := h.grows hg
    exact ⟨a1, a2, a3, a4, fun j hj _ hf => by have := (key _ hf).2.1; omega⟩
  · by_cases hf : fz.1 = fz.2
    · rw [if_pos hf]; exact hn
    · rw [if_neg hf]; simp only; omega
  · by_cases hf : fz'.1 = fz'.2
    · rw [if_pos hf]; simp only; omega
    · rw [if_neg hf]; simp only; omega


include hE in
theorem astring_sound {ts : Array TypeId} {args : Array Value} {ty t : TypeId} {p n y y' : Value} {K : VK} (hR : Rel m n0 H w) (ht : ts[0]? = some t) (ha : args = #[y, y']) (hp : VRel m p y) (hn : VRel m n y')
    (h : aVs (astring E H t p n) K) : Out E m n0 H w (do pure (.value (← Builtin.unsafeString_ ts ty args))) K := by
  subst ha
  have empty : ∀ (q : Option Addr) (k : IntKind), (Builtin.unsafeString_ ts ty #[.pointer q, .int k 0]).run E.P w = .ok (.string .empty) w := by
    intro q k
    have hmax : IntKind.i64.max = 9223372036854775807 := rfl
    cases q with
    | none =>
      delta Builtin.unsafeString_
      delta Builtin.unsafeString_.match_3
      dsimp only [Array.casesOn, Array.getLit]
      simp [ht, asInt, asIntOf, hmax]
    | some a =>
      delta Builtin.unsafeString_
      delta Builtin.unsafeString_.match_3
      dsimp only [Array.casesOn, Array.getLit]
      simp [ht, asInt, asIntOf, hmax]
  have emptyOut : ∀ (q : Option Addr) (k : IntKind), y = .pointer q → y' = .int k 0 → K (.string .empty) H → Out E m n0 H w (do pure (.value (← Builtin.unsafeString_ ts ty #[y, y']))) K := by
    intro q k h1 h2 hK
    subst h1; subst h2
    exact ⟨_, H, m, .value (.string .empty), w, hK, by simp only [Sem.run_bind, empty, Result.andThen_ok, Sem.run_pure], .inl ⟨_, rfl, .sc _ rfl⟩, hR, Emb.le_refl m, Below.refl _ _, Untouched.refl _ _, Nat.le_refl _⟩
  unfold aVs at h
  split at h
  · rename_i v H' hq
    unfold astring at hq
    split at hq
    · rename_i hn0
      cases hq
      obtain ⟨k, rfl⟩ := nat?_some hn0
      exact emptyOut none k hp.nilptr_inv hn.int_inv h
    · rename_i id off nn hnn
      obtain ⟨k, rfl⟩ := nat?_some hnn
      obtain ⟨i, hi, hy⟩ := hp.ptr_inv
      have hy' := hn.int_inv
      split at hq
      · rename_i h0
        cases hq
        subst h0
        exact emptyOut _ k hy hy' h
      · rename_i h0
        split at hq
        · rename_i c kk z e g fz u ho hu
          split at hq
          · rename_i hcond
            obtain ⟨rfl, hc1, hf1, hf2, h62⟩ := hcond
            split at hq
            · rename_i l hl
              cases hb : bytesOf? l with
              | none => rw [hb] at hq; cases hq
              | some bs =>
                rw [hb] at hq
                cases hq
                obtain ⟨hle, rfl⟩ := rd_some hl
                obtain ⟨ns, e1, e2⟩ := bytesOf_ints hb
                obtain ⟨l', _, a2, a3⟩ := cells_row_h (E := E) hR hi ho hle
                rw [e1] at a2
                have := a2.eq_of_scalars (scalars_ints _ _)
                subst this
                obtain ⟨c', fz', hw, hcr⟩ := cells_at hR hi ho
                have hnl : ns.length = nn := by
                  have := congrArg List.length e1
                  rw [listAt_length] at this
                  simpa using this.symm
                obtain ⟨hro, hrel⟩ := frozen_rel hcr h0 hle hf1 hf2
                have hone := freeze_one (o := i.sh + off) hw h0
                have hrun := run_unsafeString_any (P := E.P) (w := w) (ts := ts) (ty := ty) (k := k) (b := i.blk) (o := i.sh + off) (l := ns) (cells := c'.size) ht (hE.u _ _ hu) hc1 (by simp [World.shape?, hw]) hnl h0 (by have := hcr.room; omega) h62
                  (fun j x hj => a3 j _ (by rw [List.getElem?_map, hj]; rfl))
                refine ⟨_, _, m, .value (.string ⟨⟨bs⟩⟩), _, h, ?_, .inl ⟨_, rfl, .sc _ rfl⟩, hR.set hi hro ⟨_, ho, by intro hd; cases hd⟩ (.cells _ _ _ _ _ _ _ _ hrel) hone, Emb.le_refl m, hone.below ((hR.low id i hi).1 hro),
                  Untouched.one hi fun id' hne => by rw [AHeap.get_set, if_neg hne], Nat.le_refl _⟩
                have hyy : y' = .int k (nn : Int) := hy'
                rw [hy, hyy]
                simp only [Sem.run_bind, hrun, Result.andThen_ok, Sem.run_pure]
                rw [foldl_push_ints, e2]
                rfl
            · cases hq
          · cases hq
        · cases hq
    · cases hq
  · exact h.elim

include hE in
theorem strOk : E.StrOk := ⟨fun hR hx h => aconvBytes_sound hE hR hx h, fun hR h1 h2 h3 h4 h5 => astring_sound hE hR h1 h2 h3 h4 h5⟩
end
end Go.Ai
