/-
  The contract of the reference's Take; no condition.
-/
import Derived.Test.YtkeomdnlibchcaaGreatScT
namespace Go.Proofs.YtkeomdnlibchcaaGreat.scr
open Go.Ai
set_option maxRecDepth 100000

noncomputable def uloop : Code := sub [true, false, true, false] (bodyOf Tryz.f13)
noncomputable def uin : Code := sub [true, false, true, false, false, true, false, false, true, true, false, true, false] (bodyOf Tryz.f13)
noncomputable def utail : Code := sub [true, false, true, false, false, true, false, false, true, true, true] (bodyOf Tryz.f13)

theorem val_drop {l : List UInt8} {n j : Nat} {b : UInt8} (hj : j < n) (hb : l[j]? = some b) : val ((l.take n).drop j) = b.toNat % 128 + 128 * val ((l.take n).drop (j + 1)) := by
  obtain ⟨h1, h2⟩ := List.getElem?_eq_some_iff.1 hb
  rw [List.drop_eq_getElem_cons (by rw [List.length_take]; omega), val, List.getElem_take, h2]

theorem uin_loop {l : List UInt8} {n : Nat} (hn : n ≤ l.length) (hn10 : n ≤ 10) {H : AHeap} {K : CK} : ∀ (j : Nat), j ≤ n →
    (∀ L', lk 0 L' = str l → lk 4 L' = .int .i64 (n : Int) → lk 5 L' = .int .u64 ((val (l.take n) % 18446744073709551616 : Nat) : Int) → K (.exit 2) (fa 46 L' [] false) H) →
    Does Tryz.prog uin (fa 46 [(6, .int .i64 ((j : Int) - 1)), (5, .int .u64 ((val ((l.take n).drop j) % 18446744073709551616 : Nat) : Int)), (4, .int .i64 (n : Int)), (0, str l)] [] false) H K := by
  intro j
  induction j with
  | zero =>
    intro hj hK
    refine Does.loop fits1 ?_
    refine Does.seq fits1 ?_
    refine Does.seq fits1 ?_
    refine Does.region fits1 ?_
    repeat (first | refine Rg.readT (h := ?_) | refine Rg.offT (h := ?_))
    refine Rg.done ?_
    show Does Tryz.prog _ _ _ _
    refine Does.condF fits1 (lk_bool lkT (decide_eq_false (by omega))) ?_
    refine Does.exit fits1 ?_
    exact hK _ lkT lkT lkT
  | succ j ih =>
    intro hj hK
    rw [show ((j + 1 : Nat) : Int) - 1 = (j : Int) from by omega]
    obtain ⟨b, hb⟩ : ∃ b, l[j]? = some b := ⟨_, List.getElem?_eq_getElem (by omega)⟩
    have hbl : b.toNat < 256 := UInt8.toNat_lt b
    have hv := val_drop (n := n) (by omega) hb
    refine Does.loop fits1 ?_
    refine Does.seq fits1 ?_
    refine Does.seq fits1 ?_
    refine Does.region fits1 ?_
    repeat (first | refine Rg.readT (h := ?_) | refine Rg.offT (h := ?_))
    refine Rg.done ?_
    show Does Tryz.prog _ _ _ _
    refine Does.condT fits1 (lk_bool lkT (decide_eq_true (by omega))) ?_
    refine Does.skip fits1 ?_
    show Does Tryz.prog _ _ _ _
    refine Does.seq fits1 ?_
    refine Does.block fits1 ?_
    refine Does.region fits1 ?_
    (first | refine Rg.readT (h := ?_) | refine Rg.offT (h := ?_))
    refine Rg.read (by rfl) (by rfl) (by rfl) (by rfl) (pr_mulW (r := ((128 * (val ((l.take n).drop (j + 1)) % 18446744073709551616) % 18446744073709551616 : Nat) : Int)) rfl evT evT (by rw [wrap_u64]; omega)) ?_
    (first | refine Rg.readT (h := ?_) | refine Rg.offT (h := ?_))
    (first | refine Rg.readT (h := ?_) | refine Rg.offT (h := ?_))
    refine Rg.read (by rfl) (by rfl) (by rfl) (by rfl) (pr_indexS (i := j) rfl (by rfl) evT evT hb) ?_
    refine Rg.read (by rfl) (by rfl) (by rfl) (by rfl) (pr_remW (r := ((b.toNat % 128 : Nat) : Int)) rfl evT evT (by decide) (by rw [Int.tmod_eq_emod_of_nonneg (by omega)]; omega)) ?_
    refine Rg.read (by rfl) (by rfl) (by rfl) (by rfl) (pr_conv (r := ((b.toNat % 128 : Nat) : Int)) rfl evT (by rfl) (by rfl) (by rw [wrap_u64]; omega)) ?_
    refine Rg.read (by rfl) (by rfl) (by rfl) (by rfl) (pr_addW (r := ((val ((l.take n).drop j) % 18446744073709551616 : Nat) : Int)) rfl evT evT (by rw [wrap_u64, hv]; omega)) ?_
    (first | refine Rg.readT (h := ?_) | refine Rg.offT (h := ?_))
    refine Rg.done ?_
    show Does Tryz.prog _ _ _ _
    refine Does.region fits1 ?_
    (first | refine Rg.readT (h := ?_) | refine Rg.offT (h := ?_))
    refine Rg.read (by rfl) (by rfl) (by rfl) (by rfl) (pr_subW (r := (j : Int) - 1) rfl evT evT (by rw [IntWalk.i64_in _ (by omega)])) ?_
    (first | refine Rg.readT (h := ?_) | refine Rg.offT (h := ?_))
    refine Rg.done ?_
    show Does Tryz.prog uin _ _ _
    refine Does.keep [(6, .int .i64 ((j : Int) - 1)), (5, .int .u64 ((val ((l.take n).drop j) % 18446744073709551616 : Nat) : Int)), (4, .int .i64 (n : Int)), (0, str l)] (keep_cons lkT (keep_cons lkT (keep_cons lkT (keep_cons lkT keep_nil)))) ?_
    exact ih (by omega) hK

theorem u_tail {l : List UInt8} {i u : Nat} (hu : u < 18446744073709551616) (hi : i < l.length) (hi9 : i ≤ 9) {H : AHeap} {K : CK}
    (hK : ∀ L' H' R, R = (if enc (fold (unf u)) = l.take (i + 1) then (unf u, i + 1, true) else (0, 0, false)) → lk 2 L' = .int .i64 R.1 → lk 3 L' = .int .i64 (R.2.1 : Int) → K .ret (fa 46 L' [] false) H') :
    Does Tryz.prog utail (fa 46 [(0, str l), (4, .int .i64 ((i + 1 : Nat) : Int)), (5, .int .u64 (u : Int))] [] false) H K := by
  obtain ⟨hu1, hu2⟩ := unf_lo u hu
  refine Does.seq fits1 ?_
  refine Does.seq fits1 ?_
  refine Does.draw fits1 (is := [0, 3, 4, 5, 1, 2, 6]) (by kernel_rfl) (by kernel_rfl) ?_
  (first | refine Rd.readPT (h := ?_) | refine Rd.readT (h := ?_) | refine Rd.offT (h := ?_))
  (first | refine Rd.readPT (h := ?_) | refine Rd.readT (h := ?_) | refine Rd.offT (h := ?_))
  (first | refine Rd.readPT (h := ?_) | refine Rd.readT (h := ?_) | refine Rd.offT (h := ?_))
  refine Rd.readP (by rfl) (by rfl) (by rfl) (by rfl) (by rfl) (fun _ => pr_sliceS (i := 0) (j := i + 1) (m := l.take (i + 1)) rfl (by rfl) evT rfl (optNat_some evT) (Nat.zero_le _) hi rfl) (by first | exact same_int | exact same_str | exact same_bool | exact same_ptr | exact same_sl) ?_
  refine Rd.call (by rfl) (by rfl) rfl rfl (by rfl) (by rfl) rfl (by rfl) (by kernel_rfl) (args1 rfl evT) ?_
  refine runfold hu ?_
  refine Rd.call (by rfl) (by rfl) rfl rfl (by rfl) (by rfl) rfl (by rfl) (by kernel_rfl) (args1 rfl evT) ?_
  refine rnumber hu1 hu2 fun H1 => ?_
  refine Rd.readP (by rfl) (by rfl) (by rfl) (by rfl) (by rfl) (fun _ => pr_neS (l := enc (fold (unf u))) (m := l.take (i + 1)) rfl evT evT) (by first | exact same_int | exact same_str | exact same_bool | exact same_ptr | exact same_sl) ?_
  refine Rd.done ?_
  show Does Tryz.prog _ _ _ _
  by_cases he : enc (fold (unf u)) = l.take (i + 1)
  · refine Does.condF fits1 (lk_bool lkT (by simp [he])) ?_
    refine Does.skip fits1 ?_
    show Does Tryz.prog _ _ _ _
    refine Does.seq fits1 ?_
    refine Does.region fits1 ?_
    (first | refine Rg.readT (h := ?_) | refine Rg.offT (h := ?_))
    refine Rg.call (by rfl) rfl rfl (by rfl) (by rfl) rfl (by rfl) (args1 rfl evT) ?_
    refine runfold hu ?_
    repeat (first | refine Rg.readT (h := ?_) | refine Rg.offT (h := ?_))
    refine Rg.done ?_
    show Does Tryz.prog _ _ _ _
    refine Does.ret fits1 ?_
    exact hK _ _ (unf u, i + 1, true) (by rw [if_pos he]) lkT lkT
  · refine Does.condT fits1 (lk_bool lkT (by simp [he])) ?_
    refine Does.seq fits1 ?_
    refine Does.region fits1 ?_
    repeat (first | refine Rg.readT (h := ?_) | refine Rg.offT (h := ?_))
    refine Rg.done ?_
    show Does Tryz.prog _ _ _ _
    refine Does.ret fits1 ?_
    repeat (first | rw [kSeq_ret] | rw [kBlock_ret])
    exact hK _ _ (0, 0, false) (by rw [if_neg he]) lkT lkT

theorem u_loop (l : List UInt8) (hlen : l.length < 4611686018427387904) : ∀ (f i : Nat) (H : AHeap) (K : CK), i + f = 10 →
    (∀ L' H', tkFrom l f i = (0, 0, false) → K (.exit 0) (fa 46 L' [] false) H') →
    (∀ L' H' R, R = tkFrom l f i → lk 2 L' = .int .i64 R.1 → lk 3 L' = .int .i64 (R.2.1 : Int) → K .ret (fa 46 L' [] false) H') →
    Does Tryz.prog uloop (fa 46 [(4, .int .i64 ((i + 1 : Nat) : Int)), (0, str l)] [] false) H K := by
  intro f
  induction f with
  | zero =>
    intro i H K hif hK1 hK2
    obtain rfl : i = 10 := by omega
    refine Does.loop fits1 ?_
    refine Does.seq fits1 ?_
    refine Does.seq fits1 ?_
    refine Does.region fits1 ?_
    (first | refine Rg.readT (h := ?_) | refine Rg.offT (h := ?_))
    (first | refine Rg.readT (h := ?_) | refine Rg.offT (h := ?_))
    refine Rg.read (by rfl) (by rfl) (by rfl) (by rfl) (pr_lenS rfl rfl rfl rfl (by rfl) evT) ?_
    by_cases hl : 11 ≤ l.length
    · refine Rg.read (v := .bool true) (by rfl) (by rfl) (by rfl) (by rfl) ((pr_leq rfl evT evT).trans (by rw [decide_eq_true (by omega)])) ?_
      repeat (first | refine Rg.readT (h := ?_) | refine Rg.offT (h := ?_))
      refine Rg.done ?_
      show Does Tryz.prog _ _ _ _
      refine Does.condF fits1 (lk_bool lkT (by rfl)) ?_
      refine Does.exit fits1 ?_
      exact hK1 _ H rfl
    · refine Rg.read (v := .bool false) (by rfl) (by rfl) (by rfl) (by rfl) ((pr_leq rfl evT evT).trans (by rw [decide_eq_false (by omega)])) ?_
      (first | refine Rg.readT (h := ?_) | refine Rg.offT (h := ?_))
      (first | refine Rg.readT (h := ?_) | refine Rg.offT (h := ?_))
      (first | refine Rg.readT (h := ?_) | refine Rg.offT (h := ?_))
      refine Rg.read (by rfl) (by rfl) (by rfl) (by rfl) (pr_pickF rfl evT evT) ?_
      refine Rg.done ?_
      show Does Tryz.prog _ _ _ _
      refine Does.condF fits1 (lk_bool lkT (by rfl)) ?_
      refine Does.exit fits1 ?_
      exact hK1 _ H rfl
  | succ f ih =>
    intro i H K hif hK1 hK2
    refine Does.loop fits1 ?_
    refine Does.seq fits1 ?_
    refine Does.seq fits1 ?_
    refine Does.region fits1 ?_
    (first | refine Rg.readT (h := ?_) | refine Rg.offT (h := ?_))
    (first | refine Rg.readT (h := ?_) | refine Rg.offT (h := ?_))
    refine Rg.read (by rfl) (by rfl) (by rfl) (by rfl) (pr_lenS rfl rfl rfl rfl (by rfl) evT) ?_
    by_cases hi : i < l.length
    · obtain ⟨b, hb⟩ : ∃ b, l[i]? = some b := ⟨_, List.getElem?_eq_getElem hi⟩
      have hbl : b.toNat < 256 := UInt8.toNat_lt b
      refine Rg.read (v := .bool true) (by rfl) (by rfl) (by rfl) (by rfl) ((pr_leq rfl evT evT).trans (by rw [decide_eq_true (by omega)])) ?_
      (first | refine Rg.readT (h := ?_) | refine Rg.offT (h := ?_))
      (first | refine Rg.readT (h := ?_) | refine Rg.offT (h := ?_))
      refine Rg.read (v := .bool true) (by rfl) (by rfl) (by rfl) (by rfl) ((pr_leq rfl evT evT).trans (by rw [decide_eq_true (by omega)])) ?_
      repeat (first | refine Rg.readT (h := ?_) | refine Rg.offT (h := ?_))
      refine Rg.done ?_
      show Does Tryz.prog _ _ _ _
      refine Does.condT fits1 (lk_bool lkT (by rfl)) ?_
      refine Does.skip fits1 ?_
      show Does Tryz.prog _ _ _ _
      refine Does.seq fits1 ?_
      refine Does.block fits1 ?_
      refine Does.seq fits1 ?_
      refine Does.seq fits1 ?_
      refine Does.region fits1 ?_
      (first | refine Rg.readT (h := ?_) | refine Rg.offT (h := ?_))
      (first | refine Rg.readT (h := ?_) | refine Rg.offT (h := ?_))
      refine Rg.read (by rfl) (by rfl) (by rfl) (by rfl) (pr_subW (r := (i : Int)) rfl evT evT (by rw [IntWalk.i64_in _ (by omega)]; omega)) ?_
      refine Rg.read (by rfl) (by rfl) (by rfl) (by rfl) (pr_indexS (i := i) rfl (by rfl) evT evT hb) ?_
      (first | refine Rg.readT (h := ?_) | refine Rg.offT (h := ?_))
      refine Rg.done ?_
      show Does Tryz.prog _ _ _ _
      by_cases h127 : 127 < b.toNat
      · refine Does.condT fits1 (lk_bool lkT (decide_eq_true (by omega))) ?_
        refine Does.exit fits1 ?_
        show Does Tryz.prog _ _ _ _
        refine Does.region fits1 ?_
        (first | refine Rg.readT (h := ?_) | refine Rg.offT (h := ?_))
        refine Rg.read (by rfl) (by rfl) (by rfl) (by rfl) (pr_addW (r := ((i + 1 + 1 : Nat) : Int)) rfl evT evT (by rw [IntWalk.i64_in _ (by omega)]; omega)) ?_
        (first | refine Rg.readT (h := ?_) | refine Rg.offT (h := ?_))
        refine Rg.done ?_
        show Does Tryz.prog uloop _ _ _
        refine Does.keep [(4, .int .i64 ((i + 1 + 1 : Nat) : Int)), (0, str l)] (keep_cons lkT (keep_cons lkT keep_nil)) ?_
        have hstep : tkFrom l (f + 1) i = tkFrom l f (i + 1) := by
          rw [tkFrom, hb]; simp only; rw [if_pos h127]
        rw [hstep] at hK1 hK2
        exact ih (i + 1) H K (by omega) hK1 hK2
      · refine Does.condF fits1 (lk_bool lkT (decide_eq_false (by omega))) ?_
        refine Does.skip fits1 ?_
        show Does Tryz.prog _ _ _ _
        have hstep : tkFrom l (f + 1) i = if enc (fold (unf (val (l.take (i + 1)) % 18446744073709551616))) = l.take (i + 1) then (unf (val (l.take (i + 1)) % 18446744073709551616), i + 1, true) else (0, 0, false) := by
          rw [tkFrom, hb]; simp only; rw [if_neg h127]
        rw [hstep] at hK2
        refine Does.seq fits1 ?_
        refine Does.region fits1 ?_
        (first | refine Rg.readT (h := ?_) | refine Rg.offT (h := ?_))
        refine Rg.done ?_
        show Does Tryz.prog _ _ _ _
        refine Does.seq fits1 ?_
        refine Does.seq fits1 ?_
        refine Does.region fits1 ?_
        (first | refine Rg.readT (h := ?_) | refine Rg.offT (h := ?_))
        refine Rg.read (by rfl) (by rfl) (by rfl) (by rfl) (pr_subW (r := ((i + 1 : Nat) : Int) - 1) rfl evT evT (by rw [IntWalk.i64_in _ (by omega)])) ?_
        (first | refine Rg.readT (h := ?_) | refine Rg.offT (h := ?_))
        refine Rg.done ?_
        show Does Tryz.prog _ _ _ _
        refine Does.block fits1 ?_
        show Does Tryz.prog uin _ _ _
        have hd0 : val ((l.take (i + 1)).drop (i + 1)) % 18446744073709551616 = 0 := by
          rw [List.drop_eq_nil_of_le (by rw [List.length_take]; omega)]; rfl
        refine Does.keep [(6, .int .i64 (((i + 1 : Nat) : Int) - 1)), (5, .int .u64 ((val ((l.take (i + 1)).drop (i + 1)) % 18446744073709551616 : Nat) : Int)), (4, .int .i64 ((i + 1 : Nat) : Int)), (0, str l)] (keep_cons lkT (keep_cons (by rw [hd0]; repeat (first | exact lk_hit | (apply lk_skip; · rfl))) (keep_cons lkT (keep_cons lkT keep_nil)))) ?_
        refine uin_loop (n := i + 1) hi (by omega) (i + 1) (Nat.le_refl _) ?_
        intro L' a0 a4 a5
        show Does Tryz.prog utail _ _ _
        have hu : val (l.take (i + 1)) % 18446744073709551616 < 18446744073709551616 := Nat.mod_lt _ (by omega)
        refine Does.keep [(0, str l), (4, .int .i64 ((i + 1 : Nat) : Int)), (5, .int .u64 ((val (l.take (i + 1)) % 18446744073709551616 : Nat) : Int))] (keep_cons a0 (keep_cons a4 (keep_cons a5 keep_nil))) ?_
        exact u_tail hu hi (by omega) hK2
    · refine Rg.read (v := .bool false) (by rfl) (by rfl) (by rfl) (by rfl) ((pr_leq rfl evT evT).trans (by rw [decide_eq_false (by omega)])) ?_
      (first | refine Rg.readT (h := ?_) | refine Rg.offT (h := ?_))
      (first | refine Rg.readT (h := ?_) | refine Rg.offT (h := ?_))
      (first | refine Rg.readT (h := ?_) | refine Rg.offT (h := ?_))
      refine Rg.read (by rfl) (by rfl) (by rfl) (by rfl) (pr_pickF rfl evT evT) ?_
      refine Rg.done ?_
      show Does Tryz.prog _ _ _ _
      refine Does.condF fits1 (lk_bool lkT (by rfl)) ?_
      refine Does.exit fits1 ?_
      refine hK1 _ H ?_
      rw [tkFrom, List.getElem?_eq_none (by omega)]

theorem rtake {l : List UInt8} (hlen : l.length < 4611686018427387904) {H : AHeap} {K : VK} (hK : ∀ H', K (.tuple #[.int .i64 (tk l).1, .int .i64 ((tk l).2.1 : Int)]) H') : Ans Tryz.prog 13 [str l] H K := by
  refine Ans.body1 fits1 46 Tryz.func13 rfl rfl ?_
  refine Does.seq fits1 ?_
  refine Does.region fits1 ?_
  repeat (first | refine Rg.readT (h := ?_) | refine Rg.offT (h := ?_))
  refine Rg.done ?_
  show Does Tryz.prog _ _ _ _
  refine Does.seq fits1 ?_
  refine Does.seq fits1 ?_
  refine Does.region fits1 ?_
  (first | refine Rg.readT (h := ?_) | refine Rg.offT (h := ?_))
  refine Rg.done ?_
  show Does Tryz.prog _ _ _ _
  refine Does.block fits1 ?_
  refine Does.keep [(4, .int .i64 ((0 + 1 : Nat) : Int)), (0, str l)] (keep_cons lkT (keep_cons lkT keep_nil)) ?_
  refine u_loop l hlen 10 0 H _ rfl ?_ ?_
  · intro L' H' h0
    show Does Tryz.prog _ _ _ _
    refine Does.seq fits1 ?_
    refine Does.region fits1 ?_
    repeat (first | refine Rg.readT (h := ?_) | refine Rg.offT (h := ?_))
    refine Rg.done ?_
    show Does Tryz.prog _ _ _ _
    refine Does.keep [(2, .int .i64 0), (3, .int .i64 0)] (keep_cons lkT (keep_cons lkT keep_nil)) ?_
    (refine Does.ret fits1 ?_; (repeat (first | rw [kSeq_ret] | rw [kBlock_ret])); refine fin_r (by rfl) ?_)
    have := hK H'
    unfold tk at this
    rw [h0] at this
    exact this
  · intro L' H' R hR a1 a2
    repeat (first | rw [kSeq_ret] | rw [kBlock_ret])
    refine fin_r (vs := [.int .i64 R.1, .int .i64 (R.2.1 : Int)]) ?_ ?_
    · show ((some []).map ((fa 46 L' [] false).tmp 3 :: ·)).map ((fa 46 L' [] false).tmp 2 :: ·) = _
      have e : ∀ t, (fa 46 L' [] false).tmp t = lk t L' := fun t => (rv_tmp _ _).symm.trans (fa_tmp t)
      rw [e, e, a1, a2]
      rfl
    · rw [hR]
      exact hK H'
end Go.Proofs.YtkeomdnlibchcaaGreat.scr
