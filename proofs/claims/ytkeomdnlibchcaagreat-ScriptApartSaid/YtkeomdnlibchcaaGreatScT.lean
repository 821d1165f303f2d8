/-
  The contract of script.Take; no condition.
-/
import Derived.Test.YtkeomdnlibchcaaGreatScV
namespace Go.Proofs.YtkeomdnlibchcaaGreat.scr
open Go.Ai
set_option maxRecDepth 100000

noncomputable def ttail : Code := sub [true, true, false, true, false, false, true, true, false, false, true, true, true, true] (bodyOf Tryz.f12)

theorem take_tail {l : List UInt8} {i : Nat} {n : Int} (h1 : -9223372036854775808 ≤ n) (h2 : n ≤ 9223372036854775807) (hi : i < l.length) (hi9 : i ≤ 9) {H : AHeap} {K : CK}
    (hK : ∀ L' H' R, R = (if enc (fold n) = l.take (i + 1) then (n, i + 1, true) else (0, 0, false)) → lk 2 L' = .int .i64 R.1 → lk 3 L' = .int .i64 (R.2.1 : Int) → lk 4 L' = .bool R.2.2 → K .ret (fa 46 L' [] false) H') :
    Does Tryz.prog ttail (fa 46 [(0, str l), (2, .int .i64 n), (6, .int .i64 (i : Int))] [] false) H K := by
  refine Does.seq fits1 ?_
  refine Does.seq fits1 ?_
  refine Does.region fits1 ?_
  (first | refine Rg.readT (h := ?_) | refine Rg.offT (h := ?_))
  refine Rg.read (by rfl) (by rfl) (by rfl) (by rfl) (pr_addW (r := ((i + 1 : Nat) : Int)) rfl evT evT (by rw [IntWalk.i64_in _ (by omega)]; omega)) ?_
  (first | refine Rg.readT (h := ?_) | refine Rg.offT (h := ?_))
  refine Rg.done ?_
  show Does Tryz.prog _ _ _ _
  refine Does.seq fits1 ?_
  refine Does.draw fits1 (is := [0, 2, 3, 4, 1, 5]) (by kernel_rfl) (by kernel_rfl) ?_
  (first | refine Rd.readPT (h := ?_) | refine Rd.readT (h := ?_) | refine Rd.offT (h := ?_))
  (first | refine Rd.readPT (h := ?_) | refine Rd.readT (h := ?_) | refine Rd.offT (h := ?_))
  (first | refine Rd.readPT (h := ?_) | refine Rd.readT (h := ?_) | refine Rd.offT (h := ?_))
  refine Rd.readP (by rfl) (by rfl) (by rfl) (by rfl) (by rfl) (fun _ => pr_sliceS (i := 0) (j := i + 1) (m := l.take (i + 1)) rfl (by rfl) evT rfl (optNat_some evT) (Nat.zero_le _) hi rfl) (by first | exact same_int | exact same_str | exact same_bool | exact same_ptr | exact same_sl) ?_
  refine Rd.call (by rfl) (by rfl) rfl rfl (by rfl) (by rfl) rfl (by rfl) (by kernel_rfl) (args1 rfl evT) ?_
  refine number h1 h2 fun H1 => ?_
  refine Rd.readP (by rfl) (by rfl) (by rfl) (by rfl) (by rfl) (fun _ => pr_neS (l := enc (fold n)) (m := l.take (i + 1)) rfl evT evT) (by first | exact same_int | exact same_str | exact same_bool | exact same_ptr | exact same_sl) ?_
  refine Rd.done ?_
  show Does Tryz.prog _ _ _ _
  by_cases he : enc (fold n) = l.take (i + 1)
  · refine Does.condF fits1 (lk_bool lkT (by simp [he])) ?_
    refine Does.skip fits1 ?_
    show Does Tryz.prog _ _ _ _
    refine Does.seq fits1 ?_
    refine Does.region fits1 ?_
    repeat (first | refine Rg.readT (h := ?_) | refine Rg.offT (h := ?_))
    refine Rg.done ?_
    show Does Tryz.prog _ _ _ _
    refine Does.ret fits1 ?_
    exact hK _ _ (n, i + 1, true) (by rw [if_pos he]) lkT lkT lkT
  · refine Does.condT fits1 (lk_bool lkT (by simp [he])) ?_
    refine Does.seq fits1 ?_
    refine Does.region fits1 ?_
    repeat (first | refine Rg.readT (h := ?_) | refine Rg.offT (h := ?_))
    refine Rg.done ?_
    show Does Tryz.prog _ _ _ _
    refine Does.ret fits1 ?_
    repeat (first | rw [kSeq_ret] | rw [kBlock_ret])
    exact hK _ _ (0, 0, false) (by rw [if_neg he]) lkT lkT lkT

noncomputable def tloop : Code := sub [true, true, false, true, false] (bodyOf Tryz.f12)
def bnd (l : List UInt8) : Int := if (10 : Int) < (l.length : Int) then 10 else (l.length : Int)

theorem take_loop (l : List UInt8) (hlen : l.length < 4611686018427387904) : ∀ (f i : Nat) (H : AHeap) (K : CK), i + f = 10 →
    (∀ L' H', tkFrom l f i = (0, 0, false) → K (.exit 0) (fa 46 L' [] false) H') →
    (∀ L' H' R, R = tkFrom l f i → lk 2 L' = .int .i64 R.1 → lk 3 L' = .int .i64 (R.2.1 : Int) → lk 4 L' = .bool R.2.2 → K .ret (fa 46 L' [] false) H') →
    Does Tryz.prog tloop (fa 46 [(10, .int .i64 (i : Int)), (9, .int .i64 (bnd l)), (5, .int .u64 ((val (l.take i) % 18446744073709551616 : Nat) : Int)), (0, str l)] [] false) H K := by
  intro f
  induction f with
  | zero =>
    intro i H K hif hK1 hK2
    refine Does.loop fits1 ?_
    refine Does.seq fits1 ?_
    refine Does.region fits1 ?_
    (first | refine Rg.readT (h := ?_) | refine Rg.offT (h := ?_))
    refine Rg.done ?_
    show Does Tryz.prog _ _ _ _
    refine Does.seq fits1 ?_
    refine Does.condF fits1 (lk_bool lkT (decide_eq_false (by unfold bnd; split <;> omega))) ?_
    refine Does.exit fits1 ?_
    exact hK1 _ H rfl
  | succ f ih =>
    intro i H K hif hK1 hK2
    refine Does.loop fits1 ?_
    refine Does.seq fits1 ?_
    refine Does.region fits1 ?_
    (first | refine Rg.readT (h := ?_) | refine Rg.offT (h := ?_))
    refine Rg.done ?_
    show Does Tryz.prog _ _ _ _
    refine Does.seq fits1 ?_
    by_cases hi : i < l.length
    · obtain ⟨b, hb⟩ : ∃ b, l[i]? = some b := ⟨_, List.getElem?_eq_getElem hi⟩
      have hbl : b.toNat < 256 := UInt8.toNat_lt b
      refine Does.condT fits1 (lk_bool lkT (decide_eq_true (by unfold bnd; split <;> omega))) ?_
      refine Does.skip fits1 ?_
      show Does Tryz.prog _ _ _ _
      refine Does.seq fits1 ?_
      refine Does.block fits1 ?_
      refine Does.seq fits1 ?_
      refine Does.region fits1 ?_
      (first | refine Rg.readT (h := ?_) | refine Rg.offT (h := ?_))
      (first | refine Rg.readT (h := ?_) | refine Rg.offT (h := ?_))
      refine Rg.done ?_
      show Does Tryz.prog _ _ _ _
      refine Does.seq fits1 ?_
      refine Does.region fits1 ?_
      (first | refine Rg.readT (h := ?_) | refine Rg.offT (h := ?_))
      (first | refine Rg.readT (h := ?_) | refine Rg.offT (h := ?_))
      (first | refine Rg.readT (h := ?_) | refine Rg.offT (h := ?_))
      refine Rg.read (by rfl) (by rfl) (by rfl) (by rfl) (pr_indexS (i := i) rfl (by rfl) evT evT hb) ?_
      refine Rg.read (by rfl) (by rfl) (by rfl) (by rfl) (pr_andW (p := b.toNat) (q := 127) (r := ((b.toNat % 128 : Nat) : Int)) rfl evT evT (by show b.toNat < 256; exact hbl) (by show 127 < 256; omega) (by rw [show (127 : Nat) = 2 ^ 7 - 1 from rfl, Nat.and_two_pow_sub_one_eq_mod])) ?_
      refine Rg.read (by rfl) (by rfl) (by rfl) (by rfl) (pr_conv (r := ((b.toNat % 128 : Nat) : Int)) rfl evT (by rfl) (by rfl) (by rw [wrap_u64]; omega)) ?_
      (first | refine Rg.readT (h := ?_) | refine Rg.offT (h := ?_))
      refine Rg.read (by rfl) (by rfl) (by rfl) (by rfl) (pr_mulW (r := ((7 * i : Nat) : Int)) rfl evT evT (by rw [IntWalk.i64_in _ (by omega)]; omega)) ?_
      refine Rg.read (by rfl) (by rfl) (by rfl) (by rfl) (pr_shlW (p := b.toNat % 128) (q := 7 * i) (r := ((b.toNat % 128 * 2 ^ (7 * i) % 18446744073709551616 : Nat) : Int)) rfl evT evT (by
        rw [show min (7 * i) IntKind.u64.bits = 7 * i from Nat.min_eq_left (by show 7 * i ≤ 64; omega), wrap_u64]
        generalize b.toNat % 128 * 2 ^ (7 * i) = x
        omega)) ?_
      refine Rg.read (by rfl) (by rfl) (by rfl) (by rfl) (pr_orW (p := val (l.take i) % 18446744073709551616) (q := b.toNat % 128 * 2 ^ (7 * i) % 18446744073709551616) (r := ((val (l.take (i + 1)) % 18446744073709551616 : Nat) : Int)) rfl evT evT (by show _ < 18446744073709551616; exact Nat.mod_lt _ (by omega)) (by show _ < 18446744073709551616; exact Nat.mod_lt _ (by omega)) (by rw [or_step hb (by omega)])) ?_
      (first | refine Rg.readT (h := ?_) | refine Rg.offT (h := ?_))
      refine Rg.done ?_
      show Does Tryz.prog _ _ _ _
      refine Does.seq fits1 ?_
      refine Does.seq fits1 ?_
      refine Does.region fits1 ?_
      (first | refine Rg.readT (h := ?_) | refine Rg.offT (h := ?_))
      (first | refine Rg.readT (h := ?_) | refine Rg.offT (h := ?_))
      refine Rg.read (by rfl) (by rfl) (by rfl) (by rfl) (pr_indexS (i := i) rfl (by rfl) evT evT hb) ?_
      (first | refine Rg.readT (h := ?_) | refine Rg.offT (h := ?_))
      refine Rg.done ?_
      show Does Tryz.prog _ _ _ _
      by_cases h127 : 127 < b.toNat
      · refine Does.condT fits1 (lk_bool lkT (decide_eq_true (by omega))) ?_
        refine Does.exit fits1 ?_
        show Does Tryz.prog _ _ _ _
        refine Does.region fits1 ?_
        refine Rg.read (by rfl) (by rfl) (by rfl) (by rfl) (pr_addW (r := ((i + 1 : Nat) : Int)) rfl evT evT (by rw [IntWalk.i64_in _ (by omega)]; omega)) ?_
        (first | refine Rg.readT (h := ?_) | refine Rg.offT (h := ?_))
        refine Rg.done ?_
        show Does Tryz.prog tloop _ _ _
        refine Does.keep [(10, .int .i64 ((i + 1 : Nat) : Int)), (9, .int .i64 (bnd l)), (5, .int .u64 ((val (l.take (i + 1)) % 18446744073709551616 : Nat) : Int)), (0, str l)] (keep_cons lkT (keep_cons lkT (keep_cons lkT (keep_cons lkT keep_nil)))) ?_
        have hstep : tkFrom l (f + 1) i = tkFrom l f (i + 1) := by
          rw [tkFrom, hb]; simp only; rw [if_pos h127]
        rw [hstep] at hK1 hK2
        exact ih (i + 1) H K (by omega) hK1 hK2
      · refine Does.condF fits1 (lk_bool lkT (decide_eq_false (by omega))) ?_
        refine Does.skip fits1 ?_
        show Does Tryz.prog _ _ _ _
        have hstep : tkFrom l (f + 1) i = if enc (fold (unf (val (l.take (i + 1)) % 18446744073709551616))) = l.take (i + 1) then (unf (val (l.take (i + 1)) % 18446744073709551616), i + 1, true) else (0, 0, false) := by
          rw [tkFrom, hb]; simp only; rw [if_neg h127]
        rw [hstep] at hK2
        have hu : val (l.take (i + 1)) % 18446744073709551616 < 18446744073709551616 := Nat.mod_lt _ (by omega)
        generalize val (l.take (i + 1)) % 18446744073709551616 = u at hu hK2 ⊢
        obtain ⟨hu1, hu2⟩ := unf_lo u hu
        refine Does.seq fits1 ?_
        refine Does.seq fits1 ?_
        refine Does.region fits1 ?_
        (first | refine Rg.readT (h := ?_) | refine Rg.offT (h := ?_))
        refine Rg.read (by rfl) (by rfl) (by rfl) (by rfl) (pr_shrW (p := u) (q := 1) (r := ((u / 2 : Nat) : Int)) rfl evT evT (by rfl)) ?_
        refine Rg.read (by rfl) (by rfl) (by rfl) (by rfl) (pr_conv (r := ((u / 2 : Nat) : Int)) rfl evT (by rfl) (by rfl) (IntWalk.i64_in _ (by omega))) ?_
        (first | refine Rg.readT (h := ?_) | refine Rg.offT (h := ?_))
        refine Rg.done ?_
        show Does Tryz.prog _ _ _ _
        refine Does.seq fits1 ?_
        refine Does.region fits1 ?_
        (first | refine Rg.readT (h := ?_) | refine Rg.offT (h := ?_))
        refine Rg.read (by rfl) (by rfl) (by rfl) (by rfl) (pr_andW (p := u) (q := 1) (r := ((u % 2 : Nat) : Int)) rfl evT evT (by show u < 18446744073709551616; exact hu) (by show 1 < 18446744073709551616; omega) (by rw [Nat.and_one_is_mod])) ?_
        (first | refine Rg.readT (h := ?_) | refine Rg.offT (h := ?_))
        refine Rg.done ?_
        show Does Tryz.prog _ _ _ _
        by_cases ho : u % 2 = 1
        · refine Does.condT fits1 (lk_bool lkT (decide_eq_true (by omega))) ?_
          refine Does.region fits1 ?_
          (first | refine Rg.readT (h := ?_) | refine Rg.offT (h := ?_))
          refine Rg.read (by rfl) (by rfl) (by rfl) (by rfl) (pr_com (p := ((u / 2 : Nat) : Int)) (r := unf u) rfl evT (by omega) (by unfold unf; rw [if_pos ho])) ?_
          (first | refine Rg.readT (h := ?_) | refine Rg.offT (h := ?_))
          refine Rg.done ?_
          show Does Tryz.prog ttail _ _ _
          refine Does.keep [(0, str l), (2, .int .i64 (unf u)), (6, .int .i64 (i : Int))] (keep_cons lkT (keep_cons lkT (keep_cons lkT keep_nil))) ?_
          exact take_tail hu1 hu2 hi (by omega) hK2
        · refine Does.condF fits1 (lk_bool lkT (decide_eq_false (by omega))) ?_
          refine Does.skip fits1 ?_
          show Does Tryz.prog ttail _ _ _
          have hun : ((u / 2 : Nat) : Int) = unf u := by unfold unf; rw [if_neg ho]
          refine Does.keep [(0, str l), (2, .int .i64 (unf u)), (6, .int .i64 (i : Int))] (keep_cons lkT (keep_cons (by rw [← hun]; repeat (first | exact lk_hit | (apply lk_skip; · rfl))) (keep_cons lkT keep_nil))) ?_
          exact take_tail hu1 hu2 hi (by omega) hK2
    · refine Does.condF fits1 (lk_bool lkT (decide_eq_false (by unfold bnd; split <;> omega))) ?_
      refine Does.exit fits1 ?_
      refine hK1 _ H ?_
      rw [tkFrom, List.getElem?_eq_none (by omega)]

theorem take {l : List UInt8} (hlen : l.length < 4611686018427387904) {H : AHeap} {K : VK} (hK : ∀ H', K (.tuple #[.int .i64 (tk l).1, .int .i64 ((tk l).2.1 : Int), .bool (tk l).2.2]) H') : Ans Tryz.prog 12 [str l] H K := by
  refine Ans.body1 fits1 46 Tryz.func12 rfl rfl ?_
  refine Does.seq fits1 ?_
  refine Does.region fits1 ?_
  repeat (first | refine Rg.readT (h := ?_) | refine Rg.offT (h := ?_))
  refine Rg.done ?_
  show Does Tryz.prog _ _ _ _
  refine Does.seq fits1 ?_
  refine Does.region fits1 ?_
  (first | refine Rg.readT (h := ?_) | refine Rg.offT (h := ?_))
  refine Rg.done ?_
  show Does Tryz.prog _ _ _ _
  refine Does.seq fits1 ?_
  refine Does.seq fits1 ?_
  refine Does.region fits1 ?_
  (first | refine Rg.readT (h := ?_) | refine Rg.offT (h := ?_))
  refine Rg.read (by rfl) (by rfl) (by rfl) (by rfl) (pr_lenS rfl rfl rfl rfl (by rfl) evT) ?_
  refine Rg.read (by rfl) (by rfl) (by rfl) (by rfl) (pr_min2 rfl rfl rfl evT evT) ?_
  (first | refine Rg.readT (h := ?_) | refine Rg.offT (h := ?_))
  refine Rg.done ?_
  show Does Tryz.prog _ _ _ _
  refine Does.block fits1 ?_
  refine Does.keep [(10, .int .i64 ((0 : Nat) : Int)), (9, .int .i64 (bnd l)), (5, .int .u64 ((val (l.take 0) % 18446744073709551616 : Nat) : Int)), (0, str l)] (keep_cons lkT (keep_cons lkT (keep_cons lkT (keep_cons lkT keep_nil)))) ?_
  refine take_loop l hlen 10 0 H _ rfl ?_ ?_
  · intro L' H' h0
    show Does Tryz.prog _ _ _ _
    refine Does.seq fits1 ?_
    refine Does.region fits1 ?_
    repeat (first | refine Rg.readT (h := ?_) | refine Rg.offT (h := ?_))
    refine Rg.done ?_
    show Does Tryz.prog _ _ _ _
    refine Does.keep [(2, .int .i64 0), (3, .int .i64 0), (4, .bool false)] (keep_cons lkT (keep_cons lkT (keep_cons lkT keep_nil))) ?_
    (refine Does.ret fits1 ?_; (repeat (first | rw [kSeq_ret] | rw [kBlock_ret])); refine fin_r (by rfl) ?_)
    have := hK H'
    unfold tk at this
    rw [h0] at this
    exact this
  · intro L' H' R hR a1 a2 a3
    repeat (first | rw [kSeq_ret] | rw [kBlock_ret])
    refine fin_r (vs := [.int .i64 R.1, .int .i64 (R.2.1 : Int), .bool R.2.2]) ?_ ?_
    · show (((some []).map ((fa 46 L' [] false).tmp 4 :: ·)).map ((fa 46 L' [] false).tmp 3 :: ·)).map ((fa 46 L' [] false).tmp 2 :: ·) = _
      have e : ∀ t, (fa 46 L' [] false).tmp t = lk t L' := fun t => (rv_tmp _ _).symm.trans (fa_tmp t)
      rw [e, e, e, a1, a2, a3]
      rfl
    · rw [hR]
      exact hK H'
end Go.Proofs.YtkeomdnlibchcaaGreat.scr
