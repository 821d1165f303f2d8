/-
  The contracts of the reference's functions that write numbers; no condition.
-/
import Derived.Test.YtkeomdnlibchcaaGreatScN
namespace Go.Proofs.YtkeomdnlibchcaaGreat.scr
open Go.Ai
set_option maxRecDepth 100000

theorem rfold {n : Int} (h1 : -9223372036854775808 ≤ n) (h2 : n ≤ 9223372036854775807) {H : AHeap} {K : VK} (hK : K (.int .u64 ((fold n : Nat) : Int)) H) : Ans Tryz.prog 32 [.int .i64 n] H K := by
  refine Ans.body1 fits1 14 Tryz.func32 rfl rfl ?_
  apply Does.next fits1
  · refine Does.region fits1 ?_
    (first | refine Rg.readT (h := ?_) | refine Rg.offT (h := ?_))
    exact Rg.done ⟨rfl, rfl⟩
  by_cases hn : n < 0
  · have hf : fold n = (-2 * n - 1).toNat := by unfold fold; rw [if_pos hn]
    refine Does.seq fits1 ?_
    refine Does.seq fits1 ?_
    refine Does.region fits1 ?_
    repeat (first | refine Rg.readT (h := ?_) | refine Rg.offT (h := ?_))
    refine Rg.done ?_
    show Does Tryz.prog _ _ _ _
    refine Does.condT fits1 (lk_bool lkT (decide_eq_true hn)) ?_
    refine Does.seq fits1 ?_
    refine Does.region fits1 ?_
    (first | refine Rg.readT (h := ?_) | refine Rg.offT (h := ?_))
    refine Rg.read (by rfl) (by rfl) (by rfl) (by rfl) (pr_addW (r := n + 1) rfl evT evT (IntWalk.i64_in _ (by omega))) ?_
    refine Rg.read (by rfl) (by rfl) (by rfl) (by rfl) (pr_negW (r := -(n + 1)) rfl evT (by rw [IntWalk.i64_in _ (by omega)]; omega)) ?_
    refine Rg.read (by rfl) (by rfl) (by rfl) (by rfl) (pr_conv (r := -(n + 1)) rfl evT (by rfl) (by rfl) (by rw [wrap_u64]; omega)) ?_
    refine Rg.read (by rfl) (by rfl) (by rfl) (by rfl) (pr_mulW (r := 2 * -(n + 1)) rfl evT evT (by rw [wrap_u64]; omega)) ?_
    refine Rg.read (by rfl) (by rfl) (by rfl) (by rfl) (pr_addW (r := ((fold n : Nat) : Int)) rfl evT evT (by rw [wrap_u64, hf]; omega)) ?_
    (first | refine Rg.readT (h := ?_) | refine Rg.offT (h := ?_))
    refine Rg.done ?_
    show Does Tryz.prog _ _ _ _
    (refine Does.ret fits1 ?_; (repeat (first | rw [kSeq_ret] | rw [kBlock_ret])); refine fin_r (by rfl) ?_)
    exact hK
  · have hf : fold n = (2 * n).toNat := by unfold fold; rw [if_neg hn]
    refine Does.seq fits1 ?_
    refine Does.seq fits1 ?_
    refine Does.region fits1 ?_
    repeat (first | refine Rg.readT (h := ?_) | refine Rg.offT (h := ?_))
    refine Rg.done ?_
    show Does Tryz.prog _ _ _ _
    refine Does.condF fits1 (lk_bool lkT (decide_eq_false hn)) ?_
    refine Does.skip fits1 ?_
    show Does Tryz.prog _ _ _ _
    refine Does.seq fits1 ?_
    refine Does.region fits1 ?_
    (first | refine Rg.readT (h := ?_) | refine Rg.offT (h := ?_))
    refine Rg.read (by rfl) (by rfl) (by rfl) (by rfl) (pr_conv (r := n) rfl evT (by rfl) (by rfl) (by rw [wrap_u64]; omega)) ?_
    refine Rg.read (by rfl) (by rfl) (by rfl) (by rfl) (pr_mulW (r := ((fold n : Nat) : Int)) rfl evT evT (by rw [wrap_u64, hf]; omega)) ?_
    (first | refine Rg.readT (h := ?_) | refine Rg.offT (h := ?_))
    refine Rg.done ?_
    show Does Tryz.prog _ _ _ _
    (refine Does.ret fits1 ?_; (repeat (first | rw [kSeq_ret] | rw [kBlock_ret])); refine fin_r (by rfl) ?_)
    exact hK

def unf (u : Nat) : Int := if u % 2 = 1 then -((u / 2 : Nat) : Int) - 1 else ((u / 2 : Nat) : Int)

theorem runfold {u : Nat} (hu : u < 18446744073709551616) {H : AHeap} {K : VK} (hK : K (.int .i64 (unf u)) H) : Ans Tryz.prog 29 [.int .u64 (u : Int)] H K := by
  refine Ans.body1 fits1 14 Tryz.func29 rfl rfl ?_
  apply Does.next fits1
  · refine Does.region fits1 ?_
    (first | refine Rg.readT (h := ?_) | refine Rg.offT (h := ?_))
    exact Rg.done ⟨rfl, rfl⟩
  refine Does.seq fits1 ?_
  refine Does.seq fits1 ?_
  refine Does.region fits1 ?_
  (first | refine Rg.readT (h := ?_) | refine Rg.offT (h := ?_))
  refine Rg.read (by rfl) (by rfl) (by rfl) (by rfl) (pr_remW (r := ((u % 2 : Nat) : Int)) rfl evT evT (by decide) (by rw [Int.tmod_eq_emod_of_nonneg (by omega)]; omega)) ?_
  (first | refine Rg.readT (h := ?_) | refine Rg.offT (h := ?_))
  refine Rg.done ?_
  show Does Tryz.prog _ _ _ _
  by_cases hn : u % 2 = 1
  · have hf : unf u = -((u / 2 : Nat) : Int) - 1 := by unfold unf; rw [if_pos hn]
    refine Does.condT fits1 (lk_bool lkT (decide_eq_true (by omega))) ?_
    refine Does.seq fits1 ?_
    refine Does.region fits1 ?_
    (first | refine Rg.readT (h := ?_) | refine Rg.offT (h := ?_))
    refine Rg.read (by rfl) (by rfl) (by rfl) (by rfl) (pr_quoW (r := ((u / 2 : Nat) : Int)) rfl evT evT (by decide) (by rw [Int.tdiv_eq_ediv_of_nonneg (by omega), wrap_u64]; omega)) ?_
    refine Rg.read (by rfl) (by rfl) (by rfl) (by rfl) (pr_conv (r := ((u / 2 : Nat) : Int)) rfl evT (by rfl) (by rfl) (IntWalk.i64_in _ (by omega))) ?_
    refine Rg.read (by rfl) (by rfl) (by rfl) (by rfl) (pr_negW (r := -((u / 2 : Nat) : Int)) rfl evT (by rw [IntWalk.i64_in _ (by omega)]; omega)) ?_
    refine Rg.read (by rfl) (by rfl) (by rfl) (by rfl) (pr_subW (r := unf u) rfl evT evT (by rw [IntWalk.i64_in _ (by omega), hf])) ?_
    (first | refine Rg.readT (h := ?_) | refine Rg.offT (h := ?_))
    refine Rg.done ?_
    show Does Tryz.prog _ _ _ _
    (refine Does.ret fits1 ?_; (repeat (first | rw [kSeq_ret] | rw [kBlock_ret])); refine fin_r (by rfl) ?_)
    exact hK
  · have hf : unf u = ((u / 2 : Nat) : Int) := by unfold unf; rw [if_neg hn]
    refine Does.condF fits1 (lk_bool lkT (decide_eq_false (by omega))) ?_
    refine Does.skip fits1 ?_
    show Does Tryz.prog _ _ _ _
    refine Does.seq fits1 ?_
    refine Does.region fits1 ?_
    (first | refine Rg.readT (h := ?_) | refine Rg.offT (h := ?_))
    refine Rg.read (by rfl) (by rfl) (by rfl) (by rfl) (pr_quoW (r := ((u / 2 : Nat) : Int)) rfl evT evT (by decide) (by rw [Int.tdiv_eq_ediv_of_nonneg (by omega), wrap_u64]; omega)) ?_
    refine Rg.read (by rfl) (by rfl) (by rfl) (by rfl) (pr_conv (r := unf u) rfl evT (by rfl) (by rfl) (by rw [IntWalk.i64_in _ (by omega), hf])) ?_
    (first | refine Rg.readT (h := ?_) | refine Rg.offT (h := ?_))
    refine Rg.done ?_
    show Does Tryz.prog _ _ _ _
    (refine Does.ret fits1 ?_; (repeat (first | rw [kSeq_ret] | rw [kBlock_ret])); refine fin_r (by rfl) ?_)
    exact hK

noncomputable def rloop : Code := sub [true, true, true, false, false] (bodyOf Tryz.f15)

theorem grow {s : Value} {l : List UInt8} {x : UInt8} {H : AHeap} (hb : Buf H 5 1 s (byV l) l.length) (hl : l.length < 4294967295) :
    ∃ s' H', (aappend (env Tryz.prog idf (conL cons)) 47 (some 47)).f (H.new (cellsOfList [.int .u8 x.toNat] 5 0 (0, 0))) s (.slice (some ⟨H.next, 0, none⟩) 1 1) = some (s', H') ∧ Buf H' 5 1 s' (byV (l ++ [x])) (l ++ [x]).length := by
  have hX : Row (H.new (cellsOfList [.int .u8 x.toNat] 5 0 (0, 0))) H.next [.int .u8 x.toNat] 5 0 (0, 0) := row_list _ _
  have hbuf2 : Buf (H.new (cellsOfList [.int .u8 x.toNat] 5 0 (0, 0))) 5 1 s (byV l) l.length := hb.of_get (fun j _ hj => by rw [AHeap.get_new, if_neg (by omega)]) (by simp)
  obtain ⟨s', H2, happ, hbuf3, _⟩ := append_buf (appT (conL cons)) hbuf2 (n := 1) (x := .slice (some ⟨H.next, 0, none⟩) 1 1) rfl (afirst_row hX (by simp)) (by intro v hv; simp at hv; subst hv; rfl) (by simp) (by omega) (by omega)
  refine ⟨s', H2, happ, ?_⟩
  rw [byV_append, List.length_append]
  exact hbuf3

theorem rnum_loop : ∀ (u : Nat) (l : List UInt8) (s : Value) (H : AHeap) (K : CK), Buf H 5 1 s (byV l) l.length → u * 128 ^ l.length < 18446744073709551616 → l.length ≤ 10 →
    (∀ (L' : List (Tmp × Value)) (H' : AHeap) (u' : Nat) (s' : Value) (l' : List UInt8), lk 3 L' = .int .u64 (u' : Int) → lk 4 L' = s' → Buf H' 5 1 s' (byV l') l'.length → l'.length ≤ 10 → u' < 128 → l' ++ [UInt8.ofNat u'] = l ++ enc u → K (.exit 0) (fa 24 L' [] false) H') →
    Does Tryz.prog rloop (fa 24 [(4, s), (3, .int .u64 (u : Int))] [] false) H K := by
  intro u
  induction u using Nat.strongRecOn with
  | ind u ih =>
    intro l s H K hb hu hl hK
    refine Does.loop fits1 ?_
    refine Does.seq fits1 ?_
    refine Does.seq fits1 ?_
    refine Does.region fits1 ?_
    repeat (first | refine Rg.readT (h := ?_) | refine Rg.offT (h := ?_))
    refine Rg.done ?_
    show Does Tryz.prog _ _ _ _
    refine Does.condB fits1 (b := decide ((128 : Int) ≤ (u : Int))) lkT (fun h => ?_) (fun h => ?_)
    · have h : 127 < u := by have := of_decide_eq_true h; omega
      have hlen : l.length < 10 := by
        have h1 : 128 ^ l.length < 128 ^ 10 := by
          have : 1 * 128 ^ l.length ≤ u * 128 ^ l.length := Nat.mul_le_mul_right _ (by omega)
          have e : (128 : Nat) ^ 10 = 1180591620717411303424 := by decide
          omega
        exact (Nat.pow_lt_pow_iff_right (by omega)).1 h1
      have hu64 : u < 18446744073709551616 := by
        have : u * 1 ≤ u * 128 ^ l.length := Nat.mul_le_mul_left _ (Nat.pos_of_ne_zero (by simp))
        omega
      refine Does.skip fits1 ?_
      show Does Tryz.prog _ _ _ _
      refine Does.block fits1 ?_
      refine Does.seq fits1 ?_
      refine Does.region fits1 ?_
      (first | refine Rg.readT (h := ?_) | refine Rg.offT (h := ?_))
      (first | refine Rg.readT (h := ?_) | refine Rg.offT (h := ?_))
      refine Rg.read (by rfl) (by rfl) (by rfl) (by rfl) (pr_remW (r := ((u % 128 : Nat) : Int)) rfl evT evT (by decide) (by rw [Int.tmod_eq_emod_of_nonneg (by omega)]; omega)) ?_
      refine Rg.read (by rfl) (by rfl) (by rfl) (by rfl) (pr_addW (r := ((128 + u % 128 : Nat) : Int)) rfl evT evT (by rw [wrap_u64]; omega)) ?_
      refine Rg.read (by rfl) (by rfl) (by rfl) (by rfl) (pr_conv (r := ((UInt8.ofNat (128 + u % 128)).toNat : Int)) rfl evT (by rfl) (by rfl) (by rw [wrap_u8, byte_nat (by omega)]; omega)) ?_
      refine Rg.make (by rfl) (by rfl) (by rfl) (by rfl) (by rfl) ?_
      obtain ⟨s', H', happ, hb1⟩ := grow (x := UInt8.ofNat (128 + u % 128)) hb (by omega)
      refine Rg.effV (by rfl) (by rfl) (by rfl) (by rfl) (rf_append rfl rfl rfl rfl evT evT happ) ?_
      (first | refine Rg.readT (h := ?_) | refine Rg.offT (h := ?_))
      refine Rg.done ?_
      show Does Tryz.prog _ _ _ _
      refine Does.region fits1 ?_
      (first | refine Rg.readT (h := ?_) | refine Rg.offT (h := ?_))
      refine Rg.read (by rfl) (by rfl) (by rfl) (by rfl) (pr_quoW (r := ((u / 128 : Nat) : Int)) rfl evT evT (by decide) (by rw [Int.tdiv_eq_ediv_of_nonneg (by omega), wrap_u64]; omega)) ?_
      (first | refine Rg.readT (h := ?_) | refine Rg.offT (h := ?_))
      refine Rg.done ?_
      show Does Tryz.prog rloop _ _ _
      refine Does.keep [(4, s'), (3, .int .u64 ((u / 128 : Nat) : Int))] (keep_cons lkT (keep_cons lkT keep_nil)) ?_
      refine ih (u / 128) (by omega) (l ++ [UInt8.ofNat (128 + u % 128)]) s' H' K hb1 ?_ (by simp; omega) ?_
      · rw [List.length_append, List.length_singleton, Nat.pow_succ, Nat.mul_comm (128 ^ l.length), ← Nat.mul_assoc]
        exact Nat.lt_of_le_of_lt (Nat.mul_le_mul_right _ (Nat.div_mul_le_self u 128)) hu
      · intro L' H' u' s'' l' a1 a2 a3 a4 a5 a6
        refine hK L' H' u' s'' l' a1 a2 a3 a4 a5 ?_
        rw [a6, List.append_assoc]
        congr 1
        conv => rhs; unfold enc
        rw [if_neg (by omega)]
        rfl
    · have h : ¬ 127 < u := by have := of_decide_eq_false h; omega
      refine Does.exit fits1 ?_
      refine hK _ H u s l lkT lkT hb hl (by omega) ?_
      congr 1
      unfold enc
      rw [if_pos (by omega)]

theorem fold_lt {n : Int} (h1 : -9223372036854775808 ≤ n) (h2 : n ≤ 9223372036854775807) : fold n < 18446744073709551616 := by
  unfold fold; split <;> omega

theorem rnumber {n : Int} (h1 : -9223372036854775808 ≤ n) (h2 : n ≤ 9223372036854775807) {H : AHeap} {K : VK} (hK : ∀ H', K (str (enc (fold n))) H') : Ans Tryz.prog 15 [.int .i64 n] H K := by
  refine Ans.body1 fits1 24 Tryz.func15 rfl rfl ?_
  apply Does.next fits1
  · refine Does.region fits1 ?_
    (first | refine Rg.readT (h := ?_) | refine Rg.offT (h := ?_))
    exact Rg.done ⟨rfl, rfl⟩
  refine Does.seq fits1 ?_
  refine Does.region fits1 ?_
  (first | refine Rg.readT (h := ?_) | refine Rg.offT (h := ?_))
  refine Rg.call (by rfl) rfl rfl (by rfl) (by rfl) rfl (by rfl) (args1 rfl evT) ?_
  refine rfold h1 h2 ?_
  (first | refine Rg.readT (h := ?_) | refine Rg.offT (h := ?_))
  refine Rg.done ?_
  show Does Tryz.prog _ _ _ _
  refine Does.seq fits1 ?_
  refine Does.region fits1 ?_
  (first | refine Rg.readT (h := ?_) | refine Rg.offT (h := ?_))
  refine Rg.done ?_
  show Does Tryz.prog _ _ _ _
  refine Does.seq fits1 ?_
  refine Does.block fits1 ?_
  refine Does.keep [(4, .slice none 0 0), (3, .int .u64 ((fold n : Nat) : Int))] (keep_cons lkT (keep_cons lkT keep_nil)) ?_
  refine rnum_loop (fold n) [] _ H _ .nil (by simpa using fold_lt h1 h2) (by simp) ?_
  intro L' H' u' s' l' a1 a2 a3 a4 a5 a6
  show Does Tryz.prog _ _ _ _
  refine Does.keep [(4, s'), (3, .int .u64 (u' : Int))] (keep_cons a2 (keep_cons a1 keep_nil)) ?_
  obtain ⟨s2, H2, happ, hb1⟩ := grow (x := UInt8.ofNat u') a3 (by omega)
  refine Does.seq fits1 ?_
  refine Does.region fits1 ?_
  (first | refine Rg.readT (h := ?_) | refine Rg.offT (h := ?_))
  (first | refine Rg.readT (h := ?_) | refine Rg.offT (h := ?_))
  refine Rg.read (by rfl) (by rfl) (by rfl) (by rfl) (pr_conv (r := ((UInt8.ofNat u').toNat : Int)) rfl evT (by rfl) (by rfl) (by rw [wrap_u8, byte_nat (by omega)]; omega)) ?_
  refine Rg.make (by rfl) (by rfl) (by rfl) (by rfl) (by rfl) ?_
  refine Rg.effV (by rfl) (by rfl) (by rfl) (by rfl) (rf_append rfl rfl rfl rfl evT evT happ) ?_
  refine Rg.read (by rfl) (by rfl) (by rfl) (by rfl) (pr_bytes rfl evT (by rfl) (by rfl) (by rfl) hb1 rfl) ?_
  (first | refine Rg.readT (h := ?_) | refine Rg.offT (h := ?_))
  refine Rg.done ?_
  show Does Tryz.prog _ _ _ _
  rw [a6, List.nil_append]
  (refine Does.ret fits1 ?_; (repeat (first | rw [kSeq_ret] | rw [kBlock_ret])); refine fin_r (by rfl) ?_)
  exact hK H2
end Go.Proofs.YtkeomdnlibchcaaGreat.scr
