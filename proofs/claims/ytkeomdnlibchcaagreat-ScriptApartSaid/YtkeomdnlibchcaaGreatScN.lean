/-
  The contracts of the functions that write numbers; no condition.
-/
import Derived.Test.YtkeomdnlibchcaaGreatScB
import Derived.Test.YtkeomdnlibchcaaGreatAiVd
namespace Go.Proofs.YtkeomdnlibchcaaGreat.scr
open Go.Ai
set_option maxRecDepth 100000

def fold (n : Int) : Nat := if n < 0 then (-2 * n - 1).toNat else (2 * n).toNat
def enc (u : Nat) : List UInt8 := if u < 128 then [UInt8.ofNat u] else UInt8.ofNat (128 + u % 128) :: enc (u / 128)
termination_by u

theorem or128 (u : Nat) : u % 256 ||| 128 = 128 + u % 128 := by
  have h : u % 256 < 256 := Nat.mod_lt _ (by omega)
  have key : ∀ p, p < 256 → p ||| 128 = 128 + p % 128 := by decide +kernel
  rw [key _ h]; omega
theorem byte_nat {p : Nat} (h : p < 256) : (UInt8.ofNat p).toNat = p := by simp; omega

noncomputable def nloop : Code := sub [true, true, true, true, false, false] (bodyOf Tryz.f14)

theorem num_loop {b : Nat} : ∀ (u : Nat) (l : List UInt8) (H : AHeap) (K : CK), Bld H b l → u * 128 ^ l.length < 18446744073709551616 → l.length ≤ 10 →
    (∀ (L' : List (Tmp × Value)) (H' : AHeap) (u' : Nat) (l' : List UInt8), lk 3 L' = .int .u64 (u' : Int) → lk 4 L' = at0 b → Bld H' b l' → l'.length ≤ 10 → u' < 128 → l' ++ [UInt8.ofNat u'] = l ++ enc u → K (.exit 0) (fa 24 L' [] false) H') →
    Does Tryz.prog nloop (fa 24 [(4, at0 b), (3, .int .u64 (u : Int))] [] false) H K := by
  intro u
  induction u using Nat.strongRecOn with
  | ind u ih =>
    intro l H K hb hu hl hK
    refine Does.loop fits1 ?_
    refine Does.seq fits1 ?_
    refine Does.seq fits1 ?_
    refine Does.region fits1 ?_
    repeat (first | refine Rg.readT (h := ?_) | refine Rg.offT (h := ?_))
    refine Rg.done ?_
    show Does Tryz.prog _ _ _ _
    refine Does.condB fits1 (b := decide ((127 : Int) < (u : Int))) (by repeat (first | exact lk_hit | (apply lk_skip; · rfl))) (fun h => ?_) (fun h => ?_)
    · have h : 127 < u := by have := of_decide_eq_true h; omega
      have hlen : l.length < 10 := by
        have h1 : 128 ^ l.length < 128 ^ 10 := by
          have : 1 * 128 ^ l.length ≤ u * 128 ^ l.length := Nat.mul_le_mul_right _ (by omega)
          have e : (128 : Nat) ^ 10 = 1180591620717411303424 := by decide
          omega
        exact (Nat.pow_lt_pow_iff_right (by omega)).1 h1
      have hu64 : u < 18446744073709551616 := by
        have : u * 1 ≤ u * 128 ^ l.length := Nat.mul_le_mul_left _ (Nat.pos_of_ne_zero (by simp))
        omega
      refine Does.skip fits1 ?_
      show Does Tryz.prog _ _ _ _
      refine Does.block fits1 ?_
      refine Does.seq fits1 ?_
      refine Does.region fits1 ?_
      (first | refine Rg.readT (h := ?_) | refine Rg.offT (h := ?_))
      refine Rg.read (by rfl) (by rfl) (by rfl) (by rfl) (pr_conv (r := ((u % 256 : Nat) : Int)) rfl evT (by rfl) (by rfl) (by rw [wrap_u8]; omega)) ?_
      refine Rg.read (by rfl) (by rfl) (by rfl) (by rfl) (pr_orW (p := u % 256) (q := 128) (r := ((UInt8.ofNat (128 + u % 128)).toNat : Int)) rfl evT evT (by show u % 256 < 256; exact Nat.mod_lt _ (by omega)) (by show 128 < 256; omega) (by rw [or128, byte_nat (by omega)])) ?_
      refine Rg.call (by rfl) rfl rfl (by rfl) (by rfl) rfl (by rfl) (args2 rfl evT evT) ?_
      refine writeByte hb (by omega) fun H1 hb1 => ?_
      refine Rg.done ?_
      show Does Tryz.prog _ _ _ _
      refine Does.region fits1 ?_
      (first | refine Rg.readT (h := ?_) | refine Rg.offT (h := ?_))
      refine Rg.read (by rfl) (by rfl) (by rfl) (by rfl) (pr_shrW (p := u) (q := 7) (r := ((u / 128 : Nat) : Int)) rfl evT evT (by rfl)) ?_
      (first | refine Rg.readT (h := ?_) | refine Rg.offT (h := ?_))
      refine Rg.done ?_
      show Does Tryz.prog nloop _ _ _
      refine Does.keep [(4, at0 b), (3, .int .u64 ((u / 128 : Nat) : Int))] (keep_cons (by repeat (first | exact lk_hit | (apply lk_skip; · rfl))) (keep_cons (by repeat (first | exact lk_hit | (apply lk_skip; · rfl))) keep_nil)) ?_
      refine ih (u / 128) (by omega) (l ++ [UInt8.ofNat (128 + u % 128)]) H1 K hb1 ?_ (by simp; omega) ?_
      · rw [List.length_append, List.length_singleton, Nat.pow_succ, Nat.mul_comm (128 ^ l.length), ← Nat.mul_assoc]
        exact Nat.lt_of_le_of_lt (Nat.mul_le_mul_right _ (Nat.div_mul_le_self u 128)) hu
      · intro L' H' u' l' a1 a2 a3 a4 a5 a6
        refine hK L' H' u' l' a1 a2 a3 a4 a5 ?_
        rw [a6, List.append_assoc]
        congr 1
        conv => rhs; unfold enc
        rw [if_neg (by omega)]
        rfl
    · have h : ¬ 127 < u := by have := of_decide_eq_false h; omega
      refine Does.exit fits1 ?_
      refine hK _ H u l (by repeat (first | exact lk_hit | (apply lk_skip; · rfl))) (by repeat (first | exact lk_hit | (apply lk_skip; · rfl))) hb hl (by omega) ?_
      congr 1
      unfold enc
      rw [if_pos (by omega)]

noncomputable def ntail : Code := sub [true, true, true] (bodyOf Tryz.f14)

theorem num_tail (u : Nat) (H : AHeap) (K : VK) (hu : u < 18446744073709551616) (hK : ∀ H', K (.string ⟨⟨enc u⟩⟩) H') :
    Does Tryz.prog ntail (fa 24 [(3, .int .u64 (u : Int))] [] false) H (kFin (env Tryz.prog idf (conL cons)) Tryz.prog Tryz.f14.results.toList K) := by
  refine Does.seq fits1 ?_
  refine Does.region fits1 ?_
  refine Rg.make (by rfl) (by rfl) (by rfl) (by rfl) (by rfl) ?_
  refine Rg.done ?_
  show Does Tryz.prog _ _ _ _
  have hb : Bld (H.new (.cells .leaf 2 [.pointer none, .slice none 0 0] 78 0 (0, 0))) H.next [] :=
    ⟨.pointer none, .slice none 0 0, .inl rfl, row_zero [.pointer none, .slice none 0 0], by simp, .nil, id⟩
  refine Does.seq fits1 ?_
  refine Does.block fits1 ?_
  refine Does.keep [(4, at0 H.next), (3, .int .u64 (u : Int))] (keep_cons lkT (keep_cons lkT keep_nil)) ?_
  refine num_loop u [] _ _ hb (by simpa using hu) (by simp) ?_
  intro L' H' u' l' a1 a2 a3 a4 a5 a6
  show Does Tryz.prog _ _ _ _
  refine Does.keep [(4, at0 H.next), (3, .int .u64 (u' : Int))] (keep_cons a2 (keep_cons a1 keep_nil)) ?_
  refine Does.seq fits1 ?_
  refine Does.region fits1 ?_
  (first | refine Rg.readT (h := ?_) | refine Rg.offT (h := ?_))
  refine Rg.read (by rfl) (by rfl) (by rfl) (by rfl) (pr_conv (r := ((UInt8.ofNat u').toNat : Int)) rfl evT (by rfl) (by rfl) (by rw [wrap_u8, byte_nat (by omega)]; omega)) ?_
  refine Rg.call (by rfl) rfl rfl (by rfl) (by rfl) rfl (by rfl) (args2 rfl evT evT) ?_
  refine writeByte a3 (by omega) fun H1 hb1 => ?_
  refine Rg.done ?_
  show Does Tryz.prog _ _ _ _
  refine Does.seq fits1 ?_
  refine Does.region fits1 ?_
  refine Rg.call (by rfl) rfl rfl (by rfl) (by rfl) rfl (by rfl) (args1 rfl evT) ?_
  refine string_ hb1 (by simp; omega) fun H2 => ?_
  (first | refine Rg.readT (h := ?_) | refine Rg.offT (h := ?_))
  refine Rg.done ?_
  show Does Tryz.prog _ _ _ _
  rw [a6, List.nil_append]
  exact Does.ret fits1 (fin_r rfl (hK H2))

theorem number {n : Int} (h1 : -9223372036854775808 ≤ n) (h2 : n ≤ 9223372036854775807) {H : AHeap} {K : VK} (hK : ∀ H', K (.string ⟨⟨enc (fold n)⟩⟩) H') : Ans Tryz.prog 14 [.int .i64 n] H K := by
  refine Ans.body1 fits1 24 Tryz.func14 rfl rfl ?_
  apply Does.next fits1
  · refine Does.region fits1 ?_
    (first | refine Rg.readT (h := ?_) | refine Rg.offT (h := ?_))
    exact Rg.done ⟨rfl, rfl⟩
  by_cases hn : n < 0
  · have hf : fold n = (-2 * n - 1).toNat := by unfold fold; rw [if_pos hn]
    apply Does.next fits1
    · refine Does.region fits1 ?_
      (first | refine Rg.readT (h := ?_) | refine Rg.offT (h := ?_))
      refine Rg.read (by rfl) (by rfl) (by rfl) (by rfl) (pr_conv (r := (((n + 18446744073709551616).toNat : Nat) : Int)) rfl evT (by rfl) (by rfl) (by rw [wrap_u64]; omega)) ?_
      refine Rg.read (by rfl) (by rfl) (by rfl) (by rfl) (pr_shlW (p := (n + 18446744073709551616).toNat) (q := 1) (r := (((18446744073709551616 + 2 * n).toNat : Nat) : Int)) rfl evT evT (by show IntKind.u64.wrap (((n + 18446744073709551616).toNat * 2 : Nat) : Int) = _; rw [wrap_u64]; omega)) ?_
      (first | refine Rg.readT (h := ?_) | refine Rg.offT (h := ?_))
      exact Rg.done ⟨rfl, rfl⟩
    refine Does.seq fits1 ?_
    refine Does.seq fits1 ?_
    refine Does.region fits1 ?_
    repeat (first | refine Rg.readT (h := ?_) | refine Rg.offT (h := ?_))
    refine Rg.done ?_
    show Does Tryz.prog _ _ _ _
    refine Does.condT fits1 (lk_bool lkT (decide_eq_true hn)) ?_
    refine Does.region fits1 ?_
    (first | refine Rg.readT (h := ?_) | refine Rg.offT (h := ?_))
    refine Rg.read (by rfl) (by rfl) (by rfl) (by rfl) (pr_com64 (p := (18446744073709551616 + 2 * n).toNat) (r := ((fold n : Nat) : Int)) rfl evT (by omega) (by rw [hf]; omega)) ?_
    (first | refine Rg.readT (h := ?_) | refine Rg.offT (h := ?_))
    refine Rg.done ?_
    show Does Tryz.prog ntail _ _ _
    refine Does.keep [(3, .int .u64 ((fold n : Nat) : Int))] (keep_cons lkT keep_nil) ?_
    exact num_tail (fold n) H K (by rw [hf]; omega) hK
  · have hf : fold n = (2 * n).toNat := by unfold fold; rw [if_neg hn]
    apply Does.next fits1
    · refine Does.region fits1 ?_
      (first | refine Rg.readT (h := ?_) | refine Rg.offT (h := ?_))
      refine Rg.read (by rfl) (by rfl) (by rfl) (by rfl) (pr_conv (r := ((n.toNat : Nat) : Int)) rfl evT (by rfl) (by rfl) (by rw [wrap_u64]; omega)) ?_
      refine Rg.read (by rfl) (by rfl) (by rfl) (by rfl) (pr_shlW (p := n.toNat) (q := 1) (r := ((fold n : Nat) : Int)) rfl evT evT (by show IntKind.u64.wrap ((n.toNat * 2 : Nat) : Int) = _; rw [wrap_u64, hf]; omega)) ?_
      (first | refine Rg.readT (h := ?_) | refine Rg.offT (h := ?_))
      exact Rg.done ⟨rfl, rfl⟩
    refine Does.seq fits1 ?_
    refine Does.seq fits1 ?_
    refine Does.region fits1 ?_
    repeat (first | refine Rg.readT (h := ?_) | refine Rg.offT (h := ?_))
    refine Rg.done ?_
    show Does Tryz.prog _ _ _ _
    refine Does.condF fits1 (lk_bool lkT (decide_eq_false hn)) ?_
    refine Does.skip fits1 ?_
    show Does Tryz.prog ntail _ _ _
    refine Does.keep [(3, .int .u64 ((fold n : Nat) : Int))] (keep_cons lkT keep_nil) ?_
    exact num_tail (fold n) H K (by rw [hf]; omega) hK
end Go.Proofs.YtkeomdnlibchcaaGreat.scr
