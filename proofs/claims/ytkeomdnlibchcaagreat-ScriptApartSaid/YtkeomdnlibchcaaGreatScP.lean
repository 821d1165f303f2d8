/-
  The law ScriptApart answers true, whatever it is handed; no condition.
-/
import Derived.Test.YtkeomdnlibchcaaGreatScU
import Derived.Test.YtkeomdnlibchcaaGreatScE
import Derived.Test.YtkeomdnlibchcaaGreatAiVe
namespace Go.Proofs.YtkeomdnlibchcaaGreat.scr
open Go.Ai
set_option maxRecDepth 100000

abbrev cons3 : List FuncId := 11 :: cons
theorem fits3 : Fits Tryz.prog idf (conL cons3) := fits.withCon (by kernel_rfl)

theorem number0 {n : Int} (h1 : -9223372036854775808 ≤ n) (h2 : n ≤ 9223372036854775807) {H : AHeap} {K : VK} (hK : K (str (enc (fold n))) H) : Ans Tryz.prog 14 [.int .i64 n] H K :=
  (number h1 h2 (K := fun v _ => v = str (enc (fold n))) fun _ => rfl).still rfl (by rintro _ rfl; rfl) (by rintro _ rfl; exact hK)
theorem take0 {l : List UInt8} (hlen : l.length < 4611686018427387904) {H : AHeap} {K : VK} (hK : K (.tuple #[.int .i64 (tk l).1, .int .i64 ((tk l).2.1 : Int), .bool (tk l).2.2]) H) : Ans Tryz.prog 12 [str l] H K :=
  (take hlen (K := fun v _ => v = .tuple #[.int .i64 (tk l).1, .int .i64 ((tk l).2.1 : Int), .bool (tk l).2.2]) fun _ => rfl).still rfl (by rintro _ rfl; rfl) (by rintro _ rfl; exact hK)

def encs (ns : List Int) : List UInt8 := ns.flatMap fun n => enc (fold n)
theorem encs_take {ns : List Int} {i : Nat} {n : Int} (h : ns[i]? = some n) : encs (ns.take (i + 1)) = encs (ns.take i) ++ enc (fold n) := by
  unfold encs; rw [List.take_add_one, h]; simp
theorem encs_drop {ns : List Int} {i : Nat} {n : Int} (h : ns[i]? = some n) : encs (ns.drop i) = enc (fold n) ++ encs (ns.drop (i + 1)) := by
  obtain ⟨h1, h2⟩ := List.getElem?_eq_some_iff.1 h
  unfold encs; rw [List.drop_eq_getElem_cons h1, List.flatMap_cons, h2]
theorem encs_len : ∀ ns : List Int, (∀ n ∈ ns, -9223372036854775808 ≤ n ∧ n ≤ 9223372036854775807) → (encs ns).length ≤ 10 * ns.length
  | [], _ => by simp [encs]
  | n :: ns, h => by
    have h1 := h n (by simp)
    have h2 := encs_len ns fun m hm => h m (by simp [hm])
    have h3 := enc_len10 h1.1 h1.2
    have e : encs (n :: ns) = enc (fold n) ++ encs ns := rfl
    rw [e, List.length_append, List.length_cons]
    omega

def vals (ns : List Int) : List Value := ns.map (Value.int .i64)
theorem vals_at {ns : List Int} {i : Nat} {n : Int} (h : ns[i]? = some n) : (vals ns)[i]? = some (.int .i64 n) := by unfold vals; rw [List.getElem?_map, h]; rfl
theorem vals_len (ns : List Int) : (vals ns).length = ns.length := by simp [vals]

noncomputable def apl1 : Code := sub [true, true, true, false, true, false] (bodyOf Tryz.f4)
noncomputable def apl2 : Code := sub [true, true, true, true, true, false, true, false] (bodyOf Tryz.f4)
noncomputable def apl3 : Code := sub [true, true, true, true, true, false, true, false, false, true, false, false, true, true, true, true, false, true, false] (bodyOf Tryz.f4)
noncomputable def aptail : Code := sub [true, true, true, true, true, false, true, false, false, true, false, false, true, true, true, true] (bodyOf Tryz.f4)

section
variable {ns : List Int} {sl : Value} {be : List UInt8} {H : AHeap}
theorem ap_first (harr : Arr H sl (vals ns)) (hin : ∀ n ∈ ns, -9223372036854775808 ≤ n ∧ n ≤ 9223372036854775807) (h200 : ns.length ≤ 200) : ∀ (d i : Nat) (K : CK), i + d = ns.length →
    (∀ L', lk 5 L' = str (encs ns) → lk 0 L' = sl → lk 1 L' = str be → K (.exit 0) (fa 132 L' [] false) H) →
    Does Tryz.prog apl1 (fa 132 [(6, .int .i64 (i : Int)), (5, str (encs (ns.take i))), (0, sl), (1, str be)] [] false) H K := by
  intro d
  induction d with
  | zero =>
    intro i K hid hK
    obtain ⟨p, c, rfl⟩ := harr.len
    refine Does.loop fits3 ?_
    refine Does.seq fits3 ?_
    refine Does.seq fits3 ?_
    refine Does.region fits3 ?_
    (first | refine Rg.readT (h := ?_) | refine Rg.offT (h := ?_))
    (first | refine Rg.readT (h := ?_) | refine Rg.offT (h := ?_))
    refine Rg.read (by rfl) (by rfl) (by rfl) (by rfl) (pr_lenA rfl rfl rfl rfl (by rfl) evT) ?_
    refine Rg.read (v := .bool false) (by rfl) (by rfl) (by rfl) (by rfl) ((pr_lss rfl evT evT).trans (by rw [vals_len, decide_eq_false (by omega)])) ?_
    refine Rg.done ?_
    show Does Tryz.prog _ _ _ _
    refine Does.condF fits3 lkT ?_
    refine Does.exit fits3 ?_
    have e : ns.take i = ns := List.take_of_length_le (by omega)
    rw [e]
    exact hK _ lkT lkT lkT
  | succ d ih =>
    intro i K hid hK
    obtain ⟨n, hn⟩ : ∃ n, ns[i]? = some n := ⟨_, List.getElem?_eq_getElem (by omega)⟩
    obtain ⟨h1, h2⟩ := hin n (List.mem_of_getElem? hn)
    obtain ⟨id, c, ll, e, g, fz, hsl, hrow, hlv⟩ := harr.at (vals_at hn)
    have hE := encs_take hn
    have hl1 := encs_len (ns.take i) fun m hm => hin m (List.mem_of_mem_take hm)
    have hl2 := enc_len10 h1 h2
    rw [List.length_take] at hl1
    refine Does.keep [(6, .int .i64 (i : Int)), (5, str (encs (ns.take i))), (0, .slice (some ⟨id, 0, none⟩) (vals ns).length c), (1, str be)] (keep_cons lkT (keep_cons lkT (keep_cons (by rw [← hsl]; repeat (first | exact lk_hit | (apply lk_skip; · rfl))) (keep_cons lkT keep_nil)))) ?_
    refine Does.loop fits3 ?_
    refine Does.seq fits3 ?_
    refine Does.seq fits3 ?_
    refine Does.region fits3 ?_
    (first | refine Rg.readT (h := ?_) | refine Rg.offT (h := ?_))
    (first | refine Rg.readT (h := ?_) | refine Rg.offT (h := ?_))
    refine Rg.read (by rfl) (by rfl) (by rfl) (by rfl) (pr_lenA rfl rfl rfl rfl (by rfl) evT) ?_
    refine Rg.read (v := .bool true) (by rfl) (by rfl) (by rfl) (by rfl) ((pr_lss rfl evT evT).trans (by rw [vals_len, decide_eq_true (by omega)])) ?_
    refine Rg.done ?_
    show Does Tryz.prog _ _ _ _
    refine Does.condT fits3 lkT ?_
    refine Does.skip fits3 ?_
    show Does Tryz.prog _ _ _ _
    refine Does.seq fits3 ?_
    refine Does.block fits3 ?_
    refine Does.region fits3 ?_
    (first | refine Rg.readT (h := ?_) | refine Rg.offT (h := ?_))
    (first | refine Rg.readT (h := ?_) | refine Rg.offT (h := ?_))
    (first | refine Rg.readT (h := ?_) | refine Rg.offT (h := ?_))
    refine Rg.read (by rfl) (by rfl) (by rfl) (by rfl) (pr_indexA (s := 1) (i := i) rfl (by rfl) (by rfl) evT evT (by rw [vals_len]; omega)) ?_
    refine Rg.read (v := .int .i64 n) (by rfl) (by rfl) (by rfl) (by rfl) (pr_load (n := 1) rfl evT (by rfl) (by rfl) (by rfl) hrow (by rw [Nat.mul_one]; exact hlv)) ?_
    refine Rg.call (by rfl) rfl rfl (by rfl) (by rfl) rfl (by rfl) (args1 rfl evT) ?_
    refine number0 h1 h2 ?_
    refine Rg.read (by rfl) (by rfl) (by rfl) (by rfl) (pr_addS rfl evT evT (by omega)) ?_
    (first | refine Rg.readT (h := ?_) | refine Rg.offT (h := ?_))
    refine Rg.done ?_
    show Does Tryz.prog _ _ _ _
    refine Does.region fits3 ?_
    (first | refine Rg.readT (h := ?_) | refine Rg.offT (h := ?_))
    refine Rg.read (by rfl) (by rfl) (by rfl) (by rfl) (pr_addW (r := ((i + 1 : Nat) : Int)) rfl evT evT (by rw [IntWalk.i64_in _ (by omega)]; omega)) ?_
    (first | refine Rg.readT (h := ?_) | refine Rg.offT (h := ?_))
    refine Rg.done ?_
    show Does Tryz.prog apl1 _ _ _
    refine Does.keep [(6, .int .i64 ((i + 1 : Nat) : Int)), (5, str (encs (ns.take (i + 1)))), (0, sl), (1, str be)] (keep_cons lkT (keep_cons (by rw [hE]; repeat (first | exact lk_hit | (apply lk_skip; · rfl))) (keep_cons (by rw [hsl]; repeat (first | exact lk_hit | (apply lk_skip; · rfl))) (keep_cons lkT keep_nil)))) ?_
    exact ih (i + 1) K (by omega) hK

/-- No part of a number's bytes is a number. -/
theorem ap_parts {i : Nat} {u : Nat} {r : List UInt8} (hu : (enc u).length ≤ 10) (hr : r.length < 1000000) : ∀ (d k : Nat) (K : CK), k + d = (enc u).length →
    (∀ L', lk 5 L' = str (enc u ++ r) → lk 0 L' = sl → lk 1 L' = str be → lk 7 L' = .int .i64 (i : Int) → lk 9 L' = .int .i64 ((enc u).length : Int) → K (.exit 4) (fa 132 L' [] false) H) →
    Does Tryz.prog apl3 (fa 132 [(12, .int .i64 (k : Int)), (9, .int .i64 ((enc u).length : Int)), (7, .int .i64 (i : Int)), (5, str (enc u ++ r)), (0, sl), (1, str be)] [] false) H K := by
  intro d
  induction d with
  | zero =>
    intro k K hkd hK
    refine Does.loop fits3 ?_
    refine Does.seq fits3 ?_
    refine Does.seq fits3 ?_
    refine Does.region fits3 ?_
    repeat (first | refine Rg.readT (h := ?_) | refine Rg.offT (h := ?_))
    refine Rg.done ?_
    show Does Tryz.prog _ _ _ _
    refine Does.condF fits3 (lk_bool lkT (decide_eq_false (by omega))) ?_
    refine Does.exit fits3 ?_
    exact hK _ lkT lkT lkT lkT lkT
  | succ d ih =>
    intro k K hkd hK
    have htk : tk ((enc u ++ r).take k) = (0, 0, false) := by
      rw [List.take_append_of_le_length (by omega)]
      exact tk_none (by omega)
    refine Does.loop fits3 ?_
    refine Does.seq fits3 ?_
    refine Does.seq fits3 ?_
    refine Does.region fits3 ?_
    repeat (first | refine Rg.readT (h := ?_) | refine Rg.offT (h := ?_))
    refine Rg.done ?_
    show Does Tryz.prog _ _ _ _
    refine Does.condT fits3 (lk_bool lkT (decide_eq_true (by omega))) ?_
    refine Does.skip fits3 ?_
    show Does Tryz.prog _ _ _ _
    refine Does.seq fits3 ?_
    refine Does.block fits3 ?_
    refine Does.seq fits3 ?_
    refine Does.region fits3 ?_
    (first | refine Rg.readT (h := ?_) | refine Rg.offT (h := ?_))
    (first | refine Rg.readT (h := ?_) | refine Rg.offT (h := ?_))
    refine Rg.read (by rfl) (by rfl) (by rfl) (by rfl) (pr_sliceS (i := 0) (j := k) (m := (enc u ++ r).take k) rfl (by rfl) evT rfl (optNat_some evT) (Nat.zero_le _) (by rw [List.length_append]; omega) rfl) ?_
    refine Rg.call (by rfl) rfl rfl (by rfl) (by rfl) rfl (by rfl) (args1 rfl evT) ?_
    refine take0 (by rw [List.length_take]; omega) ?_
    rw [htk]
    repeat (first | refine Rg.readT (h := ?_) | refine Rg.offT (h := ?_))
    refine Rg.done ?_
    show Does Tryz.prog _ _ _ _
    refine Does.seq fits3 ?_
    refine Does.region fits3 ?_
    repeat (first | refine Rg.readT (h := ?_) | refine Rg.offT (h := ?_))
    refine Rg.done ?_
    show Does Tryz.prog _ _ _ _
    refine Does.condF fits3 lkT ?_
    refine Does.skip fits3 ?_
    show Does Tryz.prog _ _ _ _
    refine Does.region fits3 ?_
    (first | refine Rg.readT (h := ?_) | refine Rg.offT (h := ?_))
    refine Rg.read (by rfl) (by rfl) (by rfl) (by rfl) (pr_addW (r := ((k + 1 : Nat) : Int)) rfl evT evT (by rw [IntWalk.i64_in _ (by omega)]; omega)) ?_
    (first | refine Rg.readT (h := ?_) | refine Rg.offT (h := ?_))
    refine Rg.done ?_
    show Does Tryz.prog apl3 _ _ _
    refine Does.keep [(12, .int .i64 ((k + 1 : Nat) : Int)), (9, .int .i64 ((enc u).length : Int)), (7, .int .i64 (i : Int)), (5, str (enc u ++ r)), (0, sl), (1, str be)] (keep_cons lkT (keep_cons lkT (keep_cons lkT (keep_cons lkT (keep_cons lkT (keep_cons lkT keep_nil)))))) ?_
    exact ih (k + 1) K (by omega) hK
end
end Go.Proofs.YtkeomdnlibchcaaGreat.scr
