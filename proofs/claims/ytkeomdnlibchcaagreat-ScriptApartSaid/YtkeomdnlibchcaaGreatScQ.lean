/-
  The law ScriptApart answers true, whatever it is handed, where the fixed case is alive; no condition.
-/
import Derived.Test.YtkeomdnlibchcaaGreatScP
namespace Go.Proofs.YtkeomdnlibchcaaGreat.scr
open Go.Ai
set_option maxRecDepth 100000

section
variable {ns : List Int} {sl : Value} {be : List UInt8} {H : AHeap}
theorem ap_tail {i : Nat} {n : Int} {r : List UInt8} (h1 : -9223372036854775808 ≤ n) (h2 : n ≤ 9223372036854775807) (hr : r.length < 1000000) {K : CK}
    (hK : ∀ L', lk 5 L' = str r → lk 0 L' = sl → lk 1 L' = str be → lk 7 L' = .int .i64 (i : Int) → K .normal (fa 132 L' [] false) H) :
    Does Tryz.prog aptail (fa 132 [(9, .int .i64 ((enc (fold n)).length : Int)), (7, .int .i64 (i : Int)), (5, str (enc (fold n) ++ r)), (0, sl), (1, str be)] [] false) H K := by
  have hl := enc_len10 h1 h2
  refine Does.seq fits3 ?_
  refine Does.seq fits3 ?_
  refine Does.region fits3 ?_
  (first | refine Rg.readT (h := ?_) | refine Rg.offT (h := ?_))
  refine Rg.done ?_
  show Does Tryz.prog _ _ _ _
  refine Does.block fits3 ?_
  show Does Tryz.prog apl3 _ _ _
  refine Does.keep [(12, .int .i64 ((0 : Nat) : Int)), (9, .int .i64 ((enc (fold n)).length : Int)), (7, .int .i64 (i : Int)), (5, str (enc (fold n) ++ r)), (0, sl), (1, str be)] (keep_cons lkT (keep_cons lkT (keep_cons lkT (keep_cons lkT (keep_cons lkT (keep_cons lkT keep_nil)))))) ?_
  refine ap_parts hl hr (enc (fold n)).length 0 _ (by omega) ?_
  intro L' a5 a0 a1 a7 a9
  show Does Tryz.prog _ _ _ _
  refine Does.keep [(5, str (enc (fold n) ++ r)), (0, sl), (1, str be), (7, .int .i64 (i : Int)), (9, .int .i64 ((enc (fold n)).length : Int))] (keep_cons a5 (keep_cons a0 (keep_cons a1 (keep_cons a7 (keep_cons a9 keep_nil))))) ?_
  refine Does.region fits3 ?_
  (first | refine Rg.readT (h := ?_) | refine Rg.offT (h := ?_))
  (first | refine Rg.readT (h := ?_) | refine Rg.offT (h := ?_))
  refine Rg.read (by rfl) (by rfl) (by rfl) (by rfl) (pr_sliceS (i := (enc (fold n)).length) (j := (enc (fold n) ++ r).length) (m := r) rfl (by rfl) evT (optNat_some evT) rfl (by rw [List.length_append]; omega) (Nat.le_refl _) (by rw [List.take_length, List.drop_left'] <;> rfl)) ?_
  (first | refine Rg.readT (h := ?_) | refine Rg.offT (h := ?_))
  refine Rg.done ?_
  exact hK _ lkT lkT lkT lkT

set_option maxHeartbeats 2000000 in
theorem ap_second (harr : Arr H sl (vals ns)) (hin : ∀ n ∈ ns, -9223372036854775808 ≤ n ∧ n ≤ 9223372036854775807) (h200 : ns.length ≤ 200) (hbe : be.length ≤ 1024) : ∀ (d i : Nat) (K : CK), i + d = ns.length →
    (∀ L', lk 5 L' = str be → lk 1 L' = str be → K (.exit 2) (fa 132 L' [] false) H) →
    Does Tryz.prog apl2 (fa 132 [(7, .int .i64 (i : Int)), (5, str (encs (ns.drop i) ++ be)), (0, sl), (1, str be)] [] false) H K := by
  intro d
  induction d with
  | zero =>
    intro i K hid hK
    obtain ⟨p, c, rfl⟩ := harr.len
    refine Does.loop fits3 ?_
    refine Does.seq fits3 ?_
    refine Does.seq fits3 ?_
    refine Does.region fits3 ?_
    (first | refine Rg.readT (h := ?_) | refine Rg.offT (h := ?_))
    (first | refine Rg.readT (h := ?_) | refine Rg.offT (h := ?_))
    refine Rg.read (by rfl) (by rfl) (by rfl) (by rfl) (pr_lenA rfl rfl rfl rfl (by rfl) evT) ?_
    refine Rg.read (v := .bool false) (by rfl) (by rfl) (by rfl) (by rfl) ((pr_lss rfl evT evT).trans (by rw [vals_len, decide_eq_false (by omega)])) ?_
    refine Rg.done ?_
    show Does Tryz.prog _ _ _ _
    refine Does.condF fits3 lkT ?_
    refine Does.exit fits3 ?_
    have e : encs (ns.drop i) ++ be = be := by rw [List.drop_eq_nil_of_le (by omega)]; rfl
    rw [e]
    exact hK _ lkT lkT
  | succ d ih =>
    intro i K hid hK
    obtain ⟨n, hn⟩ : ∃ n, ns[i]? = some n := ⟨_, List.getElem?_eq_getElem (by omega)⟩
    obtain ⟨h1, h2⟩ := hin n (List.mem_of_getElem? hn)
    obtain ⟨h3, h4⟩ := half_in h1 h2
    obtain ⟨id, c, ll, e, g, fz, hsl, hrow, hlv⟩ := harr.at (vals_at hn)
    have hE := encs_drop hn
    have hl1 := encs_len (ns.drop (i + 1)) fun m hm => hin m (List.mem_of_mem_drop hm)
    have hl2 := enc_len10 h1 h2
    have hpos := enc_pos (fold n)
    have hhalf := enc_len_mono _ _ (fold_half n)
    rw [List.length_drop] at hl1
    have hr : (encs (ns.drop (i + 1)) ++ be).length < 1000000 := by rw [List.length_append]; omega
    have htk := tk_enc h1 h2 (encs (ns.drop (i + 1)) ++ be)
    rw [hE, List.append_assoc]
    generalize hrr : encs (ns.drop (i + 1)) ++ be = r at hr htk ⊢
    have hsl2 : (enc (fold n) ++ r).take (enc (fold n)).length = enc (fold n) := by rw [List.take_left']; rfl
    have hlen : (enc (fold n) ++ r).length = (enc (fold n)).length + r.length := List.length_append
    have hld : ∀ {a : AAct} {o : Oper} {x : Operand} {H' : AHeap}, o.op = .load 3 x → (rv x).f a = .pointer (some ⟨id, i * 1, none⟩) → H' = H → pread (env Tryz.prog idf (conL cons3)) a H' o = some (.int .i64 n) := by
      intro a o x H' ho hx hH
      subst hH
      exact pr_load (n := 1) ho hx (by rfl) (by rfl) (by rfl) hrow (by rw [Nat.mul_one]; exact hlv)
    refine Does.keep [(7, .int .i64 (i : Int)), (5, str (enc (fold n) ++ r)), (0, .slice (some ⟨id, 0, none⟩) (vals ns).length c), (1, str be)] (keep_cons lkT (keep_cons lkT (keep_cons (by rw [← hsl]; repeat (first | exact lk_hit | (apply lk_skip; · rfl))) (keep_cons lkT keep_nil)))) ?_
    refine Does.loop fits3 ?_
    refine Does.seq fits3 ?_
    refine Does.seq fits3 ?_
    refine Does.region fits3 ?_
    (first | refine Rg.readT (h := ?_) | refine Rg.offT (h := ?_))
    (first | refine Rg.readT (h := ?_) | refine Rg.offT (h := ?_))
    refine Rg.read (by rfl) (by rfl) (by rfl) (by rfl) (pr_lenA rfl rfl rfl rfl (by rfl) evT) ?_
    refine Rg.read (v := .bool true) (by rfl) (by rfl) (by rfl) (by rfl) ((pr_lss rfl evT evT).trans (by rw [vals_len, decide_eq_true (by omega)])) ?_
    refine Rg.done ?_
    show Does Tryz.prog _ _ _ _
    refine Does.condT fits3 lkT ?_
    refine Does.skip fits3 ?_
    show Does Tryz.prog _ _ _ _
    refine Does.seq fits3 ?_
    refine Does.block fits3 ?_
    refine Does.seq fits3 ?_
    refine Does.region fits3 ?_
    (first | refine Rg.readT (h := ?_) | refine Rg.offT (h := ?_))
    refine Rg.call (by rfl) rfl rfl (by rfl) (by rfl) rfl (by rfl) (args1 rfl evT) ?_
    refine take0 (by omega) ?_
    rw [htk]
    repeat (first | refine Rg.readT (h := ?_) | refine Rg.offT (h := ?_))
    refine Rg.done ?_
    show Does Tryz.prog _ _ _ _
    refine Does.keep [(8, .int .i64 n), (9, .int .i64 ((enc (fold n)).length : Int)), (10, .bool true), (7, .int .i64 (i : Int)), (5, str (enc (fold n) ++ r)), (0, .slice (some ⟨id, 0, none⟩) (vals ns).length c), (1, str be)] (keep_cons lkT (keep_cons lkT (keep_cons lkT (keep_cons lkT (keep_cons lkT (keep_cons lkT (keep_cons lkT keep_nil))))))) ?_
    refine Does.seq fits3 ?_
    refine Does.seq fits3 ?_
    refine Does.draw fits3 (is := [0, 1, 2, 3, 4, 5, 6, 7, 8, 9, 10, 11, 12, 13, 14, 15, 16, 17, 18, 19, 20, 21, 22, 23, 24, 25, 26, 27]) (by kernel_rfl) (by kernel_rfl) ?_
    refine Rd.readPT (h := ?_)
    refine Rd.readPT (h := ?_)
    refine Rd.readPT (h := ?_)
    refine Rd.readP (by rfl) (by rfl) (by rfl) (by rfl) (by rfl) (fun _ => pr_indexA (s := 1) (i := i) rfl (by rfl) (by rfl) evT evT (by rw [vals_len]; omega)) same_ptr ?_
    refine Rd.read (by rfl) (by rfl) (by rfl) (by rfl) (by rfl) (hld rfl evT rfl) ?_
    refine Rd.readP (v := .bool false) (by rfl) (by rfl) (by rfl) (by rfl) (by rfl) (fun _ => (pr_neq rfl evT evT).trans (by rw [decide_eq_true rfl]; rfl)) same_bool ?_
    refine Rd.readPT (h := ?_)
    refine Rd.readPT (h := ?_)
    refine Rd.readP (v := .bool false) (by rfl) (by rfl) (by rfl) (by rfl) (by rfl) (fun _ => pr_not (b := true) rfl evT) same_bool ?_
    refine Rd.readP (v := .bool false) (by rfl) (by rfl) (by rfl) (by rfl) (by rfl) (fun _ => pr_pickF rfl evT evT) same_bool ?_
    refine Rd.readPT (h := ?_)
    refine Rd.readPT (h := ?_)
    refine Rd.readP (v := .bool false) (by rfl) (by rfl) (by rfl) (by rfl) (by rfl) (fun _ => (pr_lss rfl evT evT).trans (by rw [decide_eq_false (by omega)])) same_bool ?_
    refine Rd.readP (v := .bool false) (by rfl) (by rfl) (by rfl) (by rfl) (by rfl) (fun _ => pr_pickF rfl evT evT) same_bool ?_
    refine Rd.readPT (h := ?_)
    refine Rd.readPT (h := ?_)
    refine Rd.readPT (h := ?_)
    refine Rd.readP (by rfl) (by rfl) (by rfl) (by rfl) (by rfl) (fun _ => pr_lenS rfl rfl rfl rfl (by rfl) evT) same_int ?_
    refine Rd.readP (v := .bool false) (by rfl) (by rfl) (by rfl) (by rfl) (by rfl) (fun _ => (pr_gtr rfl evT evT).trans (by rw [decide_eq_false (by omega)])) same_bool ?_
    refine Rd.readP (v := .bool false) (by rfl) (by rfl) (by rfl) (by rfl) (by rfl) (fun _ => pr_pickF rfl evT evT) same_bool ?_
    refine Rd.readPT (h := ?_)
    refine Rd.readPT (h := ?_)
    refine Rd.readPT (h := ?_)
    refine Rd.readP (by rfl) (by rfl) (by rfl) (by rfl) (by rfl) (fun _ => pr_sliceS (i := 0) (j := (enc (fold n)).length) (m := enc (fold n)) rfl (by rfl) evT rfl (optNat_some evT) (Nat.zero_le _) (by omega) (by rw [hsl2]; rfl)) same_str ?_
    refine Rd.readPT (h := ?_)
    refine Rd.call (by rfl) (by rfl) rfl rfl (by rfl) (by rfl) rfl (by rfl) (by kernel_rfl) (args1 rfl evT) ?_
    refine number0 h1 h2 ?_
    refine Rd.readP (v := .bool false) (by rfl) (by rfl) (by rfl) (by rfl) (by rfl) (fun _ => (pr_neS rfl evT evT).trans (by rw [decide_eq_true rfl]; rfl)) same_bool ?_
    refine Rd.readP (v := .bool false) (by rfl) (by rfl) (by rfl) (by rfl) (by rfl) (fun _ => pr_pickF rfl evT evT) same_bool ?_
    refine Rd.done ?_
    show Does Tryz.prog _ _ _ _
    refine Does.condF fits3 lkT ?_
    refine Does.skip fits3 ?_
    show Does Tryz.prog _ _ _ _
    refine Does.keep [(9, .int .i64 ((enc (fold n)).length : Int)), (7, .int .i64 (i : Int)), (5, str (enc (fold n) ++ r)), (0, .slice (some ⟨id, 0, none⟩) (vals ns).length c), (1, str be)] (keep_cons lkT (keep_cons lkT (keep_cons lkT (keep_cons lkT (keep_cons lkT keep_nil))))) ?_
    refine Does.seq fits3 ?_
    refine Does.region fits3 ?_
    (first | refine Rg.readT (h := ?_) | refine Rg.offT (h := ?_))
    (first | refine Rg.readT (h := ?_) | refine Rg.offT (h := ?_))
    refine Rg.read (by rfl) (by rfl) (by rfl) (by rfl) (pr_indexA (s := 1) (i := i) rfl (by rfl) (by rfl) evT evT (by rw [vals_len]; omega)) ?_
    refine Rg.read (by rfl) (by rfl) (by rfl) (by rfl) (hld rfl evT rfl) ?_
    refine Rg.read (by rfl) (by rfl) (by rfl) (by rfl) (pr_quoW (r := n.tdiv 2) rfl evT evT (by decide) (IntWalk.i64_in _ (by omega))) ?_
    refine Rg.call (by rfl) rfl rfl (by rfl) (by rfl) rfl (by rfl) (args1 rfl evT) ?_
    refine number0 h3 h4 ?_
    (first | refine Rg.readT (h := ?_) | refine Rg.offT (h := ?_))
    refine Rg.done ?_
    show Does Tryz.prog _ _ _ _
    refine Does.seq fits3 ?_
    refine Does.seq fits3 ?_
    refine Does.draw fits3 (is := [0, 1, 2, 3, 4, 5, 6, 7, 8, 9, 10, 11, 12, 13, 14, 15, 16, 17, 18, 19, 20, 21]) (by kernel_rfl) (by kernel_rfl) ?_
    refine Rd.readPT (h := ?_)
    refine Rd.readP (by rfl) (by rfl) (by rfl) (by rfl) (by rfl) (fun _ => pr_lenS rfl rfl rfl rfl (by rfl) evT) same_int ?_
    refine Rd.readPT (h := ?_)
    refine Rd.readP (v := .bool false) (by rfl) (by rfl) (by rfl) (by rfl) (by rfl) (fun _ => (pr_gtr rfl evT evT).trans (by rw [decide_eq_false (by omega)])) same_bool ?_
    refine Rd.readPT (h := ?_)
    refine Rd.readPT (h := ?_)
    refine Rd.readPT (h := ?_)
    refine Rd.readPT (h := ?_)
    refine Rd.readP (by rfl) (by rfl) (by rfl) (by rfl) (by rfl) (fun _ => pr_sliceS (i := 0) (j := (enc (fold n)).length) (m := enc (fold n)) rfl (by rfl) evT rfl (optNat_some evT) (Nat.zero_le _) (by omega) (by rw [hsl2]; rfl)) same_str ?_
    refine Rd.readP (v := .bool (decide (n.tdiv 2 = n))) (by rfl) (by rfl) (by rfl) (by rfl) (by rfl) (fun _ => (pr_eqS rfl evT evT).trans (by rw [decide_eq_decide.2 ⟨fun h => fold_inj (enc_inj h), fun h => by rw [h]⟩])) same_bool ?_
    refine Rd.readPT (h := ?_)
    refine Rd.readPT (h := ?_)
    refine Rd.readP (by rfl) (by rfl) (by rfl) (by rfl) (by rfl) (fun _ => pr_indexA (s := 1) (i := i) rfl (by rfl) (by rfl) evT evT (by rw [vals_len]; omega)) same_ptr ?_
    refine Rd.read (by rfl) (by rfl) (by rfl) (by rfl) (by rfl) (hld rfl evT rfl) ?_
    refine Rd.readP (by rfl) (by rfl) (by rfl) (by rfl) (by rfl) (fun _ => pr_quoW (r := n.tdiv 2) rfl evT evT (by decide) (IntWalk.i64_in _ (by omega))) same_int ?_
    refine Rd.readPT (h := ?_)
    refine Rd.readPT (h := ?_)
    refine Rd.readP (by rfl) (by rfl) (by rfl) (by rfl) (by rfl) (fun _ => pr_indexA (s := 1) (i := i) rfl (by rfl) (by rfl) evT evT (by rw [vals_len]; omega)) same_ptr ?_
    refine Rd.read (by rfl) (by rfl) (by rfl) (by rfl) (by rfl) (hld rfl evT rfl) ?_
    refine Rd.readP (by rfl) (by rfl) (by rfl) (by rfl) (by rfl) (fun _ => pr_eql rfl evT evT) same_bool ?_
    refine Rd.readP (v := .bool false) (by rfl) (by rfl) (by rfl) (by rfl) (by rfl) (fun _ => pr_neB rfl evT evT (by cases decide (n.tdiv 2 = n) <;> rfl)) same_bool ?_
    refine Rd.readP (v := .bool false) (by rfl) (by rfl) (by rfl) (by rfl) (by rfl) (fun _ => pr_pickF rfl evT evT) same_bool ?_
    refine Rd.done ?_
    show Does Tryz.prog _ _ _ _
    refine Does.condF fits3 lkT ?_
    refine Does.skip fits3 ?_
    show Does Tryz.prog aptail _ _ _
    refine Does.keep [(9, .int .i64 ((enc (fold n)).length : Int)), (7, .int .i64 (i : Int)), (5, str (enc (fold n) ++ r)), (0, sl), (1, str be)] (keep_cons lkT (keep_cons lkT (keep_cons lkT (keep_cons (by rw [hsl]; repeat (first | exact lk_hit | (apply lk_skip; · rfl))) (keep_cons lkT keep_nil))))) ?_
    refine ap_tail h1 h2 hr ?_
    intro L' a5 a0 a1 a7
    show Does Tryz.prog _ _ _ _
    refine Does.keep [(5, str r), (0, sl), (1, str be), (7, .int .i64 (i : Int))] (keep_cons a5 (keep_cons a0 (keep_cons a1 (keep_cons a7 keep_nil)))) ?_
    refine Does.region fits3 ?_
    (first | refine Rg.readT (h := ?_) | refine Rg.offT (h := ?_))
    refine Rg.read (by rfl) (by rfl) (by rfl) (by rfl) (pr_addW (r := ((i + 1 : Nat) : Int)) rfl evT evT (by rw [IntWalk.i64_in _ (by omega)]; omega)) ?_
    (first | refine Rg.readT (h := ?_) | refine Rg.offT (h := ?_))
    refine Rg.done ?_
    show Does Tryz.prog apl2 _ _ _
    rw [← hrr]
    refine Does.keep [(7, .int .i64 ((i + 1 : Nat) : Int)), (5, str (encs (ns.drop (i + 1)) ++ be)), (0, sl), (1, str be)] (keep_cons lkT (keep_cons lkT (keep_cons lkT (keep_cons lkT keep_nil)))) ?_
    exact ih (i + 1) K (by omega) hK

theorem apart (halive : Replies Tryz.prog 11 [] (.bool true)) (harr : Arr H sl (vals ns)) (hin : ∀ n ∈ ns, -9223372036854775808 ≤ n ∧ n ≤ 9223372036854775807) {K : VK} (hK : ∀ H', K (.bool true) H') : Ans Tryz.prog 4 [sl, str be] H K := by
  obtain ⟨p, c, hsl⟩ := harr.len
  subst hsl
  refine Ans.body2 fits3 132 Tryz.func4 rfl rfl ?_
  refine Does.seq fits3 ?_
  refine Does.region fits3 ?_
  (first | refine Rg.readT (h := ?_) | refine Rg.offT (h := ?_))
  refine Rg.done ?_
  show Does Tryz.prog _ _ _ _
  have hgive : ∀ {L : List (Tmp × Value)} {K' : CK} {x : Code}, (x = Code.ret) → lk 4 L = .bool true → K' .ret (fa 132 [(4, .bool true)] [] false) H → Does Tryz.prog x (fa 132 L [] false) H K' := by
    intro L K' x hx h4 hk
    subst hx
    refine Does.keep [(4, .bool true)] (keep_cons h4 keep_nil) ?_
    exact Does.ret fits3 hk
  have hlong : ∀ {L : List (Tmp × Value)} {K' : CK}, K' .ret (fa 132 [(4, .bool true)] [] false) H → Does Tryz.prog (sub [true, false, true, false] (bodyOf Tryz.f4)) (fa 132 L [] false) H K' := by
    intro L K' hk
    refine Does.seq fits3 ?_
    refine Does.region fits3 ?_
    refine Rg.call (by rfl) rfl rfl (by rfl) (by rfl) rfl (by rfl) (args0 rfl) ?_
    refine halive.ans ?_
    (first | refine Rg.readT (h := ?_) | refine Rg.offT (h := ?_))
    refine Rg.done ?_
    show Does Tryz.prog _ _ _ _
    exact hgive rfl lkT hk
  refine Does.seq fits3 ?_
  refine Does.seq fits3 ?_
  refine Does.region fits3 ?_
  (first | refine Rg.readT (h := ?_) | refine Rg.offT (h := ?_))
  refine Rg.read (by rfl) (by rfl) (by rfl) (by rfl) (pr_lenA rfl rfl rfl rfl (by rfl) evT) ?_
  by_cases h200 : 200 < ns.length
  · refine Rg.read (v := .bool true) (by rfl) (by rfl) (by rfl) (by rfl) ((pr_gtr rfl evT evT).trans (by rw [vals_len, decide_eq_true (by omega)])) ?_
    (first | refine Rg.readT (h := ?_) | refine Rg.offT (h := ?_))
    (first | refine Rg.readT (h := ?_) | refine Rg.offT (h := ?_))
    (first | refine Rg.readT (h := ?_) | refine Rg.offT (h := ?_))
    (first | refine Rg.readT (h := ?_) | refine Rg.offT (h := ?_))
    (first | refine Rg.readT (h := ?_) | refine Rg.offT (h := ?_))
    refine Rg.done ?_
    show Does Tryz.prog _ _ _ _
    refine Does.condT fits3 lkT ?_
    refine hlong ?_
    repeat (first | rw [kSeq_ret] | rw [kBlock_ret])
    refine fin_r (by rfl) ?_
    exact hK H
  · refine Rg.read (v := .bool false) (by rfl) (by rfl) (by rfl) (by rfl) ((pr_gtr rfl evT evT).trans (by rw [vals_len, decide_eq_false (by omega)])) ?_
    (first | refine Rg.readT (h := ?_) | refine Rg.offT (h := ?_))
    (first | refine Rg.readT (h := ?_) | refine Rg.offT (h := ?_))
    refine Rg.read (by rfl) (by rfl) (by rfl) (by rfl) (pr_lenS rfl rfl rfl rfl (by rfl) evT) ?_
    (first | refine Rg.readT (h := ?_) | refine Rg.offT (h := ?_))
    refine Rg.read (v := .bool (decide ((1024 : Int) < (be.length : Int)))) (by rfl) (by rfl) (by rfl) (by rfl) (pr_pickF rfl evT evT) ?_
    refine Rg.done ?_
    show Does Tryz.prog _ _ _ _
    refine Does.condB fits3 (b := decide ((1024 : Int) < (be.length : Int))) lkT (fun h => ?_) (fun h => ?_)
    · refine hlong ?_
      repeat (first | rw [kSeq_ret] | rw [kBlock_ret])
      refine fin_r (by rfl) ?_
      exact hK H
    · have hbe : be.length ≤ 1024 := by have := of_decide_eq_false h; omega
      have hl1 := encs_len ns hin
      refine Does.skip fits3 ?_
      show Does Tryz.prog _ _ _ _
      refine Does.seq fits3 ?_
      refine Does.region fits3 ?_
      (first | refine Rg.readT (h := ?_) | refine Rg.offT (h := ?_))
      refine Rg.done ?_
      show Does Tryz.prog _ _ _ _
      refine Does.seq fits3 ?_
      refine Does.seq fits3 ?_
      refine Does.region fits3 ?_
      (first | refine Rg.readT (h := ?_) | refine Rg.offT (h := ?_))
      refine Rg.done ?_
      show Does Tryz.prog _ _ _ _
      refine Does.block fits3 ?_
      show Does Tryz.prog apl1 _ _ _
      refine Does.keep [(6, .int .i64 ((0 : Nat) : Int)), (5, str (encs (ns.take 0))), (0, .slice p (vals ns).length c), (1, str be)] (keep_cons lkT (keep_cons lkT (keep_cons lkT (keep_cons lkT keep_nil)))) ?_
      refine ap_first harr hin (by omega) ns.length 0 _ (by omega) ?_
      intro L' a5 a0 a1
      show Does Tryz.prog _ _ _ _
      refine Does.keep [(5, str (encs ns)), (0, .slice p (vals ns).length c), (1, str be)] (keep_cons a5 (keep_cons a0 (keep_cons a1 keep_nil))) ?_
      refine Does.seq fits3 ?_
      refine Does.region fits3 ?_
      (first | refine Rg.readT (h := ?_) | refine Rg.offT (h := ?_))
      (first | refine Rg.readT (h := ?_) | refine Rg.offT (h := ?_))
      refine Rg.read (by rfl) (by rfl) (by rfl) (by rfl) (pr_addS rfl evT evT (by omega)) ?_
      (first | refine Rg.readT (h := ?_) | refine Rg.offT (h := ?_))
      refine Rg.done ?_
      show Does Tryz.prog _ _ _ _
      refine Does.seq fits3 ?_
      refine Does.seq fits3 ?_
      refine Does.region fits3 ?_
      (first | refine Rg.readT (h := ?_) | refine Rg.offT (h := ?_))
      refine Rg.done ?_
      show Does Tryz.prog _ _ _ _
      refine Does.block fits3 ?_
      show Does Tryz.prog apl2 _ _ _
      refine Does.keep [(7, .int .i64 ((0 : Nat) : Int)), (5, str (encs (ns.drop 0) ++ be)), (0, .slice p (vals ns).length c), (1, str be)] (keep_cons lkT (keep_cons lkT (keep_cons lkT (keep_cons lkT keep_nil)))) ?_
      refine ap_second harr hin (by omega) hbe ns.length 0 _ (by omega) ?_
      intro L' a5 a1
      show Does Tryz.prog _ _ _ _
      refine Does.keep [(5, str be), (1, str be)] (keep_cons a5 (keep_cons a1 keep_nil)) ?_
      refine Does.seq fits3 ?_
      refine Does.region fits3 ?_
      (first | refine Rg.readT (h := ?_) | refine Rg.offT (h := ?_))
      (first | refine Rg.readT (h := ?_) | refine Rg.offT (h := ?_))
      refine Rg.read (v := .bool true) (by rfl) (by rfl) (by rfl) (by rfl) ((pr_eqS rfl evT evT).trans (by rw [decide_eq_true rfl])) ?_
      (first | refine Rg.readT (h := ?_) | refine Rg.offT (h := ?_))
      refine Rg.call (by rfl) rfl rfl (by rfl) (by rfl) rfl (by rfl) (args0 rfl) ?_
      refine halive.ans ?_
      repeat (first | refine Rg.readT (h := ?_) | refine Rg.offT (h := ?_))
      refine Rg.done ?_
      show Does Tryz.prog _ _ _ _
      refine hgive rfl lkT ?_
      repeat (first | rw [kSeq_ret] | rw [kBlock_ret])
      refine fin_r (by rfl) ?_
      exact hK H
end
end Go.Proofs.YtkeomdnlibchcaaGreat.scr
