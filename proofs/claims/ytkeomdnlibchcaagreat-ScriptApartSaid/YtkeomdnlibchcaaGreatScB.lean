/-
  The contracts of the functions of strings.Builder that are used; no condition.
-/
import Derived.Test.YtkeomdnlibchcaaGreatScA
import Derived.Test.YtkeomdnlibchcaaGreatAiVc
import Derived.Test.YtkeomdnlibchcaaGreatAiVt
namespace Go.Proofs.YtkeomdnlibchcaaGreat.scr
open Go.Ai
set_option maxRecDepth 100000

def at0 (b : Nat) : Value := .pointer (some ⟨b, 0, none⟩)

theorem copyCheck {b : Nat} {p s : Value} {H : AHeap} {K : VK} (hp : p = .pointer none ∨ p = at0 b) (hr : Row H b [p, s] 78 0 (0, 0))
    (hK : ∀ H', Row H' b [at0 b, s] 78 0 (0, 0) → (∀ j, j ≠ b → H'.get j = H.get j) → H'.next = H.next → K (.tuple #[]) H') : Ans Tryz.prog 48 [at0 b] H K := by
  rcases hp with rfl | rfl
  · refine Ans.body1 fits 20 Tryz.func48 rfl rfl ?_
    unfold at0
    apply Does.next fits
    · refine Does.region fits ?_
      repeat (first | refine Rg.readT (h := ?_) | refine Rg.offT (h := ?_))
      exact Rg.done ⟨rfl, rfl⟩
    refine Does.condT fits rfl ?_
    refine Does.region fits ?_
    (first | refine Rg.readT (h := ?_) | refine Rg.offT (h := ?_))
    (first | refine Rg.readT (h := ?_) | refine Rg.offT (h := ?_))
    refine Rg.read (by rfl) (by rfl) (by rfl) (by rfl) (pr_unsafe rfl evT (by rfl) (by rfl) hr (Nat.le_of_ble_eq_true (by rfl)) (by rfl)) ?_
    refine Rg.effV (v := .pointer (some ⟨b, 0, none⟩)) (H' := H) (by rfl) (by rfl) (by rfl) (by rfl) (fun K h => h) ?_
    refine Rg.read (by rfl) (by rfl) (by rfl) (by rfl) (pr_safe rfl evT (by rfl) (by rfl) hr (Nat.le_of_ble_eq_true (by rfl)) (by kernel_rfl) (by rfl)) ?_
    repeat (first | refine Rg.readT (h := ?_) | refine Rg.offT (h := ?_))
    refine Rg.store1 (by rfl) rfl rfl evT evT (by rfl) (by assumption) (by first | rfl | assumption) (by first | rfl | assumption) (Nat.le_of_ble_eq_true (by rfl)) (.inl (Nat.zero_le _)) (by rfl) ?_
    intro H' h1 h2 h3
    exact Rg.done (fin_n rfl (hK H' h1 h2 h3))
  · refine Ans.body1 fits 20 Tryz.func48 rfl rfl ?_
    unfold at0 at hr ⊢
    apply Does.next fits
    · refine Does.region fits ?_
      repeat (first | refine Rg.readT (h := ?_) | refine Rg.offT (h := ?_))
      exact Rg.done ⟨rfl, rfl⟩
    refine Does.condF fits rfl ?_
    apply Does.next fits
    · refine Does.region fits ?_
      repeat (first | refine Rg.readT (h := ?_) | refine Rg.offT (h := ?_))
      exact Rg.done ⟨rfl, rfl⟩
    refine Does.condF fits rfl ?_
    exact Does.skip fits (fin_n rfl (hK H hr (fun _ _ => rfl) rfl))

/-- A builder that holds such bytes. -/
structure Bld (H : AHeap) (b : Nat) (l : List UInt8) : Prop where
  h : ∃ p s, (p = .pointer none ∨ p = at0 b) ∧ Row H b [p, s] 78 0 (0, 0) ∧ b < H.next ∧ Buf H 5 1 s (byV l) l.length ∧ ¬ names s b

abbrev cons : List FuncId := [12, 13, 14, 15, 29, 30, 31, 32, 34, 35, 48]
theorem fits1 : Fits Tryz.prog idf (conL cons) := fits.withCon (by kernel_rfl)

theorem appT (con : FuncId → Bool) : AppT (env Tryz.prog idf con) 47 47 5 1 := ⟨_, _, by rfl, by rfl, by rfl, by rfl, .inr ⟨_, by rfl⟩, by rfl⟩

theorem writeByte {b : Nat} {l : List UInt8} {H : AHeap} {K : VK} {x : UInt8} (hb : Bld H b l) (hl : l.length < 4294967295) (hK : ∀ H', Bld H' b (l ++ [x]) → K .nilIface H') : Ans Tryz.prog 30 [at0 b, .int .u8 x.toNat] H K := by
  obtain ⟨p, s, hp, hr, hbn, hbuf, hnm⟩ := hb.h
  refine Ans.body2 fits1 17 Tryz.func30 rfl rfl ?_
  unfold at0
  apply Does.next fits1
  · refine Does.region fits1 ?_
    (first | refine Rg.readT (h := ?_) | refine Rg.offT (h := ?_))
    exact Rg.done ⟨rfl, rfl⟩
  refine Does.seq fits1 ?_
  refine Does.region fits1 ?_
  (first | refine Rg.readT (h := ?_) | refine Rg.offT (h := ?_))
  refine Rg.call (by rfl) rfl rfl (by rfl) (by rfl) rfl (by rfl) (args1 rfl evT) ?_
  refine copyCheck hp hr fun H1 h1 g1 n1 => ?_
  refine Rg.done ?_
  show Does Tryz.prog _ _ _ _
  have hbuf1 : Buf H1 5 1 s (byV l) l.length := hbuf.of_get (fun j hj _ => g1 j fun e => hnm (e ▸ hj)) (by omega)
  unfold at0 at h1
  have hX : Row (H1.new (cellsOfList [.int .u8 x.toNat] 5 0 (0, 0))) H1.next [.int .u8 x.toNat] 5 0 (0, 0) := row_list _ _
  have hbuf2 : Buf (H1.new (cellsOfList [.int .u8 x.toNat] 5 0 (0, 0))) 5 1 s (byV l) l.length := hbuf1.of_get (fun j _ hj => by rw [AHeap.get_new, if_neg (by omega)]) (by simp)
  have h2 := h1.new (by omega) (cellsOfList [.int .u8 x.toNat] 5 0 (0, 0))
  obtain ⟨s', H2, happ, hbuf3, hoth, hnext, hnew⟩ := append_buf (appT (conL cons)) hbuf2 (n := 1) (x := .slice (some ⟨H1.next, 0, none⟩) 1 1) rfl (afirst_row hX (by simp)) (by intro v hv; simp at hv; subst hv; rfl) (by simp) (by omega) (by omega)
  obtain ⟨hv1, hv2⟩ := hbuf3.one
  have hnb : ¬ names s' b := fun e => by have := names_uniq e hnew; simp at this; omega
  have h3 := h2.of_get (hoth b (fun e => hnm e) (by simp; omega))
  refine Does.seq fits1 ?_
  refine Does.region fits1 ?_
  repeat (first | refine Rg.readT (h := ?_) | refine Rg.offT (h := ?_))
  refine Rg.make (by rfl) (by rfl) (by rfl) (by rfl) (by rfl) ?_
  refine Rg.effV (by rfl) (by rfl) (by rfl) (by rfl) (rf_append rfl rfl rfl rfl evT evT happ) ?_
  repeat (first | refine Rg.readT (h := ?_) | refine Rg.offT (h := ?_))
  refine Rg.store1 (by rfl) rfl rfl evT evT (by rfl) (by assumption) (by first | rfl | assumption) (by first | rfl | assumption) (Nat.le_of_ble_eq_true (by rfl)) (.inl (Nat.zero_le _)) (by rfl) ?_
  intro H3 h4 g3 n3
  refine Rg.done ?_
  show Does Tryz.prog _ _ _ _
  apply Does.next fits1
  · refine Does.region fits1 ?_
    repeat (first | refine Rg.readT (h := ?_) | refine Rg.offT (h := ?_))
    exact Rg.done ⟨rfl, rfl⟩
  refine Does.ret fits1 (fin_r rfl (hK H3 ⟨_, s', .inr rfl, h4, by simp at hnext; omega, ?_, ?_⟩))
  · rw [byV_append, List.length_append]
    refine hbuf3.of_get (fun j hj hlt => g3 j fun e => ?_) (by omega)
    subst e
    exact hnb hj
  · exact hnb

theorem string_ {b : Nat} {l : List UInt8} {H : AHeap} {K : VK} (hb : Bld H b l) (hl : l.length < 4294967296) (hK : ∀ H', K (.string ⟨⟨l⟩⟩) H') : Ans Tryz.prog 31 [at0 b] H K := by
  obtain ⟨p, s, hp, hr, hbn, hbuf, hnm⟩ := hb.h
  refine Ans.body1 fits1 14 Tryz.func31 rfl rfl ?_
  unfold at0
  apply Does.next fits1
  · refine Does.region fits1 ?_
    (first | refine Rg.readT (h := ?_) | refine Rg.offT (h := ?_))
    exact Rg.done ⟨rfl, rfl⟩
  refine Does.seq fits1 ?_
  refine Does.draw fits1 (is := [0, 1, 2, 3, 4, 5, 6, 7, 8, 9, 10, 11]) (by kernel_rfl) (by kernel_rfl) ?_
  rcases hbuf.inv with ⟨rfl, h0, _⟩ | ⟨id, rfl, hrow, _, hid, hpos⟩
  · obtain rfl : l = [] := by cases l with
      | nil => rfl
      | cons x l => simp [byV] at h0
    iterate 10 (first | refine Rd.readPT (h := ?_) | refine Rd.readT (h := ?_) | refine Rd.offT (h := ?_))
    refine Rd.effV (H' := H) (v := .string ⟨⟨[]⟩⟩) (by rfl) (by rfl) (by rfl) (by rfl) (by rfl) (by kernel_rfl) (rf_string (l := []) rfl rfl rfl rfl evT evT rfl (.inl ⟨rfl, rfl, rfl⟩) (by rfl) (by kernel_rfl) (by simp)) ?_
    (first | refine Rd.readPT (h := ?_) | refine Rd.readT (h := ?_) | refine Rd.offT (h := ?_))
    refine Rd.done ?_
    exact Does.ret fits1 (fin_r rfl (hK H))
  · cases l with
    | nil => simp at hpos
    | cons x l =>
      iterate 10 (first | refine Rd.readPT (h := ?_) | refine Rd.readT (h := ?_) | refine Rd.offT (h := ?_))
      obtain ⟨c, z, hg, _⟩ := hrow.h
      rw [byV_length] at hg
      refine Rd.effV (H' := H.set id (.cells c (x :: l).length z 5 1 (0, (x :: l).length))) (v := .string ⟨⟨x :: l⟩⟩) (by rfl) (by rfl) (by rfl) (by rfl) (by rfl) (by kernel_rfl) (rf_string (l := x :: l) rfl rfl rfl rfl evT evT rfl (.inr ⟨by simp, id, rfl, hrow, c, z, hg, rfl⟩) (by rfl) (by kernel_rfl) (by omega)) ?_
      (first | refine Rd.readPT (h := ?_) | refine Rd.readT (h := ?_) | refine Rd.offT (h := ?_))
      refine Rd.done ?_
      exact Does.ret fits1 (fin_r rfl (hK _))
end Go.Proofs.YtkeomdnlibchcaaGreat.scr
