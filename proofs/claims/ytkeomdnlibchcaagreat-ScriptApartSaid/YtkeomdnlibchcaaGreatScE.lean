/-
  Plain facts of number bytes; no condition.
-/
import Derived.Test.YtkeomdnlibchcaaGreatScV
namespace Go.Proofs.YtkeomdnlibchcaaGreat.scr
theorem unf_fold {n : Int} (h1 : -9223372036854775808 ≤ n) (h2 : n ≤ 9223372036854775807) : unf (fold n) = n := by
  unfold fold unf
  split <;> split <;> omega
theorem fold_inj {a b : Int} (h : fold a = fold b) : a = b := by
  unfold fold at h
  split at h <;> split at h <;> omega

theorem enc_lo {u : Nat} (h : u < 128) : enc u = [UInt8.ofNat u] := by unfold enc; rw [if_pos h]
theorem enc_hi {u : Nat} (h : ¬ u < 128) : enc u = UInt8.ofNat (128 + u % 128) :: enc (u / 128) := by
  conv => lhs; unfold enc
  rw [if_neg h]
theorem enc_pos (u : Nat) : 0 < (enc u).length := by
  by_cases h : u < 128
  · rw [enc_lo h]; simp
  · rw [enc_hi h]; simp
theorem enc_len : ∀ (k u : Nat), u < 128 ^ (k + 1) → (enc u).length ≤ k + 1 := by
  intro k
  induction k with
  | zero => intro u h; rw [enc_lo (by simpa using h)]; simp
  | succ k ih =>
    intro u h
    by_cases hu : u < 128
    · rw [enc_lo hu]; simp
    · rw [enc_hi hu, List.length_cons]
      have := ih (u / 128) (by rw [Nat.pow_succ] at h; omega)
      omega
theorem enc_len_mono : ∀ (u v : Nat), u ≤ v → (enc u).length ≤ (enc v).length := by
  intro u
  induction u using Nat.strongRecOn with
  | ind u ih =>
    intro v h
    by_cases hu : u < 128
    · rw [enc_lo hu]; exact enc_pos v
    · rw [enc_hi hu, enc_hi (by omega : ¬ v < 128), List.length_cons, List.length_cons]
      have := ih (u / 128) (by omega) (v / 128) (by omega)
      omega
theorem val_enc (u : Nat) : val (enc u) = u := by
  induction u using Nat.strongRecOn with
  | ind u ih =>
    by_cases hu : u < 128
    · rw [enc_lo hu]; simp [val]; omega
    · rw [enc_hi hu, val, ih (u / 128) (by omega)]
      simp; omega
theorem enc_inj {u v : Nat} (h : enc u = enc v) : u = v := by rw [← val_enc u, ← val_enc v, h]

/-- The bytes but the last are large, the last is small. -/
theorem enc_at (u : Nat) : ∀ i b, (enc u)[i]? = some b → (127 < b.toNat ↔ i + 1 < (enc u).length) := by
  induction u using Nat.strongRecOn with
  | ind u ih =>
    intro i b h
    by_cases hu : u < 128
    · rw [enc_lo hu] at h ⊢
      cases i with
      | zero => simp at h; subst h; simp; omega
      | succ i => simp at h
    · rw [enc_hi hu] at h ⊢
      cases i with
      | zero => simp at h; subst h; have := enc_pos (u / 128); simp; omega
      | succ i =>
        rw [List.getElem?_cons_succ] at h
        rw [ih (u / 128) (by omega) i b h, List.length_cons]
        omega

theorem tkFrom_none (u k : Nat) (hk : k < (enc u).length) : ∀ f i, tkFrom ((enc u).take k) f i = (0, 0, false) := by
  intro f
  induction f with
  | zero => intro i; rfl
  | succ f ih =>
    intro i
    rw [tkFrom]
    cases hb : ((enc u).take k)[i]? with
    | none => rfl
    | some b =>
      simp only
      have hi : i < k := by
        have := (List.getElem?_eq_some_iff.1 hb).1
        rw [List.length_take] at this; omega
      rw [List.getElem?_take_of_lt hi] at hb
      rw [if_pos ((enc_at u i b hb).2 (by omega))]
      exact ih (i + 1)
/-- A part of a number's bytes is none. -/
theorem tk_none {u k : Nat} (hk : k < (enc u).length) : tk ((enc u).take k) = (0, 0, false) := tkFrom_none u k hk 10 0

theorem tkFrom_enc {n : Int} (h1 : -9223372036854775808 ≤ n) (h2 : n ≤ 9223372036854775807) (r : List UInt8) : ∀ f i, i + f = 10 → i < (enc (fold n)).length → (enc (fold n)).length ≤ 10 → tkFrom (enc (fold n) ++ r) f i = (n, (enc (fold n)).length, true) := by
  intro f
  induction f with
  | zero => intro i h3 h4 h5; omega
  | succ f ih =>
    intro i h3 h4 h5
    obtain ⟨b, hb⟩ : ∃ b, (enc (fold n))[i]? = some b := ⟨_, List.getElem?_eq_getElem h4⟩
    have hb' : (enc (fold n) ++ r)[i]? = some b := by rw [List.getElem?_append_left h4]; exact hb
    have hat := enc_at (fold n) i b hb
    rw [tkFrom, hb']
    simp only
    by_cases h : 127 < b.toNat
    · rw [if_pos h]
      exact ih (i + 1) (by omega) (hat.1 h) h5
    · have hl : i + 1 = (enc (fold n)).length := by
        have : ¬ i + 1 < (enc (fold n)).length := fun hc => h (hat.2 hc)
        omega
      have ht : (enc (fold n) ++ r).take (i + 1) = enc (fold n) := by rw [hl, List.take_left']; rfl
      have hf : fold n < 18446744073709551616 := by unfold fold; split <;> omega
      rw [if_neg h, ht, val_enc, Nat.mod_eq_of_lt hf, unf_fold h1 h2, if_pos rfl, hl]
theorem enc_len10 {n : Int} (h1 : -9223372036854775808 ≤ n) (h2 : n ≤ 9223372036854775807) : (enc (fold n)).length ≤ 10 := by
  refine enc_len 9 _ ?_
  have hf : fold n < 18446744073709551616 := by unfold fold; split <;> omega
  have : (128 : Nat) ^ (9 + 1) = 1180591620717411303424 := by decide
  omega
/-- What a number's bytes begin: that number. -/
theorem tk_enc {n : Int} (h1 : -9223372036854775808 ≤ n) (h2 : n ≤ 9223372036854775807) (r : List UInt8) : tk (enc (fold n) ++ r) = (n, (enc (fold n)).length, true) :=
  tkFrom_enc h1 h2 r 10 0 rfl (enc_pos _) (enc_len10 h1 h2)
theorem fold_half (n : Int) : fold (n.tdiv 2) ≤ fold n := by
  have h : n.tdiv 2 = if 0 ≤ n then n / 2 else -((-n) / 2) := by
    split
    · rw [Int.tdiv_eq_ediv_of_nonneg (by assumption)]
    · have := Int.neg_tdiv (a := -n) (b := 2)
      rw [Int.neg_neg] at this
      rw [this, Int.tdiv_eq_ediv_of_nonneg (by omega)]
  rw [h]
  unfold fold
  split <;> split <;> split <;> omega
theorem half_in {n : Int} (h1 : -9223372036854775808 ≤ n) (h2 : n ≤ 9223372036854775807) : -9223372036854775808 ≤ n.tdiv 2 ∧ n.tdiv 2 ≤ 9223372036854775807 := by
  have h : n.tdiv 2 = if 0 ≤ n then n / 2 else -((-n) / 2) := by
    split
    · rw [Int.tdiv_eq_ediv_of_nonneg (by assumption)]
    · have := Int.neg_tdiv (a := -n) (b := 2)
      rw [Int.neg_neg] at this
      rw [this, Int.tdiv_eq_ediv_of_nonneg (by omega)]
  rw [h]
  split <;> omega
end Go.Proofs.YtkeomdnlibchcaaGreat.scr
