/-
  What number bytes begin with, in plain Lean; no condition.
-/
import Derived.Test.YtkeomdnlibchcaaGreatScM
namespace Go.Proofs.YtkeomdnlibchcaaGreat.scr

/-- The number that bytes are, the lowest first, seven bits of each. -/
def val : List UInt8 → Nat
  | [] => 0
  | b :: l => b.toNat % 128 + 128 * val l
theorem val_lt : ∀ l : List UInt8, val l < 128 ^ l.length
  | [] => by simp [val]
  | b :: l => by
    have := val_lt l
    have h := Nat.mod_lt b.toNat (show 0 < 128 by omega)
    rw [val, List.length_cons, Nat.pow_succ]
    omega
theorem val_append : ∀ (l m : List UInt8), val (l ++ m) = val l + 128 ^ l.length * val m
  | [], m => by simp [val]
  | b :: l, m => by
    rw [List.cons_append, val, val, val_append l m, List.length_cons, Nat.pow_succ, Nat.mul_add, Nat.mul_comm (128 ^ l.length) 128, Nat.mul_assoc]
    omega
theorem val_succ {l : List UInt8} {i : Nat} {b : UInt8} (h : l[i]? = some b) : val (l.take (i + 1)) = val (l.take i) + 128 ^ i * (b.toNat % 128) := by
  have hlt := (List.getElem?_eq_some_iff.1 h).1
  rw [List.take_add_one, h, val_append, List.length_take, Nat.min_eq_left (Nat.le_of_lt hlt)]
  simp [val]
theorem val_take_lt (l : List UInt8) (i : Nat) : val (l.take i) < 128 ^ i := by
  refine Nat.lt_of_lt_of_le (val_lt _) (Nat.pow_le_pow_right (by omega) ?_)
  rw [List.length_take]; exact Nat.min_le_left _ _

/-- What the program reckons with a byte. -/
theorem or_step {l : List UInt8} {i : Nat} {b : UInt8} (h : l[i]? = some b) (hi : i ≤ 9) :
    (val (l.take i) % 18446744073709551616) ||| (b.toNat % 128 * 2 ^ (7 * i) % 18446744073709551616) = val (l.take (i + 1)) % 18446744073709551616 := by
  have hv := val_take_lt l i
  have hp : (128 : Nat) ^ i = 2 ^ (7 * i) := by rw [Nat.pow_mul]
  have h64 : (18446744073709551616 : Nat) = 2 ^ (64 - 7 * i) * 2 ^ (7 * i) := by rw [← Nat.pow_add, Nat.sub_add_cancel (by omega)]
  have hle : 2 ^ (7 * i) ≤ 18446744073709551616 := by
    have : 2 ^ (7 * i) ≤ 2 ^ 64 := Nat.pow_le_pow_right (by omega) (by omega)
    omega
  rw [val_succ h, hp]
  rw [hp] at hv
  generalize val (l.take i) = v at *
  generalize b.toNat % 128 = d at *
  have e1 : d * 2 ^ (7 * i) % 18446744073709551616 = d % 2 ^ (64 - 7 * i) * 2 ^ (7 * i) := by rw [h64, Nat.mul_mod_mul_right]
  rw [Nat.mod_eq_of_lt (by omega : v < 18446744073709551616), e1]
  generalize hc : d % 2 ^ (64 - 7 * i) = c at *
  have hcl : c < 2 ^ (64 - 7 * i) := by rw [← hc]; exact Nat.mod_lt _ (Nat.pos_of_ne_zero (by simp))
  have h2 : (v ||| c * 2 ^ (7 * i)) = c * 2 ^ (7 * i) + v := by
    rw [Nat.or_comm]
    have := Nat.shiftLeft_add_eq_or_of_lt hv c
    rw [Nat.shiftLeft_eq] at this
    exact this.symm
  rw [h2]
  have h3 : c * 2 ^ (7 * i) + 2 ^ (7 * i) ≤ 18446744073709551616 := by
    rw [h64]
    have : (c + 1) * 2 ^ (7 * i) ≤ 2 ^ (64 - 7 * i) * 2 ^ (7 * i) := Nat.mul_le_mul_right _ hcl
    rw [Nat.succ_mul] at this
    exact this
  have h4 : (v + 2 ^ (7 * i) * d) % 18446744073709551616 = (v + c * 2 ^ (7 * i)) % 18446744073709551616 := by
    rw [Nat.mul_comm (2 ^ (7 * i)) d, Nat.add_mod, e1]
    rw [Nat.add_mod v (c * 2 ^ (7 * i))]
    congr 2
    rw [Nat.mod_eq_of_lt (by omega)]
  rw [h4, Nat.mod_eq_of_lt (by omega), Nat.add_comm]

def tkFrom (l : List UInt8) : Nat → Nat → Int × Nat × Bool
  | 0, _ => (0, 0, false)
  | f + 1, i => match l[i]? with
    | none => (0, 0, false)
    | some b => if 127 < b.toNat then tkFrom l f (i + 1) else
      if enc (fold (unf (val (l.take (i + 1)) % 18446744073709551616))) = l.take (i + 1) then (unf (val (l.take (i + 1)) % 18446744073709551616), i + 1, true) else (0, 0, false)
/-- What bytes begin with: the number, how many bytes, is there one. -/
def tk (l : List UInt8) : Int × Nat × Bool := tkFrom l 10 0

theorem unf_lo (u : Nat) (hu : u < 18446744073709551616) : -9223372036854775808 ≤ unf u ∧ unf u ≤ 9223372036854775807 := by
  unfold unf; split <;> omega
end Go.Proofs.YtkeomdnlibchcaaGreat.scr
