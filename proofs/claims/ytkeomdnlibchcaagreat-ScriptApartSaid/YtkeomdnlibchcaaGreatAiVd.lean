/-
  Rules for operations on whole numbers; no condition.
-/
import Derived.Test.YtkeomdnlibchcaaGreatAiVc
import Derived.IntWalk
namespace Go.Ai
noncomputable section

theorem wrap_u64 (n : Int) : IntKind.u64.wrap n = n % 18446744073709551616 := by
  unfold IntKind.wrap; simp [IntKind.signed, IntKind.bits]
theorem wrap_u16 (n : Int) : IntKind.u16.wrap n = n % 65536 := by
  unfold IntKind.wrap; simp [IntKind.signed, IntKind.bits]
theorem wrap_u8 (n : Int) : IntKind.u8.wrap n = n % 256 := by
  unfold IntKind.wrap; simp [IntKind.signed, IntKind.bits]
theorem wrap_i64 (n : Int) : IntKind.i64.wrap n = if n % 18446744073709551616 ≥ 9223372036854775808 then n % 18446744073709551616 - 18446744073709551616 else n % 18446744073709551616 := by
  unfold IntKind.wrap; simp [IntKind.signed, IntKind.bits]

section
variable {E : Env} {a : AAct} {H : AHeap} {o : Oper} {x y : Operand} {t u : TypeId} {k : IntKind} {m n r : Int}
theorem pr_conv {s d : TypeId} {ks ks' kd : IntKind} (ho : o.op = .convert s d x) (hx : (rv x).f a = .int ks n) (hu : E.u s = some (.int ks')) (hd : E.u d = some (.int kd)) (hw : kd.wrap n = r) : pread E a H o = some (.int kd r) := by
  unfold pread; rw [ho]
  simp only [rread, aconvert, hu, hx, aconv, hd, fwrap_eq, hw]
theorem pr_addW (ho : o.op = .binOp .add t x y u) (hx : (rv x).f a = .int k m) (hy : (rv y).f a = .int k n) (hw : k.wrap (m + n) = r) : pread E a H o = some (.int k r) := by
  rw [pr_add ho hx hy, fwrap_eq, hw]
theorem pr_subW (ho : o.op = .binOp .sub t x y u) (hx : (rv x).f a = .int k m) (hy : (rv y).f a = .int k n) (hw : k.wrap (m - n) = r) : pread E a H o = some (.int k r) := by
  rw [pr_sub ho hx hy, fwrap_eq, hw]
theorem pr_mulW (ho : o.op = .binOp .mul t x y u) (hx : (rv x).f a = .int k m) (hy : (rv y).f a = .int k n) (hw : k.wrap (m * n) = r) : pread E a H o = some (.int k r) := by
  rw [pr_mul ho hx hy, fwrap_eq, hw]
theorem pr_shlW {k' : IntKind} {p q : Nat} (ho : o.op = .binOp .shl t x y u) (hx : (rv x).f a = .int k (p : Int)) (hy : (rv y).f a = .int k' (q : Int)) (hw : k.wrap ((p * 2 ^ (min q k.bits) : Nat) : Int) = r) : pread E a H o = some (.int k r) := by
  unfold pread; rw [ho]
  have h1 : (rv x).f a = .int k (.ofNat p) := hx
  have h2 : (rv y).f a = .int k' (.ofNat q) := hy
  simp only [rread, abin, h1, h2, fwrap_eq]
  have : k.wrap (Int.ofNat (Nat.mul p (Nat.pow 2 (Nat.min q k.bits)))) = r := hw
  rw [this]
theorem pr_shrW {k' : IntKind} {p q : Nat} (ho : o.op = .binOp .shr t x y u) (hx : (rv x).f a = .int k (p : Int)) (hy : (rv y).f a = .int k' (q : Int)) (hw : ((p / 2 ^ (min q k.bits) : Nat) : Int) = r) : pread E a H o = some (.int k r) := by
  unfold pread; rw [ho]
  have h1 : (rv x).f a = .int k (.ofNat p) := hx
  have h2 : (rv y).f a = .int k' (.ofNat q) := hy
  simp only [rread, abin, h1, h2]
  have : Int.ofNat (Nat.div p (Nat.pow 2 (Nat.min q k.bits))) = r := hw
  rw [this]
theorem abits_nat {P : Program} {op : BinOp} {f : Nat → Nat → Nat} {p q : Nat} (hp : p < lim k) (hq : q < lim k) : abits P op t f k (.ofNat p) (.ofNat q) = some (.int k (.ofNat (f p q))) := by
  unfold abits
  simp only [blt_eq, decide_eq_true hp, decide_eq_true hq, Bool.and_self, cond_true]
theorem pr_orW {p q : Nat} (ho : o.op = .binOp .or t x y u) (hx : (rv x).f a = .int k (p : Int)) (hy : (rv y).f a = .int k (q : Int)) (hp : p < lim k) (hq : q < lim k) (hw : ((p ||| q : Nat) : Int) = r) : pread E a H o = some (.int k r) := by
  unfold pread; rw [ho]
  have h1 : (rv x).f a = .int k (.ofNat p) := hx
  have h2 : (rv y).f a = .int k (.ofNat q) := hy
  have h3 : abits E.P .or t Nat.lor k (.ofNat p) (.ofNat q) = some (.int k r) := by rw [abits_nat hp hq]; rw [← hw]; rfl
  simp only [rread, abin, int2, h1, h2, h3]
  cases k <;> rfl
theorem pr_andW {p q : Nat} (ho : o.op = .binOp .and t x y u) (hx : (rv x).f a = .int k (p : Int)) (hy : (rv y).f a = .int k (q : Int)) (hp : p < lim k) (hq : q < lim k) (hw : ((p &&& q : Nat) : Int) = r) : pread E a H o = some (.int k r) := by
  unfold pread; rw [ho]
  have h1 : (rv x).f a = .int k (.ofNat p) := hx
  have h2 : (rv y).f a = .int k (.ofNat q) := hy
  have h3 : abits E.P .and t Nat.land k (.ofNat p) (.ofNat q) = some (.int k r) := by rw [abits_nat hp hq]; rw [← hw]; rfl
  simp only [rread, abin, int2, h1, h2, h3]
  cases k <;> rfl
theorem pr_com64 {p : Nat} (ho : o.op = .unOp .xor t x) (hx : (rv x).f a = .int .u64 (p : Int)) (hp : p < 18446744073709551616) (hw : ((18446744073709551615 - p : Nat) : Int) = r) : pread E a H o = some (.int .u64 r) := by
  unfold pread; rw [ho]
  have h1 : (rv x).f a = .int .u64 (.ofNat p) := hx
  have hb : (BitVec.ofInt 64 18446744073709551615 ^^^ BitVec.ofInt 64 (Int.ofNat p)).toNat = 18446744073709551615 - p := by
    have e1 : BitVec.ofInt 64 18446744073709551615 = BitVec.allOnes 64 := by decide
    have e2 : BitVec.ofInt 64 (Int.ofNat p) = BitVec.ofNat 64 p := by apply BitVec.eq_of_toNat_eq; simp
    rw [e1, e2, BitVec.allOnes_xor, BitVec.toNat_not, BitVec.toNat_ofNat]
    omega
  have h3 : sc (ssem E.P (Op.unary .xor (.int .u64 (.ofNat p)))) = some (.int .u64 r) := by
    show sc (ssem E.P (Op.intBits .xor .u64 18446744073709551615 (.ofNat p))) = _
    show sc (some (Value.int .u64 (IntKind.u64.wrap (BitVec.ofInt 64 18446744073709551615 ^^^ BitVec.ofInt 64 (Int.ofNat p)).toNat))) = _
    rw [hb, wrap_u64, ← hw]
    show some (Value.int .u64 _) = _
    congr 2
    omega
  simp only [rread, h1, scalar, if_true, h3]
theorem pr_com {p : Int} (ho : o.op = .unOp .xor t x) (hx : (rv x).f a = .int .i64 p) (hp : -9223372036854775808 ≤ p ∧ p ≤ 9223372036854775807) (hw : -p - 1 = r) : pread E a H o = some (.int .i64 r) := by
  unfold pread; rw [ho]
  have hb : ((BitVec.ofInt 64 (-1) ^^^ BitVec.ofInt 64 p).toNat : Int) = (-p - 1) % 18446744073709551616 := by
    have e1 : BitVec.ofInt 64 (-1) = BitVec.allOnes 64 := by decide
    rw [e1, BitVec.allOnes_xor, BitVec.toNat_not, BitVec.toNat_ofInt]
    omega
  have h3 : sc (ssem E.P (Op.unary .xor (.int .i64 p))) = some (.int .i64 r) := by
    show sc (some (Value.int .i64 (IntKind.i64.wrap (BitVec.ofInt 64 (-1) ^^^ BitVec.ofInt 64 p).toNat))) = _
    rw [hb, wrap_i64, ← hw]
    show some (Value.int .i64 _) = _
    congr 2
    split <;> omega
  simp only [rread, hx, scalar, if_true, h3]
theorem pr_quoW (ho : o.op = .binOp .quo t x y u) (hx : (rv x).f a = .int k m) (hy : (rv y).f a = .int k n) (hn : n ≠ 0) (hw : k.wrap (m.tdiv n) = r) : pread E a H o = some (.int k r) := by
  unfold pread; rw [ho]
  have h3 : sc (ssem E.P (binOp .quo t (.int k m) (.int k n))) = some (.int k r) := by
    have : binOp .quo t (.int k m) (.int k n) = pure (.int k (k.wrap (m.tdiv n))) := by
      simp [binOp, Op.intDiv, hn]
    rw [this, hw]; rfl
  simp only [rread, abin, int2, hx, hy, h3]
  cases k <;> rfl
theorem pr_remW (ho : o.op = .binOp .rem t x y u) (hx : (rv x).f a = .int k m) (hy : (rv y).f a = .int k n) (hn : n ≠ 0) (hw : m.tmod n = r) : pread E a H o = some (.int k r) := by
  unfold pread; rw [ho]
  have h3 : sc (ssem E.P (binOp .rem t (.int k m) (.int k n))) = some (.int k r) := by
    have : binOp .rem t (.int k m) (.int k n) = pure (.int k (m.tmod n)) := by
      simp [binOp, Op.intDiv, hn]
    rw [this, hw]; rfl
  simp only [rread, abin, int2, hx, hy, h3]
  cases k <;> rfl
theorem pr_negW (ho : o.op = .unOp .neg t x) (hx : (rv x).f a = .int k m) (hw : k.wrap (0 - m) = r) : pread E a H o = some (.int k r) := by
  unfold pread; rw [ho]
  have h3 : sc (ssem E.P (Op.unary .neg (.int k m))) = some (.int k r) := by
    show sc (some (Value.int k (k.wrap (0 - m)))) = _
    rw [hw]; rfl
  simp only [rread, hx, scalar, if_true, h3]

/-! ### strings -/
theorem pr_lenS {c : Call} {l : List UInt8} (ho : o.op = .call c) (hc : c.callee = .builtin .len) (ha : c.args = #[x]) (ht : c.argTypes = #[t]) (hu : E.u t = some .string) (hx : (rv x).f a = str l) : pread E a H o = some (.int .i64 (l.length : Int)) := by
  unfold pread; rw [ho]
  simp only [rread, hc, acallRead, ha, ht]
  show (alenOf E t (rv x)).f a H = _
  simp only [alenOf, hu, hx, str]
  rfl
theorem pr_indexS {l : List UInt8} {k : IntKind} {i : Nat} {b : UInt8} (ho : o.op = .index t x y) (hu : E.u t = some .string) (hx : (rv x).f a = str l) (hy : (rv y).f a = .int k (i : Int)) (hb : l[i]? = some b) : pread E a H o = some (.int .u8 (b.toNat : Int)) := by
  have hlt : i < l.length := (List.getElem?_eq_some_iff.1 hb).1
  unfold pread; rw [ho]
  have hn : nat? ((rv y).f a) = some i := by rw [hy]; rfl
  simp only [rread, aindex, hu, hn, hx, str]
  have : (⟨⟨l⟩⟩ : ByteArray)[i]? = some b := by
    have hs : i < (⟨⟨l⟩⟩ : ByteArray).size := hlt
    rw [getElem?_pos (⟨⟨l⟩⟩ : ByteArray) i hs]
    rw [List.getElem?_eq_getElem hlt] at hb
    exact hb
  rw [this]; rfl
theorem str_extract (l : List UInt8) (i j : Nat) : (⟨⟨l⟩⟩ : ByteArray).extract i j = ⟨⟨(l.take j).drop i⟩⟩ := by
  apply ByteArray.ext
  rw [ByteArray.data_extract]
  apply Array.ext'
  simp [List.extract_eq_take_drop, List.drop_take]
theorem pr_sliceS {l m : List UInt8} {lo hi : Option Operand} {i j : Nat} (ho : o.op = .slice t x lo hi none) (hu : E.u t = some .string) (hx : (rv x).f a = str l) (h1 : optNat 0 (lo.map (ev a)) = some i) (h2 : optNat l.length (hi.map (ev a)) = some j) (hij : i ≤ j) (hj : j ≤ l.length)
    (hm : (l.take j).drop i = m) : pread E a H o = some (str m) := by
  unfold pread; rw [ho]
  simp only [rread, hu, aslice, hx, str]
  have hs : (⟨⟨l⟩⟩ : ByteArray).size = l.length := rfl
  rw [hs, h2, h1]
  simp only
  rw [if_pos ⟨hij, hj⟩, str_extract, hm]
theorem optNat_some {d j : Nat} (h : (rv y).f a = .int k (j : Int)) : optNat d (Option.map (ev a) (some y)) = some j := by
  show nat? ((rv y).f a) = _
  rw [h]; rfl
theorem optNat_none {d : Nat} : optNat d (Option.map (ev a) none) = some d := rfl
theorem bytesEq_dec : ∀ a b : List UInt8, bytesEq a b = decide (a = b)
  | [], [] => rfl
  | [], _ :: _ => rfl
  | _ :: _, [] => rfl
  | x :: a, y :: b => by
    show cond (Nat.beq x.toNat y.toNat) (bytesEq a b) false = _
    rw [bytesEq_dec a b]
    by_cases h : x = y
    · subst h; rw [Nat.beq_refl]; simp
    · have : Nat.beq x.toNat y.toNat = false := by
        cases hb : Nat.beq x.toNat y.toNat
        · rfl
        · exact absurd (UInt8.toNat_inj.1 (Nat.eq_of_beq_eq_true hb)) h
      rw [this]; simp [h]
theorem pr_eqS {l m : List UInt8} (ho : o.op = .binOp .eql t x y u) (hx : (rv x).f a = str l) (hy : (rv y).f a = str m) : pread E a H o = some (.bool (decide (l = m))) := by
  rw [← bytesEq_dec]; unfold pread; rw [ho]; simp only [rread, abin, int2, hx, hy, aeq, str]
theorem pr_neS {l m : List UInt8} (ho : o.op = .binOp .neq t x y u) (hx : (rv x).f a = str l) (hy : (rv y).f a = str m) : pread E a H o = some (.bool (!decide (l = m))) := by
  rw [← bytesEq_dec]; unfold pread; rw [ho]; simp only [rread, abin, int2, hx, hy, aeq, str]
theorem pr_min2 {c : Call} (ho : o.op = .call c) (hc : c.callee = .builtin .min) (ha : c.args = #[x, y]) (hx : (rv x).f a = .int k m) (hy : (rv y).f a = .int k n) : pread E a H o = some (.int k (if n < m then n else m)) := by
  unfold pread; rw [ho]
  simp only [rread, hc, acallRead, ha]
  show amax false [(rv x).f a, (rv y).f a] = _
  rw [hx, hy]
  simp only [amax, List.foldl_cons, List.foldl_nil]
  rfl
theorem pr_bytes {s d e e' : TypeId} {g : Nat} {vs : Value} {l : List UInt8} (ho : o.op = .convert s d x) (hx : (rv x).f a = vs) (hu : E.u s = some (.slice e)) (hd : E.u d = some .string) (he : E.u e = some (.int .u8)) (hb : Buf H e' g vs (byV l) l.length) (hg : g = 1) : pread E a H o = some (str l) := by
  subst hg
  unfold pread; rw [ho]
  simp only [rread, aconvert, hu, hd, he, hx]
  rcases hb.inv with ⟨rfl, h0, _⟩ | ⟨id, rfl, hr, hl, _, _⟩
  · have : l = [] := by cases l with
      | nil => rfl
      | cons b l => simp [byV] at h0
    subst this; rfl
  · obtain ⟨c, z, g1, g2⟩ := hr.h
    simp only [abytes, g1]
    have : rd c (byV l).length z 0 l.length = some (byV l) := by
      unfold rd
      rw [show Nat.ble (0 + l.length) (byV l).length = true from Nat.ble_eq_true_of_le (by rw [byV_length]; omega)]
      rw [Row.listAt g2 _ _ (by rw [byV_length]; omega)]
      simp only [cond_true, List.drop_zero]
      rw [List.take_of_length_le (by rw [byV_length]; exact Nat.le_refl _)]
    rw [this]
    simp only [bytesOf_byV, Option.map_some, str]
end
end
end Go.Ai
