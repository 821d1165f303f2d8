/-
  Rules for single operations: what they read, and what rows of cells they write; no condition.
-/
import Derived.Test.YtkeomdnlibchcaaGreatAiV
namespace Go.Ai
noncomputable section

/-! ### operands -/
theorem lk_hit {t : Nat} {v : Value} {l : List (Tmp × Value)} : lk t ((t, v) :: l) = v := if_pos rfl
theorem lk_miss {t u : Nat} {v : Value} {l : List (Tmp × Value)} (h : Nat.beq t u = false) : lk t ((u, v) :: l) = lk t l := if_neg fun e => by rw [e, Nat.beq_refl] at h; cases h
theorem lk_skip {t u : Nat} {v w : Value} {l : List (Tmp × Value)} (h : Nat.beq t u = false) (k : lk t l = w) : lk t ((u, v) :: l) = w := (lk_miss h).trans k
theorem fa_tmpv {n t : Nat} {l : List (Tmp × Value)} {ds : List Deferred} {r : Bool} {v : Value} (h : lk t l = v) : (rv (.tmp t)).f (fa n l ds r) = v := (fa_tmp t).trans h
theorem rv_con {a : AAct} {v : Value} (h : scalar v = true) : (rv (.const v)).f a = v := by rw [rv_const, h]; rfl

section
variable {E : Env} {a : AAct} {H : AHeap} {o : Oper} {v w : Value} {x y : Operand}
theorem pr_move (ho : o.op = .move x) (hx : (rv x).f a = v) : pread E a H o = some v := by unfold pread; rw [ho, ← hx]; rfl
theorem pr_assign (ho : o.op = .assign x) (hx : (rv x).f a = v) : pread E a H o = some v := by unfold pread; rw [ho, ← hx]; rfl
theorem pr_pickT {c : Operand} (ho : o.op = .pick c x y) (hc : (rv c).f a = .bool true) (hx : (rv x).f a = v) : pread E a H o = some v := by
  unfold pread; rw [ho]; simp only [rread, hc, cond_true, hx]
theorem pr_pickF {c : Operand} (ho : o.op = .pick c x y) (hc : (rv c).f a = .bool false) (hx : (rv y).f a = v) : pread E a H o = some v := by
  unfold pread; rw [ho]; simp only [rread, hc, cond_false, hx]
theorem pr_not {b : Bool} {t : TypeId} (ho : o.op = .unOp .not t x) (hx : (rv x).f a = .bool b) : pread E a H o = some (.bool !b) := by
  unfold pread; rw [ho]; simp only [rread, hx]
theorem pr_extract {l : List Value} {i : Nat} (ho : o.op = .extract x i) (hx : (rv x).f a = .tuple ⟨l⟩) (hv : rd1 l i = some v) : pread E a H o = some v := by
  unfold pread; rw [ho]; simp only [rread, hx, hv]
theorem pr_nil {p : Addr} (ho : o.op = .nilCheck x) (hx : (rv x).f a = .pointer (some p)) : pread E a H o = some (.pointer (some p)) := by
  unfold pread; rw [ho]; simp only [rread, hx]
theorem pr_add {t u : TypeId} {k : IntKind} {m n : Int} (ho : o.op = .binOp .add t x y u) (hx : (rv x).f a = .int k m) (hy : (rv y).f a = .int k n) : pread E a H o = some (.int k (fwrap k (m + n))) := by
  unfold pread; rw [ho]; simp only [rread, abin, int2, hx, hy]; cases k <;> rfl
theorem pr_sub {t u : TypeId} {k : IntKind} {m n : Int} (ho : o.op = .binOp .sub t x y u) (hx : (rv x).f a = .int k m) (hy : (rv y).f a = .int k n) : pread E a H o = some (.int k (fwrap k (m - n))) := by
  unfold pread; rw [ho]; simp only [rread, abin, int2, hx, hy]; cases k <;> rfl
theorem pr_mul {t u : TypeId} {k : IntKind} {m n : Int} (ho : o.op = .binOp .mul t x y u) (hx : (rv x).f a = .int k m) (hy : (rv y).f a = .int k n) : pread E a H o = some (.int k (fwrap k (m * n))) := by
  unfold pread; rw [ho]; simp only [rread, abin, int2, hx, hy]; cases k <;> rfl
theorem blt_eq (a b : Nat) : Nat.blt a b = decide (a < b) := by rw [Bool.eq_iff_iff, blt_iff, decide_eq_true_eq]
theorem intEq_dec (m n : Int) : decide (m = n) = intEq m n := by rw [intEq_eq, Bool.eq_iff_iff, decide_eq_true_eq, beq_iff_eq]
theorem intLt_dec (m n : Int) : decide (m < n) = intLt m n := (intLt_eq m n).symm
theorem pr_eql {t u : TypeId} {k : IntKind} {m n : Int} (ho : o.op = .binOp .eql t x y u) (hx : (rv x).f a = .int k m) (hy : (rv y).f a = .int k n) : pread E a H o = some (.bool (decide (m = n))) := by
  rw [intEq_dec]; unfold pread; rw [ho]; simp only [rread, abin, int2, hx, hy]; cases k <;> rfl
theorem pr_neq {t u : TypeId} {k : IntKind} {m n : Int} (ho : o.op = .binOp .neq t x y u) (hx : (rv x).f a = .int k m) (hy : (rv y).f a = .int k n) : pread E a H o = some (.bool (!decide (m = n))) := by
  rw [intEq_dec]; unfold pread; rw [ho]; simp only [rread, abin, int2, hx, hy]; cases k <;> rfl
theorem pr_lss {t u : TypeId} {k : IntKind} {m n : Int} (ho : o.op = .binOp .lss t x y u) (hx : (rv x).f a = .int k m) (hy : (rv y).f a = .int k n) : pread E a H o = some (.bool (decide (m < n))) := by
  rw [intLt_dec]; unfold pread; rw [ho]; simp only [rread, abin, int2, hx, hy]; cases k <;> rfl
theorem pr_gtr {t u : TypeId} {k : IntKind} {m n : Int} (ho : o.op = .binOp .gtr t x y u) (hx : (rv x).f a = .int k m) (hy : (rv y).f a = .int k n) : pread E a H o = some (.bool (decide (n < m))) := by
  rw [intLt_dec]; unfold pread; rw [ho]; simp only [rread, abin, int2, hx, hy]; cases k <;> rfl
theorem pr_leq {t u : TypeId} {k : IntKind} {m n : Int} (ho : o.op = .binOp .leq t x y u) (hx : (rv x).f a = .int k m) (hy : (rv y).f a = .int k n) : pread E a H o = some (.bool (decide (m ≤ n))) := by
  have : decide (m ≤ n) = !intLt n m := by rw [intLt_eq]; apply Bool.eq_iff_iff.2; simp
  rw [this]
  unfold pread; rw [ho]; simp only [rread, abin, int2, hx, hy]; cases k <;> rfl
theorem pr_geq {t u : TypeId} {k : IntKind} {m n : Int} (ho : o.op = .binOp .geq t x y u) (hx : (rv x).f a = .int k m) (hy : (rv y).f a = .int k n) : pread E a H o = some (.bool (decide (n ≤ m))) := by
  have : decide (n ≤ m) = !intLt m n := by rw [intLt_eq]; apply Bool.eq_iff_iff.2; simp
  rw [this]
  unfold pread; rw [ho]; simp only [rread, abin, int2, hx, hy]; cases k <;> rfl

theorem aeq_same {t e : TypeId} {id off k : Nat} (hu : E.u t = some (.pointer e)) (hs : E.sz e = some (k + 1)) : aeq E t (.pointer (some ⟨id, off, none⟩)) (.pointer (some ⟨id, off, none⟩)) = some true := by
  unfold aeq
  simp only [hu, hs, Nat.beq_refl, cond_true]
theorem pr_eqP {t u e : TypeId} {id off k : Nat} (ho : o.op = .binOp .eql t x y u) (hx : (rv x).f a = .pointer (some ⟨id, off, none⟩)) (hy : (rv y).f a = .pointer (some ⟨id, off, none⟩)) (hu : E.u t = some (.pointer e)) (hs : E.sz e = some (k + 1)) :
    pread E a H o = some (.bool true) := by
  unfold pread; rw [ho]; simp only [rread, abin, int2, hx, hy, aeq_same hu hs]
theorem pr_neP {t u e : TypeId} {id off k : Nat} (ho : o.op = .binOp .neq t x y u) (hx : (rv x).f a = .pointer (some ⟨id, off, none⟩)) (hy : (rv y).f a = .pointer (some ⟨id, off, none⟩)) (hu : E.u t = some (.pointer e)) (hs : E.sz e = some (k + 1)) :
    pread E a H o = some (.bool false) := by
  unfold pread; rw [ho]; simp only [rread, abin, int2, hx, hy, aeq_same hu hs]; rfl

/-! ### rows of cells -/
/-- An object is such a row. -/
structure Row (H : AHeap) (id : Nat) (l : List Value) (e : TypeId) (g : Nat) (fz : Nat × Nat) : Prop where
  h : ∃ c z, H.get id = some (.cells c l.length z e g fz) ∧ ∀ j v, l[j]? = some v → cellAt c z j = v

variable {id off : Nat} {l : List Value} {e : TypeId} {g : Nat} {fz : Nat × Nat} {t : TypeId} {d : TypeDesc} {n : Nat}

theorem Row.of_get {H' : AHeap} (h : Row H id l e g fz) (hg : H'.get id = H.get id) : Row H' id l e g fz :=
  let ⟨c, z, h1, h2⟩ := h.h
  ⟨c, z, hg.trans h1, h2⟩
theorem Row.listAt {c : T Value} {z : List Value} (h : ∀ j v, l[j]? = some v → cellAt c z j = v) : ∀ (n off : Nat), off + n ≤ l.length → Go.Ai.listAt c z off n = (l.drop off).take n
  | 0, off, _ => by simp; rfl
  | n + 1, off, hle => by
    have hlt : off < l.length := by omega
    show cellAt c z off :: Go.Ai.listAt c z (off + 1) n = _
    rw [Row.listAt h n (off + 1) (by omega), h off l[off] (List.getElem?_eq_getElem hlt), List.drop_eq_getElem_cons hlt, List.take_succ_cons]

theorem pr_load (ho : o.op = .load t x) (hx : (rv x).f a = .pointer (some ⟨id, off, none⟩)) (hu : E.u t = some d) (hs : E.sz t = some n) (hd : aggB d = false) (hr : Row H id l e g fz) (hv : l[off]? = some v) : pread E a H o = some v := by
  obtain ⟨c, z, h1, h2⟩ := hr.h
  have hlt : off < l.length := (List.getElem?_eq_some_iff.1 hv).1
  unfold pread; rw [ho]
  simp only [rread, aload, hu, hs, hd, cond_false, hx, h1, blt_eq, decide_eq_true hlt, cond_true, h2 off v hv]
theorem pr_loadN {l' : List Value} (ho : o.op = .load t x) (hx : (rv x).f a = .pointer (some ⟨id, off, none⟩)) (hu : E.u t = some d) (hs : E.sz t = some n) (hd : aggB d = true) (hr : Row H id l e g fz) (hle : off + n ≤ l.length) (hv : (l.drop off).take n = l') :
    pread E a H o = some (.agg ⟨l'⟩) := by
  obtain ⟨c, z, h1, h2⟩ := hr.h
  unfold pread; rw [ho]
  have hb : Nat.ble (off + n) l.length = true := Nat.ble_eq_true_of_le hle
  simp only [rread, aload, hu, hs, hd, cond_true, hx, h1, hb, Row.listAt h2 n off hle, hv]

theorem pr_unsafe {s d : TypeId} (ho : o.op = .convert s d x) (hx : (rv x).f a = .pointer (some ⟨id, off, none⟩)) (hu : E.u s = some (.pointer t)) (hd : E.u d = some .unsafePointer) (hr : Row H id l e 0 fz) (hoff : off < l.length) (hs : E.sz t = some (n + 1)) :
    pread E a H o = some (.pointer (some ⟨id, off, none⟩)) := by
  obtain ⟨c, z, h1, h2⟩ := hr.h
  unfold pread; rw [ho]
  simp only [rread, aconvert, hu, hx, aptr, h1, hd, hs]
  rw [if_pos ⟨hoff, by simp⟩]
theorem pr_safe {s d : TypeId} (ho : o.op = .convert s d x) (hx : (rv x).f a = .pointer (some ⟨id, off, none⟩)) (hu : E.u s = some .unsafePointer) (hd : E.u d = some (.pointer t)) (hr : Row H id l e 0 fz) (hf : fz.2 ≤ l.length)
    (hl : liesAt E.P E.P.depth e (l.length / E.P.cellsOf e) off t 1 = true) (hs : E.sz t = some (n + 1)) :
    pread E a H o = some (.pointer (some ⟨id, off, none⟩)) := by
  obtain ⟨c, z, h1, h2⟩ := hr.h
  unfold pread; rw [ho]
  simp only [rread, aconvert, hu, hx, aptr, h1, hd, hs]
  rw [if_pos ⟨by simp, hf, hl⟩]

/-- Cells, written. -/
theorem Row.put {vs : List Value} (hr : Row H id l e g fz) (hc : ∀ v ∈ vs, cellOk v = true) (hle : off + vs.length ≤ l.length) (hf : fz.2 ≤ off ∨ off + vs.length ≤ fz.1) :
    ∃ H', putCells H id off vs = some H' ∧ Row H' id (l.take off ++ vs ++ l.drop (off + vs.length)) e g fz ∧ (∀ j, j ≠ id → H'.get j = H.get j) ∧ H'.next = H.next := by
  obtain ⟨c, z, h1, h2⟩ := hr.h
  have hlen : (l.take off ++ vs ++ l.drop (off + vs.length)).length = l.length := by simp; omega
  refine ⟨H.set id (.cells (wrT c off vs) l.length z e g fz), ?_, ⟨wrT c off vs, z, by rw [AHeap.get_set, if_pos rfl, hlen], fun j v hj => ?_⟩, fun j hj => by rw [AHeap.get_set, if_neg hj], rfl⟩
  · unfold putCells
    rw [h1]
    have a1 : Nat.ble (off + llen vs) l.length = true := by rw [llen_eq]; exact Nat.ble_eq_true_of_le hle
    have a2 : lall cellOk vs = true := by rw [lall_eq, List.all_eq_true]; exact hc
    have a3 : (Nat.ble fz.2 off || Nat.ble (off + llen vs) fz.1) = true := by
      rw [llen_eq]
      rcases hf with hf | hf
      · rw [Nat.ble_eq_true_of_le hf]; rfl
      · rw [Nat.ble_eq_true_of_le hf, Bool.or_true]
    simp only [a1, a2, a3, Bool.and_true, cond_true]
  · rw [cellAt_wrT]
    by_cases hw : off ≤ j ∧ j < off + vs.length
    · rw [dif_pos hw]
      rw [List.append_assoc, List.getElem?_append_right (by simp; omega), List.getElem?_append_left (by simp; omega)] at hj
      rw [List.getElem?_eq_getElem (by simp; omega)] at hj
      have := Option.some.inj hj
      rw [← this]
      congr 1
      simp; omega
    · rw [dif_neg hw]
      apply h2
      rcases Nat.lt_or_ge j off with h | h
      · rw [List.append_assoc, List.getElem?_append_left (by simp; omega), List.getElem?_take, if_pos h] at hj
        exact hj
      · rw [List.append_assoc, List.getElem?_append_right (by simp; omega), List.getElem?_append_right (by simp; omega), List.getElem?_drop] at hj
        rw [← hj]
        congr 1
        simp; omega

theorem st_row {K : VK} (hs : E.sz t = some n) (hr : Row H id l e g fz) (hn : (vcells v).length = n) (hc : ∀ u ∈ vcells v, cellOk u = true) (hle : off + n ≤ l.length) (hf : fz.2 ≤ off ∨ off + n ≤ fz.1)
    (hK : ∀ H', Row H' id (l.take off ++ vcells v ++ l.drop (off + n)) e g fz → (∀ j, j ≠ id → H'.get j = H.get j) → H'.next = H.next → K undef H') :
    aSt ((astore E t).f H (.pointer (some ⟨id, off, none⟩)) v) K := by
  subst hn
  obtain ⟨H', h1, h2, h3, h4⟩ := hr.put hc hle hf
  unfold astore
  rw [hs]
  simp only [llen_eq, Nat.beq_refl, cond_true, h1, aSt]
  exact hK H' h2 h3 h4

/-- A new row. -/
theorem row_new {c : T Value} {z : List Value} (hl : ∀ j v, l[j]? = some v → cellAt c z j = v) : Row (H.new (.cells c l.length z e g fz)) H.next l e g fz := ⟨c, z, by rw [AHeap.get_new, if_pos rfl], hl⟩
theorem row_zero (z : List Value) : Row (H.new (.cells .leaf z.length z e g fz)) H.next z e g fz := row_new fun j v hj => by
  have hlt := (List.getElem?_eq_some_iff.1 hj).1
  rw [cellAt_leaf, Nat.mod_eq_of_lt hlt, hj]; rfl
theorem row_list (z : List Value) (k : List Value) : Row (H.new (.cells (T.ofList z 0 .leaf) z.length k e g fz)) H.next z e g fz := row_new fun j v hj => by
  have hlt := (List.getElem?_eq_some_iff.1 hj).1
  rw [cellAt_ofList z k j hlt]
  rw [List.getElem?_eq_getElem hlt] at hj
  exact Option.some.inj hj
theorem Row.new (h : Row H id l e g fz) (hid : id ≠ H.next) (x : AObj) : Row (H.new x) id l e g fz := h.of_get (by rw [AHeap.get_new, if_neg hid])
end
end
end Go.Ai
