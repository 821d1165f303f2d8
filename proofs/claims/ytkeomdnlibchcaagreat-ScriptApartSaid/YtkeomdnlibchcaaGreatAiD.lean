/-
  What the evaluator reckons from values alone is what the model reckons; no condition.
-/
import Derived.Test.YtkeomdnlibchcaaGreatAiC
import Derived.Laws.Strings
namespace Go.Ai
open Go.RowKit (Below)

theorem ikEq_eq {j k : IntKind} (h : ikEq j k = true) : j = k := by cases j <;> cases k <;> first | rfl | cases h
theorem ikEq_self (k : IntKind) : ikEq k k = true := by cases k <;> rfl
theorem fwrap_eq (k : IntKind) (n : Int) : fwrap k n = k.wrap n := by
  cases n with
  | negSucc m => rfl
  | ofNat m =>
    show cond (Nat.blt m (lim k)) (Int.ofNat m) (k.wrap (Int.ofNat m)) = _
    cases h : Nat.blt m (lim k) with
    | false => rfl
    | true =>
      have hm := blt_lt h
      show (m : Int) = k.wrap (m : Int)
      cases k <;> simp only [lim] at hm <;> simp only [IntKind.wrap, IntKind.bits, IntKind.signed] <;> simp <;> omega
theorem beq_iff {m n : Nat} : Nat.beq m n = true ↔ m = n := by rw [Nat.beq_eq]
theorem blt_iff {m n : Nat} : Nat.blt m n = true ↔ m < n := by rw [Nat.blt_eq]
theorem ble_iff {m n : Nat} : Nat.ble m n = true ↔ m ≤ n := by rw [Nat.ble_eq]
theorem intEq_eq (x y : Int) : intEq x y = (x == y) := by
  cases x <;> cases y <;> simp only [intEq] <;> rw [Bool.eq_iff_iff] <;> simp only [beq_iff, beq_iff_eq, Int.ofNat.injEq, Int.negSucc.injEq, reduceCtorEq, Bool.false_eq_true]
theorem intLt_eq (x y : Int) : intLt x y = decide (x < y) := by
  cases x <;> cases y <;> simp only [intLt] <;> rw [Bool.eq_iff_iff] <;> simp only [blt_iff, decide_eq_true_eq, Bool.false_eq_true, iff_false, true_iff, false_iff]
  · show _ ↔ ((_ : Nat) : Int) < ((_ : Nat) : Int); omega
  · rename_i a b; show ¬ ((a : Nat) : Int) < _; rw [Int.negSucc_eq]; omega
  · rename_i a b; show _ < ((b : Nat) : Int); rw [Int.negSucc_eq]; omega
  · rename_i a b; rw [Int.negSucc_eq, Int.negSucc_eq]; omega

theorem wrap_nat {k : IntKind} {m : Nat} (h : m < lim k) : k.wrap (m : Int) = m := by
  have := fwrap_eq k (Int.ofNat m)
  rw [show (m : Int) = Int.ofNat m from rfl, ← this]
  show cond (Nat.blt m (lim k)) (Int.ofNat m) _ = _
  rw [blt_iff.2 h]; rfl
theorem lim_le (k : IntKind) : lim k ≤ 2 ^ k.bits := by cases k <;> simp [lim, IntKind.bits]
theorem lim_pow (k : IntKind) : ∃ b, lim k = 2 ^ b := by
  cases k
  · exact ⟨7, rfl⟩
  · exact ⟨15, rfl⟩
  · exact ⟨31, rfl⟩
  · exact ⟨63, rfl⟩
  · exact ⟨8, rfl⟩
  · exact ⟨16, rfl⟩
  · exact ⟨32, rfl⟩
  · exact ⟨64, rfl⟩

theorem bv_toNat (w m : Nat) (h : m < 2 ^ w) : (BitVec.ofInt w (Int.ofNat m)).toNat = m := by
  rw [show Int.ofNat m = (m : Int) from rfl, BitVec.ofInt_natCast, BitVec.toNat_ofNat, Nat.mod_eq_of_lt h]

/-- 'and', 'or', 'xor' of whole numbers, as the model has them. -/
theorem abits_sound {P : Program} {op : BinOp} {t : TypeId} {f : Nat → Nat → Nat} {k : IntKind} {m n : Int} {v : Value} (hop : (op = .and ∧ f = Nat.land) ∨ (op = .or ∧ f = Nat.lor) ∨ (op = .xor ∧ f = Nat.xor))
    (h : abits P op t f k m n = some v) (w : World) : (binOp op t (.int k m) (.int k n)).run P w = .ok v w ∧ scalar v = true := by
  unfold abits at h
  split at h
  · rename_i a b
    cases hb : (Nat.blt a (lim k) && Nat.blt b (lim k)) with
    | false =>
      rw [hb] at h
      obtain ⟨h1, h2⟩ := sc_some h
      exact ⟨ssem_run P _ _ h1 w, h2⟩
    | true =>
      rw [hb] at h
      simp only [cond_true, Option.some.injEq] at h
      subst h
      simp only [Bool.and_eq_true, blt_iff] at hb
      refine ⟨?_, rfl⟩
      have h1 := bv_toNat k.bits a (Nat.lt_of_lt_of_le hb.1 (lim_le k))
      have h2 := bv_toNat k.bits b (Nat.lt_of_lt_of_le hb.2 (lim_le k))
      obtain ⟨q, hq⟩ := lim_pow k
      rcases hop with ⟨rfl, rfl⟩ | ⟨rfl, rfl⟩ | ⟨rfl, rfl⟩
      · have h3 : Nat.land a b < lim k := by rw [hq] at hb ⊢; exact Nat.and_lt_two_pow _ hb.2
        simp only [binOp, Op.intBits, ne_eq, not_true, if_false, BitVec.toNat_and, h1, h2]
        show (pure (Value.int k (k.wrap ((Nat.land a b : Nat) : Int))) : Sem Value).run P w = _
        rw [wrap_nat h3]; rfl
      · have h3 : Nat.lor a b < lim k := by rw [hq] at hb ⊢; exact Nat.or_lt_two_pow hb.1 hb.2
        simp only [binOp, Op.intBits, ne_eq, not_true, if_false, BitVec.toNat_or, h1, h2]
        show (pure (Value.int k (k.wrap ((Nat.lor a b : Nat) : Int))) : Sem Value).run P w = _
        rw [wrap_nat h3]; rfl
      · have h3 : Nat.xor a b < lim k := by rw [hq] at hb ⊢; exact Nat.xor_lt_two_pow hb.1 hb.2
        simp only [binOp, Op.intBits, ne_eq, not_true, if_false, BitVec.toNat_xor, h1, h2]
        show (pure (Value.int k (k.wrap ((Nat.xor a b : Nat) : Int))) : Sem Value).run P w = _
        rw [wrap_nat h3]; rfl
  · obtain ⟨h1, h2⟩ := sc_some h
    exact ⟨ssem_run P _ _ h1 w, h2⟩

theorem eqGuard_int (P : Program) (op : BinOp) (t : TypeId) (x y : Operand) (j k : IntKind) (m n : Int) (w : World) : (eqGuard op t x y (.int j m) (.int k n)).run P w = .ok () w := by
  unfold eqGuard; split <;> rfl

section reads
variable {E : Env} (hE : E.Ok) {m : Emb} {n0 : Nat} {H : AHeap} {w : World} (hR : Rel m n0 H w) {a : AAct} {ρ : Operand → Value} (ha : EvRel m a ρ)

theorem int2_some {x y : RV} {f : IntKind → Int → Int → Option Value} {no : AAct → AHeap → Value → Value → Option Value} {v : Value} (h : (int2 x y f no).f a H = some v) :
    (∃ k p q, x.f a = .int k p ∧ y.f a = .int k q ∧ f k p q = some v) ∨ (no a H (x.f a) (y.f a) = some v ∧ ¬ ∃ j k p q, x.f a = .int j p ∧ y.f a = .int k q) := by
  unfold int2 at h
  simp only at h
  split at h
  · rename_i k p hx
    split at h
    · rename_i k' q hy
      cases hk : ikEq k k' with
      | false => rw [hk] at h; cases h
      | true =>
        rw [hk] at h
        obtain rfl := ikEq_eq hk
        exact .inl ⟨k, p, q, hx, hy, h⟩
    · rename_i hy
      refine .inr ⟨by rw [hx]; exact h, ?_⟩
      rintro ⟨j, k', p', q, h1, h2⟩
      exact hy _ _ h2
  · rename_i hx
    refine .inr ⟨h, ?_⟩
    rintro ⟨j, k', p', q, h1, h2⟩
    exact hx _ _ h1

theorem ascalar2_some {op : BinOp} {t : TypeId} {x y : Operand} {p q v : Value} (h : ascalar2 E op t x y p q = some v) :
    scalar p = true ∧ scalar q = true ∧ scalar v = true ∧ ∀ w, (do eqGuard op t x y p q; binOp op t p q : Sem Value).run E.P w = .ok v w := by
  unfold ascalar2 at h
  split at h
  · rename_i hs
    simp only [Bool.and_eq_true] at hs
    obtain ⟨h1, h2⟩ := sc_some h
    exact ⟨hs.1, hs.2, h2, ssem_run _ _ _ h1⟩
  · cases h

theorem bytesEq_eq (a : List UInt8) : ∀ b, bytesEq a b = (a == b) := by
  induction a with
  | nil => intro b; cases b <;> rfl
  | cons x a ih =>
    intro b
    cases b with
    | nil => rfl
    | cons y b =>
      show cond (Nat.beq x.toNat y.toNat) (bytesEq a b) false = _
      rw [ih, Bool.eq_iff_iff]
      cases h : Nat.beq x.toNat y.toNat with
      | true =>
        have : x = y := UInt8.toNat_inj.1 (beq_iff.1 h)
        simp [this]
      | false =>
        have : x ≠ y := fun e => by rw [e] at h; simp at h
        simp [this]

theorem VRel.anyptr {q : Option Addr} {y : Value} (h : VRel m (.pointer q) y) : ∃ r, y = .pointer r ∧ r.isNone = q.isNone := by
  cases h with
  | sc _ h => cases q with
    | none => exact ⟨none, rfl, rfl⟩
    | some p => simp [scalar] at h
  | ptr _ _ i h => exact ⟨_, rfl, rfl⟩
theorem VRel.anymap {q : Option Nat} {y : Value} (h : VRel m (.map q) y) : ∃ r, y = .map r ∧ r.isNone = q.isNone := by
  cases h with
  | sc _ h => cases q with
    | none => exact ⟨none, rfl, rfl⟩
    | some p => simp [scalar] at h
  | mp _ i h => exact ⟨_, rfl, rfl⟩
theorem VRel.anysl {q : Option Addr} {l c : Nat} {y : Value} (h : VRel m (.slice q l c) y) : ∃ r c', y = .slice r l c' ∧ r.isNone = q.isNone := by
  cases h with
  | sc _ h => cases q with
    | none => exact ⟨none, _, rfl, rfl⟩
    | some p => simp [scalar] at h
  | sl _ _ _ _ i h => exact ⟨_, _, rfl, rfl⟩
  | sl0 _ _ i h p => exact ⟨_, _, rfl, rfl⟩

theorem equal_ptr_nil (d : Nat) {P : Program} {t e : TypeId} (hu : P.underlying t = some (.pointer e)) (b : Option Addr) (w : World) : (Op.equalIn (d + 1) t (.pointer none) (.pointer b)).run P w = .ok b.isNone w := by
  simp [Op.equalIn, run_underlying hu]
theorem equal_nil_ptr (d : Nat) {P : Program} {t e : TypeId} (hu : P.underlying t = some (.pointer e)) (b : Addr) (w : World) : (Op.equalIn (d + 1) t (.pointer (some b)) (.pointer none)).run P w = .ok false w := by
  simp [Op.equalIn, run_underlying hu]
theorem equal_ptr_same (d : Nat) {P : Program} {t e : TypeId} {n : Nat} (hu : P.underlying t = some (.pointer e)) {i : TypeInfo} (hi : P.info? e = some i) (hn : i.size = n + 1) (b o o' : Nat) (w : World) :
    (Op.equalIn (d + 1) t (.pointer (some ⟨b, o, none⟩)) (.pointer (some ⟨b, o', none⟩))).run P w = .ok (o == o') w := by
  simp [Op.equalIn, run_underlying hu, sizeOf, typeInfo, hi, hn, sameAddr]
  rw [Bool.eq_iff_iff]; simp
theorem equal_map_nil (d : Nat) {P : Program} {t k e : TypeId} (hu : P.underlying t = some (.map k e)) (b : Option Nat) (w : World) : (Op.equalIn (d + 1) t (.map b) (.map none)).run P w = .ok b.isNone w := by
  cases b <;> simp [Op.equalIn, run_underlying hu]
theorem equal_sl_nil (d : Nat) {P : Program} {t e : TypeId} (hu : P.underlying t = some (.slice e)) (b : Option Addr) (l c l' c' : Nat) (w : World) : (Op.equalIn (d + 1) t (.slice b l c) (.slice none l' c')).run P w = .ok b.isNone w := by
  cases b <;> simp [Op.equalIn, run_underlying hu]
theorem equal_nil_ifc (d : Nat) {P : Program} {t : TypeId} {ms : Array (String × TypeId)} (hu : P.underlying t = some (.interface ms)) (u : TypeId) (v : Value) (w : World) : (Op.equalIn (d + 1) t .nilIface (.iface u v)).run P w = .ok false w := by
  simp [Op.equalIn, run_underlying hu]
theorem equal_ifc_nil (d : Nat) {P : Program} {t : TypeId} {ms : Array (String × TypeId)} (hu : P.underlying t = some (.interface ms)) (u : TypeId) (v : Value) (w : World) : (Op.equalIn (d + 1) t (.iface u v) .nilIface).run P w = .ok false w := by
  simp [Op.equalIn, run_underlying hu]

include hE in
theorem aeq_sound {t : TypeId} {p q p' q' : Value} {b : Bool} (hp : VRel m p p') (hq : VRel m q q') (h : aeq E t p q = some b) (x y : Operand) :
    (do eqGuard .eql t x y p' q'; binOp .eql t p' q' : Sem Value).run E.P w = .ok (.bool b) w ∧
    (do eqGuard .neq t x y p' q'; binOp .neq t p' q' : Sem Value).run E.P w = .ok (.bool (!b)) w := by
  unfold aeq at h
  split at h
  · rename_i a b
    have h1 := hp.str_inv; have h2 := hq.str_inv
    subst h1; subst h2
    obtain ⟨⟨a⟩⟩ := a; obtain ⟨⟨b⟩⟩ := b
    simp only [Option.some.injEq] at h
    subst h
    rw [bytesEq_eq]
    refine ⟨?_, ?_⟩ <;> simp [eqGuard, binOp, Op.stringOp, ByteArray.toList_eq]
  · rename_i p q
    split at h
    · rename_i hu
      cases h
      have h1 := hp.nilptr_inv
      obtain ⟨r, rfl, hr⟩ := hq.anyptr
      subst h1
      have : (Op.equal _ _ _).run E.P w = _ := equal_ptr_nil 9999 (hE.u _ _ hu) r w
      rw [hr] at this
      refine ⟨?_, ?_⟩ <;> simp [eqGuard, binOp, this]
    · rename_i hu
      cases h
      obtain ⟨r, rfl, hr⟩ := hp.anyptr
      have h1 := hq.nilptr_inv
      subst h1
      cases r with
      | none => simp at hr
      | some r =>
        have : (Op.equal _ _ _).run E.P w = _ := equal_nil_ptr 9999 (hE.u _ _ hu) r w
        refine ⟨?_, ?_⟩ <;> simp [eqGuard, binOp, this]
    · rename_i i o j o' e hu
      split at h
      · rename_i n hs
        cases hij : Nat.beq i j with
        | false => rw [hij] at h; cases h
        | true =>
          rw [hij] at h
          obtain rfl := beq_iff.1 hij
          simp only [cond_true, Option.some.injEq] at h
          subst h
          obtain ⟨i1, h1, rfl⟩ := hp.ptr_inv
          obtain ⟨i2, h2, rfl⟩ := hq.ptr_inv
          rw [h1] at h2; cases h2
          obtain ⟨ti, hti, hn⟩ := hE.sz _ _ hs
          have : (Op.equal _ _ _).run E.P w = _ := equal_ptr_same 9999 (hE.u _ _ hu) hti hn i1.blk (i1.sh + o) (i1.sh + o') w
          have he : (i1.sh + o == i1.sh + o') = Nat.beq o o' := by
            rw [Bool.eq_iff_iff, beq_iff]; simp
          rw [he] at this
          refine ⟨?_, ?_⟩ <;> simp [eqGuard, binOp, this]
      · cases h
    · cases h
  · rename_i r
    split at h
    · rename_i hu
      cases h
      obtain ⟨r', rfl, hr⟩ := hp.anymap
      have h1 := hq.nilmap_inv
      subst h1
      have : (Op.equal _ _ _).run E.P w = _ := equal_map_nil 9999 (hE.u _ _ hu) r' w
      rw [hr] at this
      refine ⟨?_, ?_⟩ <;> simp [eqGuard, binOp, this]
    · cases h
  · rename_i q1 l1 c1 l2 c2
    split at h
    · rename_i hu
      cases h
      obtain ⟨r', c', rfl, hr⟩ := hp.anysl
      have h1 := hq.nilsl_inv
      subst h1
      have : (Op.equal _ _ _).run E.P w = _ := equal_sl_nil 9999 (hE.u _ _ hu) r' l1 c' l2 c2 w
      rw [hr] at this
      refine ⟨?_, ?_⟩ <;> simp [eqGuard, binOp, this]
    · cases h
  · rename_i t1 v1
    split at h
    · rename_i hu
      cases h
      have h1 := hp.eq_of_scalar rfl
      subst h1
      obtain ⟨v', rfl, _⟩ := hq.ifc_inv
      have : (Op.equal _ _ _).run E.P w = _ := equal_nil_ifc 9999 (hE.u _ _ hu) t1 v' w
      refine ⟨?_, ?_⟩ <;> simp [eqGuard, binOp, this]
    · cases h
  · rename_i t1 v1
    split at h
    · rename_i hu
      cases h
      have h1 := hq.eq_of_scalar rfl
      subst h1
      obtain ⟨v', rfl, _⟩ := hp.ifc_inv
      have : (Op.equal _ _ _).run E.P w = _ := equal_ifc_nil 9999 (hE.u _ _ hu) t1 v' w
      refine ⟨?_, ?_⟩ <;> simp [eqGuard, binOp, this]
    · cases h
  · cases h

theorem shift_nat {P : Program} (t : TypeId) (k k' : IntKind) (p q : Nat) (w : World) :
    (binOp .shr t (.int k (.ofNat p)) (.int k' (.ofNat q))).run P w = .ok (.int k (.ofNat (Nat.div p (Nat.pow 2 (Nat.min q k.bits))))) w ∧
    (binOp .shl t (.int k (.ofNat p)) (.int k' (.ofNat q))).run P w = .ok (.int k (k.wrap (.ofNat (Nat.mul p (Nat.pow 2 (Nat.min q k.bits)))))) w := by
  have hq : ¬ ((Int.ofNat q) < 0) := by show ¬ ((q : Int) < 0); omega
  refine ⟨?_, ?_⟩
  · simp only [binOp, Op.shift, hq, if_false]
    show (pure (Value.int k ((Int.ofNat p).fdiv (2 ^ (min (Int.ofNat q).toNat k.bits)))) : Sem Value).run P w = _
    have : ((Int.ofNat p).fdiv (2 ^ (min (Int.ofNat q).toNat k.bits)) : Int) = Int.ofNat (Nat.div p (Nat.pow 2 (Nat.min q k.bits))) := by
      show ((p : Int).fdiv (((2 : Nat) : Int) ^ (min q k.bits))) = ((p / 2 ^ (min q k.bits) : Nat) : Int)
      rw [Int.fdiv_eq_ediv_of_nonneg _ (by exact Int.pow_nonneg (by decide))]
      push_cast; rfl
    rw [this]; rfl
  · simp only [binOp, Op.shift, hq, if_false]
    show (pure (Value.int k (k.wrap (Int.ofNat p * 2 ^ (min (Int.ofNat q).toNat k.bits)))) : Sem Value).run P w = _
    have : (Int.ofNat p * 2 ^ (min (Int.ofNat q).toNat k.bits) : Int) = Int.ofNat (Nat.mul p (Nat.pow 2 (Nat.min q k.bits))) := by
      show ((p : Int) * ((2 : Nat) : Int) ^ (min q k.bits)) = ((p * 2 ^ (min q k.bits) : Nat) : Int)
      push_cast; rfl
    rw [this]; rfl

include hE ha in
theorem abin_sound {op : BinOp} {t : TypeId} {x y : Operand} {v : Value} (h : (abin E op t x y).f a H = some v) :
    ∃ v', VRel m v v' ∧ (do eqGuard op t x y (ρ x) (ρ y); binOp op t (ρ x) (ρ y) : Sem Value).run E.P w = .ok v' w := by
  have hx := ha x; have hy := ha y
  have hno : ∀ {v}, ascalar2 E op t x y (ev a x) (ev a y) = some v → ∃ v', VRel m v v' ∧ (do eqGuard op t x y (ρ x) (ρ y); binOp op t (ρ x) (ρ y) : Sem Value).run E.P w = .ok v' w := by
    intro v h
    obtain ⟨h1, h2, h3, h4⟩ := ascalar2_some h
    rw [hx.eq_of_scalar h1, hy.eq_of_scalar h2]
    exact ⟨v, .sc _ h3, h4 w⟩
  have hint : ∀ {k p q v}, ev a x = .int k p → ev a y = .int k q → scalar v = true → (binOp op t (.int k p) (.int k q)).run E.P w = .ok v w →
      ∃ v', VRel m v v' ∧ (do eqGuard op t x y (ρ x) (ρ y); binOp op t (ρ x) (ρ y) : Sem Value).run E.P w = .ok v' w := by
    intro k p q v e1 e2 hs hb
    rw [e1] at hx; rw [e2] at hy
    rw [hx.int_inv, hy.int_inv]
    refine ⟨v, .sc _ hs, ?_⟩
    simp only [Sem.run_bind, eqGuard_int, Result.andThen_ok, hb]
  cases op with
  | add =>
    rcases int2_some h with ⟨k, p, q, e1, e2, e3⟩ | ⟨e, _⟩
    · cases e3; exact hint e1 e2 rfl (by rw [fwrap_eq]; simp [binOp, Op.intArith])
    · exact hno e
  | sub =>
    rcases int2_some h with ⟨k, p, q, e1, e2, e3⟩ | ⟨e, _⟩
    · cases e3; exact hint e1 e2 rfl (by rw [fwrap_eq]; simp [binOp, Op.intArith])
    · exact hno e
  | mul =>
    rcases int2_some h with ⟨k, p, q, e1, e2, e3⟩ | ⟨e, _⟩
    · cases e3; exact hint e1 e2 rfl (by rw [fwrap_eq]; simp [binOp, Op.intArith])
    · exact hno e
  | eql =>
    change (int2 (rv x) (rv y) (fun _ m n => some (.bool (intEq m n))) (fun _ _ v w => match aeq E t v w with | some b => some (.bool b) | none => ascalar2 E .eql t x y v w)).f a H = some v at h
    rcases int2_some h with ⟨k, p, q, e1, e2, e3⟩ | ⟨e, _⟩
    · cases e3; exact hint e1 e2 rfl (by rw [intEq_eq]; simp [binOp, Op.intCmp])
    · split at e
      · rename_i b hb
        cases e
        exact ⟨_, .sc _ rfl, (aeq_sound hE hx hy hb x y).1⟩
      · exact hno e
  | neq =>
    change (int2 (rv x) (rv y) (fun _ m n => some (.bool (!intEq m n))) (fun _ _ v w => match aeq E t v w with | some b => some (.bool (!b)) | none => ascalar2 E .neq t x y v w)).f a H = some v at h
    rcases int2_some h with ⟨k, p, q, e1, e2, e3⟩ | ⟨e, _⟩
    · cases e3; exact hint e1 e2 rfl (by rw [intEq_eq]; simp [binOp, Op.intCmp, bne])
    · split at e
      · rename_i b hb
        cases e
        exact ⟨_, .sc _ rfl, (aeq_sound hE hx hy hb x y).2⟩
      · exact hno e
  | lss =>
    rcases int2_some h with ⟨k, p, q, e1, e2, e3⟩ | ⟨e, _⟩
    · cases e3; exact hint e1 e2 rfl (by rw [intLt_eq]; simp [binOp, Op.intCmp])
    · exact hno e
  | gtr =>
    rcases int2_some h with ⟨k, p, q, e1, e2, e3⟩ | ⟨e, _⟩
    · cases e3; exact hint e1 e2 rfl (by rw [intLt_eq]; simp [binOp, Op.intCmp])
    · exact hno e
  | leq =>
    rcases int2_some h with ⟨k, p, q, e1, e2, e3⟩ | ⟨e, _⟩
    · cases e3; exact hint e1 e2 rfl (by rw [intLt_eq]; simp [binOp, Op.intCmp]; rw [Bool.eq_iff_iff]; simp)
    · exact hno e
  | geq =>
    rcases int2_some h with ⟨k, p, q, e1, e2, e3⟩ | ⟨e, _⟩
    · cases e3; exact hint e1 e2 rfl (by rw [intLt_eq]; simp [binOp, Op.intCmp]; rw [Bool.eq_iff_iff]; simp)
    · exact hno e
  | and =>
    rcases int2_some h with ⟨k, p, q, e1, e2, e3⟩ | ⟨e, _⟩
    · obtain ⟨h1, h2⟩ := abits_sound (.inl ⟨rfl, rfl⟩) e3 w; exact hint e1 e2 h2 h1
    · exact hno e
  | or =>
    rcases int2_some h with ⟨k, p, q, e1, e2, e3⟩ | ⟨e, _⟩
    · obtain ⟨h1, h2⟩ := abits_sound (.inr (.inl ⟨rfl, rfl⟩)) e3 w; exact hint e1 e2 h2 h1
    · exact hno e
  | xor =>
    rcases int2_some h with ⟨k, p, q, e1, e2, e3⟩ | ⟨e, _⟩
    · obtain ⟨h1, h2⟩ := abits_sound (.inr (.inr ⟨rfl, rfl⟩)) e3 w; exact hint e1 e2 h2 h1
    · exact hno e
  | shr =>
    simp only [abin] at h
    split at h
    · rename_i k p k' q e1 e2
      cases h
      change ev a x = _ at e1; change ev a y = _ at e2
      rw [e1] at hx; rw [e2] at hy
      rw [hx.int_inv, hy.int_inv]
      refine ⟨_, .sc _ rfl, ?_⟩
      simp only [Sem.run_bind, eqGuard_int, Result.andThen_ok, (shift_nat t k k' p q w).1]
    · rename_i k p k' q _ e1 e2
      obtain ⟨h1, h2⟩ := sc_some h
      change ev a x = _ at e1; change ev a y = _ at e2
      rw [e1] at hx; rw [e2] at hy
      rw [hx.int_inv, hy.int_inv]
      refine ⟨_, .sc _ h2, ?_⟩
      simp only [Sem.run_bind, eqGuard_int, Result.andThen_ok, ssem_run _ _ _ h1 w]
    · cases h
  | shl =>
    simp only [abin] at h
    split at h
    · rename_i k p k' q e1 e2
      cases h
      change ev a x = _ at e1; change ev a y = _ at e2
      rw [e1] at hx; rw [e2] at hy
      rw [hx.int_inv, hy.int_inv]
      refine ⟨_, .sc _ rfl, ?_⟩
      simp only [Sem.run_bind, eqGuard_int, Result.andThen_ok, (shift_nat t k k' p q w).2, fwrap_eq]
    · rename_i k p k' q _ e1 e2
      obtain ⟨h1, h2⟩ := sc_some h
      change ev a x = _ at e1; change ev a y = _ at e2
      rw [e1] at hx; rw [e2] at hy
      rw [hx.int_inv, hy.int_inv]
      refine ⟨_, .sc _ h2, ?_⟩
      simp only [Sem.run_bind, eqGuard_int, Result.andThen_ok, ssem_run _ _ _ h1 w]
    · cases h
  | _ =>
    rcases int2_some h with ⟨k, p, q, e1, e2, e3⟩ | ⟨e, _⟩
    · obtain ⟨h1, h2⟩ := sc_some e3; exact hint e1 e2 h2 (ssem_run _ _ _ h1 w)
    · exact hno e
end reads
end Go.Ai
