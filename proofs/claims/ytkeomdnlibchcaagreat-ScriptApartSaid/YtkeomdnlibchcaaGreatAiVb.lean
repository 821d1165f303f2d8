/-
  Rules for calls, for regions that draw their order, and for frames of which less is kept; no condition.
-/
import Derived.Test.YtkeomdnlibchcaaGreatAiVa
namespace Go.Ai
noncomputable section

/-- A string of such bytes. -/
def str (l : List UInt8) : Value := .string ⟨⟨l⟩⟩
theorem same_str {l : List UInt8} : same (str l) (str l) = true := by simp [same, str]
theorem same_int {k : IntKind} {n : Int} : same (.int k n) (.int k n) = true := by simp [same]
theorem same_bool {b : Bool} : same (.bool b) (.bool b) = true := by simp [same]
theorem same_ptr {p : Option Addr} : same (.pointer p) (.pointer p) = true := by simp [same]
theorem same_sl {p : Option Addr} {n c : Nat} : same (.slice p n c) (.slice p n c) = true := by simp [same]

section
variable {P : Program} {ops : Array Oper} {o : Oper} {H : AHeap} {v : Value} {idf con : FuncId → Bool} {Q : AAct → AHeap → Prop} {l : List Oper} {n d : Nat} {L : List (Tmp × Value)} {ds : List Deferred} {r : Bool} {c : Call} {g : FuncId}

theorem reff_call {a : AAct} {K : VK} (ho : o.op = .call c) (hc : c.callee = .value (.func g)) (hi : idf g = false) (hg : con g = true) (h : Ans P g (c.args.toList.map (ev a)) H K) : (reff (env P idf con) o.op).f (Does P) a H K := by
  have hidf : (env P idf con).idf g = false := hi
  have hcon : (env P idf con).con g = true := hg
  rw [ho]
  simp only [reff, hc, hidf, cond_false]
  unfold acall
  have hs : (env P idf con).sum g (c.args.toList.map (ev a)) = none := rfl
  rw [hs]
  simp only [hcon, cond_true]
  exact h

theorem args0 {a : AAct} (h : c.args = #[]) : c.args.toList.map (ev a) = [] := by rw [h]; rfl
theorem args1 {a : AAct} {x1 : Operand} {v1 : Value} (h : c.args = #[x1]) (h1 : (rv x1).f a = v1) : c.args.toList.map (ev a) = [v1] := by rw [h, ← h1]; rfl
theorem args2 {a : AAct} {x1 x2 : Operand} {v1 v2 : Value} (h : c.args = #[x1, x2]) (h1 : (rv x1).f a = v1) (h2 : (rv x2).f a = v2) : c.args.toList.map (ev a) = [v1, v2] := by rw [h, ← h1, ← h2]; rfl
theorem args3 {a : AAct} {x1 x2 x3 : Operand} {v1 v2 v3 : Value} (h : c.args = #[x1, x2, x3]) (h1 : (rv x1).f a = v1) (h2 : (rv x2).f a = v2) (h3 : (rv x3).f a = v3) : c.args.toList.map (ev a) = [v1, v2, v3] := by rw [h, ← h1, ← h2, ← h3]; rfl
theorem args4 {a : AAct} {x1 x2 x3 x4 : Operand} {v1 v2 v3 v4 : Value} (h : c.args = #[x1, x2, x3, x4]) (h1 : (rv x1).f a = v1) (h2 : (rv x2).f a = v2) (h3 : (rv x3).f a = v3) (h4 : (rv x4).f a = v4) : c.args.toList.map (ev a) = [v1, v2, v3, v4] := by
  rw [h, ← h1, ← h2, ← h3, ← h4]; rfl
theorem args5 {a : AAct} {x1 x2 x3 x4 x5 : Operand} {v1 v2 v3 v4 v5 : Value} (h : c.args = #[x1, x2, x3, x4, x5]) (h1 : (rv x1).f a = v1) (h2 : (rv x2).f a = v2) (h3 : (rv x3).f a = v3) (h4 : (rv x4).f a = v4) (h5 : (rv x5).f a = v5) :
    c.args.toList.map (ev a) = [v1, v2, v3, v4, v5] := by rw [h, ← h1, ← h2, ← h3, ← h4, ← h5]; rfl

theorem Rg.call {args : List Value} (hw : wantA ops (fa n L ds r) o = some true) (ho : o.op = .call c) (hc : c.callee = .value (.func g)) (hi : idf g = false) (hg : con g = true) (hd : o.dst = some d) (hn : Nat.blt d n = true) (ha : c.args.toList.map (ev (fa n L ds r)) = args)
    (h : Ans P g args H fun v H => Rg P (env P idf con) ops l (fa n ((d, v) :: L) ds r) H Q) : Rg P (env P idf con) ops (o :: l) (fa n L ds r) H Q :=
  Rg.eff hw (by unfold cls; rw [ho]; simp only [hc]) hd hn (reff_call ho hc hi hg (by rw [ha]; exact h))

/-- Less of a frame is kept. -/
theorem Does.keep {x : Code} {K : CK} (M : List (Tmp × Value)) (hM : ∀ p ∈ M, lk p.1 L = p.2) (h : Does P x (fa n M ds r) H K) : Does P x (fa n L ds r) H K := by
  refine Does.less (a := fa n L ds r) M.reverse h fun p hp => ?_
  have := hM p (List.mem_reverse.1 hp)
  rw [← this]
  exact (rv_tmp _ _).symm.trans (fa_tmp _)
theorem keep_nil : ∀ p ∈ ([] : List (Tmp × Value)), lk p.1 L = p.2 := fun p hp => by cases hp
theorem keep_cons {t : Nat} {M : List (Tmp × Value)} (h : lk t L = v) (k : ∀ p ∈ M, lk p.1 L = p.2) : ∀ p ∈ (t, v) :: M, lk p.1 L = p.2 := fun p hp => by
  rcases List.mem_cons.1 hp with rfl | hp
  · exact h
  · exact k p hp
end

/-! ### regions that draw their order -/
section
variable {P : Program} {E : Env} {ops : Array Oper} {o : Oper} {H : AHeap} {v : Value} {Q : AAct → AHeap → Prop} {n d i : Nat} {L : List (Tmp × Value)} {ds : List Deferred} {r : Bool} {is S : List Nat}

def roAt (E : Env) (ops : Array Oper) (i : Nat) : RO :=
  match ops[i]? with
  | some o => ropG E ops i o true ((bef ops).at i)
  | none => ⟨fun _ _ _ _ _ => False⟩

/-- What was read may have to be read again, or is the same in every heap. -/
def Pd (E : Env) (S : List Nat) (p : Pend) : Prop := p.i ∈ S ∨ ((∀ H', pread E p.a H' p.o = some p.v) ∧ same p.v p.v = true)
/-- What is left to do is named by places; of what was read it is told which may have to be read again. -/
def Rd (P : Program) (E : Env) (ops : Array Oper) (is : List Nat) (S : List Nat) (a : AAct) (H : AHeap) (Q : AAct → AHeap → Prop) : Prop :=
  ∀ ps : List Pend, (∀ p ∈ ps, Pd E S p) → aops (Does P) (is.map (roAt E ops)) ps a H fun _ a H => Q a H

theorem Does.draw {idf con : FuncId → Bool} {tab : Tab} (hF : Fits P idf con tab) {id : Nat} {K : CK} {a : AAct} (hd : drawOk (env P idf con tab) ops = true) (hl : (order (env P idf con tab) ops).map (·.1) = is) (h : Rd P (env P idf con tab) ops is [] a H (K .normal)) :
    Does P (.region id ops true) a H K := by
  refine Does.rule hF ?_
  show (bif !true || drawOk (env P idf con tab) ops then (⟨fun rec a H K => aops rec (Go.Ai.region (env P idf con tab) ops true).l [] a H K⟩ : RC) else ⟨fun _ _ _ _ => False⟩).f (Does P) a H K
  rw [hd]
  show aops (Does P) ((order (env P idf con tab) ops).map fun (i, o) => ropG (env P idf con tab) ops i o true ((bef ops).at i)) [] a H K
  rw [aops_normal]
  have he : ((order (env P idf con tab) ops).map fun (i, o) => ropG (env P idf con tab) ops i o true ((bef ops).at i)) = is.map (roAt (env P idf con tab) ops) := by
    rw [← hl, List.map_map]
    refine List.map_congr_left fun q hq => ?_
    have := order_mem (env P idf con tab) ops q hq
    simp only [Function.comp, roAt, this]
  rw [he]
  exact h [] (fun p hp => by cases hp)

theorem Rd.done {a : AAct} (h : Q a H) : Rd P E ops [] S a H Q := fun _ _ => h

theorem Rd.head {a : AAct} (ho : ops[i]? = some o) (h : ∀ ps : List Pend, (∀ p ∈ ps, Pd E S p) → (ropG E ops i o true ((bef ops).at i)).f (Does P) ps a H fun ps a H => aops (Does P) (is.map (roAt E ops)) ps a H fun _ a H => Q a H) : Rd P E ops (i :: is) S a H Q := by
  intro ps hps
  rw [List.map_cons, aops_cons]
  have : roAt E ops i = ropG E ops i o true ((bef ops).at i) := by unfold roAt; rw [ho]
  rw [this]
  exact h ps hps

theorem Rd.off (ho : ops[i]? = some o) (hw : wantA ops (fa n L ds r) o = some false) (hd : o.dst = some d) (hn : Nat.blt d n = true) (h : Rd P E ops is S (fa n ((d, undef) :: L) ds r) H Q) : Rd P E ops (i :: is) S (fa n L ds r) H Q :=
  Rd.head ho fun ps hps => ropG_off hw (by rw [hd, fa_put hn]; exact h ps hps)
theorem Rd.read (ho : ops[i]? = some o) (hw : wantA ops (fa n L ds r) o = some true) (hc : cls E o = .read) (hd : o.dst = some d) (hn : Nat.blt d n = true) (hv : pread E (fa n L ds r) H o = some v) (h : Rd P E ops is (i :: S) (fa n ((d, v) :: L) ds r) H Q) :
    Rd P E ops (i :: is) S (fa n L ds r) H Q :=
  Rd.head ho fun ps hps => ropG_on hw (by
    unfold rop
    rw [hc]
    simp only [cond_true]
    unfold pread at hv
    rw [hv, hd]
    simp only
    rw [fa_put hn]
    exact h _ fun p hp => by
      rcases List.mem_cons.1 hp with rfl | hp
      · exact .inl (List.mem_cons_self ..)
      · exact (hps p hp).imp (List.mem_cons_of_mem _) id)
/-- A read that is the same in every heap. -/
theorem Rd.readP (ho : ops[i]? = some o) (hw : wantA ops (fa n L ds r) o = some true) (hc : cls E o = .read) (hd : o.dst = some d) (hn : Nat.blt d n = true) (hv : ∀ H', pread E (fa n L ds r) H' o = some v) (hs : same v v = true) (h : Rd P E ops is S (fa n ((d, v) :: L) ds r) H Q) :
    Rd P E ops (i :: is) S (fa n L ds r) H Q :=
  Rd.head ho fun ps hps => ropG_on hw (by
    unfold rop
    rw [hc]
    simp only [cond_true]
    have hv' := hv H
    unfold pread at hv'
    rw [hv', hd]
    simp only
    rw [fa_put hn]
    exact h _ fun p hp => by
      rcases List.mem_cons.1 hp with rfl | hp
      · exact .inr ⟨hv, hs⟩
      · exact hps p hp)

theorem recheck_all {before : Nat} {H : AHeap} : ∀ {ps : List Pend}, (∀ p ∈ ps, before.testBit p.i = true ∨ ((∀ H', pread E p.a H' p.o = some p.v) ∧ same p.v p.v = true)) → recheck E before H ps = true
  | [], _ => rfl
  | p :: ps, h => by
    unfold recheck
    have ih := recheck_all (before := before) (H := H) fun q hq => h q (List.mem_cons_of_mem _ hq)
    rcases h p (List.mem_cons_self ..) with h | ⟨h1, h2⟩
    · rw [h]; exact ih
    · cases before.testBit p.i with
      | true => exact ih
      | false => simp only [cond_false, h1 H, h2, cond_true]; exact ih
theorem all_bits {before : Nat} {ps : List Pend} (hS : (S.all fun j => before.testBit j) = true) (h : ∀ p ∈ ps, Pd E S p) : ∀ p ∈ ps, before.testBit p.i = true ∨ ((∀ H', pread E p.a H' p.o = some p.v) ∧ same p.v p.v = true) :=
  fun p hp => (h p hp).imp (fun h => List.all_eq_true.1 hS _ h) id

/-- An operation that writes or calls, ahead of which all that was read stands. -/
theorem Rd.eff (ho : ops[i]? = some o) (hw : wantA ops (fa n L ds r) o = some true) (hc : cls E o = .eff) (hd : o.dst = some d) (hn : Nat.blt d n = true) (hS : (S.all fun j => ((bef ops).at i).testBit j) = true)
    (h : (reff E o.op).f (Does P) (fa n L ds r) H fun v H => Rd P E ops is S (fa n ((d, v) :: L) ds r) H Q) (hm : ∀ {K K' : VK}, (∀ v H, K v H → K' v H) → (reff E o.op).f (Does P) (fa n L ds r) H K → (reff E o.op).f (Does P) (fa n L ds r) H K') : Rd P E ops (i :: is) S (fa n L ds r) H Q :=
  Rd.head ho fun ps hps => ropG_on hw (by
    unfold rop
    rw [hc]
    simp only [cond_true]
    refine hm (fun v H' hk => ?_) h
    rw [recheck_all (all_bits hS hps), hd, fa_put hn]
    exact hk ps hps)
/-- .. that comes to one outcome. -/
theorem Rd.effV {H' : AHeap} (ho : ops[i]? = some o) (hw : wantA ops (fa n L ds r) o = some true) (hc : cls E o = .eff) (hd : o.dst = some d) (hn : Nat.blt d n = true) (hS : (S.all fun j => ((bef ops).at i).testBit j) = true)
    (he : ∀ K : VK, K v H' → (reff E o.op).f (Does P) (fa n L ds r) H K) (h : Rd P E ops is S (fa n ((d, v) :: L) ds r) H' Q) : Rd P E ops (i :: is) S (fa n L ds r) H Q :=
  Rd.head ho fun ps hps => ropG_on hw (by
    unfold rop
    rw [hc]
    simp only [cond_true]
    refine he _ ?_
    rw [recheck_all (all_bits hS hps), hd, fa_put hn]
    exact h ps hps)
theorem Rd.effV0 {H' : AHeap} (ho : ops[i]? = some o) (hw : wantA ops (fa n L ds r) o = some true) (hc : cls E o = .eff) (hd : o.dst = none) (hS : (S.all fun j => ((bef ops).at i).testBit j) = true)
    (he : ∀ K : VK, K v H' → (reff E o.op).f (Does P) (fa n L ds r) H K) (h : Rd P E ops is S (fa n L ds r) H' Q) : Rd P E ops (i :: is) S (fa n L ds r) H Q :=
  Rd.head ho fun ps hps => ropG_on hw (by
    unfold rop
    rw [hc]
    simp only [cond_true]
    refine he _ ?_
    rw [recheck_all (all_bits hS hps), hd]
    exact h ps hps)
theorem Rg.effV {H' : AHeap} {l : List Oper} (hw : wantA ops (fa n L ds r) o = some true) (hc : cls E o = .eff) (hd : o.dst = some d) (hn : Nat.blt d n = true) (he : ∀ K : VK, K v H' → (reff E o.op).f (Does P) (fa n L ds r) H K)
    (h : Rg P E ops l (fa n ((d, v) :: L) ds r) H' Q) : Rg P E ops (o :: l) (fa n L ds r) H Q := Rg.eff hw hc hd hn (he _ h)
theorem Rg.effV0 {H' : AHeap} {l : List Oper} (hw : wantA ops (fa n L ds r) o = some true) (hc : cls E o = .eff) (hd : o.dst = none) (he : ∀ K : VK, K v H' → (reff E o.op).f (Does P) (fa n L ds r) H K)
    (h : Rg P E ops l (fa n L ds r) H' Q) : Rg P E ops (o :: l) (fa n L ds r) H Q := Rg.eff0 hw hc hd (he _ h)
theorem Rd.call {idf con : FuncId → Bool} {c : Call} {g : FuncId} {args : List Value} (ho : ops[i]? = some o) (hw : wantA ops (fa n L ds r) o = some true) (hop : o.op = .call c) (hc : c.callee = .value (.func g)) (hi : idf g = false) (hg : con g = true)
    (hd : o.dst = some d) (hn : Nat.blt d n = true) (hS : (S.all fun j => ((bef ops).at i).testBit j) = true) (ha : c.args.toList.map (ev (fa n L ds r)) = args)
    (h : Ans P g args H fun v H => Rd P (env P idf con) ops is S (fa n ((d, v) :: L) ds r) H Q) : Rd P (env P idf con) ops (i :: is) S (fa n L ds r) H Q :=
  Rd.head ho fun ps hps => ropG_on hw (by
    unfold rop
    rw [show cls (env P idf con) o = .eff from by unfold cls; rw [hop]; simp only [hc]]
    simp only [cond_true]
    refine reff_call hop hc hi hg ?_
    rw [ha]
    refine h.mono fun v H' hk => ?_
    rw [recheck_all (all_bits hS hps), hd, fa_put hn]
    exact hk ps hps)
theorem Rg.store {l : List Oper} {t : TypeId} {x y : Operand} {id off k e g : Nat} {l0 l1 : List Value} {fz : Nat × Nat} (hw : wantA ops (fa n L ds r) o = some true) (ho : o.op = .store t x y) (hd : o.dst = none)
    (hx : (rv x).f (fa n L ds r) = .pointer (some ⟨id, off, none⟩)) (hy : (rv y).f (fa n L ds r) = v) (hs : E.sz t = some k) (hr : Row H id l0 e g fz) (hn : (vcells v).length = k) (hc : ∀ u ∈ vcells v, cellOk u = true) (hle : off + k ≤ l0.length)
    (hf : fz.2 ≤ off ∨ off + k ≤ fz.1) (hl : l0.take off ++ vcells v ++ l0.drop (off + k) = l1)
    (h : ∀ H', Row H' id l1 e g fz → (∀ j, j ≠ id → H'.get j = H.get j) → H'.next = H.next → Rg P E ops l (fa n L ds r) H' Q) : Rg P E ops (o :: l) (fa n L ds r) H Q := by
  refine Rg.eff0 hw (by unfold cls; rw [ho]) hd ?_
  rw [ho]
  simp only [reff, hx, hy]
  refine st_row hs hr hn hc hle hf fun H' h1 h2 h3 => ?_
  rw [hl] at h1
  exact h H' h1 h2 h3
theorem Rg.store1 {l : List Oper} {t : TypeId} {x y : Operand} {id off e g : Nat} {l0 l1 : List Value} {fz : Nat × Nat} (hw : wantA ops (fa n L ds r) o = some true) (ho : o.op = .store t x y) (hd : o.dst = none)
    (hx : (rv x).f (fa n L ds r) = .pointer (some ⟨id, off, none⟩)) (hy : (rv y).f (fa n L ds r) = v) (hs : E.sz t = some 1) (hr : Row H id l0 e g fz) (hone : vcells v = [v]) (hc : cellOk v = true) (hle : off + 1 ≤ l0.length)
    (hf : fz.2 ≤ off ∨ off + 1 ≤ fz.1) (hl : l0.set off v = l1)
    (h : ∀ H', Row H' id l1 e g fz → (∀ j, j ≠ id → H'.get j = H.get j) → H'.next = H.next → Rg P E ops l (fa n L ds r) H' Q) : Rg P E ops (o :: l) (fa n L ds r) H Q := by
  refine Rg.store hw ho hd hx hy hs hr (by rw [hone]; rfl) (by rw [hone]; intro u hu; rw [List.mem_singleton] at hu; rw [hu]; exact hc) hle hf (l1 := l1) ?_ h
  rw [hone, ← hl, List.set_eq_take_append_cons_drop, if_pos (by omega)]
  simp
end

section
variable {P : Program} {H : AHeap} {idf con : FuncId → Bool} {tab : Tab} {n : Nat} {L : List (Tmp × Value)} {ds : List Deferred} {r : Bool}
theorem Does.condT (hF : Fits P idf con tab) {t : Nat} {x y : Code} {K : CK} (hc : lk t L = .bool true) (h : Does P x (fa n L ds r) H K) : Does P (.cond (.tmp t) x y) (fa n L ds r) H K :=
  Does.cond hF (b := true) ((fa_tmp t).trans hc) h
theorem Does.condF (hF : Fits P idf con tab) {t : Nat} {x y : Code} {K : CK} (hc : lk t L = .bool false) (h : Does P y (fa n L ds r) H K) : Does P (.cond (.tmp t) x y) (fa n L ds r) H K :=
  Does.cond hF (b := false) ((fa_tmp t).trans hc) h
/-- Both ways of a test that meet again. -/
theorem Does.condB (hF : Fits P idf con tab) {t : Nat} {x y : Code} {K : CK} {b : Bool} (hc : lk t L = .bool b) (h1 : b = true → Does P x (fa n L ds r) H K) (h2 : b = false → Does P y (fa n L ds r) H K) : Does P (.cond (.tmp t) x y) (fa n L ds r) H K := by
  cases b with
  | true => exact Does.condT hF hc (h1 rfl)
  | false => exact Does.condF hF hc (h2 rfl)
theorem lk_bool {t : Nat} {b c : Bool} (h : lk t L = .bool b) (hb : b = c) : lk t L = .bool c := by rw [h, hb]
variable {E : Env} {res : List ResultVar} {K : VK} {vs : List Value}
theorem fin_n (hv : resVals E (fa n L [] r) H res = some vs) (h : K (tup vs) H) : kFin E P res K .normal (fa n L [] r) H := by
  show afinish E res (fa n L [] r) H K
  unfold afinish
  rw [hv]
  exact h
theorem fin_r (hv : resVals E (fa n L [] r) H res = some vs) (h : K (tup vs) H) : kFin E P res K .ret (fa n L [] r) H := by
  show afinish E res (fa n L [] r) H K
  unfold afinish
  rw [hv]
  exact h
end

theorem kSeq_ret {y : AAct → AHeap → Prop} {K : CK} {a : AAct} {H : AHeap} : kSeq y K .ret a H = K .ret a H := rfl
theorem kBlock_ret {i : Nat} {K : CK} {a : AAct} {H : AHeap} : kBlock i K .ret a H = K .ret a H := rfl
/-- A part of a code, by its place: false: the first part, true: the second. -/
def sub : List Bool → Code → Code
  | [], c => c
  | false :: p, .seq x _ => sub p x
  | true :: p, .seq _ y => sub p y
  | false :: p, .cond _ x _ => sub p x
  | true :: p, .cond _ _ y => sub p y
  | _ :: p, .block _ x => sub p x
  | _ :: p, .loop x => sub p x
  | _ :: p, .scope x => sub p x
  | _ :: p, .rangeFunc _ _ _ x => sub p x
  | _, c => c
def bodyOf (g : Func) : Code := g.body.getD .skip

/-- Functions that are called by what was shown of them, by a list. -/
def conL (l : List FuncId) : FuncId → Bool := fun f => l.any fun g => Nat.beq f g
def bodied (P : Program) (l : List FuncId) : Bool := l.all fun f => match P.funcs[f]? with | some g => g.body.isSome | none => false
theorem Fits.withCon {P : Program} {idf : FuncId → Bool} (h : Fits P idf none1) {l : List FuncId} (hl : bodied P l = true) : Fits P idf (conL l) := by
  refine ⟨h.names, h.mixed, h.idf, fun f hf => ?_, ?_⟩
  · obtain ⟨g, hg, he⟩ := List.any_eq_true.1 hf
    have := List.all_eq_true.1 hl g hg
    rw [Nat.eq_of_beq_eq_true he]
    split at this
    · rename_i q hq; exact ⟨q, hq, this⟩
    · cases this
  · intro e he; cases he
section
end
end
end Go.Ai
