/-
  Rules by which code is gone through, operation by operation; no condition.
-/
import Derived.Test.YtkeomdnlibchcaaGreatAiZ
namespace Go.Ai
noncomputable section

/-! ### frames -/
def lk (t : Nat) : List (Tmp × Value) → Value
  | [] => poison
  | p :: l => if t = p.1 then p.2 else lk t l

theorem fa_get (l : List (Tmp × Value)) (t : Nat) : ((setAll l.reverse .leaf).get (path t)).getD poison = lk t l := by
  induction l with
  | nil => rfl
  | cons p l ih =>
    have : setAll (p :: l).reverse .leaf = (setAll l.reverse .leaf).set p.2 (path p.1) := by
      rw [List.reverse_cons]
      unfold setAll
      rw [List.foldl_append]; rfl
    rw [this, T.get_set]
    unfold lk
    by_cases e : t = p.1
    · rw [if_pos e, if_pos e]; rfl
    · rw [if_neg e, if_neg e]; exact ih

/-- A frame, by what was put into it, the last first. -/
def fa (n : Nat) (l : List (Tmp × Value)) (ds : List Deferred) (r : Bool) : AAct := ⟨n, setAll l.reverse .leaf, ds, r⟩
theorem fa_tmp {n : Nat} {l : List (Tmp × Value)} {ds : List Deferred} {r : Bool} (t : Nat) : (rv (.tmp t)).f (fa n l ds r) = lk t l := by
  rw [rv_tmp, tmp_eq]; exact fa_get l t
theorem fa_put {n : Nat} {l : List (Tmp × Value)} {ds : List Deferred} {r : Bool} {d : Nat} (h : Nat.blt d n = true) (v : Value) : (rput (some d)).f (fa n l ds r) v = fa n ((d, v) :: l) ds r := by
  unfold fa
  rw [rput_some]
  simp only [h, cond_true, List.reverse_cons]
  congr 1
  unfold setAll
  rw [List.foldl_append]; rfl
theorem fa_put0 {a : AAct} (v : Value) : (rput none).f a v = a := rfl
theorem rv_const {a : AAct} (v : Value) : (rv (.const v)).f a = bif scalar v then v else poison := by
  simp only [rv]; cases hs : scalar v <;> simp only [cond_true, cond_false]
theorem rv_func {a : AAct} (f : FuncId) : (rv (.func f)).f a = .func (.func f) #[] #[] := rfl
theorem fa_rnd {n : Nat} {l : List (Tmp × Value)} {ds : List Deferred} {r : Bool} : (fa n l ds r).rnd = r := rfl
theorem fa_ds {n : Nat} {l : List (Tmp × Value)} {ds : List Deferred} {r : Bool} : (fa n l ds r).ds = ds := rfl
theorem fa_n {n : Nat} {l : List (Tmp × Value)} {ds : List Deferred} {r : Bool} : (fa n l ds r).n = n := rfl

def argsL : Nat → List Value → List (Tmp × Value)
  | _, [] => []
  | n, v :: l => (n, v) :: argsL (n + 1) l
theorem argsL_set : ∀ (args : List Value) (k : Nat) (t : T Value), setAll (argsL k args) t = T.ofList args k t
  | [], _, _ => rfl
  | v :: l, k, t => argsL_set l (k + 1) (t.set v (path k))
theorem enter_fa (n : Nat) (args : List Value) : enterA n args = fa (Nat.max n args.length) (argsL 0 args).reverse [] false := by
  unfold enterA fa
  rw [List.reverse_reverse, argsL_set]

/-! ### regions that draw no order -/
section
variable {P : Program} {E : Env} {ops : Array Oper} {k : Nat} {o : Oper} {a : AAct} {H : AHeap} {v : Value}

def Rg (P : Program) (E : Env) (ops : Array Oper) (l : List Oper) (a : AAct) (H : AHeap) (Q : AAct → AHeap → Prop) : Prop :=
  aops (Does P) (l.map fun o => ropG E ops 0 o false 0) [] a H fun _ a H => Q a H

theorem ropG_any (i b : Nat) : ropG E ops i o false b = ropG E ops 0 o false 0 := by
  have : rop E i o false b = rop E 0 o false 0 := by
    unfold rop
    cases cls E o <;> rfl
  unfold ropG
  rw [this]
theorem opsL_map : ((opsL ops).map fun p => ropG E ops p.1 p.2 false 0) = ops.toList.map fun o => ropG E ops 0 o false 0 := by
  have h1 : (fun p : Nat × Oper => ropG E ops p.1 p.2 false 0) = (fun o => ropG E ops 0 o false 0) ∘ fun p => p.2 := by
    funext p
    exact ropG_any p.1 0
  rw [h1, ← List.map_map]
  congr 1
  unfold opsL
  rw [List.map_map]
  have : ∀ (l : List Oper) (n : Nat), (l.zipIdx n).map ((fun p : Nat × Oper => p.2) ∘ fun x : Oper × Nat => (x.2, x.1)) = l := by
    intro l
    induction l with
    | nil => intro n; rfl
    | cons x l ih => intro n; rw [List.zipIdx_cons, List.map_cons, ih]; rfl
  exact this _ 0

theorem aops_normal (rec : Rec) (K : CK) : ∀ (l : List RO) (ps : List Pend) (a : AAct) (H : AHeap), aops rec l ps a H K = aops rec l ps a H fun _ a H => K .normal a H
  | [], _, _, _ => rfl
  | r :: l, ps, a, H => by
    rw [aops_cons, aops_cons]
    congr 1
    funext ps a H
    exact aops_normal rec K l ps a H

variable {idf con : FuncId → Bool} {tab : Tab}
theorem Does.region (hF : Fits P idf con tab) {id : Nat} {K : CK} (h : Rg P (env P idf con tab) ops ops.toList a H (K .normal)) : Does P (.region id ops false) a H K := by
  refine Does.rule hF ?_
  show aops (Does P) ((opsL ops).map fun p => ropG (env P idf con tab) ops p.1 p.2 false 0) [] a H K
  rw [aops_normal, opsL_map]
  exact h

variable {Q : AAct → AHeap → Prop} {l : List Oper}
theorem Rg.done (h : Q a H) : Rg P E ops [] a H Q := h

theorem ropG_on {rec : Rec} {i b : Nat} {draw : Bool} {ps : List Pend} {K : List Pend → AAct → AHeap → Prop} (hw : wantA ops a o = some true) (h : (rop E i o draw b).f rec ps a H K) : (ropG E ops i o draw b).f rec ps a H K := by
  unfold ropG
  unfold wantA at hw
  cases hg : o.guard with
  | none => exact h
  | some g =>
    obtain ⟨g, want⟩ := g
    rw [hg] at hw
    simp only at hw ⊢
    split at hw
    · rename_i x hx
      rw [hx]
      simp only [Option.some.injEq] at hw
      simp only [hw, cond_true]
      exact h
    · cases hw
    · cases hw
theorem ropG_off {rec : Rec} {i b : Nat} {draw : Bool} {ps : List Pend} {K : List Pend → AAct → AHeap → Prop} (hw : wantA ops a o = some false) (h : K ps ((rput o.dst).f a undef) H) : (ropG E ops i o draw b).f rec ps a H K := by
  unfold ropG
  unfold wantA at hw
  cases hg : o.guard with
  | none => rw [hg] at hw; cases hw
  | some g =>
    obtain ⟨g, want⟩ := g
    rw [hg] at hw
    simp only at hw ⊢
    split at hw
    · rename_i x hx
      rw [hx]
      simp only [Option.some.injEq] at hw
      simp only [hw, cond_false]
      exact h
    · rename_i l hl
      rw [hl]
      exact h
    · cases hw

theorem Rg.head (h : (ropG E ops 0 o false 0).f (Does P) [] a H fun ps a H => aops (Does P) (l.map fun o => ropG E ops 0 o false 0) ps a H fun _ a H => Q a H) : Rg P E ops (o :: l) a H Q := h

section
variable {n d : Nat} {L : List (Tmp × Value)} {ds : List Deferred} {r : Bool}
theorem Rg.off (hw : wantA ops (fa n L ds r) o = some false) (hd : o.dst = some d) (hn : Nat.blt d n = true) (h : Rg P E ops l (fa n ((d, undef) :: L) ds r) H Q) : Rg P E ops (o :: l) (fa n L ds r) H Q :=
  Rg.head (ropG_off hw (by rw [hd, fa_put hn]; exact h))
theorem Rg.read (hw : wantA ops (fa n L ds r) o = some true) (hc : cls E o = .read) (hd : o.dst = some d) (hn : Nat.blt d n = true) (hv : pread E (fa n L ds r) H o = some v) (h : Rg P E ops l (fa n ((d, v) :: L) ds r) H Q) :
    Rg P E ops (o :: l) (fa n L ds r) H Q :=
  Rg.head (ropG_on hw (by
    unfold rop
    rw [hc]
    simp only [cond_false]
    unfold pread at hv
    rw [hv, hd]
    simp only
    rw [fa_put hn]
    exact h))
theorem Rg.make {x : AObj} (hw : wantA ops (fa n L ds r) o = some true) (hc : cls E o = .make) (hd : o.dst = some d) (hn : Nat.blt d n = true) (hv : amake E (fa n L ds r) H o = some (v, x)) (h : Rg P E ops l (fa n ((d, v) :: L) ds r) (H.new x) Q) :
    Rg P E ops (o :: l) (fa n L ds r) H Q :=
  Rg.head (ropG_on hw (by
    unfold rop
    rw [hc]
    simp only [cond_false]
    unfold amake at hv
    rw [hv, hd]
    simp only
    rw [fa_put hn]
    exact h))
/-- An operation that writes or calls, with a result that goes somewhere, or nowhere. -/
theorem Rg.eff (hw : wantA ops (fa n L ds r) o = some true) (hc : cls E o = .eff) (hd : o.dst = some d) (hn : Nat.blt d n = true) (h : (reff E o.op).f (Does P) (fa n L ds r) H fun v H => Rg P E ops l (fa n ((d, v) :: L) ds r) H Q) :
    Rg P E ops (o :: l) (fa n L ds r) H Q :=
  Rg.head (ropG_on hw (by
    unfold rop
    rw [hc]
    simp only [cond_false, hd, fa_put hn]
    exact h))
theorem Rg.eff0 (hw : wantA ops (fa n L ds r) o = some true) (hc : cls E o = .eff) (hd : o.dst = none) (h : (reff E o.op).f (Does P) (fa n L ds r) H fun _ H => Rg P E ops l (fa n L ds r) H Q) :
    Rg P E ops (o :: l) (fa n L ds r) H Q :=
  Rg.head (ropG_on hw (by
    unfold rop
    rw [hc]
    simp only [cond_false, hd, fa_put0]
    exact h))
end

/-! ### code -/
/-- Behind a piece of code that comes to its end with such a frame and such a heap. -/
def Then (A : AAct) (B : AHeap) : CK := fun e a H => match e with
  | .normal => a = A ∧ H = B
  | _ => False
theorem Does.seq (hF : Fits P idf con tab) {x y : Code} {K : CK} (h : Does P x a H (kSeq (fun a H => Does P y a H K) K)) : Does P (.seq x y) a H K := Does.rule hF h
theorem Does.next (hF : Fits P idf con tab) {x y : Code} {K : CK} {A : AAct} {B : AHeap} (h : Does P x a H (Then A B)) (h2 : Does P y A B K) : Does P (.seq x y) a H K :=
  Does.seq hF (h.mono fun e a H hT => by
    cases e with
    | normal => obtain ⟨rfl, rfl⟩ := hT; exact h2
    | exit i => exact hT.elim
    | goto i => exact hT.elim
    | ret => exact hT.elim)
theorem Does.cond (hF : Fits P idf con tab) {c : Operand} {x y : Code} {K : CK} {b : Bool} (hc : ev a c = .bool b) (h : Does P (cond b x y) a H K) : Does P (.cond c x y) a H K := by
  refine Does.rule hF ?_
  show (match (rv c).f a with | .bool b => _root_.cond b (Does P x a H K) (Does P y a H K) | _ => False)
  unfold ev at hc
  rw [hc]
  cases b <;> exact h
theorem Does.skip (hF : Fits P idf con tab) {K : CK} (h : K .normal a H) : Does P .skip a H K := Does.rule hF h
theorem Does.ret (hF : Fits P idf con tab) {K : CK} (h : K .ret a H) : Does P .ret a H K := Does.rule hF h
theorem Does.exit (hF : Fits P idf con tab) {K : CK} {i : Nat} (h : K (.exit i) a H) : Does P (.exit i) a H K := Does.rule hF h
theorem Does.block (hF : Fits P idf con tab) {K : CK} {i : Nat} {x : Code} (h : Does P x a H (kBlock i K)) : Does P (.block i x) a H K := Does.rule hF h
theorem Does.loop (hF : Fits P idf con tab) {K : CK} {x : Code} (h : Does P x a H (kSeq (fun a H => Does P (.loop x) a H K) K)) : Does P (.loop x) a H K := Does.rule hF h

/-- Behind a function's code. -/
def kFin (E : Env) (P : Program) (res : List ResultVar) (K : VK) : CK := fun e a H => match e with
  | .normal | .ret => adefers E (Does P) 64 a.ds H fun H => afinish E res a H K
  | _ => False
theorem Ans.body (hF : Fits P idf con tab) {f : FuncId} {args : List Value} {K : VK} {g : Func} {b : Code} {n : Nat} {L : List (Tmp × Value)} (hg : P.funcs[f]? = some g) (hb : g.body = some b) (hn : Nat.max g.ntmps args.length = n) (hL : (argsL 0 args).reverse = L)
    (h : Does P b (fa n L [] false) H (kFin (env P idf con tab) P g.results.toList K)) : Ans P f args H K := by
  refine Ans.rule hF ?_
  have hfn : (env P idf con tab).fn f = some ⟨b, g.ntmps, g.results.toList⟩ := by
    show ((T.ofList (P.funcs.toList.map fun g => g.body.map fun b => ({ body := b, n := g.ntmps, res := g.results.toList } : AFn)) 0 .leaf).get (path f)).join = _
    rw [ofList_get, List.getElem?_map]
    have : P.funcs.toList[f]? = some g := by simpa using hg
    rw [this]
    simp [hb]
  unfold acallWith
  rw [hfn]
  simp only
  rw [enter_fa, hn, hL]
  refine h.mono fun e a H hk => ?_
  cases e <;> exact hk
theorem Ans.body0 (hF : Fits P idf con tab) {f : FuncId} {K : VK} {g : Func} {b : Code} (n : Nat) (hg : P.funcs[f]? = some g) (hb : g.body = some b) (hn : Nat.max g.ntmps 0 = n)
    (h : Does P b (fa n [] [] false) H (kFin (env P idf con tab) P g.results.toList K)) : Ans P f [] H K := Ans.body hF hg hb hn rfl h
theorem Ans.body1 (hF : Fits P idf con tab) {f : FuncId} {v0 : Value} {K : VK} {g : Func} {b : Code} (n : Nat) (hg : P.funcs[f]? = some g) (hb : g.body = some b) (hn : Nat.max g.ntmps 1 = n)
    (h : Does P b (fa n [(0, v0)] [] false) H (kFin (env P idf con tab) P g.results.toList K)) : Ans P f [v0] H K := Ans.body hF hg hb hn rfl h
theorem Ans.body2 (hF : Fits P idf con tab) {f : FuncId} {v0 v1 : Value} {K : VK} {g : Func} {b : Code} (n : Nat) (hg : P.funcs[f]? = some g) (hb : g.body = some b) (hn : Nat.max g.ntmps 2 = n)
    (h : Does P b (fa n [(1, v1), (0, v0)] [] false) H (kFin (env P idf con tab) P g.results.toList K)) : Ans P f [v0, v1] H K := Ans.body hF hg hb hn rfl h
theorem Ans.body3 (hF : Fits P idf con tab) {f : FuncId} {v0 v1 v2 : Value} {K : VK} {g : Func} {b : Code} (n : Nat) (hg : P.funcs[f]? = some g) (hb : g.body = some b) (hn : Nat.max g.ntmps 3 = n)
    (h : Does P b (fa n [(2, v2), (1, v1), (0, v0)] [] false) H (kFin (env P idf con tab) P g.results.toList K)) : Ans P f [v0, v1, v2] H K := Ans.body hF hg hb hn rfl h
theorem Ans.body4 (hF : Fits P idf con tab) {f : FuncId} {v0 v1 v2 v3 : Value} {K : VK} {g : Func} {b : Code} (n : Nat) (hg : P.funcs[f]? = some g) (hb : g.body = some b) (hn : Nat.max g.ntmps 4 = n)
    (h : Does P b (fa n [(3, v3), (2, v2), (1, v1), (0, v0)] [] false) H (kFin (env P idf con tab) P g.results.toList K)) : Ans P f [v0, v1, v2, v3] H K := Ans.body hF hg hb hn rfl h
theorem Ans.body5 (hF : Fits P idf con tab) {f : FuncId} {v0 v1 v2 v3 v4 : Value} {K : VK} {g : Func} {b : Code} (n : Nat) (hg : P.funcs[f]? = some g) (hb : g.body = some b) (hn : Nat.max g.ntmps 5 = n)
    (h : Does P b (fa n [(4, v4), (3, v3), (2, v2), (1, v1), (0, v0)] [] false) H (kFin (env P idf con tab) P g.results.toList K)) : Ans P f [v0, v1, v2, v3, v4] H K := Ans.body hF hg hb hn rfl h
theorem Ans.body6 (hF : Fits P idf con tab) {f : FuncId} {v0 v1 v2 v3 v4 v5 : Value} {K : VK} {g : Func} {b : Code} (n : Nat) (hg : P.funcs[f]? = some g) (hb : g.body = some b) (hn : Nat.max g.ntmps 6 = n)
    (h : Does P b (fa n [(5, v5), (4, v4), (3, v3), (2, v2), (1, v1), (0, v0)] [] false) H (kFin (env P idf con tab) P g.results.toList K)) : Ans P f [v0, v1, v2, v3, v4, v5] H K := Ans.body hF hg hb hn rfl h
theorem Ans.body7 (hF : Fits P idf con tab) {f : FuncId} {v0 v1 v2 v3 v4 v5 v6 : Value} {K : VK} {g : Func} {b : Code} (n : Nat) (hg : P.funcs[f]? = some g) (hb : g.body = some b) (hn : Nat.max g.ntmps 7 = n)
    (h : Does P b (fa n [(6, v6), (5, v5), (4, v4), (3, v3), (2, v2), (1, v1), (0, v0)] [] false) H (kFin (env P idf con tab) P g.results.toList K)) : Ans P f [v0, v1, v2, v3, v4, v5, v6] H K := Ans.body hF hg hb hn rfl h
end
end
end Go.Ai
