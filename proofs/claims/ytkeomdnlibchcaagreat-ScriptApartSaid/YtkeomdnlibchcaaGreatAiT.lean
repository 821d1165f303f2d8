/-
  What an operation does hangs on its operands alone; no condition.
-/
import Derived.Test.YtkeomdnlibchcaaGreatAiR
import Derived.Orders
namespace Go.Ai
open Go.RowKit (Below)

section congr
variable {E : Env} {a a' : AAct}

theorem aload_congr {t : TypeId} {x : RV} (H : AHeap) (h : x.f a = x.f a') : (aload E t x).f a H = (aload E t x).f a' H := by
  unfold aload
  cases E.u t with
  | none => rfl
  | some d => cases E.sz t with
    | none => rfl
    | some n => cases hd : aggB d <;> simp only [hd, cond_true, cond_false, h]

theorem int2_congr {x y : RV} {f : IntKind → Int → Int → Option Value} {no : AAct → AHeap → Value → Value → Option Value} (H : AHeap) (hx : x.f a = x.f a') (hy : y.f a = y.f a') (hno : ∀ v w, no a H v w = no a' H v w) :
    (int2 x y f no).f a H = (int2 x y f no).f a' H := by
  unfold int2
  simp only [hx, hy, hno]

theorem abin_congr {op : BinOp} {t : TypeId} {x y : Operand} (H : AHeap) (hx : (rv x).f a = (rv x).f a') (hy : (rv y).f a = (rv y).f a') : (abin E op t x y).f a H = (abin E op t x y).f a' H := by
  unfold abin
  cases op <;> first | exact int2_congr H hx hy (fun _ _ => rfl) | simp only [hx, hy]

theorem afieldAddr_congr {s : TypeId} {x : RV} {f : Nat} (H : AHeap) (hx : x.f a = x.f a') : (afieldAddr E s x f).f a H = (afieldAddr E s x f).f a' H := by
  unfold afieldAddr
  cases E.u s with
  | none => rfl
  | some d =>
    cases d <;> first | rfl | skip
    rename_i fs
    simp only
    cases fs[f]? with
    | none => rfl
    | some fd =>
      simp only
      cases E.sz fd.type with
      | none => rfl
      | some n => cases n with
        | zero => rfl
        | succ n => simp only [hx]

theorem afield_congr {s : TypeId} {x : RV} {f : Nat} (H : AHeap) (hx : x.f a = x.f a') : (afield E s x f).f a H = (afield E s x f).f a' H := by
  unfold afield
  cases E.u s with
  | none => rfl
  | some d =>
    cases d <;> first | rfl | skip
    rename_i fs
    simp only
    cases fs[f]? with
    | none => rfl
    | some fd => simp only [hx]

theorem aindexAddr_congr {t : TypeId} {x i : RV} (H : AHeap) (hx : x.f a = x.f a') (hi : i.f a = i.f a') : (aindexAddr E t x i).f a H = (aindexAddr E t x i).f a' H := by
  unfold aindexAddr
  cases E.u t with
  | none => rfl
  | some d =>
    cases d <;> first | rfl | skip
    all_goals
      simp only
      rename_i e
      cases E.sz e with
      | none => rfl
      | some n => simp only [hx, hi]

theorem aindex_congr {t : TypeId} {x i : RV} (H : AHeap) (hx : x.f a = x.f a') (hi : i.f a = i.f a') : (aindex E t x i).f a H = (aindex E t x i).f a' H := by
  unfold aindex
  cases E.u t with
  | none => rfl
  | some d =>
    cases d <;> first | rfl | (simp only [hx, hi]; done) | skip
    all_goals
      simp only
      rename_i e
      cases E.sz e with
      | none => rfl
      | some n => simp only [hx, hi]

theorem aconvert_congr {s d : TypeId} {x : RV} (H : AHeap) (hx : x.f a = x.f a') : (aconvert E s d x).f a H = (aconvert E s d x).f a' H := by
  unfold aconvert
  split
  · split
    · split
      · simp only [hx]
      · rfl
    · rfl
  · simp only [hx]

theorem alenOf_congr {t : TypeId} {x : RV} (H : AHeap) (hx : x.f a = x.f a') : (alenOf E t x).f a H = (alenOf E t x).f a' H := by
  unfold alenOf
  cases E.u t with
  | none => rfl
  | some d => cases d <;> first | rfl | simp only [hx]

theorem aentry_congr {x : RV} (H : AHeap) (hx : x.f a = x.f a') : (aentry x).f a H = (aentry x).f a' H := by
  unfold aentry
  simp only [hx]

def Agree (a a' : AAct) (l : List Operand) : Prop := ∀ x ∈ l, (rv x).f a = (rv x).f a'
theorem Agree.map {l m : List Operand} (h : Agree a a' l) (hm : ∀ x ∈ m, x ∈ l) : m.map (ev a) = m.map (ev a') := List.map_congr_left fun x hx => h x (hm x hx)
theorem Agree.amap {l : List Operand} {m : Array Operand} (h : Agree a a' l) (hm : ∀ x ∈ m.toList, x ∈ l) : m.map (ev a) = m.map (ev a') := by
  apply Array.ext'
  rw [Array.toList_map, Array.toList_map]
  exact h.map hm
theorem Agree.omap {l : List Operand} {m : Option Operand} (h : Agree a a' l) (hm : ∀ x, m = some x → x ∈ l) : m.map (ev a) = m.map (ev a') := by
  cases m with
  | none => rfl
  | some x => exact congrArg some (h x (hm x rfl))
theorem Agree.parts {l : List Operand} {m : Array (Nat × Operand)} (h : Agree a a' l) (hm : ∀ p ∈ m.toList, p.2 ∈ l) : (m.toList.map fun p => (p.1, ev a p.2)) = m.toList.map fun p => (p.1, ev a' p.2) :=
  List.map_congr_left fun p hp => by have := h p.2 (hm p hp); simp only [ev, this]

theorem Call.arg_mem (c : Call) : ∀ x ∈ c.args.toList, x ∈ c.operands.toList := by
  intro x hx
  unfold Call.operands
  cases c.callee <;> simp_all
theorem Call.fn_mem (c : Call) {f : Operand} (h : c.callee = .value f) : f ∈ c.operands.toList := by
  unfold Call.operands
  rw [h]; simp

theorem acallRead_congr {b : Builtin} {args : Array Operand} {ts : Array TypeId} (H : AHeap) {l : List Operand} (h : Agree a a' l) (hm : ∀ x ∈ args.toList, x ∈ l) : (acallRead E b args ts).f a H = (acallRead E b args ts).f a' H := by
  unfold acallRead
  cases b <;> first | rfl | skip
  · simp only
    cases hx : args[0]? with
    | none => rfl
    | some x =>
      cases ts[0]? with
      | none => rfl
      | some t => exact alenOf_congr H (h x (hm x (by rw [Array.mem_toList_iff]; exact Array.mem_of_getElem? hx)))
  · simp only [h.map hm]
  · simp only [h.map hm]
  · simp only
    split
    · rename_i x hx
      have : ev a x = ev a' x := h x (hm x (by rw [hx]; simp))
      simp only [this]
    · rfl

/-- ████ What is read hangs on the operands alone. -/
theorem rread_congr (op : Op) (H : AHeap) (h : Agree a a' op.operands.toList) : (rread E op).f a H = (rread E op).f a' H := by
  cases op <;> first | rfl | skip
  case move x => exact congrArg some (h x (by simp [Op.operands]))
  case assign x => exact congrArg some (h x (by simp [Op.operands]))
  case pick c x y =>
    have h1 := h c (by simp [Op.operands])
    have h2 := h x (by simp [Op.operands])
    have h3 := h y (by simp [Op.operands])
    simp only [rread, h1, h2, h3]
  case load t x => exact aload_congr H (h x (by simp [Op.operands]))
  case nilCheck x =>
    have h1 := h x (by simp [Op.operands])
    simp only [rread, h1]
  case binOp op t x y u => exact abin_congr H (h x (by simp [Op.operands])) (h y (by simp [Op.operands]))
  case unOp op t x =>
    have h1 := h x (by simp [Op.operands])
    simp only [rread, h1]
  case convert s d x => exact aconvert_congr H (h x (by simp [Op.operands]))
  case makeInterface t x =>
    have h1 := h x (by simp [Op.operands])
    simp only [rread]
    cases E.u t with
    | none => rfl
    | some d => cases d <;> first | rfl | simp only [h1]
  case makeFunc f x y =>
    simp only [rread]
    cases f <;> first | rfl | skip
    simp only [h.amap (m := x) (by simp [Op.operands]; intro x hx; exact .inl hx), h.amap (m := y) (by simp [Op.operands]; intro x hx; exact .inr hx)]
  case fieldAddr s x f => exact afieldAddr_congr H (h x (by simp [Op.operands]))
  case field s x f => exact afield_congr H (h x (by simp [Op.operands]))
  case indexAddr t x i => exact aindexAddr_congr H (h x (by simp [Op.operands])) (h i (by simp [Op.operands]))
  case index t x i => exact aindex_congr H (h x (by simp [Op.operands])) (h i (by simp [Op.operands]))
  case lookup t x k ok =>
    have h1 := h x (by simp [Op.operands])
    have h2 := h k (by simp [Op.operands])
    simp only [rread, h1, h2]
  case extract x i =>
    have h1 := h x (by simp [Op.operands])
    simp only [rread, h1]
  case build t ps =>
    have h1 := h.parts (m := ps) (by intro p hp; simp only [Op.operands]; exact List.mem_map_of_mem hp)
    simp only [rread, h1]
  case slice t x lo hi mx =>
    have h1 := h x (by simp [Op.operands])
    have h2 := h.omap (m := lo) (by intro x hx; subst hx; simp [Op.operands])
    have h3 := h.omap (m := hi) (by intro x hx; subst hx; simp [Op.operands])
    cases mx with
    | some y => rfl
    | none =>
      simp only [rread]
      cases hu : E.u t with
      | none => simp only [h1, h2, h3]
      | some d => cases d <;> simp only [h1, h2, h3]
  case entry x => exact aentry_congr H (h x (by simp [Op.operands]))
  case call c =>
    simp only [rread]
    cases hc : c.callee with
    | builtin b => exact acallRead_congr H h (Call.arg_mem c)
    | _ => rfl

theorem rmake_congr (op : Op) (H : AHeap) (h : Agree a a' op.operands.toList) : (rmake E op).f a H = (rmake E op).f a' H := by
  cases op <;> first | rfl | skip
  case alloc t =>
    simp only [rmake]
    cases E.z t with
    | none => rfl
    | some z => cases hs : scalar z <;> simp only [hs, cond_true, cond_false, rmNone]
  case box t x =>
    have h1 := h x (by simp [Op.operands])
    simp only [rmake, h1]
  case buildSlice t len ps =>
    have h1 := h.parts (m := ps) (by intro p hp; simp only [Op.operands]; exact List.mem_map_of_mem hp)
    simp only [rmake]
    cases E.u t with
    | none => rfl
    | some d =>
      cases d <;> first | rfl | skip
      simp only
      split
      · rename_i n z _ _
        cases (Nat.blt 0 n && Nat.ble (len * n) 1048576 && Nat.beq (llen (vcells z)) n && scalar z) <;> simp only [cond_true, cond_false, h1, rmNone]
      · rfl
  case makeSlice t l c =>
    have h1 := h l (by simp [Op.operands])
    have h2 := h c (by simp [Op.operands])
    simp only [rmake]
    cases E.u t with
    | none => rfl
    | some d =>
      cases d <;> first | rfl | skip
      simp only
      split
      · rename_i n z b _ _ _
        cases (Nat.blt 0 n && Nat.beq (llen (vcells z)) n && scalar z) <;> simp only [cond_true, cond_false, h1, h2, rmNone]
      · rfl
  case makeMap t r =>
    simp only [rmake]
    cases E.u t with
    | none => rfl
    | some d =>
      cases d <;> first | rfl | skip
      simp only
      cases r with
      | none => rfl
      | some x =>
        have h1 := h x (by simp [Op.operands])
        simp only [h1]

theorem reff_congr {rec : Rec} (op : Op) (H : AHeap) (K : VK) (hr : a.rnd = a'.rnd) (h : Agree a a' op.operands.toList) : (reff E op).f rec a H K = (reff E op).f rec a' H K := by
  cases op <;> first | rfl | skip
  case store t x v =>
    have h1 := h x (by simp [Op.operands])
    have h2 := h v (by simp [Op.operands])
    simp only [reff, h1, h2]
  case mapUpdate t x y z =>
    have h1 := h x (by simp [Op.operands])
    have h2 := h y (by simp [Op.operands])
    have h3 := h z (by simp [Op.operands])
    simp only [reff, h1, h2, h3]
  case insert t x y z =>
    have h1 := h x (by simp [Op.operands])
    have h2 := h y (by simp [Op.operands])
    have h3 := h z (by simp [Op.operands])
    simp only [reff, h1, h2, h3]
  case mapEntry t x y =>
    have h1 := h x (by simp [Op.operands])
    have h2 := h y (by simp [Op.operands])
    simp only [reff, h1, h2]
  case entryStore t x y z =>
    have h1 := h x (by simp [Op.operands])
    have h2 := h y (by simp [Op.operands])
    have h3 := h z (by simp [Op.operands])
    simp only [reff, h1, h2, h3]
  case convert s d x =>
    have h1 := h x (by simp [Op.operands])
    simp only [reff, aconvBytes, h1]
  case range t x =>
    have h1 := h x (by simp [Op.operands])
    simp only [reff, arange, h1]
  case next x s =>
    have h1 := h x (by simp [Op.operands])
    simp only [reff]
    cases s with
    | true => rfl
    | false => simp only [anext, h1]
  case call c =>
    simp only [reff]
    cases hc : c.callee with
    | builtin b =>
      simp only
      have ha : ∀ i x, c.args[i]? = some x → (rv x).f a = (rv x).f a' := fun i x hx => h x (Call.arg_mem c x (by rw [Array.mem_toList_iff]; exact Array.mem_of_getElem? hx))
      unfold acallB
      cases b <;> first | rfl | skip
      all_goals simp only
      case recover => rw [hr]
      case unsafeString =>
        split
        · rename_i p n h1 h2
          have h3 := h p (Call.arg_mem c p (by rw [h2]; simp))
          have h4 := h n (Call.arg_mem c n (by rw [h2]; simp))
          simp only [h3, h4]
        · rfl
      all_goals
        split
        · rename_i h1 h2 h3
          simp only [ha _ _ h2, ha _ _ h3]
        · rfl
    | value f =>
      have hl := h.map (Call.arg_mem c)
      have hf := h f (Call.fn_mem c hc)
      cases f with
      | func g =>
        simp only
        cases E.idf g with
        | true =>
          simp only [cond_true]
          split
          · rename_i x hx
            have h3 := h x (Call.arg_mem c x (by rw [hx]; simp))
            simp only [h3]
          · rfl
        | false => simp only [cond_false, hl]
      | tmp t => simp only [hl, hf]
      | const v => simp only [hl, hf]
      | global g => simp only [hl, hf]
    | _ => rfl
end congr
end Go.Ai
