/-
  What the abstract evaluator's values and heap stand for: the relation to the model's values and heap, and its plain laws; no condition.
-/
import Derived.Test.YtkeomdnlibchcaaGreatAiA
import Derived.Below
namespace Go.Ai
open Go.RowKit (Below)

/-! ### the trie -/
def mkd (r : Nat) (p : Path) : Path :=
  match r with
  | 0 => .a p
  | 1 => .b p
  | 2 => .c p
  | _ => .d p
theorem mkd_ne (r : Nat) (p : Path) : mkd r p ≠ .e := by
  unfold mkd
  intro h
  split at h <;> cases h
theorem mkd_inj {r s : Nat} {p q : Path} (hr : r < 4) (hs : s < 4) (h : mkd r p = mkd s q) : r = s ∧ p = q := by
  have h1 : r = 0 ∨ r = 1 ∨ r = 2 ∨ r = 3 := by omega
  have h2 : s = 0 ∨ s = 1 ∨ s = 2 ∨ s = 3 := by omega
  rcases h1 with rfl | rfl | rfl | rfl <;> rcases h2 with rfl | rfl | rfl | rfl <;> simp [mkd] at h <;> simp [h]
theorem pathF_step (f k : Nat) : pathF (f + 1) (k + 1) = mkd (k % 4) (pathF f (k / 4)) := by
  show cond (Nat.beq (k % 4) 0) (Path.a (pathF f (k / 4))) (cond (Nat.beq (k % 4) 1) (Path.b (pathF f (k / 4))) (cond (Nat.beq (k % 4) 2) (Path.c (pathF f (k / 4))) (Path.d (pathF f (k / 4))))) = _
  have h : k % 4 = 0 ∨ k % 4 = 1 ∨ k % 4 = 2 ∨ k % 4 = 3 := by omega
  rcases h with h | h | h | h <;> rw [h] <;> rfl

theorem pathF_inj : ∀ (f i g j : Nat), i ≤ f → j ≤ g → pathF f i = pathF g j → i = j := by
  intro f
  induction f with
  | zero =>
    intro i g j hi hj h
    obtain rfl : i = 0 := by omega
    cases g with
    | zero => omega
    | succ g =>
      cases j with
      | zero => rfl
      | succ j =>
        rw [pathF_step] at h
        exact absurd (show Path.e = _ from h).symm (mkd_ne _ _)
  | succ f ih =>
    intro i g j hi hj h
    cases i with
    | zero =>
      cases g with
      | zero => omega
      | succ g =>
        cases j with
        | zero => rfl
        | succ j =>
          rw [pathF_step g] at h
          exact absurd (show Path.e = _ from h).symm (mkd_ne _ _)
    | succ i =>
      cases g with
      | zero =>
        obtain rfl : j = 0 := by omega
        rw [pathF_step] at h
        exact absurd (show _ = Path.e from h) (mkd_ne _ _)
      | succ g =>
        cases j with
        | zero =>
          rw [pathF_step f] at h
          exact absurd (show _ = Path.e from h) (mkd_ne _ _)
        | succ j =>
          rw [pathF_step, pathF_step] at h
          obtain ⟨h1, h2⟩ := mkd_inj (Nat.mod_lt _ (by omega)) (Nat.mod_lt _ (by omega)) h
          have := ih _ g _ (by omega) (by omega) h2
          omega

theorem path_inj {i j : Nat} (h : path i = path j) : i = j := pathF_inj _ _ _ _ (Nat.le_refl _) (Nat.le_refl _) h
theorem path_eq {i j : Nat} : path i = path j ↔ i = j := ⟨path_inj, fun h => by rw [h]⟩

namespace T
variable {α : Type}
@[simp] theorem get_leaf (p : Path) : (leaf : T α).get p = none := rfl
theorem get_set_same (x : α) (p : Path) : ∀ t : T α, (t.set x p).get p = some x := by
  induction p with
  | e => intro t; cases t <;> rfl
  | a p ih => intro t; cases t <;> exact ih _
  | b p ih => intro t; cases t <;> exact ih _
  | c p ih => intro t; cases t <;> exact ih _
  | d p ih => intro t; cases t <;> exact ih _
theorem get_set_other (x : α) (p : Path) : ∀ (q : Path) (t : T α), q ≠ p → (t.set x p).get q = t.get q := by
  induction p with
  | e => intro q t h; cases q <;> cases t <;> first | exact absurd rfl h | rfl
  | a p ih => intro q t h; cases q <;> cases t <;> first | rfl | exact ih _ _ (fun e => h (by rw [e]))
  | b p ih => intro q t h; cases q <;> cases t <;> first | rfl | exact ih _ _ (fun e => h (by rw [e]))
  | c p ih => intro q t h; cases q <;> cases t <;> first | rfl | exact ih _ _ (fun e => h (by rw [e]))
  | d p ih => intro q t h; cases q <;> cases t <;> first | rfl | exact ih _ _ (fun e => h (by rw [e]))
theorem get_set (x : α) (i j : Nat) (t : T α) : (t.set x (path i)).get (path j) = if j = i then some x else t.get (path j) := by
  by_cases h : j = i
  · subst h; rw [if_pos rfl, get_set_same]
  · rw [if_neg h, get_set_other]; exact fun e => h (path_inj e)
theorem get_ofList (l : List α) : ∀ (n i : Nat) (t : T α), (ofList l n t).get (path i) = if n ≤ i ∧ i < n + l.length then l[i - n]? else t.get (path i) := by
  induction l with
  | nil => intro n i t; rw [if_neg (by simp)]; rfl
  | cons x l ih =>
    intro n i t
    show (ofList l (n + 1) (t.set x (path n))).get (path i) = _
    rw [ih, get_set]
    by_cases h : n ≤ i ∧ i < n + (x :: l).length
    · rw [if_pos h]
      simp at h
      by_cases e : i = n
      · subst e; rw [if_neg (by omega), if_pos rfl]; simp
      · rw [if_pos (by omega)]
        have : i - n = (i - (n + 1)) + 1 := by omega
        rw [this]; rfl
    · rw [if_neg h]
      simp at h
      rw [if_neg (by omega), if_neg (by omega)]
end T

@[simp] theorem AHeap.get_set (H : AHeap) (i j : Nat) (o : AObj) : (H.set i o).get j = if j = i then some o else H.get j := T.get_set o i j H.t
@[simp] theorem AHeap.next_set (H : AHeap) (i : Nat) (o : AObj) : (H.set i o).next = H.next := rfl
@[simp] theorem AHeap.get_new (H : AHeap) (j : Nat) (o : AObj) : (H.new o).get j = if j = H.next then some o else H.get j := T.get_set o H.next j H.t
@[simp] theorem AHeap.next_new (H : AHeap) (o : AObj) : (H.new o).next = H.next + 1 := rfl
@[simp] theorem AHeap.get_empty (j : Nat) : AHeap.empty.get j = none := rfl
@[simp] theorem AHeap.next_empty : AHeap.empty.next = 0 := rfl

/-! ### lists -/
theorem llen_eq (l : List Value) : llen l = l.length := by
  induction l with
  | nil => rfl
  | cons x l ih => show (llen l).succ = _; rw [ih]; rfl
theorem ldrop_eq (l : List Value) : ∀ n, ldrop l n = l.drop n := by
  induction l with
  | nil => intro n; cases n <;> rfl
  | cons x l ih => intro n; cases n with
    | zero => rfl
    | succ n => exact ih n
theorem ltake_eq (l : List Value) : ∀ n, ltake l n = l.take n := by
  induction l with
  | nil => intro n; cases n <;> rfl
  | cons x l ih => intro n; cases n with
    | zero => rfl
    | succ n => show x :: ltake l n = _; rw [ih]; rfl
theorem lapp_eq (l m : List Value) : lapp l m = l ++ m := by
  induction l with
  | nil => rfl
  | cons x l ih => show x :: lapp l m = _; rw [ih]; rfl
theorem rd1_eq (l : List Value) : ∀ n, rd1 l n = l[n]? := by
  induction l with
  | nil => intro n; cases n <;> rfl
  | cons x l ih => intro n; cases n with
    | zero => rfl
    | succ n => exact ih n
theorem lall_eq (p : Value → Bool) (l : List Value) : lall p l = l.all p := by
  induction l with
  | nil => rfl
  | cons x l ih => show cond (p x) (lall p l) false = _; rw [ih, List.all_cons]; cases p x <;> rfl
theorem listAt_length (c : T Value) (z : List Value) (n : Nat) : ∀ off, (listAt c z off n).length = n := by
  induction n with
  | zero => intro off; rfl
  | succ n ih => intro off; show (cellAt c z off :: listAt c z (off + 1) n).length = _; simp [ih]
theorem listAt_get (c : T Value) (z : List Value) (n : Nat) : ∀ off i, i < n → (listAt c z off n)[i]? = some (cellAt c z (off + i)) := by
  induction n with
  | zero => intro off i h; omega
  | succ n ih =>
    intro off i h
    show (cellAt c z off :: listAt c z (off + 1) n)[i]? = _
    cases i with
    | zero => rfl
    | succ i => rw [List.getElem?_cons_succ, ih _ _ (by omega)]; congr 2; omega
theorem wrT_get (vs : List Value) : ∀ (off : Nat) (c : T Value) (i : Nat), (wrT c off vs).get (path i) = if off ≤ i ∧ i < off + vs.length then vs[i - off]? else c.get (path i) := by
  induction vs with
  | nil => intro off c i; rw [if_neg (by simp)]; rfl
  | cons v vs ih =>
    intro off c i
    show (wrT (c.set v (path off)) (off + 1) vs).get (path i) = _
    rw [ih, T.get_set]
    by_cases h : off ≤ i ∧ i < off + (v :: vs).length
    · rw [if_pos h]
      simp at h
      by_cases e : i = off
      · subst e; rw [if_neg (by omega), if_pos rfl]; simp
      · rw [if_pos (by omega)]
        have : i - off = (i - (off + 1)) + 1 := by omega
        rw [this]; rfl
    · rw [if_neg h]
      simp at h
      rw [if_neg (by omega), if_neg (by omega)]
theorem cellAt_wrT (c : T Value) (z : List Value) (off : Nat) (vs : List Value) (i : Nat) :
    cellAt (wrT c off vs) z i = if h : off ≤ i ∧ i < off + vs.length then vs[i - off]'(by omega) else cellAt c z i := by
  unfold cellAt
  rw [wrT_get]
  by_cases h : off ≤ i ∧ i < off + vs.length
  · rw [if_pos h, dif_pos h, List.getElem?_eq_getElem (by omega)]
  · rw [if_neg h, dif_neg h]
theorem cellAt_ofList (l : List Value) (z : List Value) (i : Nat) (h : i < l.length) : cellAt (T.ofList l 0 .leaf) z i = l[i] := by
  unfold cellAt
  rw [T.get_ofList, if_pos (by omega)]
  simp [h]
theorem cellAt_leaf (z : List Value) (i : Nat) : cellAt .leaf z i = (z[i % z.length]?).getD poison := by
  unfold cellAt
  rw [rd1_eq, llen_eq]
  simp
  cases z[i % z.length]? <;> rfl

/-! ### what stands for what -/
/-- Where an object of the abstract heap lies: its block, and where in it; of one that may grow how many cells are known, how many cells an element has, and how many elements there is room for behind. -/
structure EInfo where
  blk : Nat
  sh : Nat
  k : Nat
  es : Nat
  extra : Nat
  ro : Bool

abbrev Emb := Nat → Option EInfo

def Emb.put (m : Emb) (id : Nat) (i : EInfo) : Emb := fun j => if j = id then some i else m j
def Emb.le (m m' : Emb) : Prop := ∀ id i, m id = some i → m' id = some i

theorem Emb.le_refl (m : Emb) : m.le m := fun _ _ h => h
theorem Emb.le_trans {a b c : Emb} (h : a.le b) (k : b.le c) : a.le c := fun _ _ e => k _ _ (h _ _ e)
theorem Emb.le_put {m : Emb} {id : Nat} {i : EInfo} (h : m id = none) : m.le (m.put id i) := by
  intro j k hj
  unfold Emb.put
  by_cases e : j = id
  · subst e; rw [h] at hj; cases hj
  · rw [if_neg e]; exact hj

/-- How much more room a slice has than the abstract one tells. -/
def EInfo.more (i : EInfo) (off cap : Nat) : Nat := if i.k = off + cap * i.es then i.extra else 0

mutual
inductive VRel (m : Emb) : Value → Value → Prop
  | top (n : Option Nat) (v : Value) : VRel m (.chan n) v
  | sc (v : Value) (h : scalar v = true) : VRel m v v
  | ptr (id off : Nat) (i : EInfo) (h : m id = some i) : VRel m (.pointer (some ⟨id, off, none⟩)) (.pointer (some ⟨i.blk, i.sh + off, none⟩))
  | sl (id off len cap : Nat) (i : EInfo) (h : m id = some i) (hl : len ≤ cap) :
      VRel m (.slice (some ⟨id, off, none⟩) len cap) (.slice (some ⟨i.blk, i.sh + off, none⟩) len (cap + i.more off cap))
  | sl0 (id off : Nat) (i : EInfo) (h : m id = some i) (p : Addr) : VRel m (.slice (some ⟨id, off, none⟩) 0 0) (.slice (some p) 0 0)
  | mp (id : Nat) (i : EInfo) (h : m id = some i) : VRel m (.map (some id)) (.map (some i.blk))
  | fn (f : FuncId) (a b c d : List Value) (h : LRel m a c) (k : LRel m b d) : VRel m (.func (.func f) ⟨a⟩ ⟨b⟩) (.func (.func f) ⟨c⟩ ⟨d⟩)
  | yl (l : Nat) (i : EInfo) (h : m l = some i) : VRel m (.func (.yield l) #[] #[]) (.func (.yield i.blk) #[] #[])
  | ifc (t : TypeId) (v w : Value) (h : VRel m v w) : VRel m (.iface t v) (.iface t w)
  | agg (a b : List Value) (h : LRel m a b) : VRel m (.agg ⟨a⟩) (.agg ⟨b⟩)
  | tup (a b : List Value) (h : LRel m a b) : VRel m (.tuple ⟨a⟩) (.tuple ⟨b⟩)
inductive LRel (m : Emb) : List Value → List Value → Prop
  | nil : LRel m [] []
  | cons {v w : Value} {a b : List Value} (h : VRel m v w) (k : LRel m a b) : LRel m (v :: a) (w :: b)
end

mutual
theorem VRel.mono {m m' : Emb} (hm : m.le m') : ∀ {v w : Value}, VRel m v w → VRel m' v w
  | _, _, .top n v => .top n v
  | _, _, .sc v h => .sc v h
  | _, _, .ptr id off i h => .ptr id off i (hm _ _ h)
  | _, _, .sl id off len cap i h hl => .sl id off len cap i (hm _ _ h) hl
  | _, _, .sl0 id off i h p => .sl0 id off i (hm _ _ h) p
  | _, _, .mp id i h => .mp id i (hm _ _ h)
  | _, _, .fn f a b c d h k => .fn f a b c d (LRel.mono hm h) (LRel.mono hm k)
  | _, _, .yl l i h => .yl l i (hm _ _ h)
  | _, _, .ifc t v w h => .ifc t v w (VRel.mono hm h)
  | _, _, .agg a b h => .agg a b (LRel.mono hm h)
  | _, _, .tup a b h => .tup a b (LRel.mono hm h)
theorem LRel.mono {m m' : Emb} (hm : m.le m') : ∀ {a b : List Value}, LRel m a b → LRel m' a b
  | _, _, .nil => .nil
  | _, _, .cons h k => .cons (VRel.mono hm h) (LRel.mono hm k)
end

/-! #### lists of values -/
theorem LRel.length {m : Emb} : ∀ {a b : List Value}, LRel m a b → a.length = b.length
  | _, _, .nil => rfl
  | _, _, .cons _ k => by simp [LRel.length k]
theorem LRel.get {m : Emb} : ∀ {a b : List Value}, LRel m a b → ∀ {i : Nat} {v : Value}, a[i]? = some v → ∃ w, b[i]? = some w ∧ VRel m v w
  | _, _, .nil, i, v, h => by simp at h
  | _, _, .cons (v := x) (w := y) h k, i, v, e => by
    cases i with
    | zero => simp at e; subst e; exact ⟨y, rfl, h⟩
    | succ i => rw [List.getElem?_cons_succ] at e; obtain ⟨w, h1, h2⟩ := LRel.get k e; exact ⟨w, by rw [List.getElem?_cons_succ]; exact h1, h2⟩
theorem LRel.of {m : Emb} : ∀ {a b : List Value}, a.length = b.length → (∀ i (h : i < a.length) (h' : i < b.length), VRel m a[i] b[i]) → LRel m a b
  | [], [], _, _ => .nil
  | x :: a, y :: b, hl, h => .cons (h 0 (by simp) (by simp)) (LRel.of (by simpa using hl) fun i h1 h2 => h (i + 1) (by simpa using h1) (by simpa using h2))
  | [], _ :: _, hl, _ => by simp at hl
  | _ :: _, [], hl, _ => by simp at hl
theorem LRel.append {m : Emb} : ∀ {a b c d : List Value}, LRel m a b → LRel m c d → LRel m (a ++ c) (b ++ d)
  | _, _, _, _, .nil, k => k
  | _, _, _, _, .cons h t, k => .cons h (LRel.append t k)
theorem LRel.take {m : Emb} (n : Nat) {a b : List Value} (h : LRel m a b) : LRel m (a.take n) (b.take n) := by
  refine LRel.of (by simp [h.length]) fun i h1 h2 => ?_
  simp at h1 h2
  obtain ⟨w, e1, e2⟩ := h.get (i := i) (v := a[i]'(by omega)) (List.getElem?_eq_getElem _)
  rw [List.getElem?_eq_getElem (by omega)] at e1
  cases e1
  simpa using e2
theorem LRel.drop {m : Emb} (n : Nat) {a b : List Value} (h : LRel m a b) : LRel m (a.drop n) (b.drop n) := by
  refine LRel.of (by simp [h.length]) fun i h1 h2 => ?_
  simp at h1 h2
  obtain ⟨w, e1, e2⟩ := h.get (i := n + i) (v := a[n + i]'(by omega)) (List.getElem?_eq_getElem _)
  rw [List.getElem?_eq_getElem (by omega)] at e1
  cases e1
  simpa using e2
theorem LRel.map {m : Emb} {α : Type} (f g : α → Value) (l : List α) (h : ∀ x ∈ l, VRel m (f x) (g x)) : LRel m (l.map f) (l.map g) := by
  induction l with
  | nil => exact .nil
  | cons x l ih => exact .cons (h x (by simp)) (ih fun y hy => h y (by simp [hy]))

mutual
/-- What names no block stands for itself. -/
theorem VRel.eq_of_scalar {m : Emb} : ∀ {v w : Value}, VRel m v w → scalar v = true → w = v
  | _, _, .top n v, h => by cases n <;> simp [scalar] at h
  | _, _, .sc v _, _ => rfl
  | _, _, .ptr .., h => by simp [scalar] at h
  | _, _, .sl .., h => by simp [scalar] at h
  | _, _, .sl0 .., h => by simp [scalar] at h
  | _, _, .mp .., h => by simp [scalar] at h
  | _, _, .fn f a b c d h k, e => by
    simp only [scalar, Bool.and_eq_true] at e
    rw [LRel.eq_of_scalars h e.1, LRel.eq_of_scalars k e.2]
  | _, _, .yl .., h => by simp [scalar] at h
  | _, _, .ifc t v w h, e => by
    simp only [scalar] at e
    rw [VRel.eq_of_scalar h e]
  | _, _, .agg a b h, e => by
    simp only [scalar] at e
    rw [LRel.eq_of_scalars h e]
  | _, _, .tup a b h, e => by
    simp only [scalar] at e
    rw [LRel.eq_of_scalars h e]
theorem LRel.eq_of_scalars {m : Emb} : ∀ {a b : List Value}, LRel m a b → scalars a = true → b = a
  | _, _, .nil, _ => rfl
  | _, _, .cons h k, e => by
    simp only [scalars, Bool.and_eq_true] at e
    rw [VRel.eq_of_scalar h e.1, LRel.eq_of_scalars k e.2]
end

theorem scalars_iff (l : List Value) : scalars l = true ↔ ∀ v ∈ l, scalar v = true := by
  induction l with
  | nil => simp [scalars]
  | cons x l ih => simp [scalars, ih]
theorem LRel.scalars {m : Emb} {l : List Value} (h : scalars l = true) : LRel m l l := by
  refine LRel.of rfl fun i h1 _ => .sc _ ?_
  exact (scalars_iff l).1 h _ (List.getElem_mem _)

mutual
theorem eq_of_same : ∀ {v w : Value}, same v w = true → v = w
  | .bool a, w, h => by cases w <;> simp [same] at h; rw [h]
  | .int j a, w, h => by cases w <;> simp [same] at h; rw [h.1, h.2]
  | .string a, w, h => by
    cases w with
    | string b => obtain ⟨⟨a⟩⟩ := a; obtain ⟨⟨b⟩⟩ := b; simp [same] at h; rw [h]
    | _ => simp [same] at h
  | .pointer a, w, h => by cases w <;> simp [same] at h; rw [h]
  | .slice a l c, w, h => by cases w <;> simp [same] at h; rw [h.1.1, h.1.2, h.2]
  | .map a, w, h => by cases w <;> simp [same] at h; rw [h]
  | .nilFunc, w, h => by cases w <;> simp [same] at h; rfl
  | .nilIface, w, h => by cases w <;> simp [same] at h; rfl
  | .func (.func f) ⟨a⟩ ⟨b⟩, w, h => by
    cases w with
    | func g c d =>
      obtain ⟨c⟩ := c; obtain ⟨d⟩ := d
      cases g <;> simp [same] at h
      rw [h.1, eq_of_sames h.2.1, eq_of_sames h.2.2]
    | _ => simp [same] at h
  | .func (.yield f) ⟨a⟩ ⟨b⟩, w, h => by
    cases w with
    | func g c d =>
      obtain ⟨c⟩ := c; obtain ⟨d⟩ := d
      cases g <;> simp [same] at h
      rw [h.1, eq_of_sames h.2.1, eq_of_sames h.2.2]
    | _ => simp [same] at h
  | .func (.method _) _ _, w, h => by cases w <;> simp [same] at h
  | .func (.methodOf _ _) _ _, w, h => by cases w <;> simp [same] at h
  | .func (.via _ _ _ _) _ _, w, h => by cases w <;> simp [same] at h
  | .agg ⟨a⟩, w, h => by
    cases w with
    | agg b => obtain ⟨b⟩ := b; simp [same] at h; rw [eq_of_sames h]
    | _ => simp [same] at h
  | .tuple ⟨a⟩, w, h => by
    cases w with
    | tuple b => obtain ⟨b⟩ := b; simp [same] at h; rw [eq_of_sames h]
    | _ => simp [same] at h
  | .iface t v, w, h => by
    cases w with
    | iface u w => simp [same] at h; rw [h.1, eq_of_same h.2]
    | _ => simp [same] at h
  | .float _ _, w, h => by cases w <;> simp [same] at h
  | .complex _ _ _, w, h => by cases w <;> simp [same] at h
  | .chan _, w, h => by cases w <;> simp [same] at h
theorem eq_of_sames : ∀ {a b : List Value}, sames a b = true → a = b
  | [], [], _ => rfl
  | v :: a, w :: b, h => by simp only [sames, Bool.and_eq_true] at h; rw [eq_of_same h.1, eq_of_sames h.2]
  | [], _ :: _, h => by simp [sames] at h
  | _ :: _, [], h => by simp [sames] at h
end

end Go.Ai
