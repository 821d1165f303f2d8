/-
  The relation between the abstract heap and the model's; and that what the evaluator reads is what the model reads; no condition.
-/
import Derived.Test.YtkeomdnlibchcaaGreatAiB
import Derived.Laws.IdiomCopy
namespace Go.Ai
open Go.RowKit (Below)

/-! ### objects -/
def frz (fz : Nat × Nat) (i : Nat) : Prop := fz.1 ≤ i ∧ i < fz.2

structure CellsRel (m : Emb) (i : EInfo) (c : T Value) (n : Nat) (z : List Value) (g : Nat) (fz : Nat × Nat) (c' : Array Value) (fz' : Nat × Nat) : Prop where
  room : i.sh + n ≤ c'.size
  cell : ∀ j, j < n → ∃ v', c'[i.sh + j]? = some v' ∧ VRel m (cellAt c z j) v'
  froz : ∀ j, j < n → frz fz' (i.sh + j) → frz fz j
  plain : g = 0 → i.extra = 0 ∧ (i.ro = false → i.sh = 0 ∧ c'.size = n)
  grows : 0 < g → i.ro = false ∧ i.k = n ∧ i.es = g ∧ i.sh + n + i.extra * i.es ≤ c'.size ∧ ∀ j, n ≤ j → j < n + i.extra * i.es → ¬ frz fz' (i.sh + j)
  inside : i.ro = false → fz.1 ≤ fz.2 → fz.2 ≤ n ∧ fz'.1 ≤ fz'.2 ∧ ∀ j, frz fz' j → i.sh ≤ j ∧ j < i.sh + n
  isro : i.ro = true → fz = (0, n + 1)

inductive EsRel (m : Emb) : List MapEntry → List MapEntry → Prop
  | nil : EsRel m [] []
  | cons {e f : MapEntry} {a b : List MapEntry} (hk : VRel m e.key f.key) (hv : VRel m e.val f.val) (hb : e.born = f.born) (k : EsRel m a b) : EsRel m (e :: a) (f :: b)

/-- A deferred call. -/
inductive DRel (m : Emb) : Deferred → Deferred → Prop
  | collected (r : Nat) (i : EInfo) (h : m r = some i) (hr : i.ro = false) : DRel m { target := .collected r, args := #[] } { target := .collected i.blk, args := #[] }
  | fn (f : FuncId) (a b c d : List Value) (h : LRel m a c) (k : LRel m b d) : DRel m { target := .fn (.func f) ⟨a⟩, args := ⟨b⟩ } { target := .fn (.func f) ⟨c⟩, args := ⟨d⟩ }
inductive DsRel (m : Emb) : List Deferred → List Deferred → Prop
  | nil : DsRel m [] []
  | cons {d e : Deferred} {a b : List Deferred} (h : DRel m d e) (k : DsRel m a b) : DsRel m (d :: a) (e :: b)

structure LoopRel (m : Emb) (l l' : Loop) : Prop where
  state : l'.state = l.state
  pending : l'.pending = l.pending
  tmps : LRel m l.tmps.toList l'.tmps.toList
  params : l'.params = l.params
  assign : l'.assign = l.assign
  body : l'.body = l.body

inductive ORel (m : Emb) (i : EInfo) : AObj → Obj → Prop
  | cells (c : T Value) (n : Nat) (z : List Value) (e : TypeId) (g : Nat) (fz : Nat × Nat) (c' : Array Value) (fz' : Nat × Nat)
      (h : CellsRel m i c n z g fz c' fz') : ORel m i (.cells c n z e g fz) (.cells c' e fz')
  | map (es : List MapEntry) (es' : Array MapEntry) (clock : Nat) (h : EsRel m es es'.toList) (hr : i.ro = false) : ORel m i (.map es clock) (.map es' clock)
  | mapIter (mm mm' : Option Nat) (since : Nat) (seen : Array Nat) (stepped : Nat) (h : ∀ id, mm = some id → ∃ j, m id = some j ∧ mm' = some j.blk) (h0 : mm = none → mm' = none) (hr : i.ro = false) (hs : i.sh = 0) :
      ORel m i (.mapIter mm since seen stepped) (.mapIter mm' since seen stepped)
  | loop (l l' : Loop) (h : LoopRel m l l') (hr : i.ro = false) : ORel m i (.loop l) (.loop l')
  | deferred (c c' : Option (List Deferred)) (h : ∀ l, c = some l → ∃ l', c' = some l' ∧ DsRel m l l') (hr : i.ro = false) : ORel m i (.deferred c) (.deferred c')
  | dead (o : Obj) : ORel m i .dead o

theorem EsRel.mono {m m' : Emb} (hm : m.le m') : ∀ {a b : List MapEntry}, EsRel m a b → EsRel m' a b
  | _, _, .nil => .nil
  | _, _, .cons hk hv hb k => .cons (hk.mono hm) (hv.mono hm) hb (EsRel.mono hm k)
theorem DRel.mono {m m' : Emb} (hm : m.le m') : ∀ {a b : Deferred}, DRel m a b → DRel m' a b
  | _, _, .collected r i h hr => .collected r i (hm _ _ h) hr
  | _, _, .fn f a b c d h k => .fn f a b c d (h.mono hm) (k.mono hm)
theorem DsRel.mono {m m' : Emb} (hm : m.le m') : ∀ {a b : List Deferred}, DsRel m a b → DsRel m' a b
  | _, _, .nil => .nil
  | _, _, .cons h k => .cons (h.mono hm) (DsRel.mono hm k)
theorem DsRel.append {m : Emb} : ∀ {a b c d : List Deferred}, DsRel m a b → DsRel m c d → DsRel m (a ++ c) (b ++ d)
  | _, _, _, _, .nil, k => k
  | _, _, _, _, .cons h t, k => .cons h (DsRel.append t k)
theorem CellsRel.mono {m m' : Emb} (hm : m.le m') {i : EInfo} {c : T Value} {n : Nat} {z : List Value} {g : Nat} {fz : Nat × Nat} {c' : Array Value} {fz' : Nat × Nat}
    (h : CellsRel m i c n z g fz c' fz') : CellsRel m' i c n z g fz c' fz' :=
  { h with cell := fun j hj => let ⟨v, a, b⟩ := h.cell j hj; ⟨v, a, b.mono hm⟩ }
theorem LoopRel.mono {m m' : Emb} (hm : m.le m') {a b : Loop} (h : LoopRel m a b) : LoopRel m' a b := { h with tmps := h.tmps.mono hm }
theorem ORel.mono {m m' : Emb} (hm : m.le m') {i : EInfo} {o : AObj} {o' : Obj} (h : ORel m i o o') : ORel m' i o o' := by
  cases h with
  | cells c n z e g fz c' fz' h => exact .cells c n z e g fz c' fz' (h.mono hm)
  | map es es' clock h hr => exact .map es es' clock (h.mono hm) hr
  | mapIter mm mm' since seen stepped h h0 hr hs => exact .mapIter mm mm' since seen stepped (fun id e => let ⟨j, a, b⟩ := h id e; ⟨j, hm _ _ a, b⟩) h0 hr hs
  | loop l l' h hr => exact .loop l l' (h.mono hm) hr
  | deferred c c' h hr => exact .deferred c c' (fun l e => let ⟨l', a, b⟩ := h l e; ⟨l', a, b.mono hm⟩) hr
  | dead => exact .dead _

def AHeap.live (H : AHeap) (id : Nat) : Prop := ∃ o, H.get id = some o ∧ o ≠ .dead

structure Rel (m : Emb) (n0 : Nat) (H : AHeap) (w : World) : Prop where
  size : n0 ≤ w.heap.size
  dom : ∀ id i, m id = some i → id < H.next ∧ i.blk < w.heap.size
  low : ∀ id i, m id = some i → (i.ro = false → n0 ≤ i.blk) ∧ (i.ro = true → i.blk < n0)
  obj : ∀ id i o, m id = some i → H.get id = some o → ∃ o', w.heap[i.blk]? = some o' ∧ ORel m i o o'
  inj : ∀ id id' i i', m id = some i → m id' = some i' → H.live id → H.live id' → i.ro = false → i'.ro = false → i.blk = i'.blk → id = id'

/-- Draws change nothing of it. -/
theorem Rel.heap {m : Emb} {n0 : Nat} {H : AHeap} {w w' : World} (h : Rel m n0 H w) (e : w'.heap = w.heap) : Rel m n0 H w' :=
  ⟨by rw [e]; exact h.size, fun id i hi => by rw [e]; exact h.dom id i hi, h.low, fun id i o a b => by rw [e]; exact h.obj id i o a b, h.inj⟩

/-! ### what a value that is known stands for -/
section inv
variable {m : Emb}
theorem VRel.ptr_inv {id off : Nat} {y : Value} (h : VRel m (.pointer (some ⟨id, off, none⟩)) y) : ∃ i, m id = some i ∧ y = .pointer (some ⟨i.blk, i.sh + off, none⟩) := by
  cases h with
  | sc _ h => simp [scalar] at h
  | ptr _ _ i h => exact ⟨i, h, rfl⟩
theorem VRel.int_inv {k : IntKind} {n : Int} {y : Value} (h : VRel m (.int k n) y) : y = .int k n := h.eq_of_scalar rfl
theorem VRel.bool_inv {b : Bool} {y : Value} (h : VRel m (.bool b) y) : y = .bool b := h.eq_of_scalar rfl
theorem VRel.str_inv {s : ByteArray} {y : Value} (h : VRel m (.string s) y) : y = .string s := h.eq_of_scalar rfl
theorem VRel.nilptr_inv {y : Value} (h : VRel m (.pointer none) y) : y = .pointer none := h.eq_of_scalar rfl
theorem VRel.nilsl_inv {n c : Nat} {y : Value} (h : VRel m (.slice none n c) y) : y = .slice none n c := h.eq_of_scalar rfl
theorem VRel.nilmap_inv {y : Value} (h : VRel m (.map none) y) : y = .map none := h.eq_of_scalar rfl
theorem VRel.sl_inv {id off len cap : Nat} {y : Value} (h : VRel m (.slice (some ⟨id, off, none⟩) len cap) y) :
    ∃ i, m id = some i ∧ ((len ≤ cap ∧ y = .slice (some ⟨i.blk, i.sh + off, none⟩) len (cap + i.more off cap)) ∨ (len = 0 ∧ cap = 0 ∧ ∃ p, y = .slice (some p) 0 0)) := by
  cases h with
  | sc _ h => simp [scalar] at h
  | sl _ _ _ _ i h hl => exact ⟨i, h, .inl ⟨hl, rfl⟩⟩
  | sl0 _ _ i h p => exact ⟨i, h, .inr ⟨rfl, rfl, p, rfl⟩⟩
theorem VRel.mp_inv {id : Nat} {y : Value} (h : VRel m (.map (some id)) y) : ∃ i, m id = some i ∧ y = .map (some i.blk) := by
  cases h with
  | sc _ h => simp [scalar] at h
  | mp _ i h => exact ⟨i, h, rfl⟩
theorem VRel.agg_inv {l : List Value} {y : Value} (h : VRel m (.agg ⟨l⟩) y) : ∃ l', y = .agg ⟨l'⟩ ∧ LRel m l l' := by
  cases h with
  | sc _ h => exact ⟨l, rfl, .scalars (by simpa [scalar] using h)⟩
  | agg _ b h => exact ⟨b, rfl, h⟩
theorem VRel.tup_inv {l : List Value} {y : Value} (h : VRel m (.tuple ⟨l⟩) y) : ∃ l', y = .tuple ⟨l'⟩ ∧ LRel m l l' := by
  cases h with
  | sc _ h => exact ⟨l, rfl, .scalars (by simpa [scalar] using h)⟩
  | tup _ b h => exact ⟨b, rfl, h⟩
theorem VRel.fn_inv {f : FuncId} {a b : List Value} {y : Value} (h : VRel m (.func (.func f) ⟨a⟩ ⟨b⟩) y) : ∃ c d, y = .func (.func f) ⟨c⟩ ⟨d⟩ ∧ LRel m a c ∧ LRel m b d := by
  cases h with
  | sc _ h =>
    simp only [scalar, Bool.and_eq_true] at h
    exact ⟨a, b, rfl, .scalars h.1, .scalars h.2⟩
  | fn _ _ _ c d h k => exact ⟨c, d, rfl, h, k⟩
theorem VRel.yl_inv {l : Nat} {a b : Array Value} {y : Value} (h : VRel m (.func (.yield l) a b) y) : ∃ i, m l = some i ∧ y = .func (.yield i.blk) #[] #[] ∧ a = #[] ∧ b = #[] := by
  cases h with
  | sc _ h => simp [scalar] at h
  | yl _ i h => exact ⟨i, h, rfl, rfl, rfl⟩
theorem VRel.ifc_inv {t : TypeId} {v : Value} {y : Value} (h : VRel m (.iface t v) y) : ∃ v', y = .iface t v' ∧ VRel m v v' := by
  cases h with
  | sc _ h => exact ⟨v, rfl, .sc _ (by simpa [scalar] using h)⟩
  | ifc _ _ w h => exact ⟨w, rfl, h⟩

/-- The cells of a value that is no poison. -/
theorem VRel.cells {v y : Value} (h : VRel m v y) (hs : sane v = true) : LRel m (vcells v) y.cells.toList := by
  cases v with
  | agg a => obtain ⟨a⟩ := a; obtain ⟨l', rfl, hl⟩ := h.agg_inv; exact hl
  | chan n => simp [sane] at hs
  | _ =>
    have hy : y.cells = #[y] := by cases h <;> rfl
    rw [hy]
    exact .cons h .nil
theorem cellOk_one {v y : Value} (h : VRel m v y) (hc : cellOk v = true) : y.oneCell' = true := by
  cases v <;> simp [cellOk] at hc <;> (cases h <;> rfl)
end inv

/-! ### what is known of the program is so -/
structure Env.Ok (E : Env) : Prop where
  u : ∀ t d, E.u t = some d → E.P.underlying t = some d
  sz : ∀ t n, E.sz t = some n → ∃ i, E.P.info? t = some i ∧ i.size = n
  bytes : ∀ t n, E.bytes t = some n → ∃ i, E.P.info? t = some i ∧ i.bytes = n
  z : ∀ t v, E.z t = some v → ∃ i, E.P.info? t = some i ∧ i.zero = some v
  fn : ∀ f af, E.fn f = some af → ∃ fn, E.P.funcs[f]? = some fn ∧ fn.body = some af.body ∧ fn.ntmps = af.n ∧ fn.results.toList = af.res ∧
    ∀ args w, (callFunc f args).run E.P w = .ok (.enter f args) w
  idf : ∀ f, E.idf f = true → ∀ x w, (callFunc f #[x]).run E.P w = .ok (.value x) w

theorem ssem_run {α : Type} (P : Program) : ∀ (s : Sem α) (a : α), ssem P s = some a → ∀ w, s.run P w = .ok a w
  | .pure a, b, h, w => by simp [ssem] at h; subst h; rfl
  | .program k, b, h, w => by simp only [ssem] at h; exact ssem_run P (k P) b h w
  | .load .., _, h, _ => by simp [ssem] at h
  | .store .., _, h, _ => by simp [ssem] at h
  | .new .., _, h, _ => by simp [ssem] at h
  | .shape .., _, h, _ => by simp [ssem] at h
  | .freeze .., _, h, _ => by simp [ssem] at h
  | .frozen .., _, h, _ => by simp [ssem] at h
  | .getObj .., _, h, _ => by simp [ssem] at h
  | .setObj .., _, h, _ => by simp [ssem] at h
  | .choose .., _, h, _ => by simp [ssem] at h
  | .sys .., _, h, _ => by simp [ssem] at h
  | .mark .., _, h, _ => by simp [ssem] at h
  | .halt .., _, h, _ => by simp [ssem] at h

theorem sc_some {o : Option Value} {v : Value} (h : sc o = some v) : o = some v ∧ scalar v = true := by
  unfold sc at h
  split at h
  · split at h
    · cases h; exact ⟨rfl, by assumption⟩
    · cases h
  · cases h

/-- What a frame's values stand for. -/
def EvRel (m : Emb) (a : AAct) (ρ : Operand → Value) : Prop := ∀ x, VRel m (ev a x) (ρ x)

section types
variable {E : Env} (hE : E.Ok)
include hE
theorem run_u {t : TypeId} {d : TypeDesc} (h : E.u t = some d) (w : World) : (underlying t).run E.P w = .ok d w := run_underlying (hE.u t d h) w
theorem run_sz {t : TypeId} {n : Nat} (h : E.sz t = some n) (w : World) : (sizeOf t).run E.P w = .ok n w := by
  obtain ⟨i, hi, rfl⟩ := hE.sz t n h
  simp [sizeOf, typeInfo, hi]
theorem run_z {t : TypeId} {v : Value} (h : E.z t = some v) (w : World) : (zeroValue t).run E.P w = .ok v w := by
  obtain ⟨i, hi, hz⟩ := hE.z t v h
  simp [zeroValue, typeInfo, hi, hz]
theorem run_agg {t : TypeId} {d : TypeDesc} (h : E.u t = some d) (w : World) : (isAgg t).run E.P w = .ok (aggB d) w := by
  simp only [isAgg, Sem.run_bind, run_u hE h, Result.andThen_ok]
  cases d <;> rfl
end types

theorem blt_lt {a b : Nat} (h : Nat.blt a b = true) : a < b := Nat.le_of_ble_eq_true h

theorem addr_add (b o n : Nat) : (⟨b, o, none⟩ : Addr).add n = ⟨b, o + n, none⟩ := by
  unfold Addr.add; split <;> simp_all

section reads
variable {E : Env} (hE : E.Ok) {m : Emb} {n0 : Nat} {H : AHeap} {w : World} (hR : Rel m n0 H w) {a : AAct} {ρ : Operand → Value} (ha : EvRel m a ρ)

include hR in
/-- The cells of an object, as the model holds them. -/
theorem cells_at {id : Nat} {i : EInfo} {c : T Value} {n : Nat} {z : List Value} {e : TypeId} {g : Nat} {fz : Nat × Nat} (hi : m id = some i) (ho : H.get id = some (.cells c n z e g fz)) :
    ∃ c' fz', w.heap[i.blk]? = some (.cells c' e fz') ∧ CellsRel m i c n z g fz c' fz' := by
  obtain ⟨o', h1, h2⟩ := hR.obj id i _ hi ho
  cases h2 with
  | cells _ _ _ _ _ _ c' fz' h => exact ⟨c', fz', h1, h⟩

theorem cell?_of {b o : Nat} {c' : Array Value} {e : TypeId} {fz' : Nat × Nat} (h : w.heap[b]? = some (.cells c' e fz')) : w.cell? ⟨b, o, none⟩ = c'[o]? := by
  simp [World.cell?, h]

include hR in
theorem cellv_at {id : Nat} {i : EInfo} {c : T Value} {n : Nat} {z : List Value} {e : TypeId} {g : Nat} {fz : Nat × Nat} (hi : m id = some i) (ho : H.get id = some (.cells c n z e g fz))
    {j : Nat} (hj : j < n) : ∃ v', w.cell? ⟨i.blk, i.sh + j, none⟩ = some v' ∧ VRel m (cellAt c z j) v' := by
  obtain ⟨c', fz', h1, h2⟩ := cells_at hR hi ho
  obtain ⟨v', h3, h4⟩ := h2.cell j hj
  exact ⟨v', by rw [cell?_of h1]; exact h3, h4⟩

include hR in
/-- A row of cells. -/
theorem cells_row {id : Nat} {i : EInfo} {c : T Value} {n : Nat} {z : List Value} {e : TypeId} {g : Nat} {fz : Nat × Nat} (hi : m id = some i) (ho : H.get id = some (.cells c n z e g fz))
    {off k : Nat} (hk : off + k ≤ n) : ∃ l', (loadCells ⟨i.blk, i.sh + off, none⟩ k).run E.P w = .ok l'.toArray w ∧ LRel m (listAt c z off k) l' := by
  obtain ⟨c', fz', h1, h2⟩ := cells_at hR hi ho
  let l' := (c'.toList.drop (i.sh + off)).take k
  have hlen : l'.length = k := by have := h2.room; simp [l']; omega
  have hget : ∀ j, j < k → l'[j]? = c'[i.sh + (off + j)]? := by
    intro j hj
    simp only [l', List.getElem?_take, if_pos hj, List.getElem?_drop, Array.getElem?_toList]
    congr 1; omega
  refine ⟨l', ?_, LRel.of (by rw [listAt_length, hlen]) fun j h3 h4 => ?_⟩
  · have := run_loadCells_list (P := E.P) w ⟨i.blk, i.sh + off, none⟩ l' (fun j v hj => by
      have hjk : j < k := by
        rcases Nat.lt_or_ge j k with h | h
        · exact h
        · rw [List.getElem?_eq_none (by omega)] at hj; cases hj
      rw [addr_add, cell?_of h1, ← hj, hget j hjk]; congr 1; omega)
    rw [hlen] at this
    exact this
  · rw [listAt_length] at h3
    obtain ⟨v', e1, e2⟩ := h2.cell (off + j) (by omega)
    have e3 := listAt_get c z k off j h3
    rw [List.getElem?_eq_getElem (by rw [listAt_length]; exact h3)] at e3
    rw [Option.some.inj e3]
    have e4 := hget j h3
    rw [e1, List.getElem?_eq_getElem h4] at e4
    have e5 : l'[j] = v' := by simpa using e4
    rw [e5]
    exact e2

include hE hR in
theorem aload_sound {t : TypeId} {x : RV} {y v : Value} (hx : VRel m (x.f a) y) (h : (aload E t x).f a H = some v) :
    ∃ v', VRel m v v' ∧ (Instr.loadAt t y).run E.P w = .ok v' w := by
  unfold aload at h
  cases hu : E.u t with
  | none => simp [hu] at h
  | some d =>
    cases hs : E.sz t with
    | none => simp [hu, hs] at h
    | some n =>
      simp only [hu, hs] at h
      cases hd : aggB d with
      | true =>
        simp only [hd, cond_true] at h
        split at h
        · rename_i id off hxv
          split at h
          · rename_i c k z e g fz ho
            cases hb : Nat.ble (off + n) k with
            | false => simp [hb] at h
            | true =>
              simp only [hb, cond_true, Option.some.injEq] at h
              subst h
              rw [hxv] at hx
              obtain ⟨i, hi, rfl⟩ := hx.ptr_inv
              obtain ⟨l', e1, e2⟩ := cells_row (E := E) hR hi ho (off := off) (k := n) (Nat.le_of_ble_eq_true hb)
              refine ⟨.agg ⟨l'⟩, .agg _ _ e2, ?_⟩
              simp only [Instr.loadAt, Instr.sureAddr, loadVar, pure_bind, Sem.run_bind, run_agg hE hu, Result.andThen_ok, hd, if_true, run_sz hE hs, e1]
              rfl
          · cases h
        · cases h
      | false =>
        simp only [hd, cond_false] at h
        split at h
        · rename_i id off hxv
          split at h
          · rename_i c k z e g fz ho
            cases hb : Nat.blt off k with
            | false => simp [hb] at h
            | true =>
              simp only [hb, cond_true, Option.some.injEq] at h
              subst h
              rw [hxv] at hx
              obtain ⟨i, hi, rfl⟩ := hx.ptr_inv
              obtain ⟨v', e1, e2⟩ := cellv_at hR hi ho (j := off) (blt_lt hb)
              refine ⟨v', e2, ?_⟩
              simp only [Instr.loadAt, Instr.sureAddr, loadVar, pure_bind, Sem.run_bind, run_agg hE hu, Result.andThen_ok, hd, run_load, e1]
              simp [e1]
          · cases h
        · cases h

include hE in
theorem apart_sound {t : TypeId} {l l' : List Value} {off : Nat} {v : Value} (hl : LRel m l l') (h : apart E t ⟨l⟩ off = some v) :
    ∃ v', VRel m v v' ∧ (part t ⟨l'⟩ off).run E.P w = .ok v' w := by
  unfold apart at h
  cases hu : E.u t with
  | none => simp [hu] at h
  | some d =>
    cases hs : E.sz t with
    | none => simp [hu, hs] at h
    | some n =>
      simp only [hu, hs] at h
      cases hd : aggB d with
      | true =>
        simp only [hd, cond_true, Option.some.injEq] at h
        subst h
        refine ⟨.agg ⟨(l'.drop off).take n⟩, by rw [ltake_eq, ldrop_eq]; exact .agg _ _ ((hl.drop _).take _), ?_⟩
        simp only [part, Sem.run_bind, run_agg hE hu, Result.andThen_ok, hd, if_true, run_sz hE hs, Sem.run_pure]
        congr 2
        apply Array.ext'
        simp [List.extract_eq_take_drop]
      | false =>
        simp only [hd, cond_false, rd1_eq] at h
        obtain ⟨v', e1, e2⟩ := hl.get h
        refine ⟨v', e2, ?_⟩
        simp only [part, Sem.run_bind, run_agg hE hu, Result.andThen_ok, hd]
        simp [e1]
end reads
end Go.Ai
