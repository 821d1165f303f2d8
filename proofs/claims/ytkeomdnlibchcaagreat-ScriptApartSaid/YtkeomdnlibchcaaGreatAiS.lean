/-
  A string's bytes, in a slice: what the evaluator does is what the model does; no condition.
-/
import Derived.Test.YtkeomdnlibchcaaGreatAiR
namespace Go.Ai
open Go.RowKit (Below)

section
variable {E : Env} (hE : E.Ok) {m : Emb} {n0 : Nat} {H : AHeap} {w : World}

theorem push_modify (h : Array Obj) (o : Obj) (f : Obj → Obj) : (h.push o).modify h.size f = h.push (f o) := by
  apply Array.ext_getElem?
  intro i
  rw [Array.getElem?_modify, Array.getElem?_push, Array.getElem?_push]
  by_cases e : i = h.size
  · subst e; simp
  · rw [if_neg e, if_neg (Ne.symm e), if_neg e]

/-- The cells of a string's bytes, and what lies behind them. -/
def byteRow (w : World) (e : TypeId) (s : ByteArray) : Array Value := (s.data.map fun (b : UInt8) => Value.int .u8 b.toNat) ++ Array.replicate (grownCap w s.size 0 e - s.size) (Value.int .u8 0)

theorem run_stringToBytes_any (P : Program) (w : World) (e : TypeId) (s : ByteArray) :
    ∃ w', (Conv.stringToBytes e s).run P w = .ok (.slice (some ⟨w.heap.size, 0, none⟩) s.size (grownCap w s.size 0 e)) w' ∧ MoreBlock (.cells (byteRow w e s) e ((byteRow w e s).size, (byteRow w e s).size + 1)) w w' := by
  have hch : (choose (.appendCap s.size 0 e)).run P w = .ok (grownCap w s.size 0 e) w.drew := by
    simp [choose, Sem.run, Question.forced, grownCap]
  have hsh : (w.drew.alloc (.cells (byteRow w e s) e)).shape? w.heap.size = some (e, (byteRow w e s).size) := by
    unfold World.shape?
    rw [show (w.drew.alloc (.cells (byteRow w e s) e)).heap[w.heap.size]? = some (.cells (byteRow w e s) e) from World.alloc_heap_new w.drew _]
  refine ⟨(w.drew.alloc (.cells (byteRow w e s) e)).freeze ⟨w.heap.size, (byteRow w e s).size, none⟩ 1, ?_, rfl, rfl, rfl, ?_⟩
  · have h1 : (Conv.stringToBytes e s) = (do
        let cap ← choose (.appendCap s.size 0 e)
        let a ← newRow e ((s.data.map fun (b : UInt8) => Value.int .u8 b.toNat) ++ Array.replicate (cap - s.size) (Value.int .u8 0))
        markStringish a
        pure (.slice (some a) s.size cap)) := rfl
    have h2 : (newRow e (byteRow w e s)).run P w.drew = .ok ⟨w.heap.size, 0, none⟩ (w.drew.alloc (.cells (byteRow w e s) e)) := by
      simp [newRow]
    have h3 : (markStringish ⟨w.heap.size, 0, none⟩).run P (w.drew.alloc (.cells (byteRow w e s) e)) = .ok () ((w.drew.alloc (.cells (byteRow w e s) e)).freeze ⟨w.heap.size, (byteRow w e s).size, none⟩ 1) := by
      simp only [markStringish, Sem.run_bind, run_shape, hsh, Result.andThen_ok, run_freeze]
    rw [h1]
    simp only [Sem.run_bind, hch, Result.andThen_ok]
    rw [show (newRow e ((s.data.map fun (b : UInt8) => Value.int .u8 b.toNat) ++ Array.replicate (grownCap w s.size 0 e - s.size) (Value.int .u8 0))).run P w.drew = _ from h2]
    simp only [Result.andThen_ok, h3, Sem.run_pure]
  · unfold World.freeze
    rw [if_neg (by decide)]
    refine (push_modify w.heap (.cells (byteRow w e s) e) (fun x => match x with
      | .cells c elem (lo, hi) => .cells c elem (if lo == hi then ((byteRow w e s).size, (byteRow w e s).size + 1) else (min lo (byteRow w e s).size, max hi ((byteRow w e s).size + 1)))
      | o => o)).trans ?_
    rfl

include hE in
theorem aconvBytes_sound {s d : TypeId} {x : RV} {a : AAct} {y : Value} {K : VK} (hR : Rel m n0 H w) (hx : VRel m (x.f a) y) (h : aconvBytes E s d x a H K) : Out E m n0 H w (do pure (.value (← convert s d y))) K := by
  unfold aconvBytes at h
  split at h
  · rename_i e str hs hd hxv
    rw [hxv] at hx
    have hy := hx.str_inv
    subst hy
    split at h
    · rename_i he
      obtain ⟨w', h1, h2⟩ := run_stringToBytes_any E.P w e str
      have hge := grownCap_ge w str.size 0 e
      have hcv : (convert s d (.string str)).run E.P w = .ok (.slice (some ⟨w.heap.size, 0, none⟩) str.size (grownCap w str.size 0 e)) w' := by
        unfold convert
        simp only [Sem.run_bind, run_u hE hs, run_u hE hd, run_u hE he, Result.andThen_ok, h1]
      have hdl : (str.data.toList.map fun b => Value.int .u8 b.toNat).length = str.size := by simp
      have hbs : (byteRow w e str) = (str.data.toList.map fun (b : UInt8) => Value.int .u8 b.toNat).toArray ++ Array.replicate (grownCap w str.size 0 e - str.size) (Value.int .u8 0) := by
        unfold byteRow
        congr 1
        apply Array.ext'
        simp
      have hsize : (byteRow w e str).size = grownCap w str.size 0 e := by
        rw [hbs]; simp
        have : str.data.size = str.size := rfl
        omega
      refine out_newI (j := { blk := w.heap.size, sh := 0, k := str.size, es := 1, extra := grownCap w str.size 0 e - str.size, ro := false }) hR (v' := .slice (some ⟨w.heap.size, 0, none⟩) str.size (grownCap w str.size 0 e))
        (by simp only [Sem.run_bind, hcv, Result.andThen_ok, Sem.run_pure]) h2 rfl rfl hR rfl (fun _ _ _ => rfl) ?_ h
      intro m' hle hm'
      refine ⟨?_, .cells _ _ _ _ _ _ _ _ ?_⟩
      · have := VRel.sl (m := m') H.next 0 str.size str.size _ hm' (Nat.le_refl _)
        simp only [EInfo.more, Nat.zero_add, Nat.mul_one, if_true] at this
        rw [show str.size + (grownCap w str.size 0 e - str.size) = grownCap w str.size 0 e by omega] at this
        exact this
      · rw [llen_eq, hdl, hsize]
        refine ⟨by show 0 + str.size ≤ _; omega, fun q hq => ?_, fun q hq hf => ?_, fun h => (by cases h), fun _ => ⟨rfl, rfl, rfl, ?_, fun q a1 a2 hf => ?_⟩, fun _ hf => absurd hf (by simp), fun h => (by cases h)⟩
        · rw [cellAt_ofList _ _ _ (by rw [hdl]; exact hq)]
          refine ⟨_, ?_, .sc _ ?_⟩
          · show (byteRow w e str)[0 + q]? = _
            rw [hbs, Nat.zero_add, Array.getElem?_append_left (by simpa using hq), List.getElem?_toArray, List.getElem?_eq_getElem]
          · simp [scalar]
        · unfold frz at hf
          have hf1 : grownCap w str.size 0 e ≤ 0 + q := hf.1
          omega
        · show 0 + str.size + (grownCap w str.size 0 e - str.size) * 1 ≤ _
          omega
        · unfold frz at hf
          have hf1 : grownCap w str.size 0 e ≤ 0 + q := hf.1
          have a2' : q < str.size + (grownCap w str.size 0 e - str.size) * 1 := a2
          omega
    · exact h.elim
  · exact h.elim
end
end Go.Ai
