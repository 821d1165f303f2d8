/-
  The last step of a row, where of the world behind the call 'Below' is known; no condition.
-/
import Derived.Test.YtkeomdnlibchcaaGreatAiY
import Derived.ChangeSame
namespace Go.Ai
open Go.RowKit Go.WideShapes Go.ChangeShapes
section
variable {H : Type} {enc : TypeId × Value → H} {P : Program}
theorem post_of_below {f : Func} {s : ChangeSpec} {apart fresh handsOn again : Bool} {W W' : World} {args : Array Value} {v : Value} {ds gs : List (DataW H)} {before pa pv : List MemPlace}
    (hW : DataW.Whole enc P f.params.toList s.vars apart W args.toList ds gs before)
    (hres : ∀ (b : Nat) (sp : Nat → Bool) (hd : Bool), DataW.TrodAll enc P W' b sp hd f.resultTypes.toList (v.resultList f.resultTypes.size) (s.fn H (ds ++ gs)).results [])
    (hargs : ∀ sp : Nat → Bool, (∀ p ∈ before, sp p.block = true) → DataW.TrodAll enc P W' 0 sp true f.params.toList args.toList (s.fn H (ds ++ gs)).args pa)
    (hvars : ∀ sp : Nat → Bool, (∀ p ∈ before, sp p.block = true) → DataW.TrodVars enc P W' sp s.vars (s.fn H (ds ++ gs)).vars pv)
    (hps : before = pa ++ pv) (hb : Below W.heap.size W W')
    (hok : ∀ (j : Nat) (t : TypeId) (r : Value), f.resultTypes[j]? = some t → (v.resultList f.resultTypes.size)[j]? = some r → Value.okWide P W' .any 0 t r) :
    s.post enc P f apart fresh handsOn again W args v W' := by
  have hlt : ∀ p ∈ before, p.block < W.heap.size := fun p hp => hW.lt p hp
  have hold : ∀ p ∈ before, (fun b => decide (b < W.heap.size)) p.block = true := fun p hp => by simpa using hlt p hp
  refine ⟨ds, gs, before, [], pa, pv, hW, hres _ _ _, hargs _ hold, hvars _ hold, World.keptBut_mono (fun p hp => ⟨hp, ?_⟩) (hb.frame (· ∈ before)), fun _ => ?_⟩
  · rw [hps, List.mem_append] at hp
    exact Or.inr hp
  · obtain ⟨_, _, _, _, _, hz, hn⟩ := hW
    refine ⟨hok, _, _, ([] ++ pa) ++ pv, ⟨[] ++ pa, pv, trodAll_append (hargs _ (fun _ _ => rfl)) (hres _ _ _), hvars _ (fun _ _ => rfl), rfl, ?_, ?_⟩, ?_⟩
    · intro b off hp
      have hin : MemPlace.cell b off ∈ before := by rw [hps]; simpa using hp
      rw [hb.frozen (hlt _ hin)]
      exact hz b off hin
    · intro ha
      have := hn ha
      rw [hps] at this
      simpa using this
    · intro p hp _
      rw [hps]
      simpa using hp
end

def none1 : FuncId → Bool := fun _ => false
/-- What the evaluator says of a call that is handed nothing that lies in memory, where it answers such a value. -/
def runs (P : Program) (idf con : FuncId → Bool) (tab : Tab) (n : Nat) (f : FuncId) (args : List Value) (v : Value) : Prop := acall (env P idf con tab) (aw (env P idf con tab) n) f args AHeap.empty fun u _ => u = v
structure Runs (P : Program) (idf con : FuncId → Bool) (tab : Tab) (n : Nat) (f : FuncId) (args : List Value) (v : Value) : Prop where
  h : runs P idf con tab n f args v
theorem runs_of {P : Program} {idf con : FuncId → Bool} {tab : Tab} {n : Nat} {f : FuncId} {args : List Value} {v : Value} (h : runs P idf con tab n f args v = (v = v)) : Runs P idf con tab n f args v := ⟨by rw [h]⟩
theorem Runs.fn {P : Program} {idf con : FuncId → Bool} {tab : Tab} (hF : Fits P idf con tab) {n : Nat} {f : FuncId} {args : List Value} {v : Value} (h : Runs P idf con tab n f args v) : Ans P f args AHeap.empty fun u _ => u = v := Ans.run hF h.h
theorem Runs.told {P : Program} {idf con : FuncId → Bool} {tab : Tab} (hF : Fits P idf con tab) {n : Nat} {f : FuncId} {args : List Value} {v : Value} (h : Runs P idf con tab n f args v) (hl : scalars args = true) (hv : scalar v = true) : Replies P f args v := (h.fn hF).told hl hv

/-- A law's end: true is answered. -/
def Yes (w : World) (e : Ending) (w' : World) : Prop := e = .returned (.bool true) ∧ Below w.heap.size w w'
theorem Ans.yes {P : Program} {f : FuncId} {args : List Value} (h : Ans P f args AHeap.empty fun v _ => v = .bool true) (ha : scalars args = true) (w : World) : Calls P f args.toArray w (Yes w) :=
  (h.calls ha w).mono fun _ _ ⟨_, he, hb, _, _, _, hK, hv⟩ => ⟨by rw [he, hv.eq_of_scalar (by rw [hK]; rfl), hK], hb⟩
end Go.Ai
