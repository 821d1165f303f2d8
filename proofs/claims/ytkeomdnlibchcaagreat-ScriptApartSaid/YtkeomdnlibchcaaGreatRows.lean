/-
  No cell of these rows narrows 'for every input' (looked for: loops, veiled, ifaces, maps, wideKeys, modest, calm, conditions, laid).
  DERIVED. THE GIVEN ROWS OF THIS SEAT. 8 by the template 'for every input the law returns true; each argument reads behind the call as it read before'; 0 by the template 'total and deterministic' (their statements: YtkeomdnlibchcaaGreatTotals.lean).
  GIVEN WITH THE SEED: the statements are not yours to turn. If you find one false, say at which input.
  Laid BY PROGRAM, IN A SANDBOX (cutbox-rows.mjs): the forced cells as the released guide's own fill.sh prints them over the translation 83b2f12a7984e35d… (all of the seat's roots in one cut). By AI agents, Wed Nov 11 2026. No macro, syntax, notation, axiom, sorry.
-/
import Derived.Test.YtkeomdnlibchcaaGreatChecked
import GoSem.Claim
import GoSem.ClaimJoined
import GoSem.ClaimMapViews
import Derived.JoinedTies
import Derived.KernelRfl
namespace Go.Proofs.YtkeomdnlibchcaaGreat
/- THE CELL 'sum', in the pinned program and in every row, IS THE sha256 OF THE DUMP (.gsa) THAT YtkeomdnlibchcaaGreatProg.lean LOADS. Nothing in Lean hashes anything: it is a label: what it is worth is what the hold of that sum in a sandbox is worth. -/
noncomputable def Tryz.pinned : Pinned := { name := "ytkeomdnlibchcaagreat", sum := "83b2f12a7984e35d7df49c894801be0044c322118fd6efd1434d5878221f9b20", checked := Tryz.checked }
namespace Rows
def none {H : Type} : Left H := { results := [], args := [] }

/-- 'platenlaw32.ScriptNumbers': WHATEVER THE INPUT: true; the input reads as it did. -/
def scriptNumbersSpec : ChangeSpec := { name := "scriptNumbers", fn := fun _ => fun
  | [d1, d2] => { results := [.lit (.bool true)], args := [d1, d2] }
  | _ => none }
def scriptNumbersRow : OpenClaim := { program := "ytkeomdnlibchcaagreat", sum := "83b2f12a7984e35d7df49c894801be0044c322118fd6efd1434d5878221f9b20", func := "platen/platenlaw32.ScriptNumbers", spec := "scriptNumbers", inPlace := ["internal/abi.NoEscape"], unfollowed := true, recurses := true, plainKeys := false, apart := false }
def ScriptNumbersSaid : Prop := scriptNumbersRow.holds Tryz.pinned (OpenSpec.ofChange scriptNumbersSpec)

/-- ITS FALSE NEIGHBOUR: 'it returns false'. Refute it at one input. -/
def scriptNumbersWrong : ChangeSpec := { name := "scriptNumbers", fn := fun _ => fun
  | [d1, d2] => { results := [.lit (.bool false)], args := [d1, d2] }
  | _ => none }
def ScriptNumbersWrongFalsely : Prop := scriptNumbersRow.holds Tryz.pinned (OpenSpec.ofChange scriptNumbersWrong)

/-- 'platenlaw32.ScriptApart': WHATEVER THE INPUT: true; the input reads as it did. -/
def scriptApartSpec : ChangeSpec := { name := "scriptApart", fn := fun _ => fun
  | [d1, d2] => { results := [.lit (.bool true)], args := [d1, d2] }
  | _ => none }
def scriptApartRow : OpenClaim := { program := "ytkeomdnlibchcaagreat", sum := "83b2f12a7984e35d7df49c894801be0044c322118fd6efd1434d5878221f9b20", func := "platen/platenlaw32.ScriptApart", spec := "scriptApart", inPlace := ["internal/abi.NoEscape"], unfollowed := true, recurses := true, plainKeys := false, apart := false }
def ScriptApartSaid : Prop := scriptApartRow.holds Tryz.pinned (OpenSpec.ofChange scriptApartSpec)

/-- ITS FALSE NEIGHBOUR: 'it returns false'. Refute it at one input. -/
def scriptApartWrong : ChangeSpec := { name := "scriptApart", fn := fun _ => fun
  | [d1, d2] => { results := [.lit (.bool false)], args := [d1, d2] }
  | _ => none }
def ScriptApartWrongFalsely : Prop := scriptApartRow.holds Tryz.pinned (OpenSpec.ofChange scriptApartWrong)

/-- 'platenlaw32.ScriptLays': WHATEVER THE INPUT: true; the input reads as it did. -/
def scriptLaysSpec : ChangeSpec := { name := "scriptLays", fn := fun _ => fun
  | [d1, d2, d3, d4] => { results := [.lit (.bool true)], args := [d1, d2, d3, d4] }
  | _ => none }
def scriptLaysRow : OpenClaim := { program := "ytkeomdnlibchcaagreat", sum := "83b2f12a7984e35d7df49c894801be0044c322118fd6efd1434d5878221f9b20", func := "platen/platenlaw32.ScriptLays", spec := "scriptLays", inPlace := ["internal/abi.NoEscape"], unfollowed := true, recurses := true, plainKeys := false, apart := false }
def ScriptLaysSaid : Prop := scriptLaysRow.holds Tryz.pinned (OpenSpec.ofChange scriptLaysSpec)

/-- ITS FALSE NEIGHBOUR: 'it returns false'. Refute it at one input. -/
def scriptLaysWrong : ChangeSpec := { name := "scriptLays", fn := fun _ => fun
  | [d1, d2, d3, d4] => { results := [.lit (.bool false)], args := [d1, d2, d3, d4] }
  | _ => none }
def ScriptLaysWrongFalsely : Prop := scriptLaysRow.holds Tryz.pinned (OpenSpec.ofChange scriptLaysWrong)

/-- 'platenlaw32.ScriptRolls': WHATEVER THE INPUT: true; the input reads as it did. -/
def scriptRollsSpec : ChangeSpec := { name := "scriptRolls", fn := fun _ => fun
  | [d1, d2, d3, d4, d5] => { results := [.lit (.bool true)], args := [d1, d2, d3, d4, d5] }
  | _ => none }
def scriptRollsRow : OpenClaim := { program := "ytkeomdnlibchcaagreat", sum := "83b2f12a7984e35d7df49c894801be0044c322118fd6efd1434d5878221f9b20", func := "platen/platenlaw32.ScriptRolls", spec := "scriptRolls", inPlace := ["internal/abi.NoEscape"], unfollowed := true, recurses := true, plainKeys := false, apart := false }
def ScriptRollsSaid : Prop := scriptRollsRow.holds Tryz.pinned (OpenSpec.ofChange scriptRollsSpec)

/-- ITS FALSE NEIGHBOUR: 'it returns false'. Refute it at one input. -/
def scriptRollsWrong : ChangeSpec := { name := "scriptRolls", fn := fun _ => fun
  | [d1, d2, d3, d4, d5] => { results := [.lit (.bool false)], args := [d1, d2, d3, d4, d5] }
  | _ => none }
def ScriptRollsWrongFalsely : Prop := scriptRollsRow.holds Tryz.pinned (OpenSpec.ofChange scriptRollsWrong)

/-- 'platenlaw32.ScriptBack': WHATEVER THE INPUT: true; the input reads as it did. -/
def scriptBackSpec : ChangeSpec := { name := "scriptBack", fn := fun _ => fun
  | [d1, d2] => { results := [.lit (.bool true)], args := [d1, d2] }
  | _ => none }
def scriptBackRow : OpenClaim := { program := "ytkeomdnlibchcaagreat", sum := "83b2f12a7984e35d7df49c894801be0044c322118fd6efd1434d5878221f9b20", func := "platen/platenlaw32.ScriptBack", spec := "scriptBack", inPlace := ["internal/abi.NoEscape"], unfollowed := true, recurses := true, plainKeys := false, apart := false }
def ScriptBackSaid : Prop := scriptBackRow.holds Tryz.pinned (OpenSpec.ofChange scriptBackSpec)

/-- ITS FALSE NEIGHBOUR: 'it returns false'. Refute it at one input. -/
def scriptBackWrong : ChangeSpec := { name := "scriptBack", fn := fun _ => fun
  | [d1, d2] => { results := [.lit (.bool false)], args := [d1, d2] }
  | _ => none }
def ScriptBackWrongFalsely : Prop := scriptBackRow.holds Tryz.pinned (OpenSpec.ofChange scriptBackWrong)

/-- 'platenlaw32.ScriptSmall': WHATEVER THE INPUT: true; the input reads as it did. -/
def scriptSmallSpec : ChangeSpec := { name := "scriptSmall", fn := fun _ => fun
  | [d1, d2] => { results := [.lit (.bool true)], args := [d1, d2] }
  | _ => none }
def scriptSmallRow : OpenClaim := { program := "ytkeomdnlibchcaagreat", sum := "83b2f12a7984e35d7df49c894801be0044c322118fd6efd1434d5878221f9b20", func := "platen/platenlaw32.ScriptSmall", spec := "scriptSmall", inPlace := ["internal/abi.NoEscape"], unfollowed := true, recurses := true, plainKeys := false, apart := false }
def ScriptSmallSaid : Prop := scriptSmallRow.holds Tryz.pinned (OpenSpec.ofChange scriptSmallSpec)

/-- ITS FALSE NEIGHBOUR: 'it returns false'. Refute it at one input. -/
def scriptSmallWrong : ChangeSpec := { name := "scriptSmall", fn := fun _ => fun
  | [d1, d2] => { results := [.lit (.bool false)], args := [d1, d2] }
  | _ => none }
def ScriptSmallWrongFalsely : Prop := scriptSmallRow.holds Tryz.pinned (OpenSpec.ofChange scriptSmallWrong)

/-- 'platenlaw32.ScriptLong': WHATEVER THE INPUT: true; the input reads as it did. -/
def scriptLongSpec : ChangeSpec := { name := "scriptLong", fn := fun _ => fun
  | [d] => { results := [.lit (.bool true)], args := [d] }
  | _ => none }
def scriptLongRow : OpenClaim := { program := "ytkeomdnlibchcaagreat", sum := "83b2f12a7984e35d7df49c894801be0044c322118fd6efd1434d5878221f9b20", func := "platen/platenlaw32.ScriptLong", spec := "scriptLong", inPlace := ["internal/abi.NoEscape"], unfollowed := true, recurses := true, plainKeys := false, apart := false }
def ScriptLongSaid : Prop := scriptLongRow.holds Tryz.pinned (OpenSpec.ofChange scriptLongSpec)

/-- ITS FALSE NEIGHBOUR: 'it returns false'. Refute it at one input. -/
def scriptLongWrong : ChangeSpec := { name := "scriptLong", fn := fun _ => fun
  | [d] => { results := [.lit (.bool false)], args := [d] }
  | _ => none }
def ScriptLongWrongFalsely : Prop := scriptLongRow.holds Tryz.pinned (OpenSpec.ofChange scriptLongWrong)

/-- 'platenlaw32.ScriptOf': WHATEVER THE INPUT: true; the input reads as it did. -/
def scriptOfSpec : ChangeSpec := { name := "scriptOf", fn := fun _ => fun
  | [d1, d2, d3] => { results := [.lit (.bool true)], args := [d1, d2, d3] }
  | _ => none }
def scriptOfRow : OpenClaim := { program := "ytkeomdnlibchcaagreat", sum := "83b2f12a7984e35d7df49c894801be0044c322118fd6efd1434d5878221f9b20", func := "platen/platenlaw32.ScriptOf", spec := "scriptOf", inPlace := ["internal/abi.NoEscape"], unfollowed := true, recurses := true, plainKeys := false, apart := false }
def ScriptOfSaid : Prop := scriptOfRow.holds Tryz.pinned (OpenSpec.ofChange scriptOfSpec)

/-- ITS FALSE NEIGHBOUR: 'it returns false'. Refute it at one input. -/
def scriptOfWrong : ChangeSpec := { name := "scriptOf", fn := fun _ => fun
  | [d1, d2, d3] => { results := [.lit (.bool false)], args := [d1, d2, d3] }
  | _ => none }
def ScriptOfWrongFalsely : Prop := scriptOfRow.holds Tryz.pinned (OpenSpec.ofChange scriptOfWrong)

/- THE SECOND FORM. 'bulk': how many values and letters a reading holds, each counted each time it is reached (what is shared counts as often as it is met; a slice's spare places count too). A statement '..UptoSaid' is the law's where the arguments, and the package variables that the reading takes, are together of bulk at most 1048576: NARROWER than '..Said'. Prove '..Said' where nothing that the law and all that it calls make is longer than what came in: it says more and counts as full. Else prove '..UptoSaid'. A law counts once. -/
mutual
def uptoBulk {H : Type} : DataW H → Nat
  | .lit (.string bytes) => bytes.length + 1
  | .lit _ => 1
  | .nil => 1
  | .ptr d => uptoBulk d + 1
  | .slice elems spare => uptoBulkAll elems + uptoBulkAll spare + 1
  | .agg parts => uptoBulkAll parts + 1
  | .iface _ d => uptoBulk d + 1
  | .map entries => uptoBulkEntries entries + 1
  | .held _ => 1
def uptoBulkAll {H : Type} : List (DataW H) → Nat
  | [] => 0
  | d :: r => uptoBulk d + uptoBulkAll r
def uptoBulkEntries {H : Type} : List (Lit × DataW H) → Nat
  | [] => 0
  | x :: r => uptoBulkEntry x + uptoBulkEntries r
def uptoBulkEntry {H : Type} : Lit × DataW H → Nat
  | (.string bytes, d) => bytes.length + uptoBulk d + 1
  | (_, d) => uptoBulk d + 1
 end
def uptoSmall : (H : Type) → List (DataW H) → Bool := fun _ ds => decide (uptoBulkAll ds ≤ 1048576)
def OpenSpec.upto (s : _root_.Go.ChangeSpec) : _root_.Go.OpenSpec := { _root_.Go.OpenSpec.ofChange s with cond := some uptoSmall }

/-- 'platenlaw32.ScriptNumbers', WHERE WHAT IT READS IS OF BULK AT MOST 1048576: true; the input reads as it did. -/
def scriptNumbersUptoRow : OpenClaim := { program := "ytkeomdnlibchcaagreat", sum := "83b2f12a7984e35d7df49c894801be0044c322118fd6efd1434d5878221f9b20", func := "platen/platenlaw32.ScriptNumbers", spec := "scriptNumbers", inPlace := ["internal/abi.NoEscape"], unfollowed := true, recurses := true, plainKeys := false, apart := false, narrowed := true }
def ScriptNumbersUptoSaid : Prop := scriptNumbersUptoRow.holds Tryz.pinned (OpenSpec.upto scriptNumbersSpec)

/-- 'platenlaw32.ScriptApart', WHERE WHAT IT READS IS OF BULK AT MOST 1048576: true; the input reads as it did. -/
def scriptApartUptoRow : OpenClaim := { program := "ytkeomdnlibchcaagreat", sum := "83b2f12a7984e35d7df49c894801be0044c322118fd6efd1434d5878221f9b20", func := "platen/platenlaw32.ScriptApart", spec := "scriptApart", inPlace := ["internal/abi.NoEscape"], unfollowed := true, recurses := true, plainKeys := false, apart := false, narrowed := true }
def ScriptApartUptoSaid : Prop := scriptApartUptoRow.holds Tryz.pinned (OpenSpec.upto scriptApartSpec)

/-- 'platenlaw32.ScriptLays', WHERE WHAT IT READS IS OF BULK AT MOST 1048576: true; the input reads as it did. -/
def scriptLaysUptoRow : OpenClaim := { program := "ytkeomdnlibchcaagreat", sum := "83b2f12a7984e35d7df49c894801be0044c322118fd6efd1434d5878221f9b20", func := "platen/platenlaw32.ScriptLays", spec := "scriptLays", inPlace := ["internal/abi.NoEscape"], unfollowed := true, recurses := true, plainKeys := false, apart := false, narrowed := true }
def ScriptLaysUptoSaid : Prop := scriptLaysUptoRow.holds Tryz.pinned (OpenSpec.upto scriptLaysSpec)

/-- 'platenlaw32.ScriptRolls', WHERE WHAT IT READS IS OF BULK AT MOST 1048576: true; the input reads as it did. -/
def scriptRollsUptoRow : OpenClaim := { program := "ytkeomdnlibchcaagreat", sum := "83b2f12a7984e35d7df49c894801be0044c322118fd6efd1434d5878221f9b20", func := "platen/platenlaw32.ScriptRolls", spec := "scriptRolls", inPlace := ["internal/abi.NoEscape"], unfollowed := true, recurses := true, plainKeys := false, apart := false, narrowed := true }
def ScriptRollsUptoSaid : Prop := scriptRollsUptoRow.holds Tryz.pinned (OpenSpec.upto scriptRollsSpec)

/-- 'platenlaw32.ScriptBack', WHERE WHAT IT READS IS OF BULK AT MOST 1048576: true; the input reads as it did. -/
def scriptBackUptoRow : OpenClaim := { program := "ytkeomdnlibchcaagreat", sum := "83b2f12a7984e35d7df49c894801be0044c322118fd6efd1434d5878221f9b20", func := "platen/platenlaw32.ScriptBack", spec := "scriptBack", inPlace := ["internal/abi.NoEscape"], unfollowed := true, recurses := true, plainKeys := false, apart := false, narrowed := true }
def ScriptBackUptoSaid : Prop := scriptBackUptoRow.holds Tryz.pinned (OpenSpec.upto scriptBackSpec)

/-- 'platenlaw32.ScriptSmall', WHERE WHAT IT READS IS OF BULK AT MOST 1048576: true; the input reads as it did. -/
def scriptSmallUptoRow : OpenClaim := { program := "ytkeomdnlibchcaagreat", sum := "83b2f12a7984e35d7df49c894801be0044c322118fd6efd1434d5878221f9b20", func := "platen/platenlaw32.ScriptSmall", spec := "scriptSmall", inPlace := ["internal/abi.NoEscape"], unfollowed := true, recurses := true, plainKeys := false, apart := false, narrowed := true }
def ScriptSmallUptoSaid : Prop := scriptSmallUptoRow.holds Tryz.pinned (OpenSpec.upto scriptSmallSpec)

/-- 'platenlaw32.ScriptLong', WHERE WHAT IT READS IS OF BULK AT MOST 1048576: true; the input reads as it did. -/
def scriptLongUptoRow : OpenClaim := { program := "ytkeomdnlibchcaagreat", sum := "83b2f12a7984e35d7df49c894801be0044c322118fd6efd1434d5878221f9b20", func := "platen/platenlaw32.ScriptLong", spec := "scriptLong", inPlace := ["internal/abi.NoEscape"], unfollowed := true, recurses := true, plainKeys := false, apart := false, narrowed := true }
def ScriptLongUptoSaid : Prop := scriptLongUptoRow.holds Tryz.pinned (OpenSpec.upto scriptLongSpec)

/-- 'platenlaw32.ScriptOf', WHERE WHAT IT READS IS OF BULK AT MOST 1048576: true; the input reads as it did. -/
def scriptOfUptoRow : OpenClaim := { program := "ytkeomdnlibchcaagreat", sum := "83b2f12a7984e35d7df49c894801be0044c322118fd6efd1434d5878221f9b20", func := "platen/platenlaw32.ScriptOf", spec := "scriptOf", inPlace := ["internal/abi.NoEscape"], unfollowed := true, recurses := true, plainKeys := false, apart := false, narrowed := true }
def ScriptOfUptoSaid : Prop := scriptOfUptoRow.holds Tryz.pinned (OpenSpec.upto scriptOfSpec)

end Rows
end Go.Proofs.YtkeomdnlibchcaaGreat
