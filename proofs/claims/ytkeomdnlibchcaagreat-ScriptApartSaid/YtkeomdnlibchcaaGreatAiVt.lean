/-
  The rules of reads, with the proofs that are alike everywhere filled in; no condition.
-/
import Derived.Test.YtkeomdnlibchcaaGreatAiVb
namespace Go.Ai
section
variable {P : Program} {E : Env} {ops : Array Oper} {a : AAct} {H : AHeap} {o : Oper} {v : Value} {x : Operand} {n d t i : Nat} {L : List (Tmp × Value)} {ds : List Deferred} {r : Bool} {l : List Oper} {is S : List Nat} {Q : AAct → AHeap → Prop}
theorem lkT (h : lk t L = v := by repeat (first | exact lk_hit | (apply lk_skip; · rfl))) : lk t L = v := h
theorem evT (h : (rv x).f a = v := by first | exact rv_con rfl | exact rv_func _ | exact fa_tmpv (by repeat (first | exact lk_hit | (apply lk_skip; · rfl)))) : (rv x).f a = v := h
theorem puT (h : pread E a H o = some v := by first | exact pr_move rfl evT | exact pr_assign rfl evT | exact pr_nil rfl evT | exact pr_pickT rfl evT evT | exact pr_pickF rfl evT evT | exact pr_not rfl evT | exact pr_extract rfl evT (by rfl) | exact pr_add rfl evT evT | exact pr_sub rfl evT evT | exact pr_mul rfl evT evT | exact pr_eql rfl evT evT | exact pr_neq rfl evT evT | exact pr_lss rfl evT evT | exact pr_gtr rfl evT evT | exact pr_leq rfl evT evT | exact pr_geq rfl evT evT | exact pr_neP rfl evT evT (by rfl) (by rfl) | exact pr_eqP rfl evT evT (by rfl) (by rfl)) : pread E a H o = some v := h
theorem prT (h : pread E a H o = some v := by first | exact puT | exact pr_load rfl evT (by rfl) (by rfl) (by rfl) (by assumption) (by rfl) | rfl) : pread E a H o = some v := h
theorem smT (h : same v v = true := by first | exact same_int | exact same_str | exact same_bool | exact same_ptr | exact same_sl) : same v v = true := h
theorem Rg.readT (hw : wantA ops (fa n L ds r) o = some true := by rfl) (hc : cls E o = .read := by rfl) (hd : o.dst = some d := by rfl) (hn : Nat.blt d n = true := by rfl) (hv : pread E (fa n L ds r) H o = some v := by exact prT) (h : Rg P E ops l (fa n ((d, v) :: L) ds r) H Q) :
    Rg P E ops (o :: l) (fa n L ds r) H Q := Rg.read hw hc hd hn hv h
theorem Rg.offT (hw : wantA ops (fa n L ds r) o = some false := by rfl) (hd : o.dst = some d := by rfl) (hn : Nat.blt d n = true := by rfl) (h : Rg P E ops l (fa n ((d, undef) :: L) ds r) H Q) : Rg P E ops (o :: l) (fa n L ds r) H Q := Rg.off hw hd hn h
theorem Rd.offT (ho : ops[i]? = some o := by rfl) (hw : wantA ops (fa n L ds r) o = some false := by rfl) (hd : o.dst = some d := by rfl) (hn : Nat.blt d n = true := by rfl) (h : Rd P E ops is S (fa n ((d, undef) :: L) ds r) H Q) : Rd P E ops (i :: is) S (fa n L ds r) H Q := Rd.off ho hw hd hn h
theorem Rd.readT (ho : ops[i]? = some o := by rfl) (hw : wantA ops (fa n L ds r) o = some true := by rfl) (hc : cls E o = .read := by rfl) (hd : o.dst = some d := by rfl) (hn : Nat.blt d n = true := by rfl) (hv : pread E (fa n L ds r) H o = some v := by exact prT) (h : Rd P E ops is (i :: S) (fa n ((d, v) :: L) ds r) H Q) :
    Rd P E ops (i :: is) S (fa n L ds r) H Q := Rd.read ho hw hc hd hn hv h
theorem Rd.readPT (ho : ops[i]? = some o := by rfl) (hw : wantA ops (fa n L ds r) o = some true := by rfl) (hc : cls E o = .read := by rfl) (hd : o.dst = some d := by rfl) (hn : Nat.blt d n = true := by rfl) (hv : ∀ H', pread E (fa n L ds r) H' o = some v := by intro _; exact puT) (hs : same v v = true := by exact smT) (h : Rd P E ops is S (fa n ((d, v) :: L) ds r) H Q) :
    Rd P E ops (i :: is) S (fa n L ds r) H Q := Rd.readP ho hw hc hd hn hv hs h
end
end Go.Ai
