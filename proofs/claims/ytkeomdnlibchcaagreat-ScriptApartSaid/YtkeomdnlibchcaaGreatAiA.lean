/-
  An abstract evaluator over the model's own code: an abstract heap, no addresses, no capacities, no orders drawn. This text: the definitions; no condition.
-/
import GoSem.Step
import GoSem.Claims
noncomputable section
namespace Go.Ai

/-! ### a trie -/
inductive Path : Type where
  | e
  | a (p : Path)
  | b (p : Path)
  | c (p : Path)
  | d (p : Path)

def pathF : Nat → Nat → Path :=
  Nat.rec (fun _ => .e) (fun _ ih k => Nat.rec .e (fun k _ => cond (Nat.beq (k % 4) 0) (.a (ih (k / 4))) (cond (Nat.beq (k % 4) 1) (.b (ih (k / 4))) (cond (Nat.beq (k % 4) 2) (.c (ih (k / 4))) (.d (ih (k / 4)))))) k)
def path (k : Nat) : Path := pathF k k

inductive T (α : Type) : Type where
  | leaf
  | node (v : Option α) (s t u w : T α)

namespace T
variable {α : Type}
def get (t : T α) : Path → Option α :=
  T.rec (motive := fun _ => Path → Option α) (fun _ => none)
    (fun v _ _ _ _ ga gb gc gd p => Path.rec (motive := fun _ => Option α) v (fun q _ => ga q) (fun q _ => gb q) (fun q _ => gc q) (fun q _ => gd q) p) t

def set (x : α) (p : Path) : T α → T α :=
  Path.rec (motive := fun _ => T α → T α)
    (fun t => T.rec (motive := fun _ => T α) (.node (some x) .leaf .leaf .leaf .leaf) (fun _ s t u w _ _ _ _ => .node (some x) s t u w) t)
    (fun _ ih t => T.rec (motive := fun _ => T α) (.node none (ih .leaf) .leaf .leaf .leaf) (fun v s t u w _ _ _ _ => .node v (ih s) t u w) t)
    (fun _ ih t => T.rec (motive := fun _ => T α) (.node none .leaf (ih .leaf) .leaf .leaf) (fun v s t u w _ _ _ _ => .node v s (ih t) u w) t)
    (fun _ ih t => T.rec (motive := fun _ => T α) (.node none .leaf .leaf (ih .leaf) .leaf) (fun v s t u w _ _ _ _ => .node v s t (ih u) w) t)
    (fun _ ih t => T.rec (motive := fun _ => T α) (.node none .leaf .leaf .leaf (ih .leaf)) (fun v s t u w _ _ _ _ => .node v s t u (ih w)) t) p

def ofList (l : List α) : Nat → T α → T α :=
  List.rec (motive := fun _ => Nat → T α → T α) (fun _ t => t) (fun x _ ih n t => ih (n + 1) (t.set x (path n))) l
end T

/-! ### values -/
mutual
/-- A value that names no block. -/
def scalar : Value → Bool
  | .bool _ | .int _ _ | .string _ | .pointer none | .slice none _ _ | .map none | .nilFunc | .nilIface => true
  | .agg ⟨l⟩ | .tuple ⟨l⟩ => scalars l
  | .iface _ v => scalar v
  | .func (.func _) ⟨a⟩ ⟨b⟩ => scalars a && scalars b
  | _ => false
def scalars : List Value → Bool
  | [] => true
  | v :: l => scalar v && scalars l
end

mutual
/-- One and the same value. -/
def same : Value → Value → Bool
  | .bool a, .bool b => a == b
  | .int j a, .int k b => j == k && a == b
  | .string a, .string b => a.data.toList == b.data.toList
  | .pointer a, .pointer b => a == b
  | .slice a l c, .slice b m d => a == b && l == m && c == d
  | .map a, .map b => a == b
  | .nilFunc, .nilFunc => true
  | .nilIface, .nilIface => true
  | .func (.func f) ⟨a⟩ ⟨b⟩, .func (.func g) ⟨c⟩ ⟨d⟩ => f == g && (sames a c && sames b d)
  | .func (.yield f) ⟨a⟩ ⟨b⟩, .func (.yield g) ⟨c⟩ ⟨d⟩ => f == g && (sames a c && sames b d)
  | .agg ⟨a⟩, .agg ⟨b⟩ => sames a b
  | .tuple ⟨a⟩, .tuple ⟨b⟩ => sames a b
  | .iface t v, .iface u w => t == u && same v w
  | _, _ => false
def sames : List Value → List Value → Bool
  | [], [] => true
  | v :: a, w :: b => same v w && sames a b
  | _, _ => false
end

/-- The value that may stand for any. -/
def poison : Value := .chan (some 0)
def sane : Value → Bool
  | .chan _ => false
  | _ => true
/-- What one cell may hold. -/
def cellOk : Value → Bool
  | .agg _ | .tuple _ | .chan _ => false
  | _ => true

/-! ### the abstract heap -/
inductive AObj where
  | cells (c : T Value) (n : Nat) (z : List Value) (elem : TypeId) (grow : Nat) (fz : Nat × Nat)      -- 'grow': 0: as many cells as it has; else: how many an element has of a row that may have room behind
  | map (es : List MapEntry) (clock : Nat)
  | mapIter (m : Option Nat) (since : Nat) (seen : Array Nat) (stepped : Nat)
  | loop (l : Loop)
  | deferred (calls : Option (List Deferred))
  | dead

structure AHeap where
  t : T AObj
  next : Nat

def AHeap.get (H : AHeap) (i : Nat) : Option AObj := match H with | ⟨t, _⟩ => t.get (path i)
def AHeap.set (H : AHeap) (i : Nat) (o : AObj) : AHeap := match H with | ⟨t, n⟩ => ⟨t.set o (path i), n⟩
def AHeap.new (H : AHeap) (o : AObj) : AHeap := match H with | ⟨t, n⟩ => ⟨t.set o (path n), Nat.succ n⟩
def AHeap.empty : AHeap := { t := .leaf, next := 0 }

structure AAct where
  n : Nat
  t : T Value
  ds : List Deferred
  /-- Is it a round of a range over a function? -/
  rnd : Bool

def AAct.tmp (a : AAct) (i : Nat) : Value := AAct.rec (motive := fun _ => Value) (fun _ tr _ _ => Option.rec (motive := fun _ => Value) poison (fun v => v) (tr.get (path i))) a
def AAct.put (a : AAct) (d : Option Tmp) (v : Value) : AAct :=
  match d with
  | some d => match a with | ⟨n, t, ds, r⟩ => bif Nat.blt d n then ⟨n, t.set v (path d), ds, r⟩ else ⟨n, t, ds, r⟩
  | none => a

/-! ### what is known of the program -/
structure AFn where
  body : Code
  n : Nat
  res : List ResultVar

structure Env where
  P : Program
  u : TypeId → Option TypeDesc
  sz : TypeId → Option Nat
  bytes : TypeId → Option Nat
  z : TypeId → Option Value
  fn : FuncId → Option AFn
  idf : FuncId → Bool
  sum : FuncId → List Value → Option Value
  /-- Functions that are called by what was shown of them. -/
  con : FuncId → Bool
  call : FuncId → List Value → AHeap → (Value → AHeap → Prop) → Prop

/-- A computation that asks nothing of the world. -/
def ssem {α : Type} (P : Program) : Sem α → Option α
  | .pure a => some a
  | .program k => ssem P (k P)
  | _ => none

def sc (o : Option Value) : Option Value :=
  match o with
  | some v => if scalar v then some v else none
  | none => none

/-- A part of the code, made ready: a name for what is reckoned once. -/
structure RV where
  f : AAct → Value
structure RD where
  f : AAct → AHeap → Option Value

variable (E : Env)

def rv (x : Operand) : RV :=
  match x with
  | .tmp t => ⟨fun a => AAct.rec (motive := fun _ => Value) (fun _ tr _ _ => Option.rec (motive := fun _ => Value) poison (fun v => v) (tr.get (path t))) a⟩
  | .const v => bif scalar v then ⟨fun _ => v⟩ else ⟨fun _ => poison⟩
  | .global _ => ⟨fun _ => poison⟩
  | .func f => ⟨fun _ => .func (.func f) #[] #[]⟩

def ev (a : AAct) (x : Operand) : Value := (rv x).f a

def aggB : TypeDesc → Bool
  | .struct _ | .array _ _ => true
  | _ => false

/-- Lists, walked by their recursors: what the kernel reckons quickest. -/
def rd1 (c : List Value) (off : Nat) : Option Value :=
  List.rec (motive := fun _ => Nat → Option Value) (fun _ => none) (fun v _ ih n => Nat.rec (some v) (fun n _ => ih n) n) c off
def ldrop (l : List Value) (n : Nat) : List Value :=
  List.rec (motive := fun _ => Nat → List Value) (fun _ => []) (fun x xs ih n => Nat.rec (motive := fun _ => List Value) (x :: xs) (fun n _ => ih n) n) l n
def ltake (l : List Value) (n : Nat) : List Value :=
  List.rec (motive := fun _ => Nat → List Value) (fun _ => []) (fun x _ ih n => Nat.rec (motive := fun _ => List Value) [] (fun n _ => x :: ih n) n) l n
def lapp (l m : List Value) : List Value := List.rec (motive := fun _ => List Value) m (fun x _ ih => x :: ih) l
def llen (l : List Value) : Nat := List.rec (motive := fun _ => Nat) 0 (fun _ _ ih => Nat.succ ih) l
def lall (p : Value → Bool) (l : List Value) : Bool := List.rec (motive := fun _ => Bool) true (fun x _ ih => cond (p x) ih false) l
/-- A list with some places turned: none, if they do not lie in it. -/
def lput (l : List Value) (off : Nat) (vs : List Value) : Option (List Value) :=
  cond (Nat.ble (off + llen vs) (llen l)) (some (lapp (ltake l off) (lapp vs (ldrop l (off + llen vs))))) none

/-- What stands in a cell. -/
def cellAt (c : T Value) (z : List Value) (i : Nat) : Value :=
  match c.get (path i) with
  | some v => v
  | none => match rd1 z (i % llen z) with
    | some v => v
    | none => poison
def listAt (c : T Value) (z : List Value) (off n : Nat) : List Value :=
  Nat.rec (motive := fun _ => Nat → List Value) (fun _ => []) (fun _ ih off => cellAt c z off :: ih (Nat.succ off)) n off
def rd (c : T Value) (m : Nat) (z : List Value) (off n : Nat) : Option (List Value) :=
  cond (Nat.ble (off + n) m) (some (listAt c z off n)) none
def wrT (c : T Value) (off : Nat) (vs : List Value) : T Value :=
  List.rec (motive := fun _ => Nat → T Value → T Value) (fun _ c => c) (fun v _ ih off c => ih (Nat.succ off) (c.set v (path off))) vs off c

def aload (t : TypeId) (x : RV) : RD :=
  match E.u t, E.sz t with
  | some d, some n => bif aggB d then
      ⟨fun a H => match x.f a with
        | .pointer (some ⟨id, off, none⟩) => match H.get id with
          | some (.cells c m z _ _ _) => cond (Nat.ble (off + n) m) (some (.agg ⟨listAt c z off n⟩)) none
          | _ => none
        | _ => none⟩
    else
      ⟨fun a H => match x.f a with
        | .pointer (some ⟨id, off, none⟩) => match H.get id with
          | some (.cells c m z _ _ _) => cond (Nat.blt off m) (some (cellAt c z off)) none
          | _ => none
        | _ => none⟩
  | _, _ => ⟨fun _ _ => none⟩

def apart (t : TypeId) (cs : Array Value) (off : Nat) : Option Value :=
  match E.u t, E.sz t with
  | some d, some n => match cs with | ⟨l⟩ => cond (aggB d) (some (.agg ⟨ltake (ldrop l off) n⟩)) (rd1 l off)
  | _, _ => none

def ikEq (j k : IntKind) : Bool :=
  match j with
  | .i8 => match k with | .i8 => true | _ => false
  | .i16 => match k with | .i16 => true | _ => false
  | .i32 => match k with | .i32 => true | _ => false
  | .i64 => match k with | .i64 => true | _ => false
  | .u8 => match k with | .u8 => true | _ => false
  | .u16 => match k with | .u16 => true | _ => false
  | .u32 => match k with | .u32 => true | _ => false
  | .u64 => match k with | .u64 => true | _ => false

/-- 'wrap', quick at small numbers. -/
def lim : IntKind → Nat
  | .i8 => 128 | .i16 => 32768 | .i32 => 2147483648 | .i64 => 9223372036854775808
  | .u8 => 256 | .u16 => 65536 | .u32 => 4294967296 | .u64 => 18446744073709551616
def fwrap (k : IntKind) (n : Int) : Int :=
  match n with
  | .ofNat m => bif Nat.blt m (lim k) then .ofNat m else k.wrap (.ofNat m)
  | .negSucc m => k.wrap (.negSucc m)

/-- Two whole numbers of one kind. -/
def int2 (x y : RV) (f : IntKind → Int → Int → Option Value) (no : AAct → AHeap → Value → Value → Option Value) : RD :=
  ⟨fun a H => match x.f a with
    | .int k m => match y.f a with
      | .int k' n => bif ikEq k k' then f k m n else none
      | w => no a H (.int k m) w
    | v => no a H v (y.f a)⟩

def intEq (x y : Int) : Bool :=
  match x, y with
  | .ofNat m, .ofNat n => Nat.beq m n
  | .negSucc m, .negSucc n => Nat.beq m n
  | _, _ => false
def intLt (x y : Int) : Bool :=
  match x, y with
  | .ofNat m, .ofNat n => Nat.blt m n
  | .negSucc m, .negSucc n => Nat.blt n m
  | .negSucc _, .ofNat _ => true
  | .ofNat _, .negSucc _ => false

def bytesEq (a b : List UInt8) : Bool :=
  List.rec (motive := fun _ => List UInt8 → Bool) (fun b => List.casesOn b true fun _ _ => false)
    (fun x _ ih b => List.casesOn b false fun y b => cond (Nat.beq x.toNat y.toNat) (ih b) false) a b

/-- Equality where it is no matter of whole numbers. -/
def aeq (t : TypeId) (a b : Value) : Option Bool :=
  match a, b with
  | .string a, .string b => match a, b with | ⟨⟨a⟩⟩, ⟨⟨b⟩⟩ => some (bytesEq a b)
  | .pointer p, .pointer q =>
    match p, q, E.u t with
    | none, q, some (.pointer _) => some q.isNone
    | some _, none, some (.pointer _) => some false
    | some ⟨i, o, none⟩, some ⟨j, o', none⟩, some (.pointer e) => match E.sz e with
      | some (_ + 1) => cond (Nat.beq i j) (some (Nat.beq o o')) none
      | _ => none
    | _, _, _ => none
  | .map m, .map none => match E.u t with | some (.map _ _) => some m.isNone | _ => none
  | .slice p _ _, .slice none _ _ => match E.u t with | some (.slice _) => some p.isNone | _ => none
  | .nilIface, .iface _ _ => match E.u t with | some (.interface _) => some false | _ => none
  | .iface _ _, .nilIface => match E.u t with | some (.interface _) => some false | _ => none
  | _, _ => none

def ascalar2 (op : BinOp) (t : TypeId) (x y : Operand) (a b : Value) : Option Value :=
  if scalar a && scalar b then sc (ssem E.P (do eqGuard op t x y a b; binOp op t a b)) else none

def abits (P : Program) (op : BinOp) (t : TypeId) (f : Nat → Nat → Nat) (k : IntKind) (m n : Int) : Option Value :=
  match m, n with
  | .ofNat a, .ofNat b => cond (Nat.blt a (lim k) && Nat.blt b (lim k)) (some (.int k (.ofNat (f a b)))) (sc (ssem P (binOp op t (.int k (.ofNat a)) (.int k (.ofNat b)))))
  | m, n => sc (ssem P (binOp op t (.int k m) (.int k n)))

def abin (op : BinOp) (t : TypeId) (x y : Operand) : RD :=
  let no : AAct → AHeap → Value → Value → Option Value := fun _ _ v w => ascalar2 E op t x y v w
  match op with
  | .add => int2 (rv x) (rv y) (fun k m n => some (.int k (fwrap k (m + n)))) no
  | .sub => int2 (rv x) (rv y) (fun k m n => some (.int k (fwrap k (m - n)))) no
  | .mul => int2 (rv x) (rv y) (fun k m n => some (.int k (fwrap k (m * n)))) no
  | .eql => int2 (rv x) (rv y) (fun _ m n => some (.bool (intEq m n))) (fun _ _ v w => match aeq E t v w with | some b => some (.bool b) | none => ascalar2 E .eql t x y v w)
  | .neq => int2 (rv x) (rv y) (fun _ m n => some (.bool (!intEq m n))) (fun _ _ v w => match aeq E t v w with | some b => some (.bool (!b)) | none => ascalar2 E .neq t x y v w)
  | .lss => int2 (rv x) (rv y) (fun _ m n => some (.bool (intLt m n))) no
  | .gtr => int2 (rv x) (rv y) (fun _ m n => some (.bool (intLt n m))) no
  | .leq => int2 (rv x) (rv y) (fun _ m n => some (.bool (!intLt n m))) no
  | .geq => int2 (rv x) (rv y) (fun _ m n => some (.bool (!intLt m n))) no
  | .shr => ⟨fun a _ => match (rv x).f a, (rv y).f a with
      | .int k (.ofNat m), .int _ (.ofNat n) => some (.int k (.ofNat (Nat.div m (Nat.pow 2 (Nat.min n k.bits)))))
      | .int k m, .int k' n => sc (ssem E.P (binOp .shr t (.int k m) (.int k' n)))
      | _, _ => none⟩
  | .shl => ⟨fun a _ => match (rv x).f a, (rv y).f a with
      | .int k (.ofNat m), .int _ (.ofNat n) => some (.int k (fwrap k (.ofNat (Nat.mul m (Nat.pow 2 (Nat.min n k.bits))))))
      | .int k m, .int k' n => sc (ssem E.P (binOp .shl t (.int k m) (.int k' n)))
      | _, _ => none⟩
  | .and => int2 (rv x) (rv y) (fun k m n => abits E.P .and t Nat.land k m n) no
  | .or => int2 (rv x) (rv y) (fun k m n => abits E.P .or t Nat.lor k m n) no
  | .xor => int2 (rv x) (rv y) (fun k m n => abits E.P .xor t Nat.xor k m n) no
  | op => int2 (rv x) (rv y) (fun k m n => sc (ssem E.P (binOp op t (.int k m) (.int k n)))) no

def nat? : Value → Option Nat
  | .int _ n => match n with
    | .ofNat m => some m
    | .negSucc _ => none
  | _ => none
def optNat (d : Nat) : Option Value → Option Nat
  | none => some d
  | some v => nat? v

def aslice (H : AHeap) (t : TypeId) (x : Value) (lo hi : Option Value) : Option Value :=
  match E.u t, x with
  | some .string, .string s =>
    match optNat s.size hi with
    | some h => match optNat 0 lo with
      | some l => if l ≤ h ∧ h ≤ s.size then some (.string (s.extract l h)) else none
      | none => none
    | none => none
  | some (.slice e), .slice (some ⟨id, off, none⟩) len cap =>
    match optNat len hi, optNat 0 lo, E.sz e with
    | some h, some l, some n => match H.get id with
      | some (.cells _ _ _ _ g _) =>
        bif Nat.ble l h && Nat.ble h cap && (Nat.beq g 0 || Nat.beq g n) then some (.slice (some ⟨id, off + l * n, none⟩) (h - l) (cap - l)) else none
      | _ => none
    | _, _, _ => none
  | some (.slice e), .slice none 0 0 =>
    match optNat 0 hi, optNat 0 lo, E.sz e with
    | some 0, some 0, some _ => some x
    | _, _, _ => none
  | _, _ => none

/-- The slice of an array behind a pointer, in an object that does not grow. -/
def asliceArr (H : AHeap) (n : Nat) (e : TypeId) (x : Value) (lo hi : Option Value) : Option Value :=
  match x with
  | .pointer (some ⟨id, off, none⟩) =>
    match H.get id with
    | some (.cells _ _ _ _ 0 _) =>
      match optNat n hi, optNat 0 lo, E.sz e with
      | some h, some l, some s => if l ≤ h ∧ h ≤ n then some (.slice (some ⟨id, off + l * s, none⟩) (h - l) (n - l)) else none
      | _, _, _ => none
    | _ => none
  | _ => none

def afind (kt : TypeId) (k : Value) : List MapEntry → Nat → Option (Option Nat)
  | [], _ => some none
  | e :: es, i =>
    match ssem E.P (Op.equal kt k e.key) with
    | some true => some (some i)
    | some false => afind kt k es (i + 1)
    | none => none

/-- Where a key stands among the entries. -/
def akey (kt : TypeId) (k : Value) (es : List MapEntry) : Option (Option Nat) :=
  if scalar k && es.all (fun e => scalar e.key) then
    match E.u kt with
    | none => none
    | some d =>
      match Instr.findNow d k es 0 with
      | some r => some (r.map (·.1))
      | none => afind E kt k es 0
  else none

def alookup (H : AHeap) (t : TypeId) (x k : Value) (ok : Bool) : Option Value :=
  match E.u t with
  | some (.map kt et) =>
    let es : Option (List MapEntry) := match x with
      | .map none => some []
      | .map (some r) => match H.get r with | some (.map es _) => some es | _ => none
      | _ => none
    match es with
    | none => none
    | some es =>
      if !scalar k then none else
      match ssem E.P (Instr.checkKey es.isEmpty 10000 kt k), akey E kt k es with
      | some _, some (some i) => match es[i]? with
        | some e => some (if ok then .tuple #[e.val, .bool true] else e.val)
        | none => none
      | some _, some none => match E.z et with
        | some z => if scalar z then some (if ok then .tuple #[z, .bool false] else z) else none
        | none => none
      | _, _ => none
  | _ => none

def places (fs : List Field) : Option (List (Nat × Nat)) := fs.mapM fun f => (E.sz f.type).map fun n => (f.offset, n)

def vcells (v : Value) : List Value := match v with | .agg ⟨l⟩ => l | v => [v]

/-- The cells of parts, laid over others. -/
def fillL (place : Nat → Option (Nat × Nat)) (cells : List Value) : List (Nat × Value) → Option (List Value)
  | [] => some cells
  | (i, v) :: rest =>
    match place i with
    | none => none
    | some (off, size) =>
      bif sane v && Nat.beq (llen (vcells v)) size then
        match lput cells off (vcells v) with
        | some cells => fillL place cells rest
        | none => none
      else none

structure RB where
  f : List (Nat × Value) → Option Value
def abuild (t : TypeId) : RB :=
  match E.z t with
  | some z => match E.u t with
    | some (.struct fs) => match places E fs.toList with
      | some ps => bif scalar z then ⟨fun parts => match fillL (ps[·]?) (vcells z) parts with | some l => some (.agg ⟨l⟩) | none => none⟩ else ⟨fun _ => none⟩
      | none => ⟨fun _ => none⟩
    | some (.array _ e) => match E.sz e with
      | some n => bif scalar z then ⟨fun parts => match fillL (fun i => some (i * n, n)) (vcells z) parts with | some l => some (.agg ⟨l⟩) | none => none⟩ else ⟨fun _ => none⟩
      | none => ⟨fun _ => none⟩
    | _ => ⟨fun _ => none⟩
  | none => ⟨fun _ => none⟩

def intOf? : Value → Option Int
  | .int _ n => some n
  | _ => none

def aconv (s d : TypeId) (x : Value) : Option Value :=
  match E.u s, E.u d, x with
  | some _, some (.int k), .int _ n => some (.int k (fwrap k n))
  | some (.slice _), some (.slice _), _ => none
  | some .string, some (.slice _), _ => none
  | _, _, x => if scalar x then sc (ssem E.P (convert s d x)) else none

def byteOf? : Value → Option UInt8
  | .int .u8 n => some (UInt8.ofNat n.toNat)
  | _ => none
def bytesOf? : List Value → Option (List UInt8)
  | [] => some []
  | v :: l => match byteOf? v, bytesOf? l with
    | some b, some bs => some (b :: bs)
    | _, _ => none

def abytes (H : AHeap) (x : Value) : Option Value :=
  match x with
  | .slice none _ _ => some (.string .empty)
  | .slice (some ⟨id, off, none⟩) len _ => match H.get id with
    | some (.cells c m z _ _ _) => match rd c m z off len with
      | some l => (bytesOf? l).map fun bs => Value.string ⟨⟨bs⟩⟩
      | none => none
    | _ => none
  | _ => none

/-- A pointer made one of another kind. -/
def aptr (H : AHeap) (s d : TypeId) (id off : Nat) : Option Value :=
  match H.get id with
  | some (.cells _ n _ e 0 fz) =>
    match E.u s, E.u d with
    | some (.pointer t), some .unsafePointer => if off < n ∧ (E.sz t).getD 0 ≠ 0 then some (.pointer (some ⟨id, off, none⟩)) else none
    | some .unsafePointer, some (.pointer u) => if (E.sz u).getD 0 ≠ 0 ∧ fz.2 ≤ n ∧ liesAt E.P E.P.depth e (n / E.P.cellsOf e) off u 1 then some (.pointer (some ⟨id, off, none⟩)) else none
    | _, _ => none
  | _ => none

def amax (mx : Bool) : List Value → Option Value
  | .int k x :: rest => (rest.foldl (fun (acc : Option Int) (v : Value) => match acc, v with
      | some a, .int _ y => some (if mx then (if y > a then y else a) else (if y < a then y else a))
      | _, _ => none) (some x)).map (Value.int k)
  | _ => none

def rdNone : RD := ⟨fun _ _ => none⟩

def afieldAddr (s : TypeId) (x : RV) (f : Nat) : RD :=
  match E.u s with
  | some (.struct fs) => match fs[f]? with
    | some fd => match E.sz fd.type with
      | some (_ + 1) => (fun o : Nat => ⟨fun a _ => match x.f a with
          | .pointer (some ⟨id, off, none⟩) => some (.pointer (some ⟨id, off + o, none⟩))
          | _ => none⟩) fd.offset
      | _ => rdNone
    | none => rdNone
  | _ => rdNone

def afield (t : TypeId) (x : RV) (f : Nat) : RD :=
  match E.u t with
  | some (.struct fs) => match fs[f]? with
    | some fd => ⟨fun a _ => match x.f a with
        | .agg cs => apart E fd.type cs fd.offset
        | _ => none⟩
    | none => rdNone
  | _ => rdNone

def aindexAddr (t : TypeId) (x i : RV) : RD :=
  match E.u t with
  | some (.array len e) => match E.sz e with
    | some s => ⟨fun a _ => match nat? (i.f a) with
        | some n => match x.f a with
          | .pointer (some ⟨id, off, none⟩) => bif Nat.blt n len then some (.pointer (some ⟨id, off + n * s, none⟩)) else none
          | _ => none
        | none => none⟩
    | none => rdNone
  | some (.slice e) => match E.sz e with
    | some s => ⟨fun a _ => match nat? (i.f a) with
        | some n => match x.f a with
          | .slice (some ⟨id, off, none⟩) len _ => bif Nat.blt n len then some (.pointer (some ⟨id, off + n * s, none⟩)) else none
          | _ => none
        | none => none⟩
    | none => rdNone
  | _ => rdNone

def aindex (t : TypeId) (x i : RV) : RD :=
  match E.u t with
  | some (.array len e) => match E.sz e with
    | some s => ⟨fun a _ => match nat? (i.f a) with
        | some n => match x.f a with
          | .agg cs => bif Nat.blt n len then apart E e cs (n * s) else none
          | _ => none
        | none => none⟩
    | none => rdNone
  | some .string => ⟨fun a _ => match nat? (i.f a) with
        | some n => match x.f a with
          | .string s => (s[n]?).map fun b => Value.int .u8 b.toNat
          | _ => none
        | none => none⟩
  | _ => rdNone

def aconvert (s d : TypeId) (x : RV) : RD :=
  match E.u s with
  | some (.slice e) => match E.u d with
    | some .string => match E.u e with
      | some (.int .u8) => ⟨fun a H => match x.f a with
          | .slice p l c => abytes H (.slice p l c)
          | _ => none⟩
      | _ => rdNone
    | _ => rdNone
  | _ => ⟨fun a H => match x.f a with
    | .pointer (some ⟨id, off, none⟩) => aptr E H s d id off
    | .slice _ _ _ => none
    | x => aconv E s d x⟩

def alenOf (t : TypeId) (x : RV) : RD :=
  match E.u t with
  | some .string => ⟨fun a _ => match x.f a with | .string s => some (goInt s.size) | _ => none⟩
  | some (.slice _) => ⟨fun a _ => match x.f a with | .slice _ n _ => some (goInt n) | _ => none⟩
  | some (.array n _) => ⟨fun _ _ => some (goInt n)⟩
  | some (.map _ _) => ⟨fun a H => match x.f a with
      | .map none => some (goInt 0)
      | .map (some m) => match H.get m with | some (.map es _) => some (goInt es.length) | _ => none
      | _ => none⟩
  | _ => rdNone

def aentry (it : RV) : RD :=
  ⟨fun a H => match it.f a with
    | .pointer (some ⟨id, 0, none⟩) => match H.get id with
      | some (.mapIter (some m) _ seen stepped) => match seen.back?, H.get m with
        | some st, some (.map es clock) => if clock = stepped then match es.find? (·.born == st) with
            | some e => some (.tuple #[e.key, e.val])
            | none => none
          else none
        | _, _ => none
      | _ => none
    | _ => none⟩

def acallRead (b : Builtin) (args : Array Operand) (argTypes : Array TypeId) : RD :=
  match b with
  | .len => match args[0]?, argTypes[0]? with
    | some x, some t => alenOf E t (rv x)
    | _, _ => rdNone
  | .unsafeSliceData => match args.toList with
    | [x] => ⟨fun a _ => match ev a x with
      | .slice none _ _ => some (.pointer none)
      | .slice (some ⟨id, off, none⟩) _ (_ + 1) => some (.pointer (some ⟨id, off, none⟩))
      | _ => none⟩
    | _ => rdNone
  | .max => ⟨fun a _ => amax true (args.toList.map (ev a))⟩
  | .min => ⟨fun a _ => amax false (args.toList.map (ev a))⟩
  | _ => rdNone

/-- The operations that write nothing, make nothing and call nothing. -/
def rread (op : Op) : RD :=
  match op with
  | .move x | .assign x => (fun r : RV => ⟨fun a _ => some (r.f a)⟩) (rv x)
  | .pick c x y => ⟨fun a _ => match (rv c).f a with | .bool b => some (cond b ((rv x).f a) ((rv y).f a)) | _ => none⟩
  | .load t x => aload E t (rv x)
  | .nilCheck x => ⟨fun a _ => match (rv x).f a with
    | .pointer (some p) => some (.pointer (some p))
    | .func (.func f) x y => some (.func (.func f) x y)
    | .func (.yield l) x y => some (.func (.yield l) x y)
    | _ => none⟩
  | .binOp op t x y _ => abin E op t x y
  | .unOp op _ x => ⟨fun a _ => match op, (rv x).f a with
    | .not, .bool b => some (.bool (!b))
    | op, v => if scalar v then sc (ssem E.P (Op.unary op v)) else none⟩
  | .convert s d x => aconvert E s d (rv x)
  | .makeInterface t x => match E.u t with
    | some (.interface _) | none => rdNone
    | _ => ⟨fun a _ => if sane ((rv x).f a) then some (.iface t ((rv x).f a)) else none⟩
  | .makeFunc fn x y => match fn with
    | .func f => ⟨fun a _ => some (.func (.func f) (x.map (ev a)) (y.map (ev a)))⟩
    | _ => rdNone
  | .fieldAddr s x f => afieldAddr E s (rv x) f
  | .field t x f => afield E t (rv x) f
  | .indexAddr t x i => aindexAddr E t (rv x) (rv i)
  | .index t x i => aindex E t (rv x) (rv i)
  | .lookup t m k ok => ⟨fun a H => alookup E H t ((rv m).f a) ((rv k).f a) ok⟩
  | .extract x i => ⟨fun a _ => match (rv x).f a with | .tuple ⟨l⟩ => rd1 l i | _ => none⟩
  | .build t ps => ⟨fun a _ => (abuild E t).f (ps.toList.map fun p => (p.1, ev a p.2))⟩
  | .slice t x lo hi mx => match mx with
    | none => match E.u t with
      | some (.array n e) => ⟨fun a H => asliceArr E H n e ((rv x).f a) (lo.map (ev a)) (hi.map (ev a))⟩
      | _ => ⟨fun a H => aslice E H t ((rv x).f a) (lo.map (ev a)) (hi.map (ev a))⟩
    | some _ => rdNone
  | .entry it => aentry (rv it)
  | .call c => match c.callee with
    | .builtin b => acallRead E b c.args c.argTypes
    | _ => rdNone
  | _ => rdNone

def pread (a : AAct) (H : AHeap) (o : Oper) : Option Value := (rread E o.op).f a H

inductive Cls where
  | read | make | eff | defer

def Cls.isEff : Cls → Bool
  | .eff => true
  | _ => false

def cls (o : Oper) : Cls :=
  match o.op with
  | .alloc _ | .box _ _ | .buildSlice .. | .makeSlice .. | .makeMap .. => .make
  | .store .. | .insert .. | .mapUpdate .. | .mapEntry .. | .entryStore .. | .range .. | .next .. | .panic _ | .go _ | .send .. | .recv .. | .select .. => .eff
  | .defer _ => .defer
  | .call c => match c.callee with
    | .builtin b => match b with
      | .len | .unsafeSliceData | .max | .min => .read
      | _ => .eff
    | _ => .eff
  | .convert s d _ => match E.u s, E.u d with
    | some .string, some (.slice _) => .eff
    | _, _ => .read
  | _ => .read

structure RM where
  f : AAct → AHeap → Option (Value × AObj)
def rmNone : RM := ⟨fun _ _ => none⟩

def here (H : AHeap) : Addr := ⟨H.next, 0, none⟩
def cellsOfList (l : List Value) (t : TypeId) (g : Nat) (fz : Nat × Nat) : AObj := .cells (T.ofList l 0 .leaf) (llen l) [] t g fz

/-- The operations that make a block and do nothing else: the value, and the block. -/
def rmake (op : Op) : RM :=
  match op with
  | .alloc t => match E.z t with
    | some z => bif scalar z then (fun l : List Value => (fun o : AObj => ⟨fun _ H => some (.pointer (some (here H)), o)⟩) (.cells .leaf (llen l) l t 0 (0, 0))) (vcells z) else rmNone
    | none => rmNone
  | .box t x => ⟨fun a H => (fun v : Value => cond (sane v) (some (.pointer (some (here H)), cellsOfList (vcells v) t 0 (0, 0))) none) ((rv x).f a)⟩
  | .buildSlice t len ps => match E.u t with
    | some (.slice e) => match E.sz e, E.z e with
      | some n, some z =>
        bif Nat.blt 0 n && Nat.ble (len * n) 1048576 && Nat.beq (llen (vcells z)) n && scalar z then
          (fun zl : List Value => ⟨fun a H => match fillL (fun i => some (i * n, n)) zl (ps.toList.map fun p => (p.1, ev a p.2)) with
            | some l => some (.slice (some (here H)) len len, cellsOfList l e 0 (0, 0))
            | none => none⟩) (Nat.rec (motive := fun _ => List Value) [] (fun _ ih => lapp (vcells z) ih) len)
        else rmNone
      | _, _ => rmNone
    | _ => rmNone
  | .makeSlice t l c => match E.u t with
    | some (.slice e) => match E.sz e, E.z e, E.bytes e with
      | some n, some z, some by_ =>
        bif Nat.blt 0 n && Nat.beq (llen (vcells z)) n && scalar z then
          (fun zl : List Value => ⟨fun a H => match nat? ((rv l).f a), nat? ((rv c).f a) with
            | some l, some c => bif Nat.ble l c && Nat.ble c 1099511627776 && Nat.ble (by_ * c) 70368744177664 then
                some (.slice (some (here H)) l c, .cells .leaf (c * n) zl e 0 (0, 0))
              else none
            | _, _ => none⟩) (vcells z)
        else rmNone
      | _, _, _ => rmNone
    | _ => rmNone
  | .makeMap t r => match E.u t with
    | some (.map _ _) => match r with
      | none => ⟨fun _ H => some (.map (some H.next), .map [] 0)⟩
      | some h => ⟨fun a H => match (rv h).f a with | .int _ _ => some (.map (some H.next), .map [] 0) | _ => none⟩
    | _ => rmNone
  | _ => rmNone

def amake (a : AAct) (H : AHeap) (o : Oper) : Option (Value × AObj) := (rmake E o.op).f a H

/-- Cells, written; but none that a string shares. -/
def putCells (H : AHeap) (id off : Nat) (vs : List Value) : Option AHeap :=
  match H.get id with
  | some (.cells c n z e g fz) =>
    bif Nat.ble (off + llen vs) n && lall cellOk vs && (Nat.ble fz.2 off || Nat.ble (off + llen vs) fz.1) then
      some (H.set id (.cells (wrT c off vs) n z e g fz))
    else none
  | _ => none

structure RS where
  f : AHeap → Value → Value → Option AHeap
def astore (t : TypeId) : RS :=
  match E.sz t with
  | some n => ⟨fun H x v => match x with
    | .pointer (some ⟨id, off, none⟩) => cond (Nat.beq (llen (vcells v)) n) (putCells H id off (vcells v)) none
    | _ => none⟩
  | none => ⟨fun _ _ _ => none⟩

/-- The first cells of a slice, or the bytes of a string. -/
def afirst (H : AHeap) (n size : Nat) : Value → Option (List Value)
  | .slice (some ⟨id, off, none⟩) _ _ => match H.get id with
    | some (.cells c m z _ _ _) => rd c m z off (n * size)
    | _ => none
  | .slice none _ _ => some []
  | .string s => some ((s.extract 0 n).data.toList.map fun b => Value.int .u8 b.toNat)
  | _ => none

def alen : Value → Option Nat
  | .slice _ n _ => some n
  | .string s => some s.size
  | _ => none

/-- Behind what a slice has: its cells, and new ones, in a block of its own. -/
def agrow (H : AHeap) (e size : Nat) (base : Option Addr) (len cap : Nat) (new : List Value) : Option AHeap :=
  match base with
  | none => bif Nat.beq len 0 then some (H.new (cellsOfList new e size (0, 0))) else none
  | some ⟨id, off, none⟩ => match H.get id with
    | some (.cells c n z e0 g fz) =>
      bif Nat.ble (off + len * size) n then
        (fun (c' : T Value) (z' : List Value) =>
          bif Nat.beq g 0 || (Nat.beq g size && !Nat.beq (off + cap * size) n) then
            some (H.new (.cells (wrT c' (len * size) new) (len * size + llen new) z' e size (0, 0)))
          else bif Nat.beq e0 e && (Nat.beq g size && Nat.ble fz.2 (off + len * size) && (Nat.beq off 0 || Nat.beq fz.2 0)) then
            some ((H.set id .dead).new (.cells (wrT c' (len * size) new) (len * size + llen new) z' e size fz))
          else none)
        (cond (Nat.beq off 0) c (T.ofList (listAt c z off (len * size)) 0 .leaf)) (cond (Nat.beq off 0) z [])
      else none
    | _ => none
  | _ => none

structure RA where
  f : AHeap → Value → Value → Option (Value × AHeap)
def raNone : RA := ⟨fun _ _ _ => none⟩

def aappend (sT : TypeId) (xT : Option TypeId) : RA :=
  match E.u sT with
  | some (.slice e) => match E.sz e, E.bytes e, E.z e with
    | some size, some by_, some z =>
      bif (match xT with | some xT => (match E.u xT with | some (.int _) | none => false | _ => true) | none => true) && Nat.blt 0 size && scalar z && Nat.beq (llen (vcells z)) size && Nat.ble by_ 4096 then
        ⟨fun H s x => match s, alen x with
        | .slice base len cap, some n => match afirst H n size x with
          | none => none
          | some new =>
            bif lall cellOk new && Nat.beq (llen new) (n * size) then
              bif Nat.ble (len + n) cap then
                match base with
                | none => some (.slice none (len + n) cap, H)
                | some ⟨id, off, none⟩ => match putCells H id (off + len * size) new with
                  | some H' => some (.slice base (len + n) cap, H')
                  | none => none
                | _ => none
              else bif Nat.ble (len + n) 4294967296 then
                match agrow H e size base len cap new with
                | some H' => some (.slice (some (here H)) (len + n) (len + n), H')
                | none => none
              else none
            else none
        | _, _ => none⟩
      else raNone
    | _, _, _ => raNone
  | _ => raNone

def acopy (dT : TypeId) : RA :=
  match E.u dT with
  | some (.slice e) => match E.sz e with
    | some size => ⟨fun H d x => match d, alen x with
      | .slice base dl _, some xl => match afirst H (Nat.min xl dl) size x with
        | some new => match base with
          | none => some (goInt (Nat.min xl dl), H)
          | some ⟨id, off, none⟩ => match putCells H id off new with
            | some H' => some (goInt (Nat.min xl dl), H')
            | none => none
          | _ => none
        | none => none
      | _, _ => none⟩
    | none => raNone
  | _ => raNone

def amapUpdate (H : AHeap) (t : TypeId) (m k v : Value) : Option AHeap :=
  match E.u t, m with
  | some (.map kt _), .map (some r) => match H.get r with
    | some (.map es clock) =>
      if !scalar k || !sane v then none else
      match ssem E.P (Instr.checkKey false 10000 kt k), akey E kt k es with
      | some _, some (some i) => match es[i]? with
        | some e => if Instr.sameBits 10000 e.key k then some (H.set r (.map (es.set i { e with key := k, val := v }) clock)) else none
        | none => none
      | some _, some none => some (H.set r (.map (es ++ [{ key := k, val := v, born := clock }]) (clock + 1)))
      | _, _ => none
    | _ => none
  | _, _ => none

def amapEntry (H : AHeap) (t : TypeId) (m k : Value) : Option (Value × AHeap) :=
  match E.u t, m with
  | some (.map kt et), .map (some r) => match H.get r with
    | some (.map es clock) =>
      if !scalar k then none else
      match ssem E.P (Instr.checkKey false 10000 kt k), akey E kt k es with
      | some _, some (some i) => match es[i]? with
        | some e => if Instr.sameBits 10000 e.key k then some (.tuple #[e.val, goInt e.born], H.set r (.map (es.set i { e with key := k }) clock)) else none
        | none => none
      | some _, some none => match E.z et with
        | some z => if scalar z then some (.tuple #[z, goInt clock], H.set r (.map (es ++ [{ key := k, val := z, born := clock }]) (clock + 1))) else none
        | none => none
      | _, _ => none
    | _ => none
  | _, _ => none

def aentryStore (H : AHeap) (m s v : Value) : Option AHeap :=
  match m, intOf? s with
  | .map (some r), some born => match H.get r with
    | some (.map es clock) =>
      if !sane v then none else
      match es.findIdx? (fun e => (e.born : Int) == born) with
      | some i => match es[i]? with
        | some e => some (H.set r (.map (es.set i { e with val := v }) clock))
        | none => none
      | none => none
    | _ => none
  | _, _ => none

def adelete (H : AHeap) (t : TypeId) (m k : Value) : Option AHeap :=
  match E.u t, m with
  | some (.map kt _), .map (some r) => match H.get r with
    | some (.map es clock) =>
      if !scalar k then none else
      match ssem E.P (Instr.checkKey es.isEmpty 10000 kt k), akey E kt k es with
      | some _, some (some i) => some (H.set r (.map (es.eraseIdx i) clock))
      | some _, some none => some (H.set r (.map es clock))
      | _, _ => none
    | _ => none
  | _, _ => none

/-- 'unsafe.String': the bytes may not be written from then on. -/
def astring (H : AHeap) (pt : TypeId) (p n : Value) : Option (Value × AHeap) :=
  match p, nat? n with
  | .pointer none, some 0 => some (.string .empty, H)
  | .pointer (some ⟨id, off, none⟩), some n =>
    if n = 0 then some (.string .empty, H) else
    match H.get id, E.u pt with
    | some (.cells c m z e g fz), some (.pointer u) =>
      if e = u ∧ E.P.cellsOf e = 1 ∧ fz.1 ≤ fz.2 ∧ fz.2 ≤ m ∧ n < 2 ^ 62 then
        match rd c m z off n with
        | some l => (bytesOf? l).map fun bs => (.string ⟨⟨bs⟩⟩, H.set id (.cells c m z e g (if fz.1 = fz.2 then (off, off + n) else (min fz.1 off, max fz.2 (off + n)))))
        | none => none
      else none
    | _, _ => none
  | _, _ => none

/-! ### code -/
inductive AExit where
  | normal
  | exit (id : Nat)
  | goto (l : Nat)
  | ret

abbrev CK := AExit → AAct → AHeap → Prop
abbrev VK := Value → AHeap → Prop

def enterA (n : Nat) (args : List Value) : AAct :=
  { n := Nat.max n args.length, t := T.ofList args 0 .leaf, ds := [], rnd := false }

def resVals (a : AAct) (H : AHeap) : List ResultVar → Option (List Value)
  | [] => some []
  | .tmp t :: l => (resVals a H l).map (a.tmp t :: ·)
  | .cell x t :: l => match (aload E t (rv (.tmp x))).f a H with
    | some v => (resVals a H l).map (v :: ·)
    | none => none

def tup : List Value → Value
  | [v] => v
  | l => .tuple l.toArray

section step
variable (rec : Code → AAct → AHeap → CK → Prop)

def afinish (res : List ResultVar) (a : AAct) (H : AHeap) (K : VK) : Prop :=
  match resVals E a H res with
  | some vs => K (tup vs) H
  | none => False

/-- A call of a function of the program; what it defers is called behind it, each with no result looked at. -/
def acallWith (dcall : List Deferred → AHeap → (AHeap → Prop) → Prop) (f : FuncId) (args : List Value) (H : AHeap) (K : VK) : Prop :=
  match E.fn f with
  | none => False
  | some ⟨body, n, res⟩ => rec body (enterA n args) H fun e a H =>
      match e with
      | .normal => dcall a.ds H fun H => afinish E res a H K
      | .ret => dcall a.ds H fun H => afinish E res a H K
      | _ => False

def adefers : Nat → List Deferred → AHeap → (AHeap → Prop) → Prop
  | 0, l, H, K => match l with
    | [] => K H
    | _ :: _ => False
  | n + 1, l, H, K => match l with
    | [] => K H
    | d :: ds =>
      match d.target with
      | .collected r => match H.get r with
        | some (.deferred (some l)) => adefers n (l ++ ds) (H.set r (.deferred none)) K
        | _ => False
      | .fn (.func f) captured => acallWith E rec (fun ds' H' K' => adefers n ds' H' K') f (d.args ++ captured).toList H fun _ H => adefers n ds H K
      | _ => False

def acall (f : FuncId) (args : List Value) (H : AHeap) (K : VK) : Prop :=
  match E.sum f args with
  | some v => K v H
  | none => bif E.con f then E.call f args H K else acallWith E rec (adefers E rec 64) f args H K

/-- One round of a range over a function. -/
def around (l : Nat) (args : List Value) (H : AHeap) (K : VK) : Prop :=
  match H.get l with
  | some (.loop r) =>
    if args.length ≠ r.params.size then False else
    let act : AAct := { n := r.tmps.size, t := T.ofList (((r.params.toList.zip args).foldl (fun tm (p : Tmp × Value) => tm.setIfInBounds p.1 p.2) r.tmps).toList) 0 .leaf, ds := [], rnd := true }
    rec r.assign act H fun e a H =>
      match e with
      | .normal => match H.get l with
        | some (.loop r') => if r'.state = .ready then
            rec r.body a (H.set l (.loop { r' with state := .busy })) fun e a H =>
              let jump : Option Code := match e with
                | .normal => none
                | .exit id => some (.exit id)
                | .goto l => some (.goto l)
                | .ret => some .ret
              match a.ds, H.get l with
              | [], some (.loop r'') => K (.bool jump.isNone) (H.set l (.loop { r'' with state := if jump.isNone then .ready else .done, pending := jump }))
              | _, _ => False
          else False
        | _ => False
      | _ => False
  | _ => False

def allK {α : Type} (l : List α) (K : α → Prop) : Prop :=
  match l with
  | [] => True
  | [x] => K x
  | x :: xs => K x ∧ allK xs K

def aSt (h : Option AHeap) (K : VK) : Prop := match h with | some H => K undef H | none => False
def aVs (h : Option (Value × AHeap)) (K : VK) : Prop := match h with | some (v, H) => K v H | none => False

def anext (it : RV) (a : AAct) (H : AHeap) (K : VK) : Prop :=
  match it.f a with
  | .pointer (some ⟨id, 0, none⟩) => match H.get id with
    | some (.mapIter none _ _ _) => K (.tuple #[.bool false]) H
    | some (.mapIter (some m) since seen last) => match H.get m with
      | some (.map es clock) =>
        if !seen.isEmpty && !es.isEmpty && es.all (·.born ≥ last) then False else
        let left := es.filter fun e => !seen.contains e.born
        let old := left.filter (·.born < since)
        let new := left.filter (·.born ≥ since)
        let cand : List (Option MapEntry) := (if old.isEmpty then [none] else []) ++ (old ++ new).map some
        allK cand fun c => match c with
          | some e => K (.tuple #[.bool true, e.key, e.val]) (H.set id (.mapIter (some m) since (seen.push e.born) clock))
          | none => K (.tuple #[.bool false]) H
      | _ => False
    | _ => False
  | _ => False

def arange (t : TypeId) (x : RV) (a : AAct) (H : AHeap) (K : VK) : Prop :=
  match E.u t, x.f a with
  | some (.map _ _), .map none => K (.pointer (some ⟨H.next, 0, none⟩)) (H.new (.mapIter none 0 #[] 0))
  | some (.map _ _), .map (some m) => match H.get m with
    | some (.map _ clock) => K (.pointer (some ⟨H.next, 0, none⟩)) (H.new (.mapIter (some m) clock #[] clock))
    | _ => False
  | _, _ => False

def aconvBytes (s d : TypeId) (x : RV) (a : AAct) (H : AHeap) (K : VK) : Prop :=
  match E.u s, E.u d, x.f a with
  | some .string, some (.slice e), .string s => match E.u e with
    | some (.int .u8) => K (.slice (some ⟨H.next, 0, none⟩) s.size s.size) (H.new (cellsOfList (s.data.toList.map fun b => Value.int .u8 b.toNat) e 1 (1, 0)))
    | _ => False
  | _, _, _ => False

structure RE where
  f : (Code → AAct → AHeap → CK → Prop) → AAct → AHeap → VK → Prop
def reNone : RE := ⟨fun _ _ _ _ => False⟩

def acallB (b : Builtin) (args : Array Operand) (argTypes : Array TypeId) : RE :=
  match b with
  | .append => match argTypes[0]?, args[0]?, args[1]? with
    | some t, some s, some x => ⟨fun _ a H K => aVs ((aappend E t (argTypes[1]?)).f H ((rv s).f a) ((rv x).f a)) K⟩
    | _, _, _ => reNone
  | .copy => match argTypes[0]?, args[0]?, args[1]? with
    | some t, some d, some x => ⟨fun _ a H K => aVs ((acopy E t).f H ((rv d).f a) ((rv x).f a)) K⟩
    | _, _, _ => reNone
  | .delete => match argTypes[0]?, args[0]?, args[1]? with
    | some t, some m, some k => ⟨fun _ a H K => aSt (adelete E H t ((rv m).f a) ((rv k).f a)) (fun _ H => K (.tuple #[]) H)⟩
    | _, _, _ => reNone
  | .recover => ⟨fun _ a H K => if a.rnd then False else K .nilIface H⟩
  | .unsafeString => match argTypes[0]?, args.toList with
    | some pt, [p, n] => ⟨fun _ a H K => aVs (astring E H pt ((rv p).f a) ((rv n).f a)) K⟩
    | _, _ => reNone
  | _ => reNone

def acallV (rec : Code → AAct → AHeap → CK → Prop) (f : Value) (args : List Value) (H : AHeap) (K : VK) : Prop :=
  match f with
  | .func (.func f) first captured =>
    (fun all : List Value => bif E.idf f then (match all with | [x] => K x H | _ => False) else acall E rec f all H K) (first.toList ++ args ++ captured.toList)
  | .func (.yield l) _ _ => around rec l args H K
  | _ => False

/-- The operations that write, or call. -/
def reff (op : Op) : RE :=
  match op with
  | .store t x v => ⟨fun _ a H K => aSt ((astore E t).f H ((rv x).f a) ((rv v).f a)) K⟩
  | .mapUpdate t m k v | .insert t m k v => ⟨fun _ a H K => aSt (amapUpdate E H t ((rv m).f a) ((rv k).f a) ((rv v).f a)) K⟩
  | .mapEntry t m k => ⟨fun _ a H K => aVs (amapEntry E H t ((rv m).f a) ((rv k).f a)) K⟩
  | .entryStore _ m s v => ⟨fun _ a H K => aSt (aentryStore H ((rv m).f a) ((rv s).f a) ((rv v).f a)) K⟩
  | .convert s d x => ⟨fun _ a H K => aconvBytes E s d (rv x) a H K⟩
  | .range t x => ⟨fun _ a H K => arange E t (rv x) a H K⟩
  | .next it isString => match isString with
    | false => ⟨fun _ a H K => anext (rv it) a H K⟩
    | true => reNone
  | .call c => match c.callee with
    | .builtin b => acallB E b c.args c.argTypes
    | .value f => match f with
      | .func g => bif E.idf g then (match c.args.toList with | [x] => ⟨fun _ a H K => K ((rv x).f a) H⟩ | _ => reNone)
          else ⟨fun rec a H K => acall E rec g (c.args.toList.map (ev a)) H K⟩
      | f => ⟨fun rec a H K => acallV E rec ((rv f).f a) (c.args.toList.map (ev a)) H K⟩
    | _ => reNone
  | _ => reNone

/-- An operation that was read ahead of another one, and might be read behind it: read again. -/
structure Pend where
  i : Nat
  o : Oper
  a : AAct
  v : Value

def recheck (before : Nat) (H : AHeap) : List Pend → Bool
  | [] => true
  | p :: ps => bif before.testBit p.i then recheck before H ps else
    match pread E p.a H p.o with
    | some v => bif same v p.v then recheck before H ps else false
    | none => false

/-- What carries an operation out: the pending reads, the frame, the heap. -/
structure RO where
  f : (Code → AAct → AHeap → CK → Prop) → List Pend → AAct → AHeap → (List Pend → AAct → AHeap → Prop) → Prop

def adefer (c : Call) (dst : Option Tmp) (a : AAct) (K : AAct → Prop) : Prop :=
  match c.callee with
  | .value f => match ev a f with
    | .func (.func g) first captured => if a.rnd then False else K ({ a with ds := { target := .fn (.func g) captured, args := first ++ c.args.map (ev a) } :: a.ds }.put dst undef)
    | _ => False
  | _ => False

structure RP where
  f : AAct → Value → AAct
/-- Where a result goes. -/
def rput (d : Option Tmp) : RP :=
  match d with
  | some d => ⟨fun a v => AAct.rec (motive := fun _ => AAct) (fun n t ds r => ⟨n, Bool.rec (motive := fun _ => T Value) t (t.set v (path d)) (Nat.blt d n), ds, r⟩) a⟩
  | none => ⟨fun a _ => a⟩

/-- An operation, made ready. -/
def rop (i : Nat) (o : Oper) (draw : Bool) (before : Nat) : RO :=
  match cls E o with
  | .read => bif draw then
      ⟨fun _ ps a H K => Option.rec (motive := fun _ => Prop) False (fun v => K ({ i, o, a, v } :: ps) ((rput o.dst).f a v) H) ((rread E o.op).f a H)⟩
    else
      ⟨fun _ ps a H K => Option.rec (motive := fun _ => Prop) False (fun v => K ps ((rput o.dst).f a v) H) ((rread E o.op).f a H)⟩
  | .make => bif draw then
      ⟨fun _ ps a H K => match (rmake E o.op).f a H with
        | some p => cond (recheck E 0 (H.new p.2) ps) (K ps ((rput o.dst).f a p.1) (H.new p.2)) False
        | none => False⟩
    else
      ⟨fun _ ps a H K => match (rmake E o.op).f a H with
        | some p => K ps ((rput o.dst).f a p.1) (H.new p.2)
        | none => False⟩
  | .eff => bif draw then
      ⟨fun rec ps a H K => (reff E o.op).f rec a H fun v H => cond (recheck E before H ps) (K ps ((rput o.dst).f a v) H) False⟩
    else
      ⟨fun rec ps a H K => (reff E o.op).f rec a H fun v H => K ps ((rput o.dst).f a v) H⟩
  | .defer => match o.op with
      | .defer c => ⟨fun _ ps a H K => adefer c o.dst a fun a => K ps a H⟩
      | _ => ⟨fun _ _ _ _ _ => False⟩

/-- What says whether an operation is wanted. -/
def rwant (ops : Array Oper) (j : Nat) : RV :=
  match ops[j]? with
  | some p => match p.dst with
    | some d => rv (.tmp d)
    | none => ⟨fun _ => undef⟩
  | none => ⟨fun _ => undef⟩

def ropG (ops : Array Oper) (i : Nat) (o : Oper) (draw : Bool) (before : Nat) : RO :=
  match o.guard with
  | none => rop E i o draw before
  | some (j, want) => (fun (g : RV) (r : RO) => ⟨fun rec ps a H K => match g.f a with
      | .bool b => cond (cond want b (!b)) (r.f rec ps a H K) (K ps ((rput o.dst).f a undef) H)
      | .tuple _ => K ps ((rput o.dst).f a undef) H
      | _ => False⟩) (rwant ops j) (rop E i o draw before)

structure ROs where
  l : List RO

def aops (l : List RO) : List Pend → AAct → AHeap → CK → Prop :=
  List.rec (motive := fun _ => List Pend → AAct → AHeap → CK → Prop) (fun _ a H K => K .normal a H)
    (fun r _ ih ps a H K => r.f rec ps a H fun ps a H => ih ps a H K) l

/-- Which operations stand ahead of one in every order: the edges, the later ones first, each but once. -/
def edgeBits (acc : T Nat) (s : Nat) (l : List Edge) : Nat :=
  List.rec (motive := fun _ => Nat → Nat) (fun s => s)
    (fun e _ ih s => bif Region.binds .any e then
        (bif Nat.testBit s e.on then ih s else ih (Nat.lor (Nat.lor s (Nat.shiftLeft 1 e.on)) ((acc.get (path e.on)).getD 0)))
      else ih s) l s

structure Bef where
  t : T Nat

def befF : List (Nat × Oper) → T Nat → T Nat
  | [], acc => acc
  | (j, o) :: l, acc => befF l (acc.set (edgeBits acc 0 o.after.toList.reverse) (path j))

def opsL (ops : Array Oper) : List (Nat × Oper) := ops.toList.zipIdx.map fun (o, i) => (i, o)

def bef (ops : Array Oper) : Bef := ⟨befF (opsL ops) .leaf⟩
def Bef.at (b : Bef) (j : Nat) : Nat := (b.t.get (path j)).getD 0

/-- Reads as early as they may be. -/
def asap (b : Bef) : List (Nat × Oper) → List (Nat × Oper) → List (Nat × Oper)
  | [], all => all
  | e :: es, all =>
    let p := all.partition fun j => !(cls E j.2).isEff && !(b.at j.1).testBit e.1
    p.1 ++ (e :: asap b es (p.2.filter fun j => !Nat.beq j.1 e.1))

def order (ops : Array Oper) : List (Nat × Oper) :=
  let all := opsL ops
  asap E (bef ops) (all.filter fun j => (cls E j.2).isEff) all

def namesOf (o : Oper) : List Tmp := o.dst.toList ++ o.op.operands.toList.filterMap fun | .tmp t => some t | _ => none

/-- The order that the evaluator takes keeps what is bound, and has all that hangs not on an effect ahead of it. -/
def ordOk (n : Nat) (b : Bef) (l : List (Nat × Oper)) : Nat → Bool :=
  List.rec (motive := fun _ => Nat → Bool) (fun s => Nat.beq s (2 ^ n - 1))
    (fun q l ih s => !s.testBit q.1 && (Nat.beq (Nat.land (b.at q.1) s) (b.at q.1) && ((!(cls E q.2).isEff || l.all fun r => (b.at r.1).testBit q.1) && ih (Nat.lor s (2 ^ q.1))))) l

/-- What a region that draws its order must be. -/
def drawOk (ops : Array Oper) : Bool :=
  let b := bef ops
  let l := opsL ops
  ordOk E ops.size b (order E ops) 0 &&
  l.all fun (j, o) =>
    (match cls E o with | .defer => false | _ => true) &&
    (o.after.toList.all fun e => !Region.binds .any e || Nat.blt e.on j) &&
    (match o.guard with
     | none => true
     | some (g, _) => (b.at j).testBit g && match (ops[g]?).bind (·.dst) with
       | none => false
       | some _ => true) &&
    (l.all fun (i, p) => Nat.beq i j ||
      (match o.dst, p.dst with | some d, some e => !Nat.beq d e | _, _ => true) &&
      ((b.at j).testBit i || (b.at i).testBit j ||
       (match p.dst with | some d => !(namesOf o).contains d | none => true)))

def region (ops : Array Oper) (draw : Bool) : ROs :=
  bif draw then ⟨(order E ops).map fun (i, o) => ropG E ops i o true ((bef ops).at i)⟩
  else ⟨(opsL ops).map fun (i, o) => ropG E ops i o false 0⟩

/-- Code in whose labels a goto may end. -/
def ascope (body : Code) : Nat → Code → AAct → AHeap → CK → Prop
  | 0, _, _, _, _ => False
  | n + 1, c, a, H, K => rec c a H fun e a H => match e with
    | .goto l => match findLabel body l with
      | some rest => ascope body n rest a H K
      | none => K (.goto l) a H
    | e => K e a H

def arangeFunc (f : Operand) (params : Array Tmp) (assign body : Code) (a : AAct) (H : AHeap) (K : CK) : Prop :=
  if a.rnd then False else
  let H := H.new (.deferred (some []))
  let d := H.next - 1
  let l := H.next
  let tm : Array Value := (Array.range a.n).map a.tmp
  let H := H.new (.loop { state := .ready, pending := none, fn := 0, tmps := tm, params, assign, body, defers := d })
  let a := { a with ds := { target := .collected d, args := #[] } :: a.ds }
  match ev a f with
  | .func (.func g) first captured =>
    acall E rec g ((first ++ #[Value.func (.yield l) #[] #[]]) ++ captured).toList H fun _ H =>
      match H.get l with
      | some (.loop r) =>
        if r.state = .busy then False else
        let H := H.set l (.loop { r with state := .exhausted })
        match r.pending with
        | none => K .normal a H
        | some c => rec c a H K
      | _ => False
  | _ => False

def kSeq (y : AAct → AHeap → Prop) (K : CK) : CK := fun e a H => match e with
  | .normal => y a H
  | .exit i => K (.exit i) a H
  | .goto l => K (.goto l) a H
  | .ret => K .ret a H
def kBlock (id : Nat) (K : CK) : CK := fun e a H => match e with
  | .normal => K .normal a H
  | .exit i => bif Nat.beq i id then K .normal a H else K (.exit i) a H
  | .goto l => K (.goto l) a H
  | .ret => K .ret a H

structure RC where
  f : (Code → AAct → AHeap → CK → Prop) → AAct → AHeap → CK → Prop

/-- Code, made ready. -/
def rcode (c : Code) : RC :=
  match c with
  | .skip => ⟨fun _ a H K => K .normal a H⟩
  | .label _ => ⟨fun _ a H K => K .normal a H⟩
  | .seq x y => ⟨fun rec a H K => rec x a H (kSeq (fun a H => rec y a H K) K)⟩
  | .cond c x y => ⟨fun rec a H K => match (rv c).f a with
    | .bool b => cond b (rec x a H K) (rec y a H K)
    | _ => False⟩
  | .block id x => ⟨fun rec a H K => rec x a H (kBlock id K)⟩
  | .loop x => ⟨fun rec a H K => rec x a H (kSeq (fun a H => rec (.loop x) a H K) K)⟩
  | .exit i => ⟨fun _ a H K => K (.exit i) a H⟩
  | .goto l => ⟨fun _ a H K => K (.goto l) a H⟩
  | .ret => ⟨fun _ a H K => K .ret a H⟩
  | .region _ ops draw => bif !draw || drawOk E ops then ⟨fun rec a H K => aops rec (region E ops draw).l [] a H K⟩ else ⟨fun _ _ _ _ => False⟩
  | .rangeFunc f params assign body => ⟨fun rec a H K => arangeFunc E rec f params assign body a H K⟩
  | .scope x => ⟨fun rec a H K => ascope rec x 10000 x a H K⟩
  | .refuse _ => ⟨fun _ _ _ _ => False⟩
end step

def aw (n : Nat) : Code → AAct → AHeap → CK → Prop :=
  Nat.rec (motive := fun _ => Code → AAct → AHeap → CK → Prop) (fun _ _ _ _ => False)
    (fun _ ih c => (rcode E c).f ih) n

end Go.Ai
