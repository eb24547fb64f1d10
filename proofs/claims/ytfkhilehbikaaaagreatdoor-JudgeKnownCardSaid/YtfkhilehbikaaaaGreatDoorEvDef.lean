/-
  The evaluator's own heap, values and operations. No condition.
-/
import Derived.Test.YtfkhilehbikaaaaGreatDoorEvT
set_option linter.all false
noncomputable section
namespace Go.Ev

/-- the capacity of a slice: known, or what its block has, less k -/
inductive Cap where
  | known (c : Nat)
  | rest (k : Nat)
  deriving Inhabited

inductive AVal where
  | bool (b : Bool)
  | int (k : IntKind) (n : Int)
  | str (l : List Nat)
  | ptr0
  | ptr (id off : Nat)
  | slice0
  | slice (id off len : Nat) (cap : Cap)
  | map0
  | map (id : Nat)
  | func (fn : Fn) (first captured : List AVal)
  | nilFunc
  | iface (t : TypeId) (v : AVal)
  | nilIface
  | agg (t : T AVal)
  | tuple (l : List AVal)
  | poison
  deriving Inhabited

inductive ADef where
  | call (fn : Fn) (captured args : List AVal)
  | collected (id : Nat)
  deriving Inhabited

structure AEntry where
  key : AVal
  val : AVal
  born : Nat
  deriving Inhabited

structure ALoop where
  state : LoopState
  pending : Option Code
  fn : FuncId
  tm : T AVal
  params : Array Tmp
  assign : Code
  body : Code
  defers : Nat
  deriving Inhabited

inductive ABlk where
  | dead
  | cells (c : T AVal) (n : Nat) (exact rw : Bool) (elem : TypeId)
  | map (es : List AEntry) (clock : Nat)
  | strIter (s : List Nat) (pos : Nat)
  | mapIter (m : Option Nat) (since : Nat) (seen : List Nat) (stepped : Nat)
  | loop (l : ALoop)
  | deferred (calls : Option (List ADef))
  deriving Inhabited

abbrev H := T ABlk

def undefA : AVal := .tuple []
def F (_ : String) : Bool := false

/-- a list, element by element -/
def mapK {α γ β : Type} (f : α → (γ → β) → β) : List α → (List γ → β) → β
  | [], k => k []
  | a :: l, k => f a fun c => mapK f l fun cs => k (c :: cs)

/-! Constants of the program -/
def mapO {α γ : Type} (f : α → Option γ) : List α → Option (List γ)
  | [] => some []
  | a :: l => match f a with
    | none => none
    | some b => match mapO f l with
      | none => none
      | some bs => some (b :: bs)
def absS : Value → Option AVal
  | .bool b => some (.bool b)
  | .int k n => some (.int k n)
  | .string s => some (.str (s.data.toList.map UInt8.toNat))
  | .pointer none => some .ptr0
  | .slice none 0 0 => some .slice0
  | .map none => some .map0
  | .func (.func f) ⟨[]⟩ ⟨[]⟩ => some (.func (.func f) [] [])
  | .nilFunc => some .nilFunc
  | .nilIface => some .nilIface
  | _ => none
def absV : Value → Option AVal
  | .agg cs => match mapO absS cs.toList with
    | some l => some (.agg (pushListK l .nil 0 id))
    | none => none
  | .tuple cs => match mapO absS cs.toList with
    | some l => some (.tuple l)
    | none => none
  | .iface t v => match absS v with
    | some x => some (.iface t x)
    | none => none
  | v => absS v

/-! What the program's tables say (closed terms: the kernel works each out once) -/
inductive Lay where
  | one
  | agg (n : Nat)
  | bad
def layOf (P : Program) (t : TypeId) : Lay :=
  match P.underlying t, P.info? t with
  | some (.struct _), some i => forceN i.size fun n => .agg n
  | some (.array _ _), some i => forceN i.size fun n => .agg n
  | some _, some i => bif Nat.beq i.size 1 then .one else .bad
  | _, _ => .bad
def sizeP (P : Program) (t : TypeId) : Nat := match P.info? t with | some i => forceN i.size fun n => n | none => 0
/-- the size of a type whose values have cells -/
def szO (P : Program) (t : TypeId) : Option Nat := match P.info? t with
  | some i => forceN i.size fun n => bif Nat.beq n 0 then none else some n
  | none => none
def szK {β : Type} (P : Program) (d : String → β) (t : TypeId) (k : Nat → β) : β := match szO P t with
  | some n => k n
  | none => d "size"
def zeroP (P : Program) (t : TypeId) : Option AVal := match (P.info? t).bind (·.zero) with | some v => absV v | none => none
def fieldP (P : Program) (s : TypeId) (f : Nat) : Option (Nat × TypeId) :=
  match P.underlying s with
  | some (.struct fields) => match fields[f]? with
    | some fl => forceN fl.offset fun o => some (o, fl.type)
    | none => none
  | _ => none

def evK {β : Type} (P : Program) (tm : T AVal) (d : String → β) (x : Operand) (k : AVal → β) : β :=
  match x with
  | .tmp t => tm.getK (d "evK: no tmp") k t
  | .const v => match absV v with
    | some a => k a
    | none => d "evK: constant"
  | .global g => bif Nat.ble (Nat.succ g) P.globals.size then k (.ptr g 0) else d "evK: global"
  | .func f => k (.func (.func f) [] [])

def intK {β : Type} (n : Int) (k : Int → β) : β :=
  match n with
  | .ofNat m => forceN m fun m => k (.ofNat m)
  | .negSucc m => forceN m fun m => k (.negSucc m)

def newK {β : Type} (h : H) (nx : Nat) (b : ABlk) (k : AVal → H → Nat → β) : β :=
  h.pushK b nx fun h' => forceN (Nat.succ nx) fun nx' => k (.ptr nx 0) h' nx'

/-- the cells of a value -/
def cellsK {β : Type} (v : AVal) (k : List AVal → β) : β :=
  match v with
  | .agg t => t.lenK 0 fun n => t.colK 0 n [] k
  | v => k [v]

def isCellA : AVal → Bool
  | .agg _ | .tuple _ | .poison => false
  | _ => true

/-- the tree of a value that goes into a block of its own -/
def treeO : AVal → Option (T AVal)
  | .agg t => some t
  | .tuple _ => none
  | .poison => none
  | v => some (.leaf v)

/-- the cells off .. off+n of a tree of n' cells, as a tree -/
def subK {β : Type} (c : T AVal) (n' off n : Nat) (k : T AVal → β) : β :=
  bif Nat.beq off 0 && Nat.beq n n' then k c else c.colK off n [] fun l => pushListK l .nil 0 k

/-- one part of a value: a field, an element -/
def partK {β : Type} (P : Program) (d : String → β) (t : TypeId) (c : T AVal) (off : Nat) (k : AVal → β) : β :=
  match layOf P t with
  | .agg n => c.lenK 0 fun m => bif Nat.ble (Nat.add off n) m then subK c m off n fun s => k (.agg s) else d "part: range"
  | .one => c.getK (d "part: none") k off
  | .bad => d "part: layout"

def loadK {β : Type} (P : Program) (d : String → β) (h : H) (t : TypeId) (id off : Nat) (k : AVal → β) : β :=
  h.getK (d "load: no block") (fun b => match b with
    | .cells c n _ _ _ => match layOf P t with
      | .agg m => bif Nat.ble (Nat.add off m) n then subK c n off m fun s => k (.agg s) else d "load: range"
      | .one => c.getK (d "load: no cell") (fun v => match v with | .poison => d "load: poison" | v => k v) off
      | .bad => d "load: layout"
    | .dead => d "load: dead block"
    | _ => d "load: no cells") id

/-- cells into a block that may be written -/
def putCellsK {β : Type} (d : String → β) (h : H) (id off : Nat) (l : List AVal) (k : H → β) : β :=
  h.getK (d "store: no block") (fun b => match b with
    | .cells c n ex rw e => match rw with
      | true => setListK (d "store: no cell") l c off fun c' => h.setK (.cells c' n ex true e) (d "store: set") id k
      | false => d "store: a block that is not written"
    | .dead => d "store: dead block"
    | _ => d "store: no cells") id

/-- all the cells of a value into a block: where they are the whole block, the tree takes its place -/
def putAggK {β : Type} (d : String → β) (h : H) (id off m : Nat) (s : T AVal) (k : H → β) : β :=
  h.getK (d "store: no block") (fun b => match b with
    | .cells c n ex rw e => match rw with
      | true => s.lenK 0 fun n' => bif Nat.beq n' m then
          (bif Nat.beq off 0 && Nat.beq n m then h.setK (.cells s n ex true e) (d "store: set") id k
            else s.colK 0 m [] fun l => setListK (d "store: no cell") l c off fun c' => h.setK (.cells c' n ex true e) (d "store: set") id k)
          else d "store: size"
      | false => d "store: a block that is not written"
    | .dead => d "store: dead block"
    | _ => d "store: no cells") id
def storeK {β : Type} (P : Program) (d : String → β) (h : H) (t : TypeId) (id off : Nat) (v : AVal) (k : H → β) : β :=
  match layOf P t with
  | .agg m => match v with
    | .agg s => putAggK d h id off m s k
    | _ => d "store: agg expected"
  | .one => match isCellA v with
    | true => putCellsK d h id off [v] k
    | false => d "store: a cell expected"
  | .bad => d "store: layout"

/-! Numbers -/
def fits (k : IntKind) (n : Nat) : Bool := match k with
  | .i64 => Nat.ble n 9223372036854775807
  | .u64 => Nat.ble n 18446744073709551615
  | .u8 => Nat.ble n 255
  | .i32 => Nat.ble n 2147483647
  | .u32 => Nat.ble n 4294967295
  | .i8 => Nat.ble n 127
  | .i16 => Nat.ble n 32767
  | .u16 => Nat.ble n 65535
def wrapFast (k : IntKind) (n : Int) : Int := match n with
  | .ofNat m => bif fits k m then .ofNat m else k.wrap n
  | n => k.wrap n
def addI (a b : Int) : Int := match a, b with
  | .ofNat x, .ofNat y => .ofNat (Nat.add x y)
  | a, b => a + b
def subI (a b : Int) : Int := match a, b with
  | .ofNat x, .ofNat y => bif Nat.ble y x then .ofNat (Nat.sub x y) else .negSucc (Nat.pred (Nat.sub y x))
  | a, b => a - b
def mulI (a b : Int) : Int := match a, b with
  | .ofNat x, .ofNat y => .ofNat (Nat.mul x y)
  | a, b => a * b
def ltI (a b : Int) : Bool := match a, b with
  | .ofNat x, .ofNat y => Nat.ble (Nat.succ x) y
  | .ofNat _, .negSucc _ => false
  | .negSucc _, .ofNat _ => true
  | .negSucc x, .negSucc y => Nat.ble (Nat.succ y) x
def eqI (a b : Int) : Bool := match a, b with
  | .ofNat x, .ofNat y => Nat.beq x y
  | .negSucc x, .negSucc y => Nat.beq x y
  | _, _ => false
def bitsN (op : BinOp) (k : IntKind) (x y : Nat) : Option Nat := match op with
  | .and => some (Nat.land x y)
  | .or => some (Nat.lor x y)
  | .xor => some (Nat.xor x y)
  | .andNot => some (Nat.xor x (Nat.land x y))
  | _ => none
def beqK (a b : IntKind) : Bool := match a, b with
  | .i8, .i8 | .i16, .i16 | .i32, .i32 | .i64, .i64 | .u8, .u8 | .u16, .u16 | .u32, .u32 | .u64, .u64 => true
  | _, _ => false
def intOpK {β : Type} (d : String → β) (op : BinOp) (kd : IntKind) (a b : Int) (k : AVal → β) : β :=
  match op with
  | .add => intK (wrapFast kd (addI a b)) fun n => k (.int kd n)
  | .sub => intK (wrapFast kd (subI a b)) fun n => k (.int kd n)
  | .mul => intK (wrapFast kd (mulI a b)) fun n => k (.int kd n)
  | .lss => k (.bool (ltI a b))
  | .gtr => k (.bool (ltI b a))
  | .leq => k (.bool (not (ltI b a)))
  | .geq => k (.bool (not (ltI a b)))
  | .eql => k (.bool (eqI a b))
  | .neq => k (.bool (not (eqI a b)))
  | .quo => match a, b with
    | .ofNat x, .ofNat y => bif Nat.beq y 0 then d "division by zero" else bif fits kd x then forceN (Nat.div x y) fun n => k (.int kd (.ofNat n)) else d "quo"
    | _, _ => d "quo: negative"
  | .rem => match a, b with
    | .ofNat x, .ofNat y => bif Nat.beq y 0 then d "division by zero" else forceN (Nat.mod x y) fun n => k (.int kd (.ofNat n))
    | _, _ => d "rem: negative"
  | op => match a, b with
    | .ofNat x, .ofNat y => bif fits kd x && fits kd y then (match bitsN op kd x y with
        | some n => forceN n fun n => k (.int kd (.ofNat n))
        | none => d "intOp") else d "bits: range"
    | _, _ => d "bits: negative"
def shiftK {β : Type} (d : String → β) (op : BinOp) (kd : IntKind) (a b : Int) (k : AVal → β) : β :=
  match a, b with
  | .ofNat x, .ofNat y => bif Nat.ble y kd.bits then (match op with
      | .shl => intK (wrapFast kd (.ofNat (Nat.mul x (Nat.pow 2 y)))) fun n => k (.int kd n)
      | .shr => forceN (Nat.div x (Nat.pow 2 y)) fun n => k (.int kd (.ofNat n))
      | _ => d "shift") else d "shift: far"
  | _, _ => d "shift: negative"

def eqL : List Nat → List Nat → Bool
  | [], [] => true
  | a :: x, b :: y => bif Nat.beq a b then eqL x y else false
  | _, _ => false
def ltL : List Nat → List Nat → Bool
  | _, [] => false
  | [], _ :: _ => true
  | a :: x, b :: y => bif Nat.ble (Nat.succ a) b then true else bif Nat.beq a b then ltL x y else false
def appL : List Nat → List Nat → List Nat
  | [], y => y
  | a :: x, y => a :: appL x y
/-- equality of two cells that hold numbers, bools, texts, pointers into one block -/
def eqCell : AVal → AVal → Option Bool
  | .bool a, .bool b => some (a == b)
  | .int k a, .int k' b => bif beqK k k' then some (eqI a b) else none
  | .str a, .str b => some (eqL a b)
  | _, _ => none
/-- equality by the type, over the cells of two values -/
def eqT (P : Program) : Nat → TypeId → List AVal → List AVal → Option Bool
  | 0, _, _, _ => none
  | n + 1, t, x, y => match P.underlying t with
    | some (.struct fs) => bif P.stoodInHeld t then none else eqFs (eqT P n) (fun t => sizeP P t) x y fs.toList
    | some (.array m e) => bif Nat.beq m 0 then none else eqEs (eqT P n e) (sizeP P e) x y m 0
    | some .bool => match x, y with
      | [.bool a], [.bool b] => some (a == b)
      | _, _ => none
    | some (.int _) => match x, y with
      | [.int k a], [.int k' b] => bif beqK k k' then some (eqI a b) else none
      | _, _ => none
    | some .string => match x, y with
      | [.str a], [.str b] => some (eqL a b)
      | _, _ => none
    | _ => none
where
  eqFs (eq : TypeId → List AVal → List AVal → Option Bool) (sz : TypeId → Nat) (x y : List AVal) : List Field → Option Bool
    | [] => some true
    | f :: fs => bif f.name == "_" then eqFs eq sz x y fs else match eq f.type ((x.drop f.offset).take (sz f.type)) ((y.drop f.offset).take (sz f.type)) with
      | some true => eqFs eq sz x y fs
      | r => r
  eqEs (eq : List AVal → List AVal → Option Bool) (sz : Nat) (x y : List AVal) : Nat → Nat → Option Bool
    | 0, _ => some true
    | m + 1, i => match eq ((x.drop (i * sz)).take sz) ((y.drop (i * sz)).take sz) with
      | some true => eqEs eq sz x y m (i + 1)
      | r => r
def isConstNil : Operand → Bool
  | .const .nilIface => true
  | _ => false
/-- the kind of type that == looks at -/
def tagOf (P : Program) (t : TypeId) : Nat := match P.underlying t with
  | some .bool => 1
  | some (.pointer _) => 2
  | some (.slice _) => 3
  | some (.map _ _) => 4
  | some (.func _ _ _) => 5
  | some (.interface _) => 6
  | _ => 0
def ptrSz (P : Program) (t : TypeId) : Nat := match P.underlying t with
  | some (.pointer e) => sizeP P e
  | _ => 0
def eqK {β : Type} (P : Program) (d : String → β) (t : TypeId) (xc yc : Bool) (x y : AVal) (k : Bool → β) : β :=
  match x, y with
  | .bool a, .bool b => bif Nat.beq (tagOf P t) 1 then k (a == b) else d "==: type"
  | .ptr0, .ptr0 => bif Nat.beq (tagOf P t) 2 then k true else d "==: type"
  | .ptr0, .ptr _ _ => bif Nat.beq (tagOf P t) 2 then k false else d "==: type"
  | .ptr _ _, .ptr0 => bif Nat.beq (tagOf P t) 2 then k false else d "==: type"
  | .ptr i o, .ptr j p => bif Nat.beq i j then (bif Nat.beq (ptrSz P t) 0 then d "==: type" else k (Nat.beq o p)) else d "==: two blocks"
  | .slice0, .slice0 => bif Nat.beq (tagOf P t) 3 then k true else d "==: type"
  | .slice0, .slice .. => bif Nat.beq (tagOf P t) 3 then k false else d "==: type"
  | .slice .., .slice0 => bif Nat.beq (tagOf P t) 3 then k false else d "==: type"
  | .map0, .map0 => bif Nat.beq (tagOf P t) 4 then k true else d "==: type"
  | .map0, .map _ => bif Nat.beq (tagOf P t) 4 then k false else d "==: type"
  | .map _, .map0 => bif Nat.beq (tagOf P t) 4 then k false else d "==: type"
  | .nilFunc, .nilFunc => bif Nat.beq (tagOf P t) 5 then k true else d "==: type"
  | .nilFunc, .func .. => bif Nat.beq (tagOf P t) 5 then k false else d "==: type"
  | .func .., .nilFunc => bif Nat.beq (tagOf P t) 5 then k false else d "==: type"
  | .nilIface, .nilIface => bif Nat.beq (tagOf P t) 6 && (xc || yc) then k true else d "==: two nil interfaces"
  | .nilIface, .iface .. => bif Nat.beq (tagOf P t) 6 then k false else d "==: type"
  | .iface .., .nilIface => bif Nat.beq (tagOf P t) 6 then k false else d "==: type"
  | .agg a, .agg b => bif P.eqGuardType P.depth t then d "==: guard" else
      (a.lenK 0 fun n => a.colK 0 n [] fun l => b.lenK 0 fun m => b.colK 0 m [] fun l' => match eqT P 20 t l l' with
        | some r => (match P.underlying t with
          | some (.struct _) => k r
          | some (.array _ _) => k r
          | _ => d "==: type")
        | none => d "==: cells")
  | _, _ => d "==: not served"
def binK {β : Type} (P : Program) (d : String → β) (op : BinOp) (t : TypeId) (xc yc : Bool) (x y : AVal) (k : AVal → β) : β :=
  match x, y with
  | .int ka a, .int kb b => match op with
    | .shl => shiftK d .shl ka a b k
    | .shr => shiftK d .shr ka a b k
    | op => bif beqK ka kb then intOpK d op ka a b k else d "binOp: kinds"
  | .str a, .str b => match op with
    | .add => lengthK (appL a b) 0 fun n => bif Nat.ble n 9223372036854775807 then k (.str (appL a b)) else d "binOp: a long text"
    | .eql => k (.bool (eqL a b))
    | .neq => k (.bool (not (eqL a b)))
    | .lss => k (.bool (ltL a b))
    | .leq => k (.bool (not (ltL b a)))
    | .gtr => k (.bool (ltL b a))
    | .geq => k (.bool (not (ltL a b)))
    | _ => d "binOp: string"
  | x, y => match op with
    | .eql => eqK P d t xc yc x y fun b => k (.bool b)
    | .neq => eqK P d t xc yc x y fun b => k (.bool (not b))
    | _ => d "binOp: not served"
def unK {β : Type} (d : String → β) (op : UnOp) (x : AVal) (k : AVal → β) : β :=
  match op, x with
  | .not, .bool b => k (.bool (not b))
  | .neg, .int kd n => intK (wrapFast kd (subI (.ofNat 0) n)) fun n => k (.int kd n)
  | _, _ => d "unOp: not served"

/-! Maps -/
def aggTy (P : Program) (t : TypeId) : Bool := match P.underlying t with
  | some (.struct _) => true
  | some (.array _ _) => true
  | _ => false
/-- the cells of a key -/
def keyL (agg : Bool) (a : AVal) : Option (List AVal) := match agg, a with
  | true, .agg t => some (t.lenK 0 fun m => t.colK 0 m [] id)
  | true, _ => none
  | false, a => bif isCellA a then some [a] else none
/-- the entry of a key: its place, itself -/
def findK {β : Type} (P : Program) (d : String → β) (t : TypeId) (agg : Bool) (key : List AVal) (no : Unit → β) (yes : Nat → AEntry → β) : List AEntry → Nat → β
  | [], _ => no ()
  | e :: es, i => match keyL agg e.key with
    | none => d "map: a key"
    | some l => match eqT P 20 t key l with
      | some true => yes i e
      | some false => findK P d t agg key no yes es (Nat.succ i)
      | none => d "map: keys"
/-- the kinds of keys of m cells that are served -/
def keyOk (P : Program) : Nat → TypeId → Nat → Bool
  | 0, _, _ => false
  | n + 1, t, m => match P.underlying t with
    | some .bool => Nat.beq m 1
    | some (.int _) => Nat.beq m 1
    | some .string => Nat.beq m 1
    | some (.struct fs) => fs.toList.all fun f => f.name == "_" || (Nat.ble (Nat.add f.offset (sizeP P f.type)) m && keyOk P n f.type (sizeP P f.type))
    | some (.array len e) => Nat.ble (Nat.mul len (sizeP P e)) m && keyOk P n e (sizeP P e)
    | _ => false
def mapTy (P : Program) (t : TypeId) : Option (TypeId × TypeId) :=
  match P.underlying t with
  | some (.map k e) => bif keyOk P 20 k (sizeP P k) then some (k, e) else none
  | _ => none
def setVal (v : AVal) : List AEntry → Nat → List AEntry
  | [], _ => []
  | e :: es, i => bif Nat.beq i 0 then { e with val := v } :: es else e :: setVal v es (Nat.pred i)
/-- are two rows of numbers, bools and texts one? -/
def eqGs : List AVal → List AVal → Bool
  | [], [] => true
  | .int k a :: x, .int k' b :: y => bif beqK k k' && eqI a b then eqGs x y else false
  | .bool a :: x, .bool b :: y => bif a == b then eqGs x y else false
  | .str a :: x, .str b :: y => bif eqL a b then eqGs x y else false
  | _, _ => false
def pushL {α : Type} (a : α) : List α → List α
  | [] => [a]
  | b :: l => b :: pushL a l
def keyK {β : Type} (P : Program) (d : String → β) (kt : TypeId) (key : AVal) (k : List AVal → β) : β :=
  match keyL (aggTy P kt) key with
  | some l => lengthK l 0 fun m => bif Nat.beq m (sizeP P kt) then k l else d "key: size"
  | none => d "key"
def lookupK {β : Type} (P : Program) (d : String → β) (h : H) (t : TypeId) (x key : AVal) (ok : Bool) (k : AVal → β) : β :=
  match mapTy P t with
  | none => d "lookup: type"
  | some (kt, e) =>
    match zeroP P e with
    | none => d "lookup: zero"
    | some z => keyK P d kt key fun l => match x with
    | .map0 => k (bif ok then .tuple [z, .bool false] else z)
    | .map id => h.getK (d "lookup: no block") (fun b => match b with
      | .map es _ => findK P d kt (aggTy P kt) l (fun _ => k (bif ok then .tuple [z, .bool false] else z)) (fun _ e => k (bif ok then .tuple [e.val, .bool true] else e.val)) es 0
      | _ => d "lookup: no map") id
    | _ => d "lookup: map expected"
def mapSetK {β : Type} (P : Program) (d : String → β) (h : H) (t : TypeId) (x key v : AVal) (k : H → β) : β :=
  match mapTy P t with
  | none => d "mapUpdate: type"
  | some (kt, _) =>
    match x with
    | .map id => keyK P d kt key fun l => h.getK (d "mapUpdate: no block") (fun b => match b with
      | .map es clock => findK P d kt (aggTy P kt) l
          (fun _ => forceN (Nat.succ clock) fun c => h.setK (.map (pushL ⟨key, v, clock⟩ es) c) (d "mapUpdate: set") id k)
          (fun i e => match keyL (aggTy P kt) e.key with
            | some l' => bif eqGs l l' then h.setK (.map (setVal v es i) clock) (d "mapUpdate: set") id k else d "mapUpdate: two keys"
            | none => d "mapUpdate: a key") es 0
      | _ => d "mapUpdate: no map") id
    | _ => d "mapUpdate: map expected"
/-! Slices -/
def capNat {β : Type} (d : String → β) (c : Cap) (k : Nat → β) : β := match c with
  | .known n => k n
  | .rest _ => d "a capacity that is not known"
/-- a bound: 0 ≤ i ≤ y, or more than what is known -/
def boundK {β : Type} (P : Program) (tm : T AVal) (d : String → β) (x : Option Operand) (dflt : Nat) (k : Nat → β) : β :=
  match x with
  | none => k dflt
  | some x => evK P tm d x fun v => match v with
    | .int _ (.ofNat n) => k n
    | _ => d "slice: bound"
def sliceK {β : Type} (P : Program) (tm : T AVal) (d : String → β) (h : H) (t : TypeId) (x : AVal) (lo hi mx : Option Operand) (k : AVal → β) : β :=
  match x with
  | .str s => match P.underlying t with
    | some .string => lengthK s 0 fun n => boundK P tm d hi n fun hN => boundK P tm d lo 0 fun l =>
      bif Nat.ble l hN && Nat.ble hN n then (match mx with
        | none => k (.str ((s.drop l).take (Nat.sub hN l)))
        | some _ => d "slice: string") else d "slice: string bounds"
    | _ => d "slice: type"
  | .slice0 => match P.underlying t with
    | some (.slice e) => szK P d e fun _ => boundK P tm d mx 0 fun m => boundK P tm d hi 0 fun hN => boundK P tm d lo 0 fun l =>
      bif Nat.beq l 0 && Nat.beq hN 0 && Nat.beq m 0 then k .slice0 else d "slice: nil bounds"
    | _ => d "slice: type"
  | .slice id off len cap => match P.underlying t with
    | some (.slice e) => szK P d e fun size =>
      (match cap with
      | .known c => boundK P tm d mx c fun m => boundK P tm d hi len fun hN => boundK P tm d lo 0 fun l =>
          bif Nat.ble m c && Nat.ble hN m && Nat.ble l hN then
            (bif Nat.beq m l then k (.slice id off 0 (.known 0))
             else forceN (Nat.add off (Nat.mul l size)) fun o => forceN (Nat.sub hN l) fun n => forceN (Nat.sub m l) fun c' => k (.slice id o n (.known c')))
          else d "slice: bounds"
      | .rest r => match mx with
        | none => boundK P tm d hi len fun hN => boundK P tm d lo 0 fun l =>
          bif Nat.ble hN len then (bif Nat.beq l 0 then k (.slice id off hN (.rest r)) else
            bif Nat.ble (Nat.succ l) len && Nat.ble l hN then h.getK (d "slice: no block") (fun b => match b with
              | .cells _ _ _ _ e' => bif Nat.beq size (sizeP P e') then
                forceN (Nat.add off (Nat.mul l size)) fun o => forceN (Nat.sub hN l) fun n => forceN (Nat.add r l) fun r' => k (.slice id o n (.rest r')) else d "slice: the element's size"
              | _ => d "slice: no cells") id
            else d "slice: bounds of an open capacity (1)")
          else d "slice: bounds of an open capacity"
        | some x => boundK P tm d (some x) 0 fun m => boundK P tm d hi len fun hN => boundK P tm d lo 0 fun l =>
          bif Nat.ble m len && Nat.ble hN m && Nat.ble l hN then
            (bif Nat.beq m l then k (.slice id off 0 (.known 0))
            else forceN (Nat.add off (Nat.mul l size)) fun o => forceN (Nat.sub hN l) fun n => forceN (Nat.sub m l) fun c' => k (.slice id o n (.known c')))
          else d "slice: bounds of an open capacity (3)")
    | _ => d "slice: type"
  | .ptr id off => match P.underlying t with
    | some (.array n e) => szK P d e fun size => boundK P tm d hi n fun hN => boundK P tm d lo 0 fun l => match mx with
      | none => bif Nat.ble hN n && Nat.ble l hN && Nat.ble (Nat.succ l) n then
          forceN (Nat.add off (Nat.mul l size)) fun o => forceN (Nat.sub hN l) fun m => forceN (Nat.sub n l) fun c' => k (.slice id o m (.known c'))
          else d "slice: array bounds"
      | some _ => d "slice: array, three"
    | _ => d "slice: a pointer"
  | _ => d "slice: not served"

/-- the cells that append or copy take -/
def srcK {β : Type} (d : String → β) (h : H) (size n : Nat) (x : AVal) (k : List AVal → β) : β :=
  match x with
  | .slice0 => k []
  | .slice id off _ _ => bif Nat.beq n 0 then k [] else h.getK (d "source: no block") (fun b => match b with
    | .cells c m _ _ _ => bif Nat.ble (Nat.add off (Nat.mul n size)) m then c.colK off (Nat.mul n size) [] k else d "source: range"
    | .dead => d "source: dead block"
    | _ => d "source: no cells") id
  | .str s => bif Nat.beq size 1 then k ((s.take n).map fun b => .int .u8 (.ofNat b)) else d "source: a text"
  | _ => d "source: not served"
def lenA {β : Type} (d : String → β) (x : AVal) (k : Nat → β) : β := match x with
  | .slice0 => k 0
  | .slice _ _ n _ => k n
  | .str s => lengthK s 0 k
  | _ => d "len: not served"
/-- a type of elements that append can grow by: its zero value has its size, it is not large -/
def growOk (P : Program) (e : TypeId) (size : Nat) : Bool := match P.info? e, zeroP P e with
  | some i, some z => Nat.ble i.bytes 1000000 && (match treeO z with
    | some t => t.lenK 0 fun m => Nat.beq m size
    | none => false)
  | _, _ => false
/-- the n cells from off on, and new ones behind them: a tree -/
def tailK {β : Type} (c : T AVal) (m off n : Nat) (new : List AVal) (k : T AVal → β) : β :=
  bif Nat.beq off 0 && Nat.beq n m then pushListK new c m k
  else c.colK off n [] fun old => pushListK old .nil 0 fun c0 => pushListK new c0 n k
def appendK {β : Type} (P : Program) (d : String → β) (h : H) (nx : Nat) (t : TypeId) (s x : AVal) (k : AVal → H → Nat → β) : β :=
  match P.underlying t with
  | some (.slice e) => szK P d e fun size => bif growOk P e size then lenA d x fun n => srcK d h size n x fun new =>
    (match s with
    | .slice0 => bif Nat.beq n 0 then k .slice0 h nx else bif Nat.ble n 1000000 then
        pushListK new .nil 0 fun c => forceN (Nat.mul n size) fun m => newK h nx (.cells c m false true e) fun _ h' nx' => k (.slice nx 0 n (.rest 0)) h' nx' else d "append: large"
    | .slice id off len cap => forceN (Nat.add len n) fun need => bif Nat.ble need 1000000 then
      (match cap with
      | .known c => bif Nat.ble need c then putCellsK d h id (Nat.add off (Nat.mul len size)) new fun h' => k (.slice id off need (.known c)) h' nx
          else srcK d h size len (.slice id off len cap) fun old => pushListK old .nil 0 fun c => pushListK new c (Nat.mul len size) fun c' =>
            forceN (Nat.mul need size) fun m => newK h nx (.cells c' m false true e) fun _ h' nx' => k (.slice nx 0 need (.rest 0)) h' nx'
      | .rest _ => bif Nat.beq n 0 then k s h nx else
        h.getK (d "append: no block") (fun b => match b with
        | .cells c m _ rw e' => (match rw with
          | true => bif Nat.beq e e' && Nat.ble (Nat.add off (Nat.mul len size)) m then
              tailK c m off (Nat.mul len size) new fun c' => forceN (Nat.mul need size) fun m' => h.setK .dead (d "append: set") id fun h1 => newK h1 nx (.cells c' m' false true e) fun _ h' nx' => k (.slice nx 0 need (.rest 0)) h' nx'
              else d "append: the element's type"
          | false => d "append: a block that is not written")
        | .dead => d "append: dead block"
        | _ => d "append: no cells") id) else d "append: large"
    | _ => d "append: slice expected") else d "append: growth"
  | _ => d "append: type"
def copyK {β : Type} (P : Program) (d : String → β) (h : H) (t : TypeId) (s x : AVal) (k : AVal → H → β) : β :=
  match P.underlying t with
  | some (.slice e) => szK P d e fun size => lenA d s fun m => lenA d x fun n => forceN (Nat.min n m) fun n => srcK d h size n x fun l =>
    (match s with
    | .slice0 => k (.int .i64 (.ofNat n)) h
    | .slice id off _ _ => putCellsK d h id off l fun h' => k (.int .i64 (.ofNat n)) h'
    | _ => d "copy: slice expected")
  | _ => d "copy: type"

def byteK {β : Type} (d : String → β) (v : AVal) (k : Nat → β) : β := match v with
  | .int .u8 (.ofNat b) => bif Nat.ble b 255 then k b else d "no byte"
  | _ => d "no byte"
def convertK {β : Type} (P : Program) (d : String → β) (h : H) (nx : Nat) (src dst : TypeId) (x : AVal) (k : AVal → H → Nat → β) : β :=
  match P.underlying src, P.underlying dst, x with
  | some (.int _), some (.int kd), .int _ n => intK (wrapFast kd n) fun n => k (.int kd n) h nx
  | some .string, some .string, .str s => k (.str s) h nx
  | some .string, some (.slice e), .str s => match P.underlying e with
    | some (.int .u8) => bif Nat.beq (sizeP P e) 1 then lengthK s 0 fun n => pushListK (s.map fun b => .int .u8 (.ofNat b)) .nil 0 fun c => newK h nx (.cells c n false true e) fun _ h' nx' => k (.slice nx 0 n (.rest 0)) h' nx' else d "convert: size"
    | _ => d "convert: string to a slice"
  | some (.slice e), some .string, .slice0 => match P.underlying e with
    | some (.int .u8) => k (.str []) h nx
    | _ => d "convert: slice to string"
  | some (.slice e), some .string, .slice id off n _ => match P.underlying e with
    | some (.int .u8) => srcK d h 1 n (.slice id off n (.known n)) fun l => mapK (byteK d) l fun s => k (.str s) h nx
    | _ => d "convert: slice to string"
  | some (.pointer t), some .unsafePointer, .ptr id off => bif Nat.beq (sizeP P t) 0 then d "convert: size 0" else h.getK (d "convert: no block") (fun b => match b with
      | .cells _ n _ _ _ => bif Nat.ble (Nat.succ off) n then k (.ptr id off) h nx else d "convert: off"
      | _ => d "convert: no cells") id
  | some .unsafePointer, some (.pointer u), .ptr id off => h.getK (d "convert: no block") (fun b => match b with
      | .cells _ n ex _ e => bif ex && liesAt P P.depth e (Nat.div n (P.cellsOf e)) off u 1 && not (Nat.beq (sizeP P u) 0) then k (.ptr id off) h nx else d "convert: pointer"
      | _ => d "convert: no cells") id
  | _, _, _ => d "convert: not served"

def infosOk (P : Program) (fs : Array Field) : Bool := fs.toList.all fun f => (P.info? f.type).isSome
/-- where part i lies, how many cells it has -/
def placeS (P : Program) (fs : Array Field) (i : Nat) : Option (Nat × Nat) := match fs[i]? with
  | some f => forceN f.offset fun o => forceN (sizeP P f.type) fun z => some (o, z)
  | none => none
def placeA (size i : Nat) : Option (Nat × Nat) := forceN (Nat.mul i size) fun o => some (o, size)
/-- parts put into cells -/
def fillK {β : Type} (P : Program) (tm : T AVal) (d : String → β) (place : Nat → Option (Nat × Nat)) (c : T AVal) (parts : List (Nat × Operand)) (kk : T AVal → β) : β := match parts with
    | [] => kk c
    | (i, x) :: rest => match place i with
      | some (off, size) => evK P tm d x fun v => match treeO v with
        | some t => t.lenK 0 fun n => bif Nat.beq n size && not (Nat.beq size 0) then t.colK 0 n [] fun l => setListK (d "fill") l c off fun c' => fillK P tm d place c' rest kk else d "fill: size"
        | none => d "fill: value"
      | none => d "fill: place"
/-- a row of n zero values of e -/
def rowK {β : Type} (P : Program) (d : String → β) (e : TypeId) (size n : Nat) (k : T AVal → β) : β := match zeroP P e with
  | none => d "row: zero"
  | some z => match treeO z with
    | none => d "row: zero"
    | some t => t.lenK 0 fun m => bif Nat.beq m size then t.colK 0 m [] fun z => pushListK (List.replicate n z).flatten .nil 0 k else d "row: size"

/-- the operations that are no call -/
def opK {β : Type} (P : Program) (tm : T AVal) (d : String → β) (h : H) (nx : Nat) (o : Op) (ty : TypeId) (k : AVal → H → Nat → β) : β :=
  match o with
  | .move x => evK P tm d x fun v => k v h nx
  | .assign x => evK P tm d x fun v => k v h nx
  | .pick c a b => evK P tm d c fun v => match v with
    | .bool true => evK P tm d a fun v => k v h nx
    | .bool false => evK P tm d b fun v => k v h nx
    | _ => d "pick: bool expected"
  | .alloc e => match zeroP P e with
    | none => d "alloc: zero"
    | some z => match treeO z with
      | none => d "alloc: zero"
      | some t => t.lenK 0 fun n => newK h nx (.cells t n true true e) k
  | .box e x => evK P tm d x fun v => match treeO v with
    | none => d "box: no cells"
    | some t => t.lenK 0 fun n => newK h nx (.cells t n true true e) k
  | .build t parts => match zeroP P t with
    | some (.agg z) => match P.underlying t with
      | some (.struct fs) => bif infosOk P fs then fillK P tm d (placeS P fs) z parts.toList fun c => k (.agg c) h nx else d "build: infos"
      | some (.array _ e) => szK P d e fun size => fillK P tm d (placeA size) z parts.toList fun c => k (.agg c) h nx
      | _ => d "build: type"
    | _ => d "build: zero"
  | .buildSlice t len parts => match P.underlying t with
    | some (.slice e) => szK P d e fun size => bif Nat.ble (Nat.mul len size) 16777216 then rowK P d e size len fun c0 => fillK P tm d (placeA size) c0 parts.toList fun c =>
        forceN (Nat.mul len size) fun n => newK h nx (.cells c n true true e) fun _ h' nx' => k (.slice nx 0 len (.known len)) h' nx' else d "buildSlice: size"
    | _ => d "buildSlice: type"
  | .load t a => evK P tm d a fun v => match v with
    | .ptr id off => loadK P d h t id off fun v => k v h nx
    | _ => d "load: pointer expected"
  | .store t a x => evK P tm d a fun p => match p with
    | .ptr id off => evK P tm d x fun v => storeK P d h t id off v fun h' => k undefA h' nx
    | _ => d "store: pointer expected"
  | .nilCheck x => evK P tm d x fun v => match v with
    | .ptr id off => k (.ptr id off) h nx
    | .iface t v => k (.iface t v) h nx
    | .func (.func f) a c => k (.func (.func f) a c) h nx
    | .func (.yield l) a c => k (.func (.yield l) a c) h nx
    | _ => d "nilCheck"
  | .binOp op t x y _ => evK P tm d x fun a => evK P tm d y fun b => binK P d op t (isConstNil x) (isConstNil y) a b fun v => k v h nx
  | .unOp op _ x => evK P tm d x fun a => unK d op a fun v => k v h nx
  | .convert s t x => evK P tm d x fun v => convertK P d h nx s t v k
  | .makeInterface t x => match P.underlying t with
    | some (.interface _) => d "makeInterface"
    | none => d "makeInterface"
    | some _ => evK P tm d x fun v => k (.iface t v) h nx
  | .makeFunc fn first captured => match fn with
    | .yield _ => d "makeFunc"
    | fn => mapK (evK P tm d) first.toList fun a => mapK (evK P tm d) captured.toList fun c => k (.func fn a c) h nx
  | .makeMap _ none => h.pushK (.map [] 0) nx fun h' => forceN (Nat.succ nx) fun nx' => k (.map nx) h' nx'
  | .makeMap t (some r) => match P.underlying t with
    | some (.map _ _) => evK P tm d r fun v => match v with
      | .int _ _ => h.pushK (.map [] 0) nx fun h' => forceN (Nat.succ nx) fun nx' => k (.map nx) h' nx'
      | _ => d "makeMap: reserve"
    | _ => d "makeMap: type"
  | .makeSlice t l c => match P.underlying t with
    | some (.slice e) => evK P tm d l fun l => evK P tm d c fun c => match l, c with
      | .int .i64 (.ofNat l), .int .i64 (.ofNat c) => bif Nat.ble l c && Nat.ble c 1000000 then (match P.info? e with
        | some i => bif Nat.ble i.bytes 1000000 then (szK P d e fun size => rowK P d e size c fun t => forceN (Nat.mul c size) fun n =>
          newK h nx (.cells t n true true e) fun _ h' nx' => k (.slice nx 0 l (.known c)) h' nx') else d "makeSlice: bytes"
        | none => d "makeSlice: info") else d "makeSlice: bounds"
      | _, _ => d "makeSlice: ints"
    | _ => d "makeSlice: type"
  | .slice t x lo hi mx => bif mx.isSome && not hi.isSome then d "slice: max without high" else evK P tm d x fun v => sliceK P tm d h t v lo hi mx fun v => k v h nx
  | .fieldAddr s x f => match fieldP P s f with
    | some (o, t) => bif Nat.beq (sizeP P t) 0 then d "fieldAddr: a field of size 0" else evK P tm d x fun v => match v with
      | .ptr id off => forceN (Nat.add off o) fun off' => k (.ptr id off') h nx
      | _ => d "fieldAddr: pointer expected"
    | none => d "fieldAddr: type"
  | .field s x f => match fieldP P s f with
    | some (o, t) => evK P tm d x fun v => match v with
      | .agg c => partK P d t c o fun v => k v h nx
      | _ => d "field: struct expected"
    | none => d "field: type"
  | .indexAddr t x i => evK P tm d x fun v => evK P tm d i fun j => match j with
    | .int _ (.ofNat j) => (match v with
      | .slice id off len _ => match P.underlying t with
        | some (.slice e) => bif Nat.ble (Nat.succ j) len then szK P d e fun size => forceN (Nat.add off (Nat.mul j size)) fun o => k (.ptr id o) h nx else d "indexAddr: range"
        | _ => d "indexAddr: type"
      | .ptr id off => match P.underlying t with
        | some (.array n e) => bif Nat.ble (Nat.succ j) n then szK P d e fun size => forceN (Nat.add off (Nat.mul j size)) fun o => k (.ptr id o) h nx else d "indexAddr: range"
        | _ => d "indexAddr: type"
      | _ => d "indexAddr: not served")
    | _ => d "indexAddr: index"
  | .index t x i => evK P tm d x fun v => evK P tm d i fun j => match j with
    | .int _ (.ofNat j) => (match v with
      | .str s => match P.underlying t with
        | some .string => nthK (d "index: range") (fun b => k (.int .u8 (.ofNat b)) h nx) s j
        | _ => d "index: type"
      | .agg c => match P.underlying t with
        | some (.array n e) => bif Nat.ble (Nat.succ j) n then szK P d e fun size => forceN (Nat.mul j size) fun o => partK P d e c o fun v => k v h nx else d "index: range"
        | _ => d "index: type"
      | _ => d "index: not served")
    | _ => d "index: index"
  | .lookup t x i ok => evK P tm d x fun m => evK P tm d i fun key => lookupK P d h t m key ok fun v => k v h nx
  | .mapUpdate t m i x => evK P tm d m fun m => evK P tm d i fun key => evK P tm d x fun v => mapSetK P d h t m key v fun h' => k undefA h' nx
  | .insert t m i x => evK P tm d m fun m => evK P tm d i fun key => evK P tm d x fun v => mapSetK P d h t m key v fun h' => k undefA h' nx
  | .typeAssert x _ asserted ok => match P.underlying asserted with
    | none => d "typeAssert"
    | some (.interface _) => d "typeAssert: an interface"
    | some _ => match zeroP P asserted with
      | none => d "typeAssert: zero"
      | some z => evK P tm d x fun v => match v with
      | .iface t w => bif Nat.beq t asserted then k (bif ok then .tuple [w, .bool true] else w) h nx
          else bif ok then k (.tuple [z, .bool false]) h nx else d "typeAssert: fails"
      | .nilIface => bif ok then k (.tuple [z, .bool false]) h nx else d "typeAssert: fails"
      | _ => d "typeAssert: interface expected"
  | .extract t i => evK P tm d t fun v => match v with
    | .tuple l => nthK (d "extract: none") (fun v => k v h nx) l i
    | _ => d "extract: tuple expected"
  | .call c => match c.callee with
    | .builtin b => mapK (evK P tm d) c.args.toList fun args => builtinK b c args
    | _ => d "call"
  | _ => d "op: not served"
where
  builtinK (b : Builtin) (c : Call) (args : List AVal) : β := match b, args with
    | .len, [x] => (match (c.argTypes[0]?).bind P.underlying, x with
      | some .string, .str s => lengthK s 0 fun n => k (.int .i64 (.ofNat n)) h nx
      | some (.slice _), .slice0 => k (.int .i64 (.ofNat 0)) h nx
      | some (.slice _), .slice _ _ n _ => k (.int .i64 (.ofNat n)) h nx
      | _, _ => d "len: not served")
    | .cap, [x] => (match (c.argTypes[0]?).bind P.underlying, x with
      | some (.slice _), .slice0 => k (.int .i64 (.ofNat 0)) h nx
      | some (.slice _), .slice _ _ _ (.known n) => k (.int .i64 (.ofNat n)) h nx
      | _, _ => d "cap: not served")
    | .append, [s, x] => (match c.argTypes.toList with
      | [t, xt] => (match P.underlying xt with
        | some (.slice _) => appendK P d h nx t s x k
        | some .string => appendK P d h nx t s x k
        | _ => d "append: type")
      | _ => d "append: type")
    | .copy, [s, x] => (match c.argTypes.toList with
      | t :: _ => copyK P d h t s x fun v h' => k v h' nx
      | _ => d "copy: type")
    | .min, [.int ka a, .int _ b] => k (.int ka (bif ltI b a then b else a)) h nx
    | .max, [.int ka a, .int _ b] => k (.int ka (bif ltI a b then b else a)) h nx
    | .unsafeSliceData, [.slice0] => k .ptr0 h nx
    | .unsafeSliceData, [.slice id off n _] => bif Nat.ble 1 n then k (.ptr id off) h nx else d "SliceData: empty"
    | .unsafeString, [.ptr id off, .int ki (.ofNat n)] => (match c.argTypes.toList with
      | pt :: _ => (match P.underlying pt with
        | some (.pointer e) => h.getK (d "String: no block") (fun b => match b with
          | .cells c m ex rw e' => bif rw && Nat.beq e e' && Nat.beq (sizeP P e) 1 && Nat.ble (Nat.add off n) m && Nat.ble 1 n && Nat.ble n 1000000 then c.colK off n [] fun l => mapK (byteK d) l fun s =>
            h.setK (.cells c m ex false e') (d "String: set") id fun h' => k (.str s) h' nx else d "String: range"
          | _ => d "String: no cells") id
        | _ => d "String: type")
      | _ => d "String: type")
    | .unsafeString, [.ptr0, .int _ (.ofNat 0)] => (match c.argTypes.toList with
      | _ :: _ => k (.str []) h nx
      | _ => d "String: type")
    | _, _ => d "builtin: not served"

/-- is it an operation that runs code, or turns the frame? -/
def isCtl : Op → Bool
  | .call c => match c.callee with
    | .builtin .recover => true
    | .builtin .panic => true
    | .builtin _ => false
    | _ => true
  | .go _ => true
  | .defer _ => true
  | .panic _ => true
  | .send .. => true
  | .recv .. => true
  | .select .. => true
  | _ => false

def putK {β : Type} (d : String → β) (dst : Option Tmp) (v : AVal) (tm : T AVal) (k : T AVal → β) : β :=
  match dst with
  | none => k tm
  | some t => tm.setK v (d "put: no tmp") t k

/-- does the guard let the operation run? -/
def guardK {β : Type} (all : Array Oper) (tm : T AVal) (d : String → β) (o : Oper) (go skip : Unit → β) : β :=
  match o.guard with
  | none => go ()
  | some (j, want) => match (all[j]?).bind (·.dst) with
    | none => d "guard: no dst"
    | some t => tm.getK (d "guard: no tmp") (fun v => match v with
      | .bool b => bif b == want then go () else skip ()
      | .poison => d "guard: poison"
      | _ => skip ()) t

/-- a row of operations in the order of the text; at a call it stops -/
def opsK {β : Type} (P : Program) (all : Array Oper) (d : String → β) (kdone : T AVal → H → Nat → β) (kctl : Oper → List Oper → T AVal → H → Nat → β) :
    List Oper → T AVal → H → Nat → β
  | [], tm, h, nx => kdone tm h nx
  | o :: l, tm, h, nx => guardK all tm d o
      (fun _ => match isCtl o.op with
       | true => kctl o l tm h nx
       | false => opK P tm d h nx o.op o.type fun v h' nx' => putK d o.dst v tm fun tm' => opsK P all d kdone kctl l tm' h' nx')
      (fun _ => putK d o.dst undefA tm fun tm' => opsK P all d kdone kctl l tm' h nx)

/-! A region that draws its order -/
def isHeavy : Op → Bool
  | .assign _ | .store .. | .mapUpdate .. | .mapEntry .. | .entryStore .. | .next .. | .defer _ | .panic _ | .go _ | .send .. | .recv .. | .select .. | .insert .. => true
  | .call c => match c.callee with
    | .builtin b => match b with
      | .len | .cap | .min | .max | .unsafeSliceData => false
      | _ => true
    | _ => true
  | _ => false
/-- does it make memory? (one block) -/
def makesMem (P : Program) : Op → Bool
  | .alloc _ | .box .. | .buildSlice .. | .makeMap .. | .makeSlice .. => true
  | .convert s t _ => match P.underlying s, P.underlying t with
    | some .string, some (.slice _) => true
    | _, _ => false
  | _ => false
structure Stage where
  checks : List Nat
  evals : List Nat
  heavy : Option Nat
  deriving Inhabited
def opAt (ops : Array Oper) (i : Nat) : Oper := ops.getD i default
/-- is a before i? -/
def befB (bf : Array Nat) (i a : Nat) : Bool := (bf.getD i 0).testBit a
def heavies (ops : Array Oper) : List Nat := (List.range ops.size).filter fun i => isHeavy (opAt ops i).op
def lights (ops : Array Oper) : List Nat := (List.range ops.size).filter fun i => !isHeavy (opAt ops i).op
/-- how many heavies are before i? -/
def nbOf (bf : Array Nat) (hs : List Nat) (i : Nat) : Nat := (hs.filter fun j => befB bf i j).length
/-- stage s: the lights that are worked out now; those that may be carried out now; the heavy that ends the stage -/
def stageOf (bf : Array Nat) (hs ls : List Nat) (s : Nat) : Stage :=
  { evals := ls.filter fun l => Nat.beq (nbOf bf hs l) s
    checks := ls.filter fun l => Nat.ble (nbOf bf hs l) s && (hs.take s).all fun j => !befB bf j l
    heavy := hs[s]? }
def stagesOf (ops : Array Oper) : List Stage :=
  (List.range ((heavies ops).length + 1)).map (stageOf (Region.before ops) (heavies ops) (lights ops))
/-- what is before i is what its edges say -/
def maskOk (ops : Array Oper) (bf : Array Nat) (i : Nat) : Bool :=
  Nat.beq (bf.getD i 0) ((opAt ops i).after.toList.foldl (fun s e => bif Region.binds .any e then s ||| 2 ^ e.on ||| bf.getD e.on 0 else s) 0) &&
  (opAt ops i).after.toList.all fun e => !Region.binds .any e || Nat.ble (Nat.succ e.on) i
def slotsOk (ops : Array Oper) (bf : Array Nat) (i j : Nat) : Bool :=
  match (opAt ops i).dst with
  | none => isHeavy (opAt ops i).op
  | some t => bif Nat.beq i j then (isHeavy (opAt ops i).op || !((opAt ops i).looksAt ops).contains t)
    else (opAt ops j).dst != some t && (!((opAt ops j).looksAt ops).contains t || befB bf j i || (isHeavy (opAt ops i).op && befB bf i j))
/-- the heavies stand in one row; a light's slot is read only behind it; a heavy's slot ahead of it or behind it; no two have one slot -/
def planOk (ops : Array Oper) : Bool :=
  ((heavies ops).zip ((heavies ops).drop 1)).all (fun p => befB (Region.before ops) p.2 p.1) &&
  (List.range ops.size).all (fun i => maskOk ops (Region.before ops) i && (List.range ops.size).all fun j => slotsOk ops (Region.before ops) i j)
def planP (ops : Array Oper) : Option (List Stage) := bif planOk ops then some (stagesOf ops) else none

def eqBool : Bool → Bool → Bool
  | true, true => true
  | false, false => true
  | _, _ => false
def eqCap : Cap → Cap → Bool
  | .known c, .known e => Nat.beq c e
  | .rest c, .rest e => Nat.beq c e
  | _, _ => false
/-- are the sizes that stand in a tree true? -/
def wfB {α : Type} : T α → Bool
  | .nil => true
  | .leaf _ => true
  | .node sz l r => l.lenK 0 (fun n => Nat.beq sz n) && wfB l && wfB r
def eqFn : Fn → Fn → Bool
  | .func f, .func g => Nat.beq f g
  | .yield f, .yield g => Nat.beq f g
  | _, _ => false
def eqVs (f : AVal → AVal → Bool) : List AVal → List AVal → Bool
  | [], [] => true
  | a :: x, b :: y => bif f a b then eqVs f x y else false
  | _, _ => false
/-- are two values one? -/
def eqV : Nat → AVal → AVal → Bool
  | 0, _, _ => false
  | q + 1, a, b => match a, b with
    | .bool a, .bool b => eqBool a b
    | .int k a, .int k' b => beqK k k' && eqI a b
    | .str a, .str b => eqL a b
    | .ptr0, .ptr0 => true
    | .ptr i o, .ptr j p => Nat.beq i j && Nat.beq o p
    | .slice0, .slice0 => true
    | .slice i o n c, .slice j p m e => Nat.beq i j && Nat.beq o p && Nat.beq n m && eqCap c e
    | .map0, .map0 => true
    | .map i, .map j => Nat.beq i j
    | .nilFunc, .nilFunc => true
    | .nilIface, .nilIface => true
    | .func f a c, .func g b e => eqFn f g && eqVs (eqV q) a b && eqVs (eqV q) c e
    | .iface t a, .iface u b => Nat.beq t u && eqV q a b
    | .tuple a, .tuple b => eqVs (eqV q) a b
    | .agg a, .agg b => bif wfB b then (a.lenK 0 fun n => a.colK 0 n [] fun l => b.lenK 0 fun m => b.colK 0 m [] fun l' => eqVs (eqV q) l l') else false
    | _, _ => false

/-- the block of a value that points to the head of a block -/
def headOf : AVal → Option Nat
  | .ptr id o => bif Nat.beq o 0 then some id else none
  | .slice id o _ _ => bif Nat.beq o 0 then some id else none
  | .map id => some id
  | _ => none
/-- are two values that point to heads alike but for the block? -/
def sameMk : AVal → AVal → Bool
  | .ptr _ o, .ptr _ p => Nat.beq o 0 && Nat.beq p 0
  | .slice _ o n c, .slice _ p m e => Nat.beq o 0 && Nat.beq p 0 && Nat.beq n m && eqCap c e
  | .map _, .map _ => true
  | _, _ => false
/-- are two blocks one? -/
def eqBlkK {β : Type} (a b : ABlk) (k : Bool → β) : β :=
  match a, b with
  | .cells c n ex rw e, .cells c' n' ex' rw' e' => bif Nat.beq n n' && eqBool ex ex' && eqBool rw rw' && Nat.beq e e' && wfB c' then
      (c.lenK 0 fun m => c.colK 0 m [] fun l => c'.lenK 0 fun m' => c'.colK 0 m' [] fun l' => k (eqVs (eqV 8) l l')) else k false
  | .map [] x, .map [] y => k (Nat.beq x y)
  | _, _ => k false

/-- may light i be carried out here, and give what its slot says? -/
def checkK {β : Type} (P : Program) (all : Array Oper) (tm : T AVal) (d : String → β) (h : H) (nx : Nat) (i : Nat) (k : Unit → β) : β :=
  match opAt all i with
  | o => match o.dst with
    | none => d "check: no dst"
    | some t => tm.getK (d "check: no tmp") (fun u => guardK all tm d o
      (fun _ => opK P tm d h nx o.op o.type fun v h' nx' => bif makesMem P o.op then
          (match headOf u with
          | some id => bif sameMk v u && Nat.beq nx' (Nat.succ nx) then h'.getK (d "check: no new block") (fun b' => h.getK (d "check: no block") (fun b => eqBlkK b' b fun r => bif r then k () else d "check: a block has turned") id) nx else d "check: a light that makes memory"
          | none => d "check: no head")
        else bif Nat.beq nx' nx then bif eqV 8 v u then k () else d "check: it has turned" else d "check: memory is made")
      (fun _ => match u with
        | .tuple [] => k ()
        | _ => d "check: a guard has turned")) t
def checksK {β : Type} (P : Program) (all : Array Oper) (tm : T AVal) (d : String → β) (h : H) (nx : Nat) : List Nat → (Unit → β) → β
  | [], k => k ()
  | i :: l, k => checkK P all tm d h nx i fun _ => checksK P all tm d h nx l k
/-- the new block of a light that makes one is laid; any other light leaves the memory as it is -/
def keepK {β : Type} (P : Program) (d : String → β) (o : Op) (h : H) (nx : Nat) (v : AVal) (h' : H) (k : H → Nat → β) : β :=
  bif makesMem P o then (match headOf v with
    | some id => bif Nat.beq id nx then h'.getK (d "eval: no block") (fun b => h.pushK b nx fun h1 => forceN (Nat.succ nx) fun nx1 => k h1 nx1) nx else d "eval: head"
    | none => d "eval: head") else k h nx
def evalsK {β : Type} (P : Program) (all : Array Oper) (d : String → β) (k : T AVal → H → Nat → β) : List Nat → T AVal → H → Nat → β
  | [], tm, h, nx => k tm h nx
  | i :: l, tm, h, nx => match opAt all i with
    | o => guardK all tm d o
      (fun _ => opK P tm d h nx o.op o.type fun v h' _ => keepK P d o.op h nx v h' fun h1 nx1 => putK d o.dst v tm fun tm' => evalsK P all d k l tm' h1 nx1)
      (fun _ => putK d o.dst undefA tm fun tm' => evalsK P all d k l tm' h nx)
end Go.Ev
end
