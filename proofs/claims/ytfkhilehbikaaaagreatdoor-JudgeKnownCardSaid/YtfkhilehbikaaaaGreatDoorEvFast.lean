/-
  The evaluator once more, with what hangs on the program's text worked out ahead. No condition.
-/
import Derived.Test.YtfkhilehbikaaaaGreatDoorEvRun
set_option linter.all false
noncomputable section
namespace Go.Ev
/-! The evaluator once more, with what hangs on the program's text alone worked out ahead: closures, one for each operation and each piece of code. The kernel keeps them (they are closed terms). -/

inductive OClo where
  | mk (e : T AVal → (AVal → Bool) → Bool)
inductive DClo where
  | mk (p : AVal → T AVal → (T AVal → Bool) → Bool)
inductive Core where
  | mk (f : T AVal → H → Nat → (AVal → H → Nat → Bool) → Bool)
inductive COp where
  | run (f : T AVal → H → Nat → (T AVal → H → Nat → Bool) → Bool)
  | ctl (o : Oper) (l : List Oper)
inductive CClo where
  | mk (f : GoK Bool → GoK Bool)

def opnd (P : Program) : Operand → OClo
  | .tmp t => .mk fun tm k => tm.getK (F "evK") k t
  | .const v => match absV v with
    | some a => .mk fun _ k => k a
    | none => .mk fun _ _ => F "evK"
  | .global g => bif Nat.ble (Nat.succ g) P.globals.size then .mk fun _ k => k (.ptr g 0) else .mk fun _ _ => F "evK"
  | .func f => .mk fun _ k => k (.func (.func f) [] [])
def dstC : Option Tmp → DClo
  | none => .mk fun _ tm k => k tm
  | some t => .mk fun v tm k => tm.setK v (F "put") t k

def asBool' (v : AVal) (k : Bool → Bool) : Bool := AVal.casesOn (motive_1 := fun _ => Bool) v k (fun _ _ => F "v") (fun _ => F "v") (F "v") (fun _ _ => F "v") (F "v") (fun _ _ _ _ => F "v") (F "v") (fun _ => F "v") (fun _ _ _ => F "v") (F "v") (fun _ _ => F "v") (F "v") (fun _ => F "v") (fun _ => F "v") (F "v")
def asInt' (v : AVal) (k : IntKind → Int → Bool) : Bool := AVal.casesOn (motive_1 := fun _ => Bool) v (fun _ => F "v") k (fun _ => F "v") (F "v") (fun _ _ => F "v") (F "v") (fun _ _ _ _ => F "v") (F "v") (fun _ => F "v") (fun _ _ _ => F "v") (F "v") (fun _ _ => F "v") (F "v") (fun _ => F "v") (fun _ => F "v") (F "v")
def asPtr' (v : AVal) (k : Nat → Nat → Bool) : Bool := AVal.casesOn (motive_1 := fun _ => Bool) v (fun _ => F "v") (fun _ _ => F "v") (fun _ => F "v") (F "v") k (F "v") (fun _ _ _ _ => F "v") (F "v") (fun _ => F "v") (fun _ _ _ => F "v") (F "v") (fun _ _ => F "v") (F "v") (fun _ => F "v") (fun _ => F "v") (F "v")
def asSlice' (v : AVal) (k : Nat → Nat → Nat → Bool) : Bool := AVal.casesOn (motive_1 := fun _ => Bool) v (fun _ => F "v") (fun _ _ => F "v") (fun _ => F "v") (F "v") (fun _ _ => F "v") (F "v") (fun id off n _ => k id off n) (F "v") (fun _ => F "v") (fun _ _ _ => F "v") (F "v") (fun _ _ => F "v") (F "v") (fun _ => F "v") (fun _ => F "v") (F "v")
def notPoison (v : AVal) (k : AVal → Bool) : Bool := AVal.casesOn (motive_1 := fun _ => Bool) v (fun b => k (.bool b)) (fun kd n => k (.int kd n)) (fun l => k (.str l)) (k .ptr0) (fun i o => k (.ptr i o)) (k .slice0) (fun i o n c => k (.slice i o n c)) (k .map0) (fun i => k (.map i)) (fun f a c => k (.func f a c)) (k .nilFunc) (fun t v => k (.iface t v)) (k .nilIface) (fun _ => F "v") (fun _ => F "v") (F "v")

def asNat' (n : Int) (k : Nat → Bool) : Bool := Int.rec (motive := fun _ => Bool) k (fun _ => F "negative") n


def cells5 (b : ABlk) (k : T AVal → Nat → Bool → Bool → TypeId → Bool) : Bool :=
  ABlk.casesOn (motive := fun _ => Bool) b (F "b") k (fun _ _ => F "b") (fun _ _ => F "b") (fun _ _ _ _ => F "b") (fun _ => F "b") (fun _ => F "b")
def notAgg (v : AVal) (k : AVal → Bool) : Bool := AVal.casesOn (motive_1 := fun _ => Bool) v (fun b => k (.bool b)) (fun kd n => k (.int kd n)) (fun l => k (.str l)) (k .ptr0) (fun i o => k (.ptr i o)) (k .slice0) (fun i o n c => k (.slice i o n c)) (k .map0) (fun i => k (.map i)) (fun f a c => k (.func f a c)) (k .nilFunc) (fun t v => k (.iface t v)) (k .nilIface) (fun _ => F "v") (fun _ => F "v") (F "v")
def asAgg' (v : AVal) (k : T AVal → Bool) : Bool := AVal.casesOn (motive_1 := fun _ => Bool) v (fun _ => F "v") (fun _ _ => F "v") (fun _ => F "v") (F "v") (fun _ _ => F "v") (F "v") (fun _ _ _ _ => F "v") (F "v") (fun _ => F "v") (fun _ _ _ => F "v") (F "v") (fun _ _ => F "v") (F "v") k (fun _ => F "v") (F "v")
def asTuple' (v : AVal) (k : List AVal → Bool) : Bool := AVal.casesOn (motive_1 := fun _ => Bool) v (fun _ => F "v") (fun _ _ => F "v") (fun _ => F "v") (F "v") (fun _ _ => F "v") (F "v") (fun _ _ _ _ => F "v") (F "v") (fun _ => F "v") (fun _ _ _ => F "v") (F "v") (fun _ _ => F "v") (F "v") (fun _ => F "v") k (F "v")
def ld1 (h : H) (id off : Nat) (k : AVal → Bool) : Bool :=
  h.getK (F "load") (fun b => cells5 b fun c _ _ _ _ => c.getK (F "load") (fun v => notPoison v k) off) id
def ldN (m : Nat) (h : H) (id off : Nat) (k : AVal → Bool) : Bool :=
  h.getK (F "load") (fun b => cells5 b fun c n _ _ _ => Bool.rec (motive := fun _ => Bool) (F "load: range") (subK c n off m fun s => k (.agg s)) (Nat.ble (Nat.add off m) n)) id
def st1 (h : H) (id off : Nat) (v : AVal) (k : H → Bool) : Bool :=
  h.getK (F "store") (fun b => cells5 b fun c n ex rw e => Bool.rec (motive := fun _ => Bool) (F "store") (c.setK v (F "store") off fun c' => h.setK (.cells c' n ex true e) (F "store") id k) rw) id
def stN (m : Nat) (h : H) (id off : Nat) (s : T AVal) (k : H → Bool) : Bool :=
  h.getK (F "store") (fun b => cells5 b fun c n ex rw e => Bool.rec (motive := fun _ => Bool) (F "store")
    (s.lenK 0 fun n' => Bool.rec (motive := fun _ => Bool) (F "store: size")
          (Bool.rec (motive := fun _ => Bool) (s.colK 0 m [] fun l => setListK (F "store: no cell") l c off fun c' => h.setK (.cells c' n ex true e) (F "store: set") id k)
            (h.setK (.cells s n ex true e) (F "store: set") id k) (Nat.beq off 0 && Nat.beq n m)) (Nat.beq n' m)) rw) id

def maxK (k : IntKind) : Nat := IntKind.casesOn (motive := fun _ => Nat) k 127 32767 2147483647 9223372036854775807 255 65535 4294967295 18446744073709551615
def idxK (k : IntKind) : Nat := IntKind.casesOn (motive := fun _ => Nat) k 0 1 2 3 4 5 6 7
/-- a + b, wrapped: quick where both are no less than 0 and the sum fits -/
def addK' (kd : IntKind) (a b : Int) (k : AVal → Bool) : Bool :=
  Int.casesOn (motive := fun _ => Bool) a
    (fun x => Int.casesOn (motive := fun _ => Bool) b
      (fun y => forceN (Nat.add x y) fun n => Bool.rec (motive := fun _ => Bool) (intK (kd.wrap (.ofNat n)) fun n => k (.int kd n)) (k (.int kd (.ofNat n))) (Nat.ble n (maxK kd)))
      (fun _ => intK (wrapFast kd (addI a b)) fun n => k (.int kd n)))
    (fun _ => intK (wrapFast kd (addI a b)) fun n => k (.int kd n))
def subK' (kd : IntKind) (a b : Int) (k : AVal → Bool) : Bool :=
  Int.casesOn (motive := fun _ => Bool) a
    (fun x => Int.casesOn (motive := fun _ => Bool) b
      (fun y => Bool.rec (motive := fun _ => Bool) (intK (wrapFast kd (subI a b)) fun n => k (.int kd n))
        (forceN (Nat.sub x y) fun n => Bool.rec (motive := fun _ => Bool) (intK (wrapFast kd (subI a b)) fun n => k (.int kd n)) (k (.int kd (.ofNat n))) (Nat.ble n (maxK kd))) (Nat.ble y x))
      (fun _ => intK (wrapFast kd (subI a b)) fun n => k (.int kd n)))
    (fun _ => intK (wrapFast kd (subI a b)) fun n => k (.int kd n))
/-- a < b -/
def ltK' (a b : Int) (yes no : Bool) : Bool :=
  Int.casesOn (motive := fun _ => Bool) a
    (fun x => Int.casesOn (motive := fun _ => Bool) b (fun y => Bool.rec (motive := fun _ => Bool) no yes (Nat.ble (Nat.succ x) y)) (fun _ => no))
    (fun x => Int.casesOn (motive := fun _ => Bool) b (fun _ => yes) (fun y => Bool.rec (motive := fun _ => Bool) no yes (Nat.ble (Nat.succ y) x)))
def eqK' (a b : Int) (yes no : Bool) : Bool :=
  Int.casesOn (motive := fun _ => Bool) a
    (fun x => Int.casesOn (motive := fun _ => Bool) b (fun y => Bool.rec (motive := fun _ => Bool) no yes (Nat.beq x y)) (fun _ => no))
    (fun x => Int.casesOn (motive := fun _ => Bool) b (fun _ => no) (fun y => Bool.rec (motive := fun _ => Bool) no yes (Nat.beq x y)))
/-- comparisons and sums of ints -/
def intC (op : BinOp) : Option (IntKind → Int → Int → (AVal → Bool) → Bool) := match op with
  | .lss => some fun _ a b k => ltK' a b (k (.bool true)) (k (.bool false))
  | .gtr => some fun _ a b k => ltK' b a (k (.bool true)) (k (.bool false))
  | .leq => some fun _ a b k => ltK' b a (k (.bool false)) (k (.bool true))
  | .geq => some fun _ a b k => ltK' a b (k (.bool false)) (k (.bool true))
  | .eql => some fun _ a b k => eqK' a b (k (.bool true)) (k (.bool false))
  | .neq => some fun _ a b k => eqK' a b (k (.bool false)) (k (.bool true))
  | .add => some addK'
  | .sub => some subK'
  | _ => none
def boolK (b : Bool) (k : AVal → Bool) : Bool := Bool.rec (motive := fun _ => Bool) (k (.bool false)) (k (.bool true)) b

def szC (P : Program) (t : TypeId) (c : Core) (k : Nat → Core) : Core := match szO P t with
  | some n => k n
  | none => c
def coreGen (P : Program) (o : Oper) : Core := .mk fun tm h nx k => opK P tm F h nx o.op o.type k
def coreBin (P : Program) (o : Oper) (op : BinOp) (t : TypeId) (x y : Operand) : Core :=
  match P.underlying t with
  | some (.int _) => match intC op, opnd P x, opnd P y with
    | some g, .mk ex, .mk ey => .mk fun tm h nx k => ex tm fun a => ey tm fun b => asInt' a fun ka n => asInt' b fun kb m =>
        Bool.rec (motive := fun _ => Bool) (F "kinds") (g ka n m fun v => k v h nx) (Nat.beq (idxK ka) (idxK kb))
    | none, _, _ => coreGen P o
  | _ => coreGen P o
inductive PartC where
  | mk (f : T AVal → T AVal → (T AVal → Bool) → Bool)
def partsC (P : Program) (szOf : Nat → Option (Nat × Nat)) (l : List (Nat × Operand)) : List PartC :=
  List.rec (motive := fun _ => List PartC) [] (fun p _ ih => (match szOf p.1, opnd P p.2 with
    | some (off, size), .mk e => forceN off fun off => forceN size fun size => PartC.mk fun tm c k => e tm fun v => putPart off size c v k
    | none, _ => .mk fun _ _ _ => F "part") :: ih) l
where
  putPart (off size : Nat) (c : T AVal) (v : AVal) (k : T AVal → Bool) : Bool :=
    AVal.casesOn (motive_1 := fun _ => Bool) v (fun a => one off size c (.bool a) k) (fun a b => one off size c (.int a b) k) (fun a => one off size c (.str a) k) (one off size c .ptr0 k)
        (fun a b => one off size c (.ptr a b) k) (one off size c .slice0 k) (fun a b x y => one off size c (.slice a b x y) k) (one off size c .map0 k) (fun a => one off size c (.map a) k)
        (fun a b x => one off size c (.func a b x) k) (one off size c .nilFunc k) (fun a b => one off size c (.iface a b) k) (one off size c .nilIface k)
        (fun t => t.lenK 0 fun n => Bool.rec (motive := fun _ => Bool) (F "fill: size") (Bool.rec (motive := fun _ => Bool) (t.colK 0 n [] fun l => setListK (F "fill") l c off k) (F "fill: size") (Nat.beq size 0)) (Nat.beq n size)) (fun _ => F "v") (F "v")
  one (off size : Nat) (c : T AVal) (v : AVal) (k : T AVal → Bool) : Bool := Bool.rec (motive := fun _ => Bool) (F "fill: size") (c.setK v (F "fill") off k) (Nat.beq size 1)
def fillF (tm : T AVal) (l : List PartC) (c : T AVal) (k : T AVal → Bool) : Bool :=
  List.rec (motive := fun _ => T AVal → Bool) k (fun p _ ih c => PartC.rec (motive := fun _ => Bool) (fun f => f tm c ih) p) l c
def coreOf (P : Program) (o : Oper) : Core :=
  match o.op with
  | .move x => match opnd P x with | .mk e => .mk fun tm h nx k => e tm fun v => k v h nx
  | .assign x => match opnd P x with | .mk e => .mk fun tm h nx k => e tm fun v => k v h nx
  | .pick c a b => match opnd P c, opnd P a, opnd P b with
    | .mk ec, .mk ea, .mk eb => .mk fun tm h nx k => ec tm fun v => asBool' v fun q => Bool.rec (motive := fun _ => Bool) (eb tm fun v => k v h nx) (ea tm fun v => k v h nx) q
  | .binOp op t x y _ => coreBin P o op t x y
  | .load t a => match layOf P t, opnd P a with
    | .one, .mk e => .mk fun tm h nx k => e tm fun v => asPtr' v fun id off => ld1 h id off fun v => k v h nx
    | .agg m, .mk e => .mk fun tm h nx k => e tm fun v => asPtr' v fun id off => ldN m h id off fun v => k v h nx
    | .bad, _ => coreGen P o
  | .fieldAddr s x f => match fieldP P s f with
    | some (fo, t) => bif Nat.beq (sizeP P t) 0 then coreGen P o else (match opnd P x with
      | .mk e => .mk fun tm h nx k => e tm fun v => asPtr' v fun id off => forceN (Nat.add off fo) fun off' => k (.ptr id off') h nx)
    | none => coreGen P o
  | .indexAddr t x i => match P.underlying t, opnd P x, opnd P i with
    | some (.slice e), .mk ex, .mk ei => szC P e (coreGen P o) fun sz => .mk fun tm h nx k => ex tm fun v => ei tm fun j => asInt' j fun _ j => asNat' j fun j => asSlice' v fun id off n =>
        Bool.rec (motive := fun _ => Bool) (F "indexAddr: range") (forceN (Nat.add off (Nat.mul j sz)) fun o => k (.ptr id o) h nx) (Nat.ble (Nat.succ j) n)
    | some (.array n e), .mk ex, .mk ei => szC P e (coreGen P o) fun sz => .mk fun tm h nx k => ex tm fun v => ei tm fun j => asInt' j fun _ j => asNat' j fun j => asPtr' v fun id off =>
        Bool.rec (motive := fun _ => Bool) (F "indexAddr: range") (forceN (Nat.add off (Nat.mul j sz)) fun o => k (.ptr id o) h nx) (Nat.ble (Nat.succ j) n)
    | _, _, _ => coreGen P o
  | .store t a x => match layOf P t, opnd P a, opnd P x with
    | .one, .mk ea, .mk ex => .mk fun tm h nx k => ea tm fun p => asPtr' p fun id off => ex tm fun v => notAgg v fun v => st1 h id off v fun h => k undefA h nx
    | .agg m, .mk ea, .mk ex => .mk fun tm h nx k => ea tm fun p => asPtr' p fun id off => ex tm fun v => asAgg' v fun s => stN m h id off s fun h => k undefA h nx
    | .bad, _, _ => coreGen P o
  | .extract t i => match opnd P t with
    | .mk e => .mk fun tm h nx k => e tm fun v => asTuple' v fun l => nthK (F "extract") (fun v => k v h nx) l i
  | .nilCheck x => match opnd P x with
    | .mk e => .mk fun tm h nx k => e tm fun v => AVal.casesOn (motive_1 := fun _ => Bool) v (fun _ => F "v") (fun _ _ => F "v") (fun _ => F "v") (F "v") (fun id off => k (.ptr id off) h nx) (F "v") (fun _ _ _ _ => F "v") (F "v") (fun _ => F "v")
        (fun _ _ _ => opK P tm F h nx o.op o.type k) (F "v") (fun _ _ => opK P tm F h nx o.op o.type k) (F "v") (fun _ => F "v") (fun _ => F "v") (F "v")
  | .box e x => match opnd P x with
    | .mk ex => .mk fun tm h nx k => ex tm fun v => AVal.casesOn (motive_1 := fun _ => Bool) v (fun a => newK h nx (.cells (.leaf (.bool a)) 1 true true e) k) (fun a b => newK h nx (.cells (.leaf (.int a b)) 1 true true e) k) (fun a => newK h nx (.cells (.leaf (.str a)) 1 true true e) k) (newK h nx (.cells (.leaf .ptr0) 1 true true e) k)
        (fun a b => newK h nx (.cells (.leaf (.ptr a b)) 1 true true e) k) (newK h nx (.cells (.leaf .slice0) 1 true true e) k) (fun a b c d => newK h nx (.cells (.leaf (.slice a b c d)) 1 true true e) k) (newK h nx (.cells (.leaf .map0) 1 true true e) k) (fun a => newK h nx (.cells (.leaf (.map a)) 1 true true e) k)
        (fun a b c => newK h nx (.cells (.leaf (.func a b c)) 1 true true e) k) (newK h nx (.cells (.leaf .nilFunc) 1 true true e) k) (fun a b => newK h nx (.cells (.leaf (.iface a b)) 1 true true e) k) (newK h nx (.cells (.leaf .nilIface) 1 true true e) k) (fun t => t.lenK 0 fun n => newK h nx (.cells t n true true e) k) (fun _ => F "v") (F "v")
  | .build t parts => match zeroP P t, P.underlying t with
    | some (.agg z), some (.struct fs) => bif infosOk P fs then (match partsC P (placeS P fs) parts.toList with
      | l => .mk fun tm h nx k => fillF tm l z fun c => k (.agg c) h nx) else coreGen P o
    | some (.agg z), some (.array _ e) => szC P e (coreGen P o) fun size => match partsC P (placeA size) parts.toList with
      | l => .mk fun tm h nx k => fillF tm l z fun c => k (.agg c) h nx
    | _, _ => coreGen P o
  | .buildSlice t len parts => match P.underlying t with
    | some (.slice e) => szC P e (coreGen P o) fun size => bif Nat.ble (Nat.mul len size) 16777216 then (match partsC P (placeA size) parts.toList with
      | l => rowK P (fun _ => coreGen P o) e size len fun c0 => forceN (Nat.mul len size) fun n =>
        .mk fun tm h nx k => fillF tm l c0 fun c => newK h nx (.cells c n true true e) fun _ h' nx' => k (.slice nx 0 len (.known len)) h' nx') else coreGen P o
    | _ => coreGen P o
  | .call c => match c.callee, c.args.toList with
    | .builtin .len, [x] => match (c.argTypes[0]?).bind P.underlying, opnd P x with
      | some (.slice _), .mk e => .mk fun tm h nx k => e tm fun v => AVal.casesOn (motive_1 := fun _ => Bool) v (fun _ => F "v") (fun _ _ => F "v") (fun _ => F "v") (F "v") (fun _ _ => F "v") (k (.int .i64 (.ofNat 0)) h nx) (fun _ _ n _ => k (.int .i64 (.ofNat n)) h nx) (F "v") (fun _ => F "v") (fun _ _ _ => F "v") (F "v") (fun _ _ => F "v") (F "v") (fun _ => F "v") (fun _ => F "v") (F "v")
      | _, _ => coreGen P o
    | _, _ => coreGen P o
  | .alloc e => match zeroP P e with
    | none => coreGen P o
    | some z => match treeO z with
      | none => coreGen P o
      | some t => t.lenK 0 fun n => .mk fun _ h nx k => newK h nx (.cells t n true true e) k
  | .unOp op _ x => match op, opnd P x with
    | .not, .mk e => .mk fun tm h nx k => e tm fun v => asBool' v fun b => Bool.rec (motive := fun _ => Bool) (k (.bool true) h nx) (k (.bool false) h nx) b
    | _, _ => coreGen P o
  | _ => coreGen P o

def withDst (c : Core) (d : DClo) : T AVal → H → Nat → (T AVal → H → Nat → Bool) → Bool :=
  match c, d with
  | .mk f, .mk p => fun tm h nx k => f tm h nx fun v h nx => p v tm fun tm => k tm h nx
/-- the slot of the guard: no guard; a guard without a slot; the slot and what it must say -/
def guardSlot (all : Array Oper) (o : Oper) : Option (Option (Tmp × Bool)) := match o.guard with
  | none => some none
  | some (j, want) => match (all[j]?).bind (·.dst) with
    | none => none
    | some t => some (some (t, want))
def guardC (v : AVal) (want : Bool) (go skip : Unit → Bool) : Bool := match v with
  | .bool b => Bool.rec (motive := fun _ => Bool) (skip ()) (go ()) (b == want)
  | .poison => F "guard"
  | _ => skip ()
abbrev StateF := T AVal → H → Nat → (T AVal → H → Nat → Bool) → Bool
def guardF (all : Array Oper) (o : Oper) (go skip : StateF) : StateF := match guardSlot all o with
  | none => fun _ _ _ _ => F "guard"
  | some none => go
  | some (some (t, want)) => fun tm h nx k => tm.getK (F "guard") (fun v => guardC v want (fun _ => go tm h nx k) (fun _ => skip tm h nx k)) t
def compileO (P : Program) (all : Array Oper) (o : Oper) (l : List Oper) : COp :=
  match isCtl o.op with
  | true => .ctl o l
  | false => match coreOf P o, dstC o.dst with
    | .mk f, .mk p => .run (guardF all o (fun tm h nx k => f tm h nx fun v h nx => p v tm fun tm => k tm h nx) (fun tm h nx k => p undefA tm fun tm => k tm h nx))
def compileOps (P : Program) (all : Array Oper) (l : List Oper) : List COp :=
  List.rec (motive := fun _ => List COp) [] (fun o l ih => compileO P all o l :: ih) l
def opsF (all : Array Oper) (kctl : Oper → List Oper → T AVal → H → Nat → Bool) (kdone : T AVal → H → Nat → Bool) (cl : List COp) : T AVal → H → Nat → Bool :=
  List.rec (motive := fun _ => T AVal → H → Nat → Bool) kdone
    (fun c _ ih tm h nx => COp.rec (motive := fun _ => Bool) (fun f => f tm h nx ih)
      (fun o l => guardK all tm F o (fun _ => kctl o l tm h nx) (fun _ => putK F o.dst undefA tm fun tm' => ih tm' h nx)) c) cl

def regionF (P : Program) (all : Array Oper) (l : List Oper) (ih : GoK Bool) (fi : FI) (tm : T AVal) (k : List AItem) (ds : List ADef) (cs : List AFrame) (h : H) (nx : Nat) : Bool :=
  opsF all (fun o l tm h nx => callK P F ih o.op (.ops all (o :: l)) fi k ds cs tm h nx fun v h nx => putK F o.dst v tm fun tm => ih fi tm (.other (.ops all l) :: k) ds cs h nx)
    (fun tm h nx => ih fi tm k ds cs h nx) (compileOps P all l) tm h nx
/-! A region that draws its order -/
inductive SClo where
  | mk (f : StateF)
structure StageC where
  checks : List SClo
  evals : List SClo
  heavy : Option (COp × Oper)
/-- a light is worked out -/
def evalO (P : Program) (all : Array Oper) (o : Oper) : SClo := match coreOf P o, dstC o.dst with
  | .mk f, .mk p => bif makesMem P o.op then
      .mk (guardF all o (fun tm h nx k => f tm h nx fun v h' _ => keepK P F o.op h nx v h' fun h nx => p v tm fun tm => k tm h nx) (fun tm h nx k => p undefA tm fun tm => k tm h nx))
    else .mk (guardF all o (fun tm h nx k => f tm h nx fun v _ _ => p v tm fun tm => k tm h nx) (fun tm h nx k => p undefA tm fun tm => k tm h nx))
/-- a light is looked at again -/
def checkO (P : Program) (all : Array Oper) (o : Oper) : SClo := match coreOf P o, o.dst with
  | .mk _, none => .mk fun _ _ _ _ => F "check: no dst"
  | .mk f, some t => .mk (guardF all o
      (fun tm h nx k => tm.getK (F "check: no tmp") (fun u => f tm h nx fun v h' nx' => bif makesMem P o.op then
          (match headOf u with
          | some id => bif sameMk v u && Nat.beq nx' (Nat.succ nx) then h'.getK (F "check: no new block") (fun b' => h.getK (F "check: no block") (fun b => eqBlkK b' b fun r => bif r then k tm h nx else F "check: a block has turned") id) nx else F "check: a light that makes memory"
          | none => F "check: no head")
        else bif Nat.beq nx' nx then bif eqV 8 v u then k tm h nx else F "check: it has turned" else F "check: memory is made") t)
      (fun tm h nx k => tm.getK (F "check: no tmp") (fun u => match u with
        | .tuple [] => k tm h nx
        | _ => F "check: a guard has turned") t))
def stageC (P : Program) (all : Array Oper) (g : Stage) : StageC :=
  ⟨List.rec (motive := fun _ => List SClo) [] (fun i _ ih => checkO P all (opAt all i) :: ih) g.checks, List.rec (motive := fun _ => List SClo) [] (fun i _ ih => evalO P all (opAt all i) :: ih) g.evals,
    match g.heavy with | none => none | some i => some (compileO P all (opAt all i) [], opAt all i)⟩
def stagesC (P : Program) (all : Array Oper) : Option (List StageC) :=
  match planP all with
  | none => none
  | some st => some (List.rec (motive := fun _ => List StageC) [] (fun g _ ih => stageC P all g :: ih) st)
def sclosF (cl : List SClo) (kdone : T AVal → H → Nat → Bool) : T AVal → H → Nat → Bool :=
  List.rec (motive := fun _ => T AVal → H → Nat → Bool) kdone (fun c _ ih tm h nx => SClo.rec (motive := fun _ => Bool) (fun f => f tm h nx ih) c) cl
def heavyF (P : Program) (all : Array Oper) (n : Nat) (hv : Option (COp × Oper)) (ih : GoK Bool) (fi : FI) (k : List AItem) (ds : List ADef) (cs : List AFrame) (tm : T AVal) (h : H) (nx : Nat) : Bool :=
  Option.rec (motive := fun _ => Bool) (ih fi tm k ds cs h nx) (fun p => Prod.rec (motive := fun _ => Bool) (fun c o => COp.rec (motive := fun _ => Bool)
      (fun f => f tm h nx fun tm h nx => ih fi tm (.other (.opsD all (Nat.succ n)) :: k) ds cs h nx)
      (fun _ _ => guardK all tm F o (fun _ => callK P F ih o.op (.opsW all (Nat.succ n) o.dst) fi k ds cs tm h nx fun v h nx => putK F o.dst v tm fun tm => ih fi tm (.other (.opsD all (Nat.succ n)) :: k) ds cs h nx)
        (fun _ => putK F o.dst undefA tm fun tm => ih fi tm (.other (.opsD all (Nat.succ n)) :: k) ds cs h nx)) c) p) hv
def drawF (P : Program) (all : Array Oper) (n : Nat) (ih : GoK Bool) (fi : FI) (tm : T AVal) (k : List AItem) (ds : List ADef) (cs : List AFrame) (h : H) (nx : Nat) : Bool :=
  Option.rec (motive := fun _ => Bool) (F "no plan") (fun st => nthK (F "stage") (fun g => StageC.rec (motive := fun _ => Bool) (fun ch ev hv =>
      sclosF ev (sclosF ch (heavyF P all n hv ih fi k ds cs)) tm h nx) g) st n) (stagesC P all)
def compileC (P : Program) (c : Code) : CClo :=
  match c with
  | .skip => .mk fun ih fi tm k ds cs h nx => ih fi tm k ds cs h nx
  | .seq a b => match a with
    | .skip => .mk fun ih fi tm k ds cs h nx => ih fi tm (.code b :: k) ds cs h nx
    | .region _ ops false => .mk fun ih fi tm k ds cs h nx => regionF P ops ops.toList ih fi tm (.code b :: k) ds cs h nx
    | a => .mk fun ih fi tm k ds cs h nx => ih fi tm (.code a :: .code b :: k) ds cs h nx
  | .cond c a b => match opnd P c with
    | .mk e => .mk fun ih fi tm k ds cs h nx => e tm fun v => asBool' v fun q => Bool.rec (motive := fun _ => Bool) (ih fi tm (.code b :: k) ds cs h nx) (ih fi tm (.code a :: k) ds cs h nx) q
  | .block id b => .mk fun ih fi tm k ds cs h nx => ih fi tm (.code b :: .other (.inBlock id) :: k) ds cs h nx
  | .loop b => .mk fun ih fi tm k ds cs h nx => ih fi tm (.code b :: .other (.inLoop b) :: k) ds cs h nx
  | .region _ ops true => .mk fun ih fi tm k ds cs h nx => drawF P ops 0 ih fi tm k ds cs h nx
  | .region _ ops false => .mk fun ih fi tm k ds cs h nx => regionF P ops ops.toList ih fi tm k ds cs h nx
  | c => .mk fun ih => codeK P F ih c
def stepF (P : Program) (ih : GoK Bool) (fi : FI) (tm : T AVal) (todo : List AItem) (ds : List ADef) (cs : List AFrame) (h : H) (nx : Nat) : Bool :=
  List.rec (motive := fun _ => Bool) (leaveK F ih none fi tm [] ds cs h nx)
    (fun it k _ => AItem.rec (motive := fun _ => Bool)
      (fun c => CClo.rec (motive := fun _ => Bool) (fun f => f ih fi tm k ds cs h nx) (compileC P c))
      (fun x => AItem2.casesOn (motive := fun _ => Bool) x
        (fun _ => ih fi tm k ds cs h nx)
        (fun b => ih fi tm (.code b :: .other (.inLoop b) :: k) ds cs h nx)
        (fun _ => ih fi tm k ds cs h nx)
        (fun all l => regionF P all l ih fi tm k ds cs h nx)
        (fun all s => drawF P all s ih fi tm k ds cs h nx)
        (fun _ _ _ => F "opsW") (fun _ => F "inRangeFunc")
        (fun l => otherK P F finT ih (.endRangeFunc l) fi tm k ds cs h nx)
        (otherK P F finT ih .beginRound fi tm k ds cs h nx)
        (otherK P F finT ih .ret fi tm k ds cs h nx)) it) todo
def runZ : GoK Bool := fun _ _ _ _ _ _ _ => false
/-- the evaluator as it is proved -/
def run (P : Program) (n : Nat) : GoK Bool := runG runZ (fun ih => stepK P F finT ih) n
/-- the evaluator as it is run -/
def runF (P : Program) (n : Nat) : GoK Bool := runG runZ (fun ih => stepF P ih) n
end Go.Ev
end
