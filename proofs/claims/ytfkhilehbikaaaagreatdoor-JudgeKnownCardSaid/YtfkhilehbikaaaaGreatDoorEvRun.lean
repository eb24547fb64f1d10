/-
  The evaluator's machine: frames, calls and control. No condition.
-/
import Derived.Test.YtfkhilehbikaaaaGreatDoorEvDef
set_option linter.all false
noncomputable section
namespace Go.Ev

/-- what stays of a frame while it runs -/
structure FI where
  fn : FuncId
  kind : CallKind
  ro : Option Nat
  deriving Inhabited

inductive AItem2 where
  | inBlock (id : Nat)
  | inLoop (body : Code)
  | inScope (body : Code)
  | ops (all : Array Oper) (l : List Oper)
  | opsD (all : Array Oper) (s : Nat)
  | opsW (all : Array Oper) (s : Nat) (dst : Option Tmp)
  | inRangeFunc (loop : Nat)
  | endRangeFunc (loop : Nat)
  | beginRound
  /-- the frame is returning: what stands behind it does not count -/
  | ret
  deriving Inhabited
inductive AItem where
  | code (c : Code)
  | other (x : AItem2)
  deriving Inhabited

structure AFrame where
  fi : FI
  tm : T AVal
  todo : List AItem
  defers : List ADef
  deriving Inhabited

abbrev GoK (R : Type) := FI → T AVal → List AItem → List ADef → List AFrame → H → Nat → R

inductive ExtKind where
  | none
  | same
  | indexByte
  | makeNoZero
  deriving Inhabited

/-- the functions without a body that are served, by name -/
def extOf (P : Program) (f : FuncId) : ExtKind :=
  match P.funcs[f]? with
  | some fn => bif fn.body.isSome || not (fn.origin == "") then .none else match fn.name with
    | "internal/abi.NoEscape" => .same
    | "internal/bytealg.IndexByteString" => .indexByte
    | "internal/bytealg.MakeNoZero" => .makeNoZero
    | _ => .none
  | none => .none
/-- a function with a body: its code, the number of its slots -/
def bodyOf (P : Program) (f : FuncId) : Option (Code × Nat) :=
  match P.funcs[f]? with
  | some fn => match fn.body with
    | some c => bif fn.name == "runtime.NumGoroutine" then none else forceN fn.ntmps fun n => bif Nat.ble n 1000000 then some (c, n) else none
    | none => none
  | none => none
def resultsOf (P : Program) (f : FuncId) : Option (List ResultVar) := (P.funcs[f]?).map (·.results.toList)

def exitToA (id : Nat) : List AItem → Option (List AItem)
  | [] => none
  | .other (.inBlock id') :: k => bif Nat.beq id' id then some k else exitToA id k
  | _ :: k => exitToA id k
def gotoInA (l : Nat) : List AItem → Option (List AItem)
  | [] => none
  | .other (.inScope body) :: k => match findLabel body l with
    | some rest => some (.code rest :: .other (.inScope body) :: k)
    | none => gotoInA l k
  | _ :: k => gotoInA l k

def findByte (b : Nat) : List Nat → Nat → Int
  | [], _ => -1
  | a :: l, i => bif Nat.beq a b then .ofNat i else findByte b l (Nat.succ i)
section
variable (P : Program)

/-- a function without a body -/
def extK {β : Type} (d : String → β) (f : FuncId) (args : List AVal) (h : H) (nx : Nat) (k : AVal → H → Nat → β) : β :=
  match extOf P f, args with
  | .same, [x] => k x h nx
  | .indexByte, [.str s, .int .u8 (.ofNat b)] => bif Nat.ble b 255 then intK (findByte b s 0) fun n => k (.int .i64 n) h nx else d "IndexByte"
  | .makeNoZero, [.int .i64 (.ofNat n)] => match P.funcs[f]? with
    | some fn => match fn.resultTypes.toList with
      | t :: _ => match P.underlying t with
        | some (.slice e) => bif Nat.ble n 1000000 && Nat.beq (sizeP P e) 1 then newK h nx (.cells (T.rep n .poison) n false true e) fun _ h' nx' => k (.slice nx 0 n (.rest 0)) h' nx' else d "MakeNoZero"
        | _ => d "MakeNoZero"
      | [] => d "MakeNoZero"
    | none => d "MakeNoZero"
  | _, _ => d "a function without a body"

variable {R : Type} (d : String → R) (fin : AVal → H → Nat → R) (ih : GoK R)

/-- a call of a function, by number: 'cs' has the frame that waits at its head; a function without a body answers at once -/
def callFn (f : FuncId) (args : List AVal) (cs : List AFrame) (h : H) (nx : Nat) (now : AVal → H → Nat → R) : R :=
  match bodyOf P f with
  | some (c, n) => setListK (d "enter: arguments") args (T.rep n undefA) 0 fun tm => ih ⟨f, .normal, none⟩ tm [.code c] [] cs h nx
  | none => extK P d f args h nx now

def putsK (ps : List Tmp) (args : List AVal) (tm : T AVal) (k : T AVal → R) : R := match ps, args with
  | p :: ps, a :: args => tm.setK a (d "yield: slot") p fun tm' => putsK ps args tm' k
  | _, _ => k tm
/-- the code that a value of a function's type runs -/
def callVal (fn : Fn) (args captured : List AVal) (cs : List AFrame) (h : H) (nx : Nat) (now : AVal → H → Nat → R) : R :=
  match fn with
  | .func f => callFn P d ih f (args ++ captured) cs h nx now
  | .yield l => h.getK (d "yield: no block") (fun b => match b with
    | .loop r => lengthK args 0 fun n => bif Nat.beq n r.params.size then
        putsK d r.params.toList args r.tm fun tm => ih ⟨r.fn, .normal, some l⟩ tm [.code r.assign, .other .beginRound, .code r.body] [] cs h nx
        else d "yield: arguments"
    | _ => d "yield: no loop") l
  | _ => d "call: not served"

/-- the frame gets a value where it waits -/
def finishK (v : AVal) (fr : AFrame) (cs : List AFrame) (h : H) (nx : Nat) : R :=
  match fr.todo with
  | .other x :: k => match x with
    | .ops all (o :: l) => putK d o.dst v fr.tm fun tm => ih fr.fi tm (.other (.ops all l) :: k) fr.defers cs h nx
    | .opsW all s dst => putK d dst v fr.tm fun tm => ih fr.fi tm (.other (.opsD all s) :: k) fr.defers cs h nx
    | .inRangeFunc l => ih fr.fi fr.tm (.other (.endRangeFunc l) :: k) fr.defers cs h nx
    | _ => d "finish"
  | _ => d "finish"

def returnK (v : AVal) (kind : CallKind) (cs : List AFrame) (h : H) (nx : Nat) : R :=
  match kind with
  | .normal => match cs with
    | [] => fin v h nx
    | c :: rest => finishK d ih v c rest h nx
  | _ => d "return: kind"

def endState : Option Code → LoopState
  | none => .ready
  | some _ => .done
def endBool : Option Code → Bool
  | none => true
  | some _ => false
/-- the end of a frame's code -/
def leaveK (jump : Option Code) (fi : FI) (tm : T AVal) (k : List AItem) (ds : List ADef) (cs : List AFrame) (h : H) (nx : Nat) : R :=
  match fi.ro with
  | none => match jump with
    | none => ih fi tm (.other .ret :: k) ds cs h nx
    | some .ret => ih fi tm (.other .ret :: k) ds cs h nx
    | some _ => d "leave: no such block"
  | some l => h.getK (d "leave: no loop block") (fun b => match b with
    | .loop r => (match cs with
      | [] => d "leave: a round at the bottom"
      | c :: rest => match fi.kind with
        | .normal => h.setK (.loop { r with state := endState jump, pending := jump }) (d "leave: set") l fun h' =>
            finishK d ih (.bool (endBool jump)) c rest h' nx
        | _ => d "leave: kind")
    | _ => d "leave: no loop") l

/-- a call: 'wait' is what stands at the head while it runs; 'go' goes on behind a function without a body -/
def callK (o : Op) (wait : AItem2) (fi : FI) (k : List AItem) (ds : List ADef) (cs : List AFrame) (tm : T AVal) (h : H) (nx : Nat) (go : AVal → H → Nat → R) : R :=
  match o with
  | .call c => match c.callee with
    | .value f => evK P tm d f fun fv => match fv with
      | .func fn first captured => mapK (evK P tm d) c.args.toList fun args => callVal P d ih fn (first ++ args) captured (⟨fi, tm, .other wait :: k, ds⟩ :: cs) h nx go
      | _ => d "call: function value expected"
    | _ => d "call: not served"
  | _ => d "operation not served"

def regionK (all : Array Oper) (l : List Oper) (fi : FI) (tm : T AVal) (k : List AItem) (ds : List ADef) (cs : List AFrame) (h : H) (nx : Nat) : R :=
  opsK P all d (fun tm h nx => ih fi tm k ds cs h nx)
    (fun o l tm h nx => callK P d ih o.op (.ops all (o :: l)) fi k ds cs tm h nx fun v h nx => putK d o.dst v tm fun tm => ih fi tm (.other (.ops all l) :: k) ds cs h nx)
    l tm h nx

/-- the heavy that ends a stage -/
def heavyK (all : Array Oper) (n : Nat) (hv : Option Nat) (fi : FI) (tm : T AVal) (k : List AItem) (ds : List ADef) (cs : List AFrame) (h : H) (nx : Nat) : R :=
  match hv with
  | none => ih fi tm k ds cs h nx
  | some i => match opAt all i with
    | o => guardK all tm d o
      (fun _ => match isCtl o.op with
       | true => callK P d ih o.op (.opsW all (Nat.succ n) o.dst) fi k ds cs tm h nx fun v h nx => putK d o.dst v tm fun tm => ih fi tm (.other (.opsD all (Nat.succ n)) :: k) ds cs h nx
       | false => opK P tm d h nx o.op o.type fun v h nx => putK d o.dst v tm fun tm => ih fi tm (.other (.opsD all (Nat.succ n)) :: k) ds cs h nx)
      (fun _ => putK d o.dst undefA tm fun tm => ih fi tm (.other (.opsD all (Nat.succ n)) :: k) ds cs h nx)
/-- stage n of a region that draws its order -/
def stageK (all : Array Oper) (n : Nat) (g : Stage) (fi : FI) (tm : T AVal) (k : List AItem) (ds : List ADef) (cs : List AFrame) (h : H) (nx : Nat) : R :=
  evalsK P all d (fun tm h nx => checksK P all tm d h nx g.checks fun _ => heavyK P d ih all n g.heavy fi tm k ds cs h nx) g.evals tm h nx
def drawK (all : Array Oper) (n : Nat) (fi : FI) (tm : T AVal) (k : List AItem) (ds : List ADef) (cs : List AFrame) (h : H) (nx : Nat) : R :=
  match planP all with
  | none => d "a region that draws: no plan"
  | some st => nthK (d "stage") (fun g => stageK P d ih all n g fi tm k ds cs h nx) st n

/-- a range over a function: the loop's block, the call -/
def rangeStartK (f : Operand) (params : Array Tmp) (assign body : Code) (dn : Nat) (mark : List ADef) (fi : FI) (tm : T AVal) (k : List AItem) (ds : List ADef) (cs : List AFrame) (h : H) (nx : Nat) : R :=
  evK P tm d f fun fv => match fv with
  | .func fn first captured => newK h nx (.loop { state := .ready, pending := none, fn := fi.fn, tm, params, assign, body, defers := dn }) fun _ h' nx' =>
    (match fn with
    | .func f => callFn P d ih f ((first ++ [.func (.yield nx) [] []]) ++ captured) (⟨fi, tm, .other (.inRangeFunc nx) :: k, mark ++ ds⟩ :: cs) h' nx' fun _ _ _ => d "a range function without a body"
    | _ => d "range over a function: not served")
  | _ => d "range over a function: value"
def rangeFuncK (f : Operand) (params : Array Tmp) (assign body : Code) (fi : FI) (tm : T AVal) (k : List AItem) (ds : List ADef) (cs : List AFrame) (h : H) (nx : Nat) : R :=
  match fi.ro with
  | none => newK h nx (.deferred (some [])) fun _ h' nx' => rangeStartK P d ih f params assign body nx [.collected nx] fi tm k ds cs h' nx'
  | some l => h.getK (d "range: no loop") (fun b => match b with
    | .loop r => rangeStartK P d ih f params assign body r.defers [] fi tm k ds cs h nx
    | _ => d "range: no loop") l

def codeK (c : Code) (fi : FI) (tm : T AVal) (k : List AItem) (ds : List ADef) (cs : List AFrame) (h : H) (nx : Nat) : R :=
  match c with
  | .skip => ih fi tm k ds cs h nx
  | .label _ => ih fi tm k ds cs h nx
  | .ret => leaveK d ih (some .ret) fi tm (.code .ret :: k) ds cs h nx
  | .seq a b => ih fi tm (.code a :: .code b :: k) ds cs h nx
  | .cond c a b => evK P tm d c fun v => match v with
    | .bool true => ih fi tm (.code a :: k) ds cs h nx
    | .bool false => ih fi tm (.code b :: k) ds cs h nx
    | _ => d "cond: bool expected"
  | .block id b => ih fi tm (.code b :: .other (.inBlock id) :: k) ds cs h nx
  | .loop b => ih fi tm (.code b :: .other (.inLoop b) :: k) ds cs h nx
  | .scope b => ih fi tm (.code b :: .other (.inScope b) :: k) ds cs h nx
  | .exit id => match exitToA id k with
    | some k' => ih fi tm k' ds cs h nx
    | none => leaveK d ih (some (.exit id)) fi tm (.code (.exit id) :: k) ds cs h nx
  | .goto l => match gotoInA l k with
    | some k' => ih fi tm k' ds cs h nx
    | none => leaveK d ih (some (.goto l)) fi tm (.code (.goto l) :: k) ds cs h nx
  | .region _ ops draw => match draw with
    | true => drawK P d ih ops 0 fi tm k ds cs h nx
    | false => regionK P d ih ops ops.toList fi tm k ds cs h nx
  | .rangeFunc f params assign body => rangeFuncK P d ih f params assign body fi tm k ds cs h nx
  | .refuse _ => d "refused by the loader"

def resultsK (tm : T AVal) (h : H) : List ResultVar → (List AVal → R) → R
  | [], k => k []
  | .tmp t :: l, k => tm.getK (d "results: no tmp") (fun v => resultsK tm h l fun vs => k (v :: vs)) t
  | .cell a t :: l, k => tm.getK (d "results: no tmp") (fun v => match v with
    | .ptr id off => loadK P d h t id off fun v => resultsK tm h l fun vs => k (v :: vs)
    | _ => d "results: pointer") a

def deferredK (dd : ADef) (fi : FI) (tm : T AVal) (k : List AItem) (ds : List ADef) (cs : List AFrame) (h : H) (nx : Nat) : R :=
  match dd with
  | .call .. => d "a deferred call"
  | .collected id => h.getK (d "deferred: no block") (fun b => match b with
    | .deferred (some calls) => h.setK (.deferred none) (d "deferred: set") id fun h' => ih fi tm k (calls ++ ds) cs h' nx
    | _ => d "deferred: taken") id

/-- what stands at the head beside code; 'k' is what stands behind it -/
def otherK (x : AItem2) (fi : FI) (tm : T AVal) (k : List AItem) (ds : List ADef) (cs : List AFrame) (h : H) (nx : Nat) : R :=
  match x with
  | .inBlock _ => ih fi tm k ds cs h nx
  | .inScope _ => ih fi tm k ds cs h nx
  | .inLoop b => ih fi tm (.code b :: .other (.inLoop b) :: k) ds cs h nx
  | .ops all l => regionK P d ih all l fi tm k ds cs h nx
  | .opsD all n => drawK P d ih all n fi tm k ds cs h nx
  | .endRangeFunc l => h.getK (d "endLoop: no block") (fun b => match b with
    | .loop r => match r.state with
      | .busy => d "endLoop: busy"
      | _ => h.setK (.loop { r with state := .exhausted }) (d "endLoop: set") l fun h' => match r.pending with
        | none => ih fi tm k ds cs h' nx
        | some c => ih fi tm (.code c :: k) ds cs h' nx
    | _ => d "endLoop: no loop") l
  | .beginRound => match fi.ro with
    | none => d "beginRound"
    | some l => h.getK (d "beginRound: no block") (fun b => match b with
      | .loop r => match r.state with
        | .ready => h.setK (.loop { r with state := .busy }) (d "beginRound: set") l fun h' => ih fi tm k ds cs h' nx
        | _ => d "beginRound: state"
      | _ => d "beginRound: no loop") l
  | .ret => match ds with
    | dd :: ds => deferredK d ih dd fi tm (.other .ret :: k) ds cs h nx
    | [] => match resultsOf P fi.fn with
      | none => d "results"
      | some rs => resultsK P d tm h rs fun vs => match vs with
        | [v] => returnK d fin ih v fi.kind cs h nx
        | vs => returnK d fin ih (.tuple vs) fi.kind cs h nx
  | .inRangeFunc _ => d "inRangeFunc"
  | .opsW .. => d "opsW"

def stepK (fi : FI) (tm : T AVal) (todo : List AItem) (ds : List ADef) (cs : List AFrame) (h : H) (nx : Nat) : R :=
  match todo with
  | [] => leaveK d ih none fi tm [] ds cs h nx
  | it :: k => match it with
    | .code c => codeK P d ih c fi tm k ds cs h nx
    | .other x => otherK P d fin ih x fi tm k ds cs h nx
end

/-- the call has handed back true -/
def finT (v : AVal) (_ : H) (_ : Nat) : Bool := match v with
  | .bool b => b
  | _ => false

end Go.Ev
end
