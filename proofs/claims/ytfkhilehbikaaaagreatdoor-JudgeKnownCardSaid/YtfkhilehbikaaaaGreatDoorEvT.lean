/-
  Trees of cells that the kernel reckons with: the ground of a checked evaluator. No condition.
-/
import Derived.Orders
set_option linter.all false
/-! Trees of cells and small helpers of the evaluator, by the types' own recursors and by continuations: the kernel works them out fast and with little memory. -/
namespace Go.Ev

inductive T (α : Type) where
  | nil
  | leaf (a : α)
  | node (sz : Nat) (l r : T α)
  deriving Inhabited

noncomputable section
def forceN {β : Type} (n : Nat) (k : Nat → β) : β := Nat.rec (motive := fun _ => β) (k 0) (fun m _ => k (Nat.succ m)) n
def T.getK {α β : Type} (d : β) (k : α → β) (t : T α) (i : Nat) : β :=
  T.rec (motive := fun _ => Nat → β) (fun _ => d) (fun a i => Bool.rec d (k a) (Nat.beq i 0))
    (fun sz _ _ gl gr i => Bool.rec (gl i) (gr (Nat.sub i sz)) (Nat.ble sz i)) t i
def T.setK {α β : Type} (v : α) (d : β) (t : T α) (i : Nat) (k : T α → β) : β :=
  T.rec (motive := fun _ => Nat → (T α → β) → β) (fun _ _ => d) (fun _ i k => Bool.rec d (k (.leaf v)) (Nat.beq i 0))
    (fun sz l r gl gr i k => Bool.rec (gl i (fun l' => k (.node sz l' r))) (gr (Nat.sub i sz) (fun r' => k (.node sz l r'))) (Nat.ble sz i)) t i k
def T.pushK {α β : Type} (v : α) (t : T α) (n : Nat) (k : T α → β) : β :=
  T.rec (motive := fun _ => Nat → (T α → β) → β) (fun _ k => k (.leaf v)) (fun a _ k => k (.node 1 (.leaf a) (.leaf v)))
    (fun sz l r _ gr n k => Bool.rec (gr (Nat.sub n sz) (fun r' => k (.node sz l r'))) (forceN n fun n => k (.node n (.node sz l r) (.leaf v))) (Nat.ble (Nat.add sz sz) n)) t n k
def T.lenK {α β : Type} (t : T α) (n : Nat) (k : Nat → β) : β :=
  T.rec (motive := fun _ => Nat → (Nat → β) → β) (fun n k => forceN n k) (fun _ n k => forceN (Nat.succ n) k) (fun sz _ _ _ gr n k => gr (Nat.add sz n) k) t n k
def T.colK {α β : Type} (t : T α) (off len : Nat) (acc : List α) (k : List α → β) : β :=
  T.rec (motive := fun _ => Nat → Nat → List α → (List α → β) → β) (fun _ _ acc k => k acc)
    (fun a off len acc k => Bool.rec (k acc) (Bool.rec (k (a :: acc)) (k acc) (Nat.beq len 0)) (Nat.beq off 0))
    (fun sz _ _ gl gr off len acc k => Bool.rec
      (Bool.rec (gr 0 (Nat.sub (Nat.add off len) sz) acc (fun acc' => gl off (Nat.sub sz off) acc' k)) (gl off len acc k) (Nat.ble (Nat.add off len) sz))
      (gr (Nat.sub off sz) len acc k) (Nat.ble sz off)) t off len acc k
def setListK {α β : Type} (d : β) (l : List α) (t : T α) (i : Nat) (k : T α → β) : β :=
  List.rec (motive := fun _ => T α → Nat → (T α → β) → β) (fun t _ k => k t) (fun v _ ih t i k => t.setK v d i (fun t' => ih t' (Nat.succ i) k)) l t i k
def pushListK {α β : Type} (l : List α) (t : T α) (n : Nat) (k : T α → β) : β :=
  List.rec (motive := fun _ => T α → Nat → (T α → β) → β) (fun t _ k => k t) (fun v _ ih t n k => t.pushK v n (fun t' => ih t' (Nat.succ n) k)) l t n k
def T.repF {α : Type} (a : α) (f n : Nat) : T α :=
  Nat.rec (motive := fun _ => Nat → T α) (fun _ => .nil)
    (fun _ ih n => Bool.rec (Bool.rec (.node (Nat.div n 2) (ih (Nat.div n 2)) (ih (Nat.sub n (Nat.div n 2)))) (.leaf a) (Nat.beq n 1)) .nil (Nat.beq n 0)) f n
def T.rep {α : Type} (n : Nat) (a : α) : T α := T.repF a 64 n
def lengthK {α β : Type} (l : List α) (n : Nat) (k : Nat → β) : β :=
  List.rec (motive := fun _ => Nat → (Nat → β) → β) (fun n k => forceN n k) (fun _ _ ih n k => forceN (Nat.succ n) fun n => ih n k) l n k
def nthK {α β : Type} (d : β) (k : α → β) (l : List α) (i : Nat) : β :=
  List.rec (motive := fun _ => Nat → β) (fun _ => d) (fun a _ ih i => Bool.rec (ih (Nat.pred i)) (k a) (Nat.beq i 0)) l i
def runG {S R : Type} (z : S → R) (f : (S → R) → S → R) (n : Nat) : S → R :=
  Nat.rec (motive := fun _ => S → R) z (fun _ ih => f ih) n
end
end Go.Ev
