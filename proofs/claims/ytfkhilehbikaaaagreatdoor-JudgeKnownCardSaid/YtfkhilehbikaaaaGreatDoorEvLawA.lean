/-
  A part of the proof that the evaluator is sound: what it answers, the model's run answers. No condition.
-/
import Derived.Test.YtfkhilehbikaaaaGreatDoorEvT
import Derived.Test.YtfkhilehbikaaaaGreatDoorEvDef
import Derived.Laws.Sem
import Derived.Laws.Entries
import Derived.Below
import Derived.RunT
import Derived.Laws.World
import Derived.Laws.Rows
set_option linter.all false
/-! What the trees' helpers come to, in plain words. -/
namespace Go.Ev

theorem forceN_eq {β : Type} (n : Nat) (k : Nat → β) : forceN n k = k n := by cases n <;> rfl

section
variable {α β : Type}
def T.get : T α → Nat → Option α
  | .nil, _ => none
  | .leaf a, i => if i = 0 then some a else none
  | .node sz l r, i => if sz ≤ i then r.get (i - sz) else l.get i
def T.set (v : α) : T α → Nat → T α
  | .nil, _ => .nil
  | .leaf a, i => if i = 0 then .leaf v else .leaf a
  | .node sz l r, i => if sz ≤ i then .node sz l (r.set v (i - sz)) else .node sz (l.set v i) r
def T.push (v : α) : T α → Nat → T α
  | .nil, _ => .leaf v
  | .leaf a, _ => .node 1 (.leaf a) (.leaf v)
  | .node sz l r, n => if sz + sz ≤ n then .node n (.node sz l r) (.leaf v) else .node sz l (r.push v (n - sz))
def T.toList : T α → List α
  | .nil => []
  | .leaf a => [a]
  | .node _ l r => l.toList ++ r.toList
/-- the sizes that stand in the nodes are true -/
def T.Wf : T α → Prop
  | .nil => True
  | .leaf _ => True
  | .node sz l r => sz = l.toList.length ∧ l.Wf ∧ r.Wf

theorem boolRec_eq {c : Bool} {x y : β} : (Bool.rec x y c : β) = if c = true then y else x := by cases c <;> rfl
theorem boolRec_ble {a b : Nat} {x y : β} : (Bool.rec x y (Nat.ble a b) : β) = if a ≤ b then y else x := by
  rw [boolRec_eq]; simp only [Nat.ble_eq]
theorem boolRec_beq {a b : Nat} {x y : β} : (Bool.rec x y (Nat.beq a b) : β) = if a = b then y else x := by
  rw [boolRec_eq]; simp only [Nat.beq_eq]

theorem T.getK_eq (d : β) (k : α → β) (t : T α) (i : Nat) : t.getK d k i = match t.get i with | some a => k a | none => d := by
  induction t generalizing i with
  | nil => rfl
  | leaf a =>
    show (Bool.rec d (k a) (Nat.beq i 0) : β) = _
    rw [boolRec_beq]
    cases i with
    | zero => rfl
    | succ i => simp [T.get]
  | node sz l r hl hr =>
    show (Bool.rec (l.getK d k i) (r.getK d k (Nat.sub i sz)) (Nat.ble sz i) : β) = _
    rw [boolRec_ble, T.get]
    split
    · exact hr _
    · exact hl _

theorem T.setK_eq (v : α) (d : β) (t : T α) (i : Nat) (k : T α → β) : t.setK v d i k = if (t.get i).isSome then k (t.set v i) else d := by
  induction t generalizing i k with
  | nil => rfl
  | leaf a =>
    show (Bool.rec d (k (.leaf v)) (Nat.beq i 0) : β) = _
    rw [boolRec_beq]
    cases i with
    | zero => rfl
    | succ i => simp [T.get]
  | node sz l r hl hr =>
    show (Bool.rec (l.setK v d i (fun l' => k (.node sz l' r))) (r.setK v d (Nat.sub i sz) (fun r' => k (.node sz l r'))) (Nat.ble sz i) : β) = _
    rw [boolRec_ble, T.get, T.set]
    split
    · exact hr _ _
    · exact hl _ _

theorem T.pushK_eq (v : α) (t : T α) (n : Nat) (k : T α → β) : t.pushK v n k = k (t.push v n) := by
  induction t generalizing n k with
  | nil => rfl
  | leaf a => rfl
  | node sz l r hl hr =>
    show (Bool.rec (r.pushK v (Nat.sub n sz) (fun r' => k (.node sz l r'))) (forceN n fun n => k (.node n (.node sz l r) (.leaf v))) (Nat.ble (Nat.add sz sz) n) : β) = _
    rw [boolRec_ble, T.push, forceN_eq]
    show (if sz + sz ≤ n then _ else _) = _
    split
    · rfl
    · exact hr _ _

theorem T.get_set (t : T α) (v : α) (i j : Nat) : (t.set v i).get j = if i = j then (t.get i).map (fun _ => v) else t.get j := by
  induction t generalizing i j with
  | nil => simp [T.set, T.get]
  | leaf a =>
    simp only [T.set, T.get]
    by_cases hi : i = 0
    · subst hi; by_cases hj : j = 0
      · subst hj; simp [T.get]
      · simp [T.get, hj, Ne.symm hj]
    · simp only [hi, if_false, T.get]
      by_cases hj : j = 0
      · subst hj; simp [hi]
      · simp [hj]
  | node sz l r hl hr =>
    simp only [T.set, T.get]
    by_cases hi : sz ≤ i
    · simp only [hi, if_true, T.get]
      by_cases hj : sz ≤ j
      · simp only [hj, if_true, hr]
        by_cases e : i = j
        · subst e; simp
        · have : i - sz ≠ j - sz := by omega
          simp [e, this]
      · have : i ≠ j := by omega
        simp [hj, this]
    · simp only [hi, if_false, T.get]
      by_cases hj : sz ≤ j
      · have : i ≠ j := by omega
        simp [hj, this]
      · simp only [hj, if_false, hl]

theorem T.get_toList (t : T α) (hw : t.Wf) (i : Nat) : t.get i = t.toList[i]? := by
  induction t generalizing i with
  | nil => simp [T.get, T.toList]
  | leaf a => cases i <;> simp [T.get, T.toList]
  | node sz l r hl hr =>
    obtain ⟨rfl, wl, wr⟩ := hw
    simp only [T.get, T.toList]
    split
    · rw [hr wr, List.getElem?_append_right (by assumption)]
    · rw [hl wl, List.getElem?_append_left (by omega)]

theorem T.wf_set (t : T α) (v : α) (i : Nat) (hw : t.Wf) : (t.set v i).Wf ∧ (t.set v i).toList = t.toList.set i v := by
  induction t generalizing i with
  | nil => exact ⟨trivial, by simp [T.set, T.toList]⟩
  | leaf a => cases i <;> simp [T.set, T.toList, T.Wf]
  | node sz l r hl hr =>
    obtain ⟨rfl, wl, wr⟩ := hw
    simp only [T.set]
    split
    · rename_i h
      obtain ⟨a, b⟩ := hr (i - l.toList.length) wr
      refine ⟨⟨rfl, wl, a⟩, ?_⟩
      simp only [T.toList, b]
      rw [List.set_append_right _ _ h]
    · rename_i h
      obtain ⟨a, b⟩ := hl i wl
      refine ⟨⟨by simp [b], a, wr⟩, ?_⟩
      simp only [T.toList, b]
      rw [List.set_append_left _ _ (by omega)]

theorem T.wf_push (t : T α) (v : α) (n : Nat) (hw : t.Wf) (hn : t.toList.length = n) : (t.push v n).Wf ∧ (t.push v n).toList = t.toList ++ [v] := by
  induction t generalizing n with
  | nil => simp [T.push, T.Wf, T.toList]
  | leaf a => simp [T.push, T.Wf, T.toList]
  | node sz l r hl hr =>
    obtain ⟨rfl, wl, wr⟩ := hw
    simp only [T.push]
    split
    · exact ⟨⟨hn.symm, ⟨rfl, wl, wr⟩, trivial⟩, by simp [T.toList]⟩
    · obtain ⟨a, b⟩ := hr (n - l.toList.length) wr (by simp [T.toList] at hn; omega)
      exact ⟨⟨rfl, wl, a⟩, by simp [T.toList, b]⟩

/-- how many cells, by the nodes' own word -/
def T.len : T α → Nat
  | .nil => 0
  | .leaf _ => 1
  | .node sz _ r => sz + r.len
theorem T.len_eq (t : T α) (hw : t.Wf) : t.len = t.toList.length := by
  induction t with
  | nil => rfl
  | leaf a => rfl
  | node sz l r hl hr => obtain ⟨rfl, wl, wr⟩ := hw; simp [T.len, T.toList, hr wr]
theorem T.lenK_eq (t : T α) (n : Nat) (k : Nat → β) : t.lenK n k = k (n + t.len) := by
  induction t generalizing n k with
  | nil => exact forceN_eq _ _
  | leaf a => exact forceN_eq (n + 1) k
  | node sz l r hl hr =>
    show r.lenK (Nat.add sz n) k = _
    rw [hr, T.len]
    show k (sz + n + _) = _
    congr 1; omega

/-- the cells from off on, len of them, in front of acc: as it is reckoned -/
def T.col : T α → Nat → Nat → List α → List α
  | .nil, _, _, acc => acc
  | .leaf a, off, len, acc => if off = 0 then (if len = 0 then acc else a :: acc) else acc
  | .node sz l r, off, len, acc => if sz ≤ off then r.col (off - sz) len acc else if off + len ≤ sz then l.col off len acc else l.col off (sz - off) (r.col 0 (off + len - sz) acc)
theorem T.colK_eq (t : T α) (off len : Nat) (acc : List α) (k : List α → β) : t.colK off len acc k = k (t.col off len acc) := by
  induction t generalizing off len acc k with
  | nil => rfl
  | leaf a =>
    show (Bool.rec (k acc) (Bool.rec (k (a :: acc)) (k acc) (Nat.beq len 0)) (Nat.beq off 0) : β) = _
    simp only [boolRec_beq, T.col]
    split <;> (try split) <;> rfl
  | node sz l r hl hr =>
    show (Bool.rec
      (Bool.rec (r.colK 0 (Nat.sub (Nat.add off len) sz) acc (fun acc' => l.colK off (Nat.sub sz off) acc' k)) (l.colK off len acc k) (Nat.ble (Nat.add off len) sz))
      (r.colK (Nat.sub off sz) len acc k) (Nat.ble sz off) : β) = _
    simp only [boolRec_ble, hl, hr, T.col]
    show (if sz ≤ off then k (r.col (off - sz) len acc) else if off + len ≤ sz then k (l.col off len acc) else k (l.col off (sz - off) (r.col 0 (off + len - sz) acc))) = _
    split
    · rfl
    · split <;> rfl
theorem T.col_eq (t : T α) (hw : t.Wf) (off len : Nat) (acc : List α) : t.col off len acc = (t.toList.drop off).take len ++ acc := by
  induction t generalizing off len acc with
  | nil => simp [T.toList, T.col]
  | leaf a =>
    simp only [T.col]
    cases off with
    | zero => cases len <;> simp [T.toList]
    | succ o => simp [T.toList]
  | node sz l r hl hr =>
    obtain ⟨rfl, wl, wr⟩ := hw
    simp only [T.col, hl wl, hr wr, T.toList]
    by_cases h1 : l.toList.length ≤ off
    · simp only [h1, if_true, List.drop_append]
      rw [List.drop_eq_nil_of_le h1]; simp
    · simp only [h1, if_false]
      by_cases h2 : off + len ≤ l.toList.length
      · simp only [h2, if_true, List.drop_append]
        rw [List.take_append_of_le_length (by simp; omega)]
      · simp only [h2, if_false, List.drop_append, List.take_append]
        have e0 : off - l.toList.length = 0 := by omega
        have e1 : (l.toList.drop off).length = l.toList.length - off := by simp
        have e2 : off + len - l.toList.length = len - (l.toList.length - off) := by omega
        rw [e0, List.take_of_length_le (l := l.toList.drop off) (i := len) (by omega), List.take_of_length_le (l := l.toList.drop off) (by omega), e1, e2]
        simp

/-- cells put one behind the other, where they are -/
def T.setO : List α → T α → Nat → Option (T α)
  | [], t, _ => some t
  | v :: l, t, i => if (t.get i).isSome then T.setO l (t.set v i) (i + 1) else none
theorem setListK_eq (d : β) (l : List α) (t : T α) (i : Nat) (k : T α → β) :
    setListK d l t i k = match T.setO l t i with | some t' => k t' | none => d := by
  induction l generalizing t i with
  | nil => rfl
  | cons v l ih =>
    show t.setK v d i (fun t' => setListK d l t' (Nat.succ i) k) = _
    rw [T.setK_eq, T.setO]
    split
    · exact ih _ _
    · rfl
theorem T.wf_setO (l : List α) (t : T α) (i : Nat) (hw : t.Wf) (t' : T α) (h : T.setO l t i = some t') :
    t'.Wf ∧ (l ≠ [] → i + l.length ≤ t.toList.length) ∧ t'.toList.length = t.toList.length ∧ ∀ j : Nat, t'.toList[j]? = if i ≤ j ∧ j < i + l.length then l[j - i]? else t.toList[j]? := by
  induction l generalizing t i with
  | nil =>
    obtain rfl : t = t' := by simpa [T.setO] using h
    exact ⟨hw, by simp, rfl, fun j => by rw [if_neg (by simp only [List.length_nil]; omega)]⟩
  | cons v l ih =>
    simp only [T.setO] at h
    split at h
    · rename_i hs
      obtain ⟨a, b⟩ := T.wf_set t v i hw
      obtain ⟨w1, h1, h2, h3⟩ := ih _ _ a h
      rw [T.get_toList t hw] at hs
      have hi : i < t.toList.length := by
        cases e : t.toList[i]? with
        | none => simp [e] at hs
        | some x => exact (List.getElem?_eq_some_iff.1 e).1
      rw [b] at h1 h2 h3
      simp only [List.length_set] at h1 h2
      refine ⟨w1, fun _ => ?_, h2, fun j => ?_⟩
      · cases l with
        | nil => simp; omega
        | cons x l => have := h1 (by simp); simp at this ⊢; omega
      · rw [h3 j]
        simp only [List.length_cons]
        by_cases c1 : i + 1 ≤ j ∧ j < i + 1 + l.length
        · rw [if_pos c1, if_pos (by omega)]
          obtain ⟨m, rfl⟩ : ∃ m, j = i + 1 + m := ⟨j - (i + 1), by omega⟩
          rw [show i + 1 + m - i = m + 1 by omega, show i + 1 + m - (i + 1) = m by omega]; rfl
        · rw [if_neg c1]
          by_cases c2 : i = j
          · subst c2
            rw [if_pos (by omega), List.getElem?_set_self hi]
            simp
          · rw [if_neg (by omega), List.getElem?_set_ne c2]
    · cases h

/-- cells behind the last one -/
def T.pushL : List α → T α → Nat → T α
  | [], t, _ => t
  | v :: l, t, n => T.pushL l (t.push v n) (n + 1)
theorem pushListK_eq (l : List α) (t : T α) (n : Nat) (k : T α → β) : pushListK l t n k = k (T.pushL l t n) := by
  induction l generalizing t n with
  | nil => rfl
  | cons v l ih =>
    show t.pushK v n (fun t' => pushListK l t' (Nat.succ n) k) = _
    rw [T.pushK_eq]; exact ih _ _
theorem T.wf_pushL (l : List α) (t : T α) (n : Nat) (hw : t.Wf) (hn : t.toList.length = n) : (T.pushL l t n).Wf ∧ (T.pushL l t n).toList = t.toList ++ l := by
  induction l generalizing t n with
  | nil => simp [T.pushL, hw]
  | cons v l ih =>
    obtain ⟨a, b⟩ := T.wf_push t v n hw hn
    obtain ⟨c, e⟩ := ih (t.push v n) (n + 1) a (by rw [b]; simp [hn])
    exact ⟨c, by rw [T.pushL, e, b]; simp⟩

theorem T.wf_repF (a : α) (f n : Nat) (h : n ≤ 2 ^ f) : (T.repF a (f + 1) n).Wf ∧ (T.repF a (f + 1) n).toList = List.replicate n a := by
  induction f generalizing n with
  | zero =>
    have : n = 0 ∨ n = 1 := by omega
    rcases this with rfl | rfl
    · exact ⟨trivial, rfl⟩
    · exact ⟨trivial, rfl⟩
  | succ f ih =>
    show T.Wf (Bool.rec (Bool.rec (.node (n / 2) (T.repF a (f + 1) (n / 2)) (T.repF a (f + 1) (n - n / 2))) (.leaf a) (Nat.beq n 1)) .nil (Nat.beq n 0) : T α) ∧
      T.toList (Bool.rec (Bool.rec (.node (n / 2) (T.repF a (f + 1) (n / 2)) (T.repF a (f + 1) (n - n / 2))) (.leaf a) (Nat.beq n 1)) .nil (Nat.beq n 0) : T α) = _
    simp only [boolRec_beq]
    by_cases h0 : n = 0
    · subst h0; simp [T.Wf, T.toList]
    · by_cases h1 : n = 1
      · subst h1; simp [T.Wf, T.toList]
      · have hp : 2 ^ (f + 1) = 2 ^ f * 2 := Nat.pow_succ 2 f
        obtain ⟨a1, b1⟩ := ih (n / 2) (by omega)
        obtain ⟨a2, b2⟩ := ih (n - n / 2) (by omega)
        simp only [h0, h1, if_false, T.Wf, T.toList, b1, b2]
        exact ⟨⟨by simp, a1, a2⟩, by rw [List.replicate_append_replicate]; congr 1; omega⟩

theorem lengthK_eq (l : List α) (n : Nat) (k : Nat → β) : lengthK l n k = k (n + l.length) := by
  induction l generalizing n with
  | nil => exact forceN_eq _ _
  | cons a l ih =>
    show forceN (Nat.succ n) (fun n => lengthK l n k) = _
    rw [forceN_eq, ih]; congr 1; simp; omega
theorem nthK_eq (d : β) (k : α → β) (l : List α) (i : Nat) : nthK d k l i = match l[i]? with | some a => k a | none => d := by
  induction l generalizing i with
  | nil => rfl
  | cons a l ih =>
    show (Bool.rec (nthK d k l (Nat.pred i)) (k a) (Nat.beq i 0) : β) = _
    rw [boolRec_beq]
    cases i with
    | zero => rfl
    | succ i => simpa using ih i
end
end Go.Ev
/-! What an abstract value, block, memory says of the world. -/
namespace Go.Ev

/-- where an id lies: its block, the first cell, how many elements of esz cells it has room for -/
structure Info where
  blk : Nat
  base : Nat
  cap : Nat
  esz : Nat
abbrev Env := Nat → Option Info
def Env.Le (E E' : Env) : Prop := ∀ id i, E id = some i → E' id = some i
theorem Env.Le.refl (E : Env) : E.Le E := fun _ _ h => h
theorem Env.Le.trans {A B C : Env} (h : A.Le B) (k : B.Le C) : A.Le C := fun id i x => k id i (h id i x)

def Cap.Rel (i : Info) : Cap → Nat → Prop
  | .known c, n => n = c
  | .rest k, n => n + k = i.cap
/-- the slot of a slice whose capacity is open stands at an element -/
def Cap.At (i : Info) (off : Nat) : Cap → Prop
  | .known _ => True
  | .rest k => off = k * i.esz

def RelFn (E : Env) : Fn → Fn → Prop
  | .yield l, g => ∃ i, E l = some i ∧ g = .yield i.blk
  | f, g => g = f

mutual
def Rel (E : Env) : AVal → Value → Prop
  | .bool b, v => v = .bool b
  | .int k n, v => v = .int k n
  | .str l, v => ∃ s : ByteArray, v = .string s ∧ s.data.toList.map UInt8.toNat = l
  | .ptr0, v => v = .pointer none
  | .ptr id off, v => ∃ i, E id = some i ∧ v = .pointer (some ⟨i.blk, i.base + off, none⟩)
  | .slice0, v => v = .slice none 0 0
  | .slice id off len cap, v => ∃ i n, E id = some i ∧ cap.Rel i n ∧ cap.At i off ∧ len ≤ n ∧ v = .slice (some ⟨i.blk, i.base + off, none⟩) len n
  | .map0, v => v = .map none
  | .map id, v => ∃ i, E id = some i ∧ v = .map (some i.blk)
  | .func fn first captured, v => ∃ g a c, RelFn E fn g ∧ RelL E first a ∧ RelL E captured c ∧ v = .func g a.toArray c.toArray
  | .nilFunc, v => v = .nilFunc
  | .iface t x, v => ∃ y, Rel E x y ∧ v = .iface t y
  | .nilIface, v => v = .nilIface
  | .agg t, v => ∃ a, RelT E t a ∧ v = .agg a.toArray
  | .tuple l, v => ∃ a, RelL E l a ∧ v = .tuple a.toArray
  | .poison, v => v.oneCell' = true
def RelL (E : Env) : List AVal → List Value → Prop
  | [], l => l = []
  | a :: x, l => ∃ v y, Rel E a v ∧ RelL E x y ∧ l = v :: y
def RelT (E : Env) : T AVal → List Value → Prop
  | .nil, l => l = []
  | .leaf a, l => ∃ v, Rel E a v ∧ v.oneCell' = true ∧ l = [v]
  | .node sz x y, l => ∃ a b, RelT E x a ∧ RelT E y b ∧ a.length = sz ∧ l = a ++ b
end

theorem RelFn.mono {E E' : Env} (h : E.Le E') {f g : Fn} (r : RelFn E f g) : RelFn E' f g := by
  cases f <;> first | exact r | exact ⟨r.choose, h _ _ r.choose_spec.1, r.choose_spec.2⟩

mutual
theorem Rel.mono {E E' : Env} (h : E.Le E') : ∀ (a : AVal) {v : Value}, Rel E a v → Rel E' a v
  | .bool _, _, r => r
  | .int _ _, _, r => r
  | .str _, _, r => r
  | .ptr0, _, r => r
  | .ptr _ _, _, ⟨i, e, r⟩ => ⟨i, h _ _ e, r⟩
  | .slice0, _, r => r
  | .slice _ _ _ _, _, ⟨i, n, e, r⟩ => ⟨i, n, h _ _ e, r⟩
  | .map0, _, r => r
  | .map _, _, ⟨i, e, r⟩ => ⟨i, h _ _ e, r⟩
  | .func _ f c, _, ⟨g, x, y, r, a, b, e⟩ => ⟨g, x, y, r.mono h, RelL.mono h f a, RelL.mono h c b, e⟩
  | .nilFunc, _, r => r
  | .iface _ x, _, ⟨y, r, e⟩ => ⟨y, Rel.mono h x r, e⟩
  | .nilIface, _, r => r
  | .agg t, _, ⟨a, r, e⟩ => ⟨a, RelT.mono h t r, e⟩
  | .tuple l, _, ⟨a, r, e⟩ => ⟨a, RelL.mono h l r, e⟩
  | .poison, _, r => r
theorem RelL.mono {E E' : Env} (h : E.Le E') : ∀ (l : List AVal) {v : List Value}, RelL E l v → RelL E' l v
  | [], _, r => r
  | a :: l, _, ⟨v, y, r, s, e⟩ => ⟨v, y, Rel.mono h a r, RelL.mono h l s, e⟩
theorem RelT.mono {E E' : Env} (h : E.Le E') : ∀ (t : T AVal) {v : List Value}, RelT E t v → RelT E' t v
  | .nil, _, r => r
  | .leaf a, _, ⟨v, r, e⟩ => ⟨v, Rel.mono h a r, e⟩
  | .node _ x y, _, ⟨a, b, r, s, e⟩ => ⟨a, b, RelT.mono h x r, RelT.mono h y s, e⟩
end

theorem RelL.length {E : Env} : ∀ {l : List AVal} {v : List Value}, RelL E l v → v.length = l.length
  | [], _, r => by rw [r]; rfl
  | _ :: l, _, ⟨_, y, _, s, e⟩ => by rw [e]; simp [RelL.length s]
theorem RelL.get {E : Env} : ∀ {l : List AVal} {v : List Value}, RelL E l v → ∀ (i : Nat) (a : AVal), l[i]? = some a → ∃ x, v[i]? = some x ∧ Rel E a x
  | [], _, _, i, a, h => by simp at h
  | b :: l, _, ⟨x, y, r, s, e⟩, i, a, h => by
    subst e
    cases i with
    | zero => simp at h; subst h; exact ⟨x, rfl, r⟩
    | succ i => simpa using RelL.get s i a (by simpa using h)
theorem RelL.append {E : Env} : ∀ {l m : List AVal} {v u : List Value}, RelL E l v → RelL E m u → RelL E (l ++ m) (v ++ u)
  | [], _, _, _, r, s => by rw [r]; exact s
  | _ :: _, _, _, _, ⟨x, y, r, s, e⟩, k => by subst e; exact ⟨x, _, r, RelL.append s k, rfl⟩
/-- a tree and its cells: the tree is well made, and they are as many -/
theorem RelT.wf {E : Env} : ∀ {t : T AVal} {l : List Value}, RelT E t l → t.Wf ∧ l.length = t.toList.length
  | .nil, _, r => by rw [r]; exact ⟨trivial, rfl⟩
  | .leaf _, _, ⟨_, _, _, e⟩ => by subst e; exact ⟨trivial, rfl⟩
  | .node _ x y, _, ⟨a, b, r, s, h, e⟩ => by
    obtain ⟨w1, e1⟩ := RelT.wf r
    obtain ⟨w2, e2⟩ := RelT.wf s
    subst e; subst h
    exact ⟨⟨e1, w1, w2⟩, by simp [T.toList, e1, e2]⟩
theorem RelT.toList {E : Env} : ∀ {t : T AVal} {l : List Value}, RelT E t l → RelL E t.toList l ∧ ∀ v ∈ l, v.oneCell' = true
  | .nil, _, r => by subst r; exact ⟨rfl, by simp⟩
  | .leaf _, _, ⟨v, r, c, e⟩ => by subst e; exact ⟨⟨v, [], r, rfl, rfl⟩, by simpa using c⟩
  | .node _ x y, _, ⟨a, b, r, s, h, e⟩ => by
    obtain ⟨w1, e1⟩ := RelT.toList r
    obtain ⟨w2, e2⟩ := RelT.toList s
    subst e
    refine ⟨RelL.append w1 w2, fun v hv => ?_⟩
    rcases List.mem_append.1 hv with h | h
    · exact e1 v h
    · exact e2 v h
theorem RelL.split {E : Env} : ∀ {l m : List AVal} {v : List Value}, RelL E (l ++ m) v → ∃ a b, v = a ++ b ∧ RelL E l a ∧ RelL E m b
  | [], _, v, r => ⟨[], v, rfl, rfl, r⟩
  | _ :: l, _, _, ⟨x, y, r, s, e⟩ => by
    obtain ⟨a, b, e1, r1, r2⟩ := RelL.split (l := l) s
    exact ⟨x :: a, b, by rw [e, e1]; rfl, ⟨x, a, r, r1, rfl⟩, r2⟩
theorem RelT.of_list {E : Env} : ∀ {t : T AVal} {l : List Value}, t.Wf → RelL E t.toList l → (∀ v ∈ l, v.oneCell' = true) → RelT E t l
  | .nil, _, _, r, _ => r
  | .leaf _, _, _, ⟨v, y, r, s, e⟩, h => by
    have : y = [] := s
    subst this; subst e
    exact ⟨v, r, h v (by simp), rfl⟩
  | .node _ x y, _, ⟨hs, w1, w2⟩, r, h => by
    obtain ⟨a, b, e, r1, r2⟩ := RelL.split (l := x.toList) r
    subst e
    exact ⟨a, b, RelT.of_list w1 r1 (fun v hv => h v (List.mem_append_left _ hv)), RelT.of_list w2 r2 (fun v hv => h v (List.mem_append_right _ hv)), by rw [hs, RelL.length r1], rfl⟩

/-- the slots of a frame -/
def RelTm (E : Env) (tm : T AVal) (a : Array Value) : Prop := ∀ i x, tm.get i = some x → ∃ v, a[i]? = some v ∧ Rel E x v
theorem RelTm.mono {E E' : Env} (h : E.Le E') {tm : T AVal} {a : Array Value} (r : RelTm E tm a) : RelTm E' tm a :=
  fun i x e => let ⟨v, f, s⟩ := r i x e; ⟨v, f, s.mono h _⟩
theorem RelTm.set {E : Env} {tm : T AVal} {a : Array Value} (r : RelTm E tm a) {i : Nat} {x : AVal} {v : Value} (hx : Rel E x v) (hi : (tm.get i).isSome = true) :
    RelTm E (tm.set x i) (a.setIfInBounds i v) := by
  intro j y hy
  rw [T.get_set] at hy
  obtain ⟨z, hz⟩ := Option.isSome_iff_exists.1 hi
  obtain ⟨u, hu, _⟩ := r i z hz
  have hlt : i < a.size := (Array.getElem?_eq_some_iff.1 hu).1
  split at hy
  · rename_i e; subst e
    rw [hz] at hy
    obtain rfl : x = y := by simpa using hy
    exact ⟨v, by simp [hlt], hx⟩
  · rename_i e
    obtain ⟨u', hu', hr⟩ := r j y hy
    exact ⟨u', by rw [Array.getElem?_setIfInBounds_ne e]; exact hu', hr⟩
end Go.Ev
/-! What an abstract memory says of the world's. -/
namespace Go.Ev
open Go.RowKit (Below)

def RelEs (E : Env) : List AEntry → List MapEntry → Prop
  | [], l => l = []
  | e :: es, l => ∃ m ms, Rel E e.key m.key ∧ Rel E e.val m.val ∧ m.born = e.born ∧ RelEs E es ms ∧ l = m :: ms
def RelDef (E : Env) : ADef → Deferred → Prop
  | .call fn captured args, d => ∃ g c a, RelFn E fn g ∧ RelL E captured c ∧ RelL E args a ∧ d = { target := .fn g c.toArray, args := a.toArray }
  | .collected id, d => ∃ i, E id = some i ∧ d = { target := .collected i.blk, args := #[] }
def RelDefs (E : Env) : List ADef → List Deferred → Prop
  | [], l => l = []
  | a :: as, l => ∃ d ds, RelDef E a d ∧ RelDefs E as ds ∧ l = d :: ds

def ABlk.live : ABlk → Bool
  | .dead => false
  | _ => true
/-- may the block be written? -/
def ABlk.writes : ABlk → Bool
  | .dead => false
  | .cells _ _ _ rw _ => rw
  | _ => true

/-- what is said of the object at an id's block -/
def RelObj (P : Program) (E : Env) (i : Info) : ABlk → Obj → Prop
  | .dead, _ => True
  | .cells c n ex rw e, o => ∃ cs lo hi L, o = .cells cs e (lo, hi) ∧ RelT E c L ∧ L.length = n ∧ (∀ k, k < n → cs[i.base + k]? = L[k]?) ∧ i.esz = sizeP P e ∧
      i.base + i.cap * i.esz ≤ cs.size ∧ (ex = true → cs.size = n ∧ i.base = 0) ∧ (rw = true → ∀ j, j < cs.size → ¬ (lo ≤ j ∧ j < hi))
  | .map es clock, o => ∃ ces, o = .map ces clock ∧ RelEs E es ces.toList
  | .strIter s pos, o => ∃ b : ByteArray, o = .stringIter b pos ∧ b.data.toList.map UInt8.toNat = s
  | .mapIter m since seen stepped, o => (match m with
      | none => o = .mapIter none since seen.toArray stepped
      | some id => ∃ j, E id = some j ∧ o = .mapIter (some j.blk) since seen.toArray stepped)
  | .loop l, o => ∃ cl, o = .loop cl ∧ cl.state = l.state ∧ cl.pending = l.pending ∧ cl.fn = l.fn ∧ RelTm E l.tm cl.tmps ∧ cl.params = l.params ∧ cl.assign = l.assign ∧ cl.body = l.body ∧
      ∃ j, E l.defers = some j ∧ cl.defers = j.blk
  | .deferred none, o => o = .deferred none
  | .deferred (some ds), o => ∃ cds, o = .deferred (some cds) ∧ RelDefs E ds cds

theorem RelEs.mono {E E' : Env} (h : E.Le E') : ∀ {es : List AEntry} {l : List MapEntry}, RelEs E es l → RelEs E' es l
  | [], _, r => r
  | _ :: _, _, ⟨m, ms, a, b, c, d, e⟩ => ⟨m, ms, a.mono h _, b.mono h _, c, RelEs.mono h d, e⟩
theorem RelDef.mono {E E' : Env} (h : E.Le E') {a : ADef} {d : Deferred} (r : RelDef E a d) : RelDef E' a d := by
  cases a with
  | call fn c a => obtain ⟨g, x, y, r1, r2, r3, e⟩ := r; exact ⟨g, x, y, r1.mono h, r2.mono h _, r3.mono h _, e⟩
  | collected id => obtain ⟨i, e, r⟩ := r; exact ⟨i, h _ _ e, r⟩
theorem RelDefs.mono {E E' : Env} (h : E.Le E') : ∀ {l : List ADef} {d : List Deferred}, RelDefs E l d → RelDefs E' l d
  | [], _, r => r
  | _ :: _, _, ⟨d, ds, a, b, e⟩ => ⟨d, ds, a.mono h, RelDefs.mono h b, e⟩
theorem RelObj.mono {P : Program} {E E' : Env} (h : E.Le E') {i : Info} {b : ABlk} {o : Obj} (r : RelObj P E i b o) : RelObj P E' i b o := by
  cases b with
  | dead => trivial
  | cells c n ex rw e => obtain ⟨cs, lo, hi, L, a, b, r⟩ := r; exact ⟨cs, lo, hi, L, a, b.mono h _, r⟩
  | map es clock => obtain ⟨ces, a, b⟩ := r; exact ⟨ces, a, b.mono h⟩
  | strIter s pos => exact r
  | mapIter m since seen stepped => cases m with
    | none => exact r
    | some id => obtain ⟨j, a, b⟩ := r; exact ⟨j, h _ _ a, b⟩
  | loop l => obtain ⟨cl, a1, a2, a3, a4, a5, a6, a7, a8, j, a9, a10⟩ := r; exact ⟨cl, a1, a2, a3, a4, a5.mono h, a6, a7, a8, j, h _ _ a9, a10⟩
  | deferred c => cases c with
    | none => exact r
    | some ds => obtain ⟨cds, a, b⟩ := r; exact ⟨cds, a, b.mono h⟩

/-- the memory: h, with nx ids, under E; w0 is the world in which the call began, of N0 blocks -/
structure HeapOk (P : Program) (N0 : Nat) (w0 : World) (E : Env) (h : H) (nx : Nat) (w : World) : Prop where
  wf : h.Wf
  len : h.toList.length = nx
  below : Below N0 w0 w
  n0 : N0 ≤ w0.heap.size
  dom : ∀ id i, E id = some i → id < nx ∧ i.blk < w.heap.size
  new : ∀ id i b, E id = some i → h.get id = some b → b.writes = true → N0 ≤ i.blk
  sep : ∀ id id' i i' b b', E id = some i → E id' = some i' → h.get id = some b → h.get id' = some b' → b.live = true → b'.live = true → i.blk = i'.blk → id = id'
  obj : ∀ id i b, E id = some i → h.get id = some b → b.live = true → ∃ o, w.heap[i.blk]? = some o ∧ RelObj P E i b o
  glob : ∀ g, g < P.globals.size → ∃ i, E g = some i ∧ i.blk = g ∧ i.base = 0

variable {P : Program} {N0 : Nat} {w0 w w' : World} {E : Env} {h : H} {nx : Nat}

theorem HeapOk.size (H : HeapOk P N0 w0 E h nx w) : N0 ≤ w.heap.size := Nat.le_trans H.n0 H.below.size

/-- the world has turned where nothing is said -/
theorem HeapOk.congr (H : HeapOk P N0 w0 E h nx w) (h1 : w'.heap = w.heap) (h2 : w'.os = w.os) (h3 : w'.tape = w.tape) (h4 : w'.output = w.output) : HeapOk P N0 w0 E h nx w' :=
  { H with
    below := ⟨h2.trans H.below.os, h3.trans H.below.tape, h4.trans H.below.output, by rw [h1]; exact H.below.size, fun k hk => by rw [h1]; exact H.below.block k hk⟩
    dom := fun id i e => by rw [h1]; exact H.dom id i e
    obj := fun id i b e g l => by rw [h1]; exact H.obj id i b e g l }
theorem HeapOk.drew (H : HeapOk P N0 w0 E h nx w) : HeapOk P N0 w0 E h nx { w with drawn := w.drawn + 1 } := H.congr rfl rfl rfl rfl

def Env.put (E : Env) (id : Nat) (i : Info) : Env := fun j => if j = id then some i else E j
theorem Env.le_put {E : Env} {id : Nat} {i : Info} (h : E id = none) : E.Le (E.put id i) := by
  intro j k e
  have : j ≠ id := fun x => by rw [x, h] at e; cases e
  simp [Env.put, this, e]
theorem HeapOk.fresh (H : HeapOk P N0 w0 E h nx w) {id : Nat} (hid : nx ≤ id) : E id = none := by
  cases e : E id with
  | none => rfl
  | some i => have := (H.dom id i e).1; omega

theorem push_get (hw : h.Wf) (hl : h.toList.length = nx) (b : ABlk) (id : Nat) : (h.push b nx).get id = if id = nx then some b else h.get id := by
  obtain ⟨w1, e1⟩ := T.wf_push h b nx hw hl
  rw [T.get_toList _ w1, e1, T.get_toList _ hw]
  by_cases e : id = nx
  · subst e; simp [← hl]
  · simp only [e, if_false]
    by_cases hlt : id < nx
    · rw [List.getElem?_append_left (by omega)]
    · rw [List.getElem?_eq_none (by simp; omega), List.getElem?_eq_none (by omega)]

/-- an id that is not yet anywhere: what the abstract memory has at it is not said -/
theorem HeapOk.reserve (H : HeapOk P N0 w0 E h nx w) (b : ABlk) : HeapOk P N0 w0 E (h.push b nx) (nx + 1) w := by
  obtain ⟨w1, e1⟩ := T.wf_push h b nx H.wf H.len
  have g := push_get H.wf H.len b
  have ne : ∀ id i, E id = some i → id ≠ nx := fun id i e => by have := (H.dom id i e).1; omega
  refine ⟨w1, by rw [e1]; simp [H.len], H.below, H.n0, fun id i e => ⟨by have := (H.dom id i e).1; omega, (H.dom id i e).2⟩, ?_, ?_, ?_, H.glob⟩
  · intro id i c e hg
    rw [g, if_neg (ne id i e)] at hg
    exact H.new id i c e hg
  · intro id id' i i' c c' e e' hg hg'
    rw [g, if_neg (ne id i e)] at hg
    rw [g, if_neg (ne id' i' e')] at hg'
    exact H.sep id id' i i' c c' e e' hg hg'
  · intro id i c e hg
    rw [g, if_neg (ne id i e)] at hg
    exact H.obj id i c e hg

/-- a new object at an id that was not anywhere -/
theorem HeapOk.place (H : HeapOk P N0 w0 E h nx w) {id : Nat} {b : ABlk} {i : Info} {o : Obj} (hid : E id = none) (hlt : id < nx) (hb : h.get id = some b) (hi : i.blk = w.heap.size)
    (ho : RelObj P (E.put id i) i b o) : HeapOk P N0 w0 (E.put id i) h nx { w with heap := w.heap.push o } := by
  have sz := H.size
  have old : ∀ j k, (E.put id i) j = some k → j ≠ id → E j = some k := fun j k e ne => by simpa [Env.put, ne] using e
  have at_ : ∀ k, (E.put id i) id = some k → k = i := fun k e => by simpa [Env.put] using e.symm
  refine ⟨H.wf, H.len, ?_, H.n0, ?_, ?_, ?_, ?_, ?_⟩
  · exact H.below.alloc sz o
  · intro j k e
    by_cases c : j = id
    · subst c; rw [at_ k e]; simp [hlt, hi]
    · have := H.dom j k (old j k e c); simp; omega
  · intro j k c e hg hr
    by_cases x : j = id
    · subst x; rw [at_ k e, hi]; exact sz
    · exact H.new j k c (old j k e x) hg hr
  · intro j j' k k' c c' e e' hg hg' l l' hk
    by_cases x : j = id
    · by_cases x' : j' = id
      · rw [x, x']
      · subst x; rw [at_ k e, hi] at hk; have := (H.dom j' k' (old j' k' e' x')).2; omega
    · by_cases x' : j' = id
      · subst x'; rw [at_ k' e', hi] at hk; have := (H.dom j k (old j k e x)).2; omega
      · exact H.sep j j' k k' c c' (old j k e x) (old j' k' e' x') hg hg' l l' hk
  · intro j k c e hg l
    by_cases x : j = id
    · subst x; rw [at_ k e, hi]
      rw [hb] at hg
      obtain rfl : b = c := by simpa using hg
      exact ⟨o, by simp, ho⟩
    · obtain ⟨o', h1, h2⟩ := H.obj j k c (old j k e x) hg l
      have hlt' := (H.dom j k (old j k e x)).2
      refine ⟨o', ?_, h2.mono (Env.le_put hid)⟩
      show (w.heap.push o)[k.blk]? = _
      rw [Array.getElem?_push, if_neg (by omega)]
      exact h1
  · intro g hg
    obtain ⟨k, e, r⟩ := H.glob g hg
    exact ⟨k, Env.le_put hid _ _ e, r⟩
/-- a new object with its new id -/
theorem HeapOk.alloc (H : HeapOk P N0 w0 E h nx w) {b : ABlk} {i : Info} {o : Obj} (hi : i.blk = w.heap.size)
    (ho : RelObj P (E.put nx i) i b o) : E.Le (E.put nx i) ∧ HeapOk P N0 w0 (E.put nx i) (h.push b nx) (nx + 1) { w with heap := w.heap.push o } :=
  ⟨Env.le_put (H.fresh (Nat.le_refl _)), (H.reserve b).place (H.fresh (Nat.le_refl _)) (Nat.lt_succ_self _) (by rw [push_get H.wf H.len]; simp) hi ho⟩

/-- one block has turned -/
theorem HeapOk.set (H : HeapOk P N0 w0 E h nx w) {id : Nat} {i : Info} {b b' : ABlk} {o : Obj} (hid : E id = some i) (hb : h.get id = some b) (hl : b.live = true) (hw : b.writes = true)
    (h1 : ∀ j, j ≠ i.blk → w'.heap[j]? = w.heap[j]?) (h2 : w'.heap.size = w.heap.size) (h3 : w'.os = w.os) (h4 : w'.tape = w.tape) (h5 : w'.output = w.output)
    (ho : w'.heap[i.blk]? = some o) (hr : RelObj P E i b' o) : HeapOk P N0 w0 E (h.set b' id) nx w' := by
  obtain ⟨w1, e1⟩ := T.wf_set h b' id H.wf
  have hn := H.new id i b hid hb hw
  have g : ∀ j, (h.set b' id).get j = if id = j then some b' else h.get j := by
    intro j; rw [T.get_set, hb]; rfl
  refine ⟨w1, by rw [e1]; simp [H.len], ?_, H.n0, fun j k e => by rw [h2]; exact H.dom j k e, ?_, ?_, ?_, H.glob⟩
  · exact ⟨h3.trans H.below.os, h4.trans H.below.tape, h5.trans H.below.output, by rw [h2]; exact H.below.size, fun k hk => by
      rw [h1 k (by omega)]; exact H.below.block k hk⟩
  · intro j k c e hg hr'
    rw [g] at hg
    split at hg
    · rename_i x; subst x; rw [hid] at e; cases e; exact hn
    · exact H.new j k c e hg hr'
  · intro j j' k k' c c' e e' hg hg' l l' hk
    rw [g] at hg hg'
    split at hg <;> split at hg'
    · rename_i x y; exact x.symm.trans y
    · rename_i x y; subst x; exact H.sep id j' k k' b c' e e' hb hg' hl l' hk
    · rename_i x y; subst y; exact H.sep j id k k' c b e e' hg hb l hl hk
    · exact H.sep j j' k k' c c' e e' hg hg' l l' hk
  · intro j k c e hg l
    rw [g] at hg
    split at hg
    · rename_i x; subst x; rw [hid] at e; cases e; cases hg; exact ⟨o, ho, hr⟩
    · rename_i x
      obtain ⟨o', a, r⟩ := H.obj j k c e hg l
      refine ⟨o', ?_, r⟩
      rw [h1 _ (fun hk => x (H.sep id j i k b c hid e hb hg hl l hk.symm))]
      exact a
end Go.Ev
