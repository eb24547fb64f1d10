/-
  A part of the proof that the evaluator is sound: what it answers, the model's run answers. No condition.
-/
import Derived.Test.YtfkhilehbikaaaaGreatDoorEvLawA
import Derived.Laws.Cells
import Derived.Laws.IdiomCopy
set_option linter.all false
/-! The operations are sound, part 1: operands, loads, stores. -/
namespace Go.Ev
open Go.RowKit (Below)

def ev (tmps : Array Value) : Operand → Value
  | .tmp t => tmps.getD t undef
  | .const v => v
  | .global g => .pointer (some ⟨g, 0, none⟩)
  | .func f => .func (.func f) #[] #[]
theorem frame_eval (fr : Frame) : fr.eval = ev fr.tmps := by funext x; cases x <;> rfl
theorem act_eval (a : Act) : a.eval = ev a.tmps := by funext x; cases x <;> rfl

theorem mapO_some {α γ : Type} {f : α → Option γ} : ∀ {l : List α} {m : List γ}, mapO f l = some m → m.length = l.length ∧ ∀ (i : Nat) (a : α), l[i]? = some a → ∃ b, m[i]? = some b ∧ f a = some b
  | [], m, e => by
    have : m = [] := by simpa [mapO] using e.symm
    subst this; simp
  | a :: l, m, e => by
    simp only [mapO] at e
    cases h1 : f a with
    | none => simp [h1] at e
    | some b =>
      cases h2 : mapO f l with
      | none => simp [h1, h2] at e
      | some bs =>
        obtain rfl : b :: bs = m := by simpa [h1, h2] using e
        obtain ⟨l1, l2⟩ := mapO_some h2
        refine ⟨by simp [l1], fun i x hx => ?_⟩
        cases i with
        | zero => obtain rfl : a = x := by simpa using hx
                  exact ⟨b, rfl, h1⟩
        | succ i => simpa using l2 i x (by simpa using hx)

theorem absS_rel {E : Env} {v : Value} {a : AVal} (h : absS v = some a) : Rel E a v ∧ v.oneCell' = true := by
  unfold absS at h
  split at h <;> (try (cases h; first | exact ⟨rfl, rfl⟩ | exact ⟨⟨_, rfl, rfl⟩, rfl⟩)) <;> (try (cases h; done))
  cases h
  exact ⟨⟨_, [], [], rfl, rfl, rfl, rfl⟩, rfl⟩
theorem relL_of_abs {E : Env} : ∀ {l : List Value} {m : List AVal}, mapO absS l = some m → RelL E m l ∧ ∀ v ∈ l, v.oneCell' = true
  | [], m, e => by
    have : m = [] := by simpa [mapO] using e.symm
    subst this; exact ⟨rfl, by simp⟩
  | a :: l, m, e => by
    simp only [mapO] at e
    cases h1 : absS a with
    | none => simp [h1] at e
    | some b =>
      cases h2 : mapO absS l with
      | none => simp [h1, h2] at e
      | some bs =>
        obtain rfl : b :: bs = m := by simpa [h1, h2] using e
        obtain ⟨r1, r2⟩ := absS_rel (E := E) h1
        obtain ⟨r3, r4⟩ := relL_of_abs (E := E) h2
        exact ⟨⟨a, l, r1, r3, rfl⟩, by simpa using ⟨r2, r4⟩⟩
theorem relT_push {E : Env} {l : List AVal} {v : List Value} (r : RelL E l v) (hc : ∀ x ∈ v, x.oneCell' = true) : RelT E (T.pushL l .nil 0) v := by
  obtain ⟨w1, e1⟩ := T.wf_pushL l (.nil : T AVal) 0 trivial rfl
  exact RelT.of_list w1 (by rw [e1]; exact r) hc
theorem absV_rel {E : Env} {v : Value} {a : AVal} (h : absV v = some a) : Rel E a v := by
  unfold absV at h
  split at h
  · rename_i cs
    split at h
    · rename_i l hl
      cases h
      obtain ⟨r1, r2⟩ := relL_of_abs (E := E) hl
      refine ⟨cs.toList, ?_, by simp⟩
      rw [pushListK_eq]
      exact relT_push r1 r2
    · cases h
  · rename_i cs
    split at h
    · rename_i l hl
      cases h
      exact ⟨cs.toList, (relL_of_abs hl).1, by simp⟩
    · cases h
  · split at h
    · rename_i x hx
      cases h
      exact ⟨_, (absS_rel hx).1, rfl⟩
    · cases h
  · exact (absS_rel h).1

theorem F_eq (s : String) : F s = false := rfl
theorem cond_true {c : Bool} {x : Bool} {s : String} (h : (bif c then x else F s) = true) : c = true ∧ x = true := by
  cases c
  · simp [F] at h
  · exact ⟨rfl, h⟩
theorem getK_true {α : Type} {k : α → Bool} {t : T α} {i : Nat} {s : String} (h : t.getK (F s) k i = true) : ∃ a, t.get i = some a ∧ k a = true := by
  rw [T.getK_eq] at h
  cases e : t.get i with
  | none => simp [e, F] at h
  | some a => exact ⟨a, rfl, by simpa [e] using h⟩
theorem setK_true {α : Type} {v : α} {k : T α → Bool} {t : T α} {i : Nat} {s : String} (h : t.setK v (F s) i k = true) : (t.get i).isSome = true ∧ k (t.set v i) = true := by
  rw [T.setK_eq] at h
  split at h
  · exact ⟨by assumption, h⟩
  · simp [F] at h

/-- the package-level variables lie where they lie -/
def Globs (P : Program) (E : Env) : Prop := ∀ g, g < P.globals.size → ∃ i, E g = some i ∧ i.blk = g ∧ i.base = 0

theorem evK_true {P : Program} {tm : T AVal} {x : Operand} {k : AVal → Bool} (h : evK P tm F x k = true) :
    ∃ a, k a = true ∧ ∀ E tmps, Globs P E → RelTm E tm tmps → Rel E a (ev tmps x) := by
  cases x with
  | tmp t =>
    obtain ⟨a, e, hk⟩ := getK_true h
    refine ⟨a, hk, fun E tmps _ r => ?_⟩
    obtain ⟨v, hv, hr⟩ := r t a e
    simpa [ev, Array.getD_eq_getD_getElem?, hv] using hr
  | const v =>
    simp only [evK] at h
    split at h
    · rename_i a e
      exact ⟨a, h, fun E tmps _ _ => absV_rel e⟩
    · simp [F] at h
  | global g =>
    obtain ⟨hc, hk⟩ := cond_true h
    refine ⟨_, hk, fun E tmps hg _ => ?_⟩
    obtain ⟨i, e, rfl, hb⟩ := hg g (by have := Nat.le_of_ble_eq_true hc; omega)
    exact ⟨i, e, by simp [ev, hb]⟩
  | func f => exact ⟨_, h, fun E tmps _ _ => ⟨_, [], [], rfl, rfl, rfl, rfl⟩⟩

/-- what an operation does -/
def Gives (P : Program) (tmps : Array Value) (o : Oper) (w : World) (cv : Value) (w' : World) : Prop :=
  (execOp (ev tmps) o).run P w = .ok (.value cv) w' ∨ ((execOp (ev tmps) o).run P w = .ok .skip w' ∧ cv = undef)

/-- an operation that only reckons: the world does not turn -/
def OpPure (P : Program) (N0 : Nat) (w0 : World) (tm : T AVal) (h : H) (nx : Nat) (o : Oper) (v : AVal) : Prop :=
  ∀ E tmps w, RelTm E tm tmps → HeapOk P N0 w0 E h nx w → ∃ cv, Rel E v cv ∧ (execOp (ev tmps) o).run P w = .ok (.value cv) w
/-- the values that point to the head of a new block -/
def MkKind (mkv : Nat → AVal) : Prop := (mkv = fun id => .ptr id 0) ∨ (∃ n c, mkv = fun id => .slice id 0 n c) ∨ (mkv = fun id => .map id)
/-- an operation that makes one block, and turns nothing else -/
def OpMake (P : Program) (N0 : Nat) (w0 : World) (tm : T AVal) (h : H) (nx : Nat) (o : Oper) (mkv : Nat → AVal) (b : ABlk) : Prop :=
  ∀ E tmps w, RelTm E tm tmps → HeapOk P N0 w0 E h nx w → ∃ i obj cv n, i.blk = w.heap.size ∧ RelObj P E i b obj ∧ (∀ E' id, E' id = some i → Rel E' (mkv id) cv) ∧
    Gives P tmps o w cv { w with heap := w.heap.push obj, drawn := n }
/-- the operation's outcome in the abstract memory is its outcome in the world; ids that were not anywhere stay so -/
def OpGen (P : Program) (N0 : Nat) (w0 : World) (tm : T AVal) (h : H) (nx : Nat) (o : Oper) (v : AVal) (h' : H) (nx' : Nat) : Prop :=
  nx ≤ nx' ∧ ∀ E tmps w, RelTm E tm tmps → HeapOk P N0 w0 E h nx w → ∃ E' w' cv, E.Le E' ∧ (∀ id, id < nx → E' id = E id) ∧ HeapOk P N0 w0 E' h' nx' w' ∧ Rel E' v cv ∧ Gives P tmps o w cv w'
def OpOk (P : Program) (N0 : Nat) (w0 : World) (tm : T AVal) (h : H) (nx : Nat) (o : Oper) (v : AVal) (h' : H) (nx' : Nat) : Prop :=
  (h' = h ∧ nx' = nx ∧ OpPure P N0 w0 tm h nx o v) ∨ (∃ mkv b, MkKind mkv ∧ v = mkv nx ∧ h' = h.push b nx ∧ nx' = nx + 1 ∧ OpMake P N0 w0 tm h nx o mkv b) ∨
    (isHeavy o.op = true ∧ OpGen P N0 w0 tm h nx o v h' nx')

theorem OpOk.pure {P : Program} {N0 : Nat} {w0 : World} {tm : T AVal} {h : H} {nx : Nat} {o : Oper} {v : AVal}
    (hh : ∀ E tmps w, RelTm E tm tmps → HeapOk P N0 w0 E h nx w → ∃ cv, Rel E v cv ∧ (execOp (ev tmps) o).run P w = .ok (.value cv) w) : OpOk P N0 w0 tm h nx o v h nx :=
  .inl ⟨rfl, rfl, hh⟩
theorem OpOk.make {P : Program} {N0 : Nat} {w0 : World} {tm : T AVal} {h : H} {nx : Nat} {o : Oper} {mkv : Nat → AVal} {b : ABlk} (hm : MkKind mkv)
    (hh : ∀ E tmps w, RelTm E tm tmps → HeapOk P N0 w0 E h nx w → ∃ i obj cv n, i.blk = w.heap.size ∧ RelObj P E i b obj ∧ (∀ E' id, E' id = some i → Rel E' (mkv id) cv) ∧
      Gives P tmps o w cv { w with heap := w.heap.push obj, drawn := n }) : OpOk P N0 w0 tm h nx o (mkv nx) (h.push b nx) (nx + 1) :=
  .inr (.inl ⟨mkv, b, hm, rfl, rfl, rfl, hh⟩)
theorem OpOk.heavy {P : Program} {N0 : Nat} {w0 : World} {tm : T AVal} {h : H} {nx : Nat} {o : Oper} {v : AVal} {h' : H} {nx' : Nat} (hv : isHeavy o.op = true) (hn : nx ≤ nx')
    (hh : ∀ E tmps w, RelTm E tm tmps → HeapOk P N0 w0 E h nx w → ∃ E' w' cv, E.Le E' ∧ (∀ id, id < nx → E' id = E id) ∧ HeapOk P N0 w0 E' h' nx' w' ∧ Rel E' v cv ∧ Gives P tmps o w cv w') :
    OpOk P N0 w0 tm h nx o v h' nx' := .inr (.inr ⟨hv, hn, hh⟩)
theorem OpOk.gen {P : Program} {N0 : Nat} {w0 : World} {tm : T AVal} {h : H} {nx : Nat} {o : Oper} {v : AVal} {h' : H} {nx' : Nat} (x : OpOk P N0 w0 tm h nx o v h' nx') :
    OpGen P N0 w0 tm h nx o v h' nx' := by
  rcases x with ⟨rfl, rfl, x⟩ | ⟨mkv, b, _, rfl, rfl, rfl, x⟩ | ⟨_, x⟩
  · refine ⟨Nat.le_refl _, fun E tmps w r hw => ?_⟩
    obtain ⟨cv, h1, h2⟩ := x E tmps w r hw
    exact ⟨E, w, cv, Env.Le.refl E, fun _ _ => rfl, hw, h1, .inl h2⟩
  · refine ⟨Nat.le_succ _, fun E tmps w r hw => ?_⟩
    obtain ⟨i, obj, cv, n, hi, ho, hv, hg⟩ := x E tmps w r hw
    have le := Env.le_put (i := i) (hw.fresh (Nat.le_refl nx))
    obtain ⟨_, hk⟩ := hw.alloc (b := b) (i := i) hi (ho.mono le)
    exact ⟨_, _, _, le, fun id hid => by simp [Env.put, Nat.ne_of_lt hid], hk.congr (w' := { w with heap := w.heap.push obj, drawn := n }) rfl rfl rfl rfl, hv _ _ (by simp [Env.put]), hg⟩
  · exact x

theorem HeapOk.globs {P : Program} {N0 : Nat} {w0 w : World} {E : Env} {h : H} {nx : Nat} (x : HeapOk P N0 w0 E h nx w) : Globs P E := x.glob

section lay
variable {P : Program} {t : TypeId} {w : World}
theorem layOf_one (h : layOf P t = .one) : ∃ d i, P.underlying t = some d ∧ P.info? t = some i ∧ i.size = 1 ∧ (∀ fs, d ≠ .struct fs) ∧ (∀ n e, d ≠ .array n e) := by
  unfold layOf at h
  split at h
  · simp [forceN_eq] at h
  · simp [forceN_eq] at h
  · rename_i d i hu hi h1 h2
    refine ⟨d, i, h1, h2, ?_, fun fs e => hu fs e, fun n e e' => hi n e e'⟩
    cases hs : Nat.beq i.size 1
    · simp [hs] at h
    · simpa using hs
  · cases h
theorem layOf_agg {n : Nat} (h : layOf P t = .agg n) : ∃ d i, P.underlying t = some d ∧ P.info? t = some i ∧ i.size = n ∧ ((∃ fs, d = .struct fs) ∨ ∃ m e, d = .array m e) := by
  unfold layOf at h
  split at h
  · rename_i fs i h1 h2
    rw [forceN_eq] at h
    cases h
    exact ⟨_, i, h1, h2, rfl, .inl ⟨fs, rfl⟩⟩
  · rename_i m e i h1 h2
    rw [forceN_eq] at h
    cases h
    exact ⟨_, i, h1, h2, rfl, .inr ⟨m, e, rfl⟩⟩
  · rename_i d i _ _ h1 h2
    cases hs : Nat.beq i.size 1 <;> simp [hs] at h
  · cases h
theorem run_isAgg_one (h : layOf P t = .one) : (isAgg t).run P w = .ok false w := by
  obtain ⟨d, i, hu, _, _, h1, h2⟩ := layOf_one h
  unfold isAgg
  rw [Sem.run_bind, run_underlying hu, Result.andThen_ok]
  cases d <;> first | rfl | exact absurd rfl (h1 _) | exact absurd rfl (h2 _ _)
theorem run_isAgg_agg {n : Nat} (h : layOf P t = .agg n) : (isAgg t).run P w = .ok true w := by
  obtain ⟨d, i, hu, _, _, h1⟩ := layOf_agg h
  unfold isAgg
  rw [Sem.run_bind, run_underlying hu, Result.andThen_ok]
  rcases h1 with ⟨fs, rfl⟩ | ⟨m, e, rfl⟩ <;> rfl
theorem run_typeInfo' {i : TypeInfo} (h : P.info? t = some i) : (typeInfo t).run P w = .ok i w := by
  simp [typeInfo, h]
theorem run_sizeOf' {i : TypeInfo} (h : P.info? t = some i) : (sizeOf t).run P w = .ok i.size w := by
  simp [sizeOf, run_typeInfo' h]
theorem run_sizeOf_one (h : layOf P t = .one) : (sizeOf t).run P w = .ok 1 w := by
  obtain ⟨d, i, _, hi, e, _⟩ := layOf_one h
  rw [run_sizeOf' hi, e]
theorem run_sizeOf_agg {n : Nat} (h : layOf P t = .agg n) : (sizeOf t).run P w = .ok n w := by
  obtain ⟨d, i, _, hi, e, _⟩ := layOf_agg h
  rw [run_sizeOf' hi, e]
theorem run_loadVar_one {a : Addr} {v : Value} (h : layOf P t = .one) (hc : w.cell? a = some v) : (loadVar t a).run P w = .ok v w := by
  unfold loadVar
  rw [Sem.run_bind, run_isAgg_one h, Result.andThen_ok]
  simp [hc]
theorem run_loadVar_agg {n : Nat} {a : Addr} {L : List Value} (h : layOf P t = .agg n) (hn : L.length = n) (hc : ∀ j v, L[j]? = some v → w.cell? (a.add j) = some v) :
    (loadVar t a).run P w = .ok (.agg L.toArray) w := by
  unfold loadVar
  rw [Sem.run_bind, run_isAgg_agg h, Result.andThen_ok]
  simp only [if_true, Sem.run_bind, run_sizeOf_agg h, Result.andThen_ok, ← hn, run_loadCells_list w a L hc, Sem.run_pure]
end lay

/-- the cells of a block -/
theorem cells_of {P : Program} {N0 : Nat} {w0 w : World} {E : Env} {h : H} {nx : Nat} (x : HeapOk P N0 w0 E h nx w) {id : Nat} {i : Info} {c : T AVal} {n : Nat} {ex rw' : Bool} {e : TypeId}
    (hid : E id = some i) (hb : h.get id = some (.cells c n ex rw' e)) : ∃ L, RelT E c L ∧ L.length = n ∧ ∀ (j : Nat) (v : Value), L[j]? = some v → w.cell? ⟨i.blk, i.base + j, none⟩ = some v := by
  obtain ⟨o, ho, cs, lo, hi, L, rfl, r, hl, hc, _⟩ := x.obj id i _ hid hb rfl
  refine ⟨L, r, hl, fun j v hv => ?_⟩
  have hj : j < n := by rw [← hl]; exact (List.getElem?_eq_some_iff.1 hv).1
  simp [World.cell?, ho, hc j hj, hv]
end Go.Ev
/-! The operations are sound, part 2. -/
namespace Go.Ev
open Go.RowKit (Below)

section
variable {P : Program} {N0 : Nat} {w0 : World} {tm : T AVal} {h : H} {nx : Nat} {o : Oper} {k : AVal → H → Nat → Bool}

def OpGoal (P : Program) (N0 : Nat) (w0 : World) (tm : T AVal) (h : H) (nx : Nat) (o : Oper) (k : AVal → H → Nat → Bool) : Prop :=
  ∃ v h' nx', k v h' nx' = true ∧ OpOk P N0 w0 tm h nx o v h' nx'

theorem newK_eq {β : Type} (h : H) (nx : Nat) (b : ABlk) (k : AVal → H → Nat → β) : newK h nx b k = k (.ptr nx 0) (h.push b nx) (nx + 1) := by
  unfold newK; rw [T.pushK_eq, forceN_eq]
theorem intK_eq {β : Type} (n : Int) (k : Int → β) : intK n k = k n := by
  cases n <;> simp [intK, forceN_eq]

theorem sound_move {x : Operand} (ho : o.op = .move x ∨ o.op = .assign x) (hk : evK P tm F x (fun v => k v h nx) = true) : OpGoal P N0 w0 tm h nx o k := by
  replace hk := evK_true hk
  obtain ⟨a, hk, hr⟩ := hk
  exact ⟨a, h, nx, hk, OpOk.pure fun E tmps w r hw => ⟨_, hr E tmps hw.globs r, by rcases ho with ho | ho <;> simp [execOp, ho]⟩⟩

theorem sound_pick {c a b : Operand} (ho : o.op = .pick c a b) (hk : opK P tm F h nx (.pick c a b) o.type k = true) : OpGoal P N0 w0 tm h nx o k := by
  simp only [opK] at hk
  replace hk := evK_true hk
  obtain ⟨vc, hk, hc⟩ := hk
  split at hk
  · obtain ⟨v, hk, hr⟩ := evK_true hk
    exact ⟨v, h, nx, hk, OpOk.pure fun E tmps w r hw => ⟨_, hr E tmps hw.globs r, by
      have : ev tmps c = .bool true := hc E tmps hw.globs r
      simp [execOp, ho, this, asBool]⟩⟩
  · obtain ⟨v, hk, hr⟩ := evK_true hk
    exact ⟨v, h, nx, hk, OpOk.pure fun E tmps w r hw => ⟨_, hr E tmps hw.globs r, by
      have : ev tmps c = .bool false := hc E tmps hw.globs r
      simp [execOp, ho, this, asBool]⟩⟩
  · simp [F] at hk

theorem treeO_rel {E : Env} {a : AVal} {t : T AVal} {v : Value} (h : treeO a = some t) (r : Rel E a v) : RelT E t v.cells.toList := by
  unfold treeO at h
  split at h
  · cases h
    obtain ⟨l, rl, rfl⟩ := r
    simpa [Value.cells] using rl
  · cases h
  · cases h
  · rename_i h1 h2 h3
    cases h
    cases a with
    | agg t => exact absurd rfl (h1 t)
    | tuple l => exact absurd rfl (h2 l)
    | poison => exact absurd rfl h3
    | bool b => obtain rfl := r; exact ⟨_, rfl, rfl, rfl⟩
    | int k n => obtain rfl := r; exact ⟨_, rfl, rfl, rfl⟩
    | str l => obtain ⟨s, rfl, e⟩ := r; exact ⟨_, ⟨s, rfl, e⟩, rfl, rfl⟩
    | ptr0 => obtain rfl := r; exact ⟨_, rfl, rfl, rfl⟩
    | ptr id off => obtain ⟨i, e, rfl⟩ := r; exact ⟨_, ⟨i, e, rfl⟩, rfl, rfl⟩
    | slice0 => obtain rfl := r; exact ⟨_, rfl, rfl, rfl⟩
    | slice id off len cap => obtain ⟨i, n, e1, e2, e3, e4, rfl⟩ := r; exact ⟨_, ⟨i, n, e1, e2, e3, e4, rfl⟩, rfl, rfl⟩
    | map0 => obtain rfl := r; exact ⟨_, rfl, rfl, rfl⟩
    | map id => obtain ⟨i, e, rfl⟩ := r; exact ⟨_, ⟨i, e, rfl⟩, rfl, rfl⟩
    | func f a c => obtain ⟨g, x, y, r1, r2, r3, rfl⟩ := r; exact ⟨_, ⟨g, x, y, r1, r2, r3, rfl⟩, rfl, rfl⟩
    | nilFunc => obtain rfl := r; exact ⟨_, rfl, rfl, rfl⟩
    | iface t x => obtain ⟨y, r1, rfl⟩ := r; exact ⟨_, ⟨y, r1, rfl⟩, rfl, rfl⟩
    | nilIface => obtain rfl := r; exact ⟨_, rfl, rfl, rfl⟩

/-- a row of cells in a block of its own -/
theorem relObj_row {E : Env} {t : T AVal} {l : List Value} {b n : Nat} {e : TypeId} (r : RelT E t l) (hn : n = t.len) :
    RelObj P E ⟨b, 0, 0, sizeP P e⟩ (.cells t n true true e) (.cells l.toArray e (0, 0)) := by
  obtain ⟨w1, e1⟩ := r.wf
  rw [T.len_eq _ w1] at hn
  exact ⟨l.toArray, 0, 0, l, rfl, r, by rw [e1, hn], fun j hj => by simp, rfl, by simp, fun _ => ⟨by simp [e1, hn], rfl⟩, fun _ j _ => by omega⟩

/-- a new row: the pointer to it -/
theorem OpOk.row {t : T AVal} {n : Nat} {e : TypeId} (hn : n = t.len)
    (hh : ∀ E tmps w, RelTm E tm tmps → HeapOk P N0 w0 E h nx w → ∃ l : List Value, RelT E t l ∧ Gives P tmps o w (.pointer (some ⟨w.heap.size, 0, none⟩)) { w with heap := w.heap.push (.cells l.toArray e (0, 0)) }) :
    OpOk P N0 w0 tm h nx o (.ptr nx 0) (h.push (.cells t n true true e) nx) (nx + 1) :=
  OpOk.make (mkv := fun id => .ptr id 0) (.inl rfl) fun E tmps w r hw => by
    obtain ⟨l, hl, hg⟩ := hh E tmps w r hw
    exact ⟨⟨w.heap.size, 0, 0, sizeP P e⟩, _, _, w.drawn, rfl, relObj_row hl hn, fun E' id e => ⟨_, e, rfl⟩, hg⟩

theorem zeroP_run {e : TypeId} {z : AVal} (h : zeroP P e = some z) (E : Env) (w : World) : ∃ v, (zeroValue e).run P w = .ok v w ∧ Rel E z v ∧ ∃ i, P.info? e = some i ∧ i.zero = some v := by
  unfold zeroP at h
  split at h
  · rename_i v hv
    cases hi : P.info? e with
    | none => simp [hi] at hv
    | some i =>
      simp only [hi, Option.bind_some] at hv
      exact ⟨v, by simp [zeroValue, run_typeInfo' hi, hv], absV_rel h, i, rfl, hv⟩
  · cases h

theorem sound_alloc {e : TypeId} (ho : o.op = .alloc e) (hk : opK P tm F h nx (.alloc e) o.type k = true) : OpGoal P N0 w0 tm h nx o k := by
  simp only [opK] at hk
  split at hk
  · simp [F] at hk
  rename_i z hz
  split at hk
  · simp [F] at hk
  rename_i t ht
  rw [T.lenK_eq, newK_eq] at hk
  refine ⟨_, _, _, hk, OpOk.row (by simp) fun E tmps w r hw => ?_⟩
  obtain ⟨v, hv, rv, _⟩ := zeroP_run hz E w
  refine ⟨v.cells.toList, treeO_rel ht rv, .inl ?_⟩
  simp [execOp, ho, Instr.alloc, hv, newVar, newRow]

theorem sound_box {e : TypeId} {x : Operand} (ho : o.op = .box e x) (hk : opK P tm F h nx (.box e x) o.type k = true) : OpGoal P N0 w0 tm h nx o k := by
  simp only [opK] at hk
  replace hk := evK_true hk
  obtain ⟨a, hk, ha⟩ := hk
  split at hk
  · simp [F] at hk
  rename_i t ht
  rw [T.lenK_eq, newK_eq] at hk
  refine ⟨_, _, _, hk, OpOk.row (by simp) fun E tmps w r hw => ?_⟩
  have rv := ha E tmps hw.globs r
  refine ⟨_, treeO_rel ht rv, .inl ?_⟩
  simp [execOp, ho, Instr.box, newVar, newRow]

theorem F_false {s : String} (h : F s = true) : False := by simp [F] at h

theorem sound_extract {t : Operand} {n : Nat} (ho : o.op = .extract t n) (hk : opK P tm F h nx (.extract t n) o.type k = true) : OpGoal P N0 w0 tm h nx o k := by
  simp only [opK] at hk
  replace hk := evK_true hk
  obtain ⟨a, hk, ha⟩ := hk
  split at hk
  · rename_i l
    rw [nthK_eq] at hk
    split at hk
    · rename_i v hv
      refine ⟨_, _, _, hk, OpOk.pure fun E tmps w r hw => ?_⟩
      obtain ⟨vs, rl, e⟩ := ha E tmps hw.globs r
      obtain ⟨x, hx, rx⟩ := RelL.get rl n v hv
      exact ⟨x, rx, by simp [execOp, ho, e, Instr.extract, hx]⟩
    · exact (F_false hk).elim
  · exact (F_false hk).elim

theorem sound_makeInterface {t : TypeId} {x : Operand} (ho : o.op = .makeInterface t x) (hk : opK P tm F h nx (.makeInterface t x) o.type k = true) : OpGoal P N0 w0 tm h nx o k := by
  simp only [opK] at hk
  split at hk
  · exact (F_false hk).elim
  · exact (F_false hk).elim
  · rename_i d hd h1
    replace hk := evK_true hk
    obtain ⟨a, hk, ha⟩ := hk
    refine ⟨_, _, _, hk, OpOk.pure fun E tmps w r hw => ⟨_, ⟨_, ha E tmps hw.globs r, rfl⟩, ?_⟩⟩
    simp only [execOp, ho, Instr.makeInterface, Sem.run_bind, run_underlying h1, Result.andThen_ok]
    cases d <;> first | rfl | exact absurd h1 (hd _)

theorem mapK_true {f : Operand → (AVal → Bool) → Bool} {k : List AVal → Bool} : ∀ {l : List Operand}, mapK f l k = true →
    (∀ x k, f x k = true → ∃ a, k a = true ∧ ∀ E tmps, Globs P E → RelTm E tm tmps → Rel E a (ev tmps x)) →
    ∃ as, k as = true ∧ ∀ E tmps, Globs P E → RelTm E tm tmps → RelL E as (l.map (ev tmps))
  | [], hk, _ => ⟨[], hk, fun _ _ _ _ => rfl⟩
  | x :: l, hk, hf => by
    replace hk := hf x _ hk
    obtain ⟨a, hk, ha⟩ := hk
    obtain ⟨as, hk, has⟩ := mapK_true hk hf
    exact ⟨a :: as, hk, fun E tmps hg r => ⟨_, _, ha E tmps hg r, has E tmps hg r, rfl⟩⟩
theorem evL_true {l : List Operand} {k : List AVal → Bool} (hk : mapK (evK P tm F) l k = true) :
    ∃ as, k as = true ∧ ∀ E tmps, Globs P E → RelTm E tm tmps → RelL E as (l.map (ev tmps)) :=
  mapK_true hk fun _ _ h => evK_true h

theorem map_toArray {α β : Type} (f : α → β) (a : Array α) : (a.toList.map f).toArray = a.map f := by
  apply Array.ext'; simp
theorem sound_makeFunc {fn : Fn} {first captured : Array Operand} (ho : o.op = .makeFunc fn first captured)
    (hk : opK P tm F h nx (.makeFunc fn first captured) o.type k = true) : OpGoal P N0 w0 tm h nx o k := by
  simp only [opK] at hk
  split at hk
  · exact (F_false hk).elim
  rename_i hfn
  replace hk := evL_true hk
  obtain ⟨as, hk, ha⟩ := hk
  replace hk := evL_true hk
  obtain ⟨cs, hk, hc⟩ := hk
  refine ⟨_, _, _, hk, OpOk.pure fun E tmps w r hw => ⟨_, ⟨fn, _, _, ?_, ha E tmps hw.globs r, hc E tmps hw.globs r, rfl⟩, ?_⟩⟩
  · cases fn <;> first | rfl | exact absurd rfl (hfn _)
  · simp only [map_toArray]
    simp [execOp, ho, Instr.makeFunc]

theorem fieldP_some {s : TypeId} {f off : Nat} {t : TypeId} (h : fieldP P s f = some (off, t)) : ∃ fs fl, P.underlying s = some (.struct fs) ∧ fs[f]? = some fl ∧ fl.offset = off ∧ fl.type = t := by
  unfold fieldP at h
  split at h
  · rename_i fs hs
    split at h
    · rename_i fl hf
      rw [forceN_eq] at h
      cases h
      exact ⟨fs, fl, hs, hf, rfl, rfl⟩
    · cases h
  · cases h
theorem sizeP_eq (t : TypeId) : sizeP P t = P.cellsOf t := by
  unfold sizeP Program.cellsOf
  cases P.info? t <;> simp [forceN_eq]
theorem sizeP_info {t : TypeId} (h : sizeP P t ≠ 0) : ∃ i, P.info? t = some i ∧ i.size = sizeP P t := by
  unfold sizeP at *
  cases e : P.info? t with
  | none => simp [e] at h
  | some i => exact ⟨i, rfl, by simp [forceN_eq]⟩

theorem sound_fieldAddr {s : TypeId} {x : Operand} {f : Nat} (ho : o.op = .fieldAddr s x f) (hk : opK P tm F h nx (.fieldAddr s x f) o.type k = true) : OpGoal P N0 w0 tm h nx o k := by
  simp only [opK] at hk
  split at hk
  · rename_i off t hf
    obtain ⟨fs, fl, hs, hfl, rfl, rfl⟩ := fieldP_some hf
    cases hz : Nat.beq (sizeP P fl.type) 0 with
    | true => rw [hz] at hk; simp [F] at hk
    | false =>
    rw [hz] at hk
    obtain ⟨a, hk, ha⟩ := evK_true (show evK P tm F x _ = true from hk)
    split at hk
    · rename_i id o1
      rw [forceN_eq] at hk
      refine ⟨_, _, _, hk, OpOk.pure fun E tmps w r hw => ?_⟩
      obtain ⟨i, hi, e⟩ := ha E tmps hw.globs r
      have hne : sizeP P fl.type ≠ 0 := fun c => by rw [c] at hz; cases hz
      obtain ⟨ti, h1, h2⟩ := sizeP_info hne
      refine ⟨_, ⟨i, hi, rfl⟩, ?_⟩
      have hne' : ti.size ≠ 0 := by rw [h2]; exact hne
      have hfl' : fs[f]? = some fl := hfl
      simp only [execOp, ho, Instr.fieldAt, Sem.run_bind, run_underlying hs, Result.andThen_ok, hfl', e, Instr.sureAddr, Sem.run_pure, fieldPlace, run_sizeOf' h1, hne', if_false, Sem.run_ite]
      congr 4
      unfold Addr.add
      split
      · rename_i c; simp [c]
      · simp [Nat.add_assoc]
    · exact (F_false hk).elim
  · exact (F_false hk).elim
end
end Go.Ev
/-! The operations are sound, part 3: memory. -/
namespace Go.Ev
open Go.RowKit (Below)

section
variable {P : Program} {N0 : Nat} {w0 : World} {tm : T AVal} {h : H} {nx : Nat} {o : Oper} {k : AVal → H → Nat → Bool}

/-- a cell of a block, by its tree -/
theorem cell_at {w : World} {E : Env} (x : HeapOk P N0 w0 E h nx w) {id : Nat} {i : Info} {c : T AVal} {n : Nat} {ex rw' : Bool} {e : TypeId} {off : Nat} {a : AVal}
    (hid : E id = some i) (hb : h.get id = some (.cells c n ex rw' e)) (ha : c.get off = some a) : ∃ v, w.cell? ⟨i.blk, i.base + off, none⟩ = some v ∧ Rel E a v ∧ v.oneCell' = true := by
  obtain ⟨L, r, hl, hc⟩ := cells_of x hid hb
  obtain ⟨rl, ro⟩ := r.toList
  rw [T.get_toList _ r.wf.1] at ha
  obtain ⟨v, hv, rv⟩ := RelL.get rl off a ha
  exact ⟨v, hc off v hv, rv, ro v (List.mem_of_getElem? hv)⟩

/-- a part of a tree -/
theorem subK_true {c : T AVal} {n off m : Nat} {k' : T AVal → Bool} (hk : subK c n off m k' = true) :
    ∃ s, k' s = true ∧ ∀ E L, RelT E c L → L.length = n → off + m ≤ n → RelT E s ((L.drop off).take m) := by
  unfold subK at hk
  cases hc : (Nat.beq off 0 && Nat.beq m n) with
  | true =>
    rw [hc] at hk
    refine ⟨c, hk, fun E L r hl hm => ?_⟩
    simp only [Bool.and_eq_true, Nat.beq_eq] at hc
    obtain ⟨rfl, rfl⟩ := hc
    rw [List.drop_zero, ← hl, List.take_length]; exact r
  | false =>
    rw [hc] at hk
    rw [show (bif false then k' c else c.colK off m [] fun l => pushListK l .nil 0 k') = c.colK off m [] fun l => pushListK l .nil 0 k' from rfl, T.colK_eq, pushListK_eq] at hk
    refine ⟨_, hk, fun E L r hl hm => ?_⟩
    obtain ⟨rl, ro⟩ := r.toList
    have rr : RelL E ((c.toList.drop off).take m) ((L.drop off).take m) := by
      rw [show c.toList = (c.toList.take off ++ ((c.toList.drop off).take m ++ (c.toList.drop off).drop m)) by rw [List.take_append_drop, List.take_append_drop]] at rl
      obtain ⟨a, b, e1, r1, r2⟩ := RelL.split rl
      obtain ⟨b1, b2, e2, r3, r4⟩ := RelL.split r2
      have l1 := r1.length
      have l3 := r3.length
      have lc := (r.wf).2
      subst e1; subst e2
      have ha : a.length = off := by rw [l1, List.length_take]; simp at hl lc; omega
      have hb : b1.length = m := by rw [l3, List.length_take, List.length_drop]; simp at hl lc; omega
      rw [List.drop_append_of_le_length (by omega), ← ha, List.drop_length, List.nil_append, List.take_append_of_le_length (by omega), ← hb, List.take_length]
      rw [ha, hb]; exact r3
    rw [T.col_eq _ r.wf.1, List.append_nil]
    exact relT_push rr fun v hv => ro v (List.mem_of_mem_drop (List.mem_of_mem_take hv))

theorem addr_add (b o n : Nat) : Addr.add ⟨b, o, none⟩ n = ⟨b, o + n, none⟩ := by
  unfold Addr.add
  split
  · rename_i c; simp [c]
  · rfl

/-- a load -/
theorem loadK_true {t : TypeId} {id off : Nat} {k' : AVal → Bool} (hk : loadK P F h t id off k' = true) :
    ∃ a, k' a = true ∧ ∀ E w i, HeapOk P N0 w0 E h nx w → E id = some i → ∃ v, (loadVar t ⟨i.blk, i.base + off, none⟩).run P w = .ok v w ∧ Rel E a v := by
  unfold loadK at hk
  replace hk := getK_true hk
  obtain ⟨b, hb, hk⟩ := hk
  split at hk
  · rename_i c n ex rw' e
    split at hk
    · rename_i m hl
      replace hk := cond_true hk
      obtain ⟨hc, hk⟩ := hk
      replace hk := subK_true hk
      obtain ⟨s, hk, hs⟩ := hk
      refine ⟨_, hk, fun E w i x hid => ?_⟩
      obtain ⟨L, r, hn, hcell⟩ := cells_of x hid hb
      have hm : off + m ≤ n := Nat.le_of_ble_eq_true hc
      have r' := hs E L r hn hm
      refine ⟨_, run_loadVar_agg hl (L := (L.drop off).take m) (by simp; omega) (fun j v hv => ?_), ⟨_, r', rfl⟩⟩
      rw [addr_add]
      rw [List.getElem?_take] at hv
      split at hv
      · rw [List.getElem?_drop] at hv
        rw [Nat.add_assoc]
        exact hcell _ _ hv
      · cases hv
    · rename_i hl
      replace hk := getK_true hk
      obtain ⟨a, ha, hk⟩ := hk
      split at hk
      · exact (F_false hk).elim
      refine ⟨_, hk, fun E w i x hid => ?_⟩
      obtain ⟨v, hv, rv, _⟩ := cell_at x hid hb ha
      exact ⟨v, run_loadVar_one hl hv, rv⟩
    · exact (F_false hk).elim
  · exact (F_false hk).elim
  · exact (F_false hk).elim

theorem sound_load {t : TypeId} {a : Operand} (ho : o.op = .load t a) (hk : opK P tm F h nx (.load t a) o.type k = true) : OpGoal P N0 w0 tm h nx o k := by
  simp only [opK] at hk
  replace hk := evK_true hk
  obtain ⟨v, hk, ha⟩ := hk
  split at hk
  · rename_i id off
    replace hk := loadK_true (N0 := N0) (w0 := w0) (nx := nx) hk
    obtain ⟨x, hk, hx⟩ := hk
    refine ⟨_, _, _, hk, OpOk.pure fun E tmps w r hw => ?_⟩
    obtain ⟨i, hid, e⟩ := ha E tmps hw.globs r
    obtain ⟨u, h1, h2⟩ := hx E w i hw hid
    exact ⟨u, h2, by simp [execOp, ho, Instr.loadAt, Instr.sureAddr, e, h1]⟩
  · exact (F_false hk).elim

theorem sound_nilCheck {x : Operand} (ho : o.op = .nilCheck x) (hk : opK P tm F h nx (.nilCheck x) o.type k = true) : OpGoal P N0 w0 tm h nx o k := by
  simp only [opK] at hk
  replace hk := evK_true hk
  obtain ⟨v, hk, ha⟩ := hk
  split at hk
  · refine ⟨_, _, _, hk, OpOk.pure fun E tmps w r hw => ?_⟩
    obtain ⟨i, hid, e⟩ := ha E tmps hw.globs r
    exact ⟨_, ⟨i, hid, rfl⟩, by simp [execOp, ho, e]⟩
  · refine ⟨_, _, _, hk, OpOk.pure fun E tmps w r hw => ?_⟩
    obtain ⟨y, ry, e⟩ := ha E tmps hw.globs r
    exact ⟨_, ⟨y, ry, rfl⟩, by simp [execOp, ho, e]⟩
  · refine ⟨_, _, _, hk, OpOk.pure fun E tmps w r hw => ?_⟩
    obtain ⟨g, x, y, rg, rx, ry, e⟩ := ha E tmps hw.globs r
    obtain rfl := rg
    exact ⟨_, ⟨_, x, y, rfl, rx, ry, rfl⟩, by simp [execOp, ho, e]⟩
  · refine ⟨_, _, _, hk, OpOk.pure fun E tmps w r hw => ?_⟩
    obtain ⟨g, x, y, ⟨i, hi, rfl⟩, rx, ry, e⟩ := ha E tmps hw.globs r
    exact ⟨_, ⟨_, x, y, ⟨i, hi, rfl⟩, rx, ry, rfl⟩, by simp [execOp, ho, e]⟩
  · exact (F_false hk).elim

theorem szK_true {t : TypeId} {k' : Nat → Bool} (hk : szK P F t k' = true) : ∃ i, P.info? t = some i ∧ i.size ≠ 0 ∧ k' i.size = true := by
  unfold szK szO at hk
  cases e : P.info? t with
  | none => simp [e, F] at hk
  | some i =>
    rw [e] at hk
    simp only [forceN_eq] at hk
    cases z : Nat.beq i.size 0 with
    | true => simp [z, F] at hk
    | false => exact ⟨i, rfl, (fun c => by rw [c] at z; cases z), by simpa [z] using hk⟩

theorem sound_indexAddr {t : TypeId} {x i : Operand} (ho : o.op = .indexAddr t x i) (hk : opK P tm F h nx (.indexAddr t x i) o.type k = true) : OpGoal P N0 w0 tm h nx o k := by
  simp only [opK] at hk
  replace hk := evK_true hk
  obtain ⟨v, hk, ha⟩ := hk
  replace hk := evK_true hk
  obtain ⟨j, hk, hj⟩ := hk
  split at hk
  · rename_i kd j
    split at hk
    · rename_i id off len cap
      split at hk
      · rename_i e hu
        replace hk := cond_true hk
        obtain ⟨hc, hk⟩ := hk
        have hlt : j < len := by have := Nat.le_of_ble_eq_true hc; omega
        replace hk := szK_true hk
        obtain ⟨ti, hi, _, hk⟩ := hk
        rw [forceN_eq] at hk
        refine ⟨_, _, _, hk, OpOk.pure fun E tmps w r hw => ?_⟩
        obtain ⟨q, n, hid, c1, c2, c3, e1⟩ := ha E tmps hw.globs r
        have e2 : ev tmps i = .int kd (.ofNat j) := hj E tmps hw.globs r
        refine ⟨_, ⟨q, hid, rfl⟩, ?_⟩
        simp [execOp, ho, Instr.indexAt, e1, e2, asIntOf, run_underlying hu, run_sizeOf' hi, addr_add, Nat.add_assoc, hlt]
      · exact (F_false hk).elim
    · rename_i id off
      split at hk
      · rename_i n e hu
        replace hk := cond_true hk
        obtain ⟨hc, hk⟩ := hk
        have hlt : j < n := by have := Nat.le_of_ble_eq_true hc; omega
        replace hk := szK_true hk
        obtain ⟨ti, hi, _, hk⟩ := hk
        rw [forceN_eq] at hk
        refine ⟨_, _, _, hk, OpOk.pure fun E tmps w r hw => ?_⟩
        obtain ⟨q, hid, e1⟩ := ha E tmps hw.globs r
        have e2 : ev tmps i = .int kd (.ofNat j) := hj E tmps hw.globs r
        refine ⟨_, ⟨q, hid, rfl⟩, ?_⟩
        simp [execOp, ho, Instr.indexAt, e1, e2, asIntOf, run_underlying hu, run_sizeOf' hi, addr_add, Nat.add_assoc, hlt, Instr.sureAddr]
      · exact (F_false hk).elim
    · exact (F_false hk).elim
  · exact (F_false hk).elim
end
end Go.Ev
/-! The operations are sound, part 4: stores. -/
namespace Go.Ev
open Go.RowKit (Below)

theorem RelL.of_get {E : Env} : ∀ {l : List AVal} {v : List Value}, v.length = l.length → (∀ (i : Nat) (a : AVal), l[i]? = some a → ∃ x, v[i]? = some x ∧ Rel E a x) → RelL E l v
  | [], v, hl, _ => List.length_eq_zero_iff.1 hl
  | a :: l, [], hl, _ => by simp at hl
  | a :: l, x :: v, hl, h => by
    obtain ⟨y, hy, r⟩ := h 0 a rfl
    obtain rfl : x = y := by simpa using hy
    exact ⟨x, v, r, RelL.of_get (by simpa using hl) (fun i b hb => by simpa using h (i + 1) b (by simpa using hb)), rfl⟩

theorem setCells_heap (b : Nat) (e : TypeId) (fr : Nat × Nat) : ∀ (vs : List Value) (o : Nat) (w : World) (cs : Array Value), w.heap[b]? = some (.cells cs e fr) → o + vs.length ≤ cs.size →
    ∃ cs' : Array Value, (w.setCells b o vs).heap[b]? = some (.cells cs' e fr) ∧ cs'.size = cs.size ∧ (∀ j : Nat, cs'[j]? = if o ≤ j ∧ j < o + vs.length then vs[j - o]? else cs[j]?) ∧
      (∀ j, j ≠ b → (w.setCells b o vs).heap[j]? = w.heap[j]?) ∧ (w.setCells b o vs).heap.size = w.heap.size ∧ (w.setCells b o vs).os = w.os ∧ (w.setCells b o vs).tape = w.tape ∧ (w.setCells b o vs).output = w.output
  | [], o, w, cs, h, _ => ⟨cs, h, rfl, fun j => by rw [if_neg (by simp only [List.length_nil]; omega)], fun _ _ => rfl, rfl, rfl, rfl, rfl⟩
  | v :: r, o, w, cs, h, hs => by
    simp only [List.length_cons] at hs
    have h1 : (w.setCell ⟨b, o, none⟩ v).heap[b]? = some (.cells (cs.setIfInBounds o v) e fr) := by
      simp only [World.setCell, Array.getElem?_modify, if_true, h, Option.map_some]; rfl
    obtain ⟨cs', a1, a2, a3, a4, a5, a6, a7, a8⟩ := setCells_heap b e fr r (o + 1) (w.setCell ⟨b, o, none⟩ v) (cs.setIfInBounds o v) h1 (by simp; omega)
    refine ⟨cs', a1, by simpa using a2, fun j => ?_, fun j hj => ?_, ?_, ?_, ?_, ?_⟩
    · rw [a3 j]
      simp only [List.length_cons]
      by_cases c1 : o + 1 ≤ j ∧ j < o + 1 + r.length
      · rw [if_pos c1, if_pos (by omega)]
        obtain ⟨m, rfl⟩ : ∃ m, j = o + 1 + m := ⟨j - (o + 1), by omega⟩
        rw [show o + 1 + m - o = m + 1 by omega, show o + 1 + m - (o + 1) = m by omega]; rfl
      · rw [if_neg c1]
        by_cases c2 : o = j
        · subst c2
          rw [if_pos (by omega)]
          have : o < cs.size := by omega
          simp [this]
        · rw [if_neg (by omega), Array.getElem?_setIfInBounds_ne c2]
    · rw [World.setCells, a4 j hj]
      simp only [World.setCell, Array.getElem?_modify]
      rw [if_neg (by simpa using Ne.symm hj)]
    · rw [World.setCells, a5]; simp [World.setCell]
    · rw [World.setCells, a6]; rfl
    · rw [World.setCells, a7]; rfl
    · rw [World.setCells, a8]; rfl

section
variable {P : Program} {N0 : Nat} {w0 : World} {tm : T AVal} {h : H} {nx : Nat} {o : Oper} {k : AVal → H → Nat → Bool}

/-- cells stored into a block that may be written -/
theorem store_cells {w : World} {E : Env} (x : HeapOk P N0 w0 E h nx w) {id off n : Nat} {i : Info} {c c' : T AVal} {ex : Bool} {e : TypeId} {l : List AVal} {vs : List Value}
    (hid : E id = some i) (hb : h.get id = some (.cells c n ex true e)) (hs : T.setO l c off = some c') (hl : RelL E l vs) (ho : ∀ v ∈ vs, v.oneCell' = true) :
    ∃ w', (storeCells ⟨i.blk, i.base + off, none⟩ vs).run P w = .ok () w' ∧ HeapOk P N0 w0 E (h.set (.cells c' n ex true e) id) nx w' := by
  obtain ⟨obj, hobj, cs, lo, hi, L, rfl, r, hn, hc, he, hcap, hex, hrw⟩ := x.obj id i _ hid hb rfl
  obtain ⟨wf, wl⟩ := r.wf
  obtain ⟨wf', h1, h2, h3⟩ := T.wf_setO l c off wf c' hs
  obtain ⟨rl, ro⟩ := r.toList
  have hlen := hl.length
  have hbound : vs ≠ [] → off + vs.length ≤ n := fun ne => by
    have := h1 (fun c => by rw [c] at hlen; exact ne (List.length_eq_zero_iff.1 hlen))
    omega
  by_cases hv : vs = []
  · -- nothing is stored
    subst hv
    have hl0 : l = [] := List.length_eq_zero_iff.1 hlen.symm
    subst hl0
    obtain rfl : c = c' := by simpa [T.setO] using hs
    refine ⟨w, rfl, ?_⟩
    exact x.set hid hb rfl rfl (fun _ _ => rfl) rfl rfl rfl rfl hobj ⟨cs, lo, hi, L, rfl, r, hn, hc, he, hcap, hex, hrw⟩
  have hb' := hbound hv
  have hsz : i.base + n ≤ cs.size := by
    have hpos : 0 < n := by have : 0 < vs.length := List.length_pos_iff.2 hv; omega
    have := hc (n - 1) (by omega)
    have hlt : n - 1 < L.length := by omega
    rw [List.getElem?_eq_getElem hlt] at this
    have := (Array.getElem?_eq_some_iff.1 this).1
    omega
  have hcell : ∀ j, j < vs.length → (w.cell? ⟨i.blk, i.base + off + 0 + j, none⟩).isSome = true := by
    intro j hj
    have hlt : i.base + off + 0 + j < cs.size := by omega
    simp [World.cell?, hobj]
    omega
  have hfro : ∀ j, j < vs.length → w.frozen? ⟨i.blk, i.base + off + 0 + j, none⟩ = false := by
    intro j hj
    have := hrw rfl (i.base + off + 0 + j) (by omega)
    simp only [World.frozen?, hobj]
    simp only [Bool.and_eq_false_iff, decide_eq_false_iff_not]
    by_cases c : lo ≤ i.base + off + 0 + j
    · right; intro d; exact this ⟨c, d⟩
    · left; exact c
  refine ⟨_, run_storeCells_cells (P := P) i.blk (i.base + off) vs 0 w hcell hfro ho, ?_⟩
  obtain ⟨cs', b1, b2, b3, b4, b5, b6, b7, b8⟩ := setCells_heap i.blk e (lo, hi) vs (i.base + off + 0) w cs hobj (by omega)
  have hn' : c'.toList.length = n := by rw [h2, ← wl, hn]
  refine x.set hid hb rfl rfl b4 b5 b6 b7 b8 b1 ?_
  -- the new row of cells
  let L' := (List.range n).map fun j => if off ≤ j ∧ j < off + vs.length then vs.getD (j - off) undef else L.getD j undef
  have hL' : ∀ j, j < n → L'[j]? = if off ≤ j ∧ j < off + vs.length then vs[j - off]? else L[j]? := by
    intro j hj
    simp only [L', List.getElem?_map, List.getElem?_range hj, Option.map_some]
    split
    · rename_i c
      have : j - off < vs.length := by omega
      simp [List.getD, List.getElem?_eq_getElem this]
    · have : j < L.length := by omega
      simp [List.getD, List.getElem?_eq_getElem this]
  refine ⟨cs', lo, hi, L', rfl, ?_, by simp [L'], fun j hj => ?_, he, by omega, fun e => by rw [b2]; exact hex e, fun e j hj => hrw e j (by omega)⟩
  · refine RelT.of_list wf' (RelL.of_get (by simp [L', hn']) fun j a ha => ?_) fun v hv => ?_
    · have hj : j < n := by rw [← hn']; exact (List.getElem?_eq_some_iff.1 ha).1
      rw [h3 j] at ha
      rw [hL' j hj]
      split at ha
      · rename_i c
        rw [if_pos (by omega)]
        exact RelL.get hl _ a ha
      · rename_i c
        rw [if_neg (by omega)]
        exact RelL.get rl _ a ha
    · obtain ⟨j, hj⟩ := List.getElem?_of_mem hv
      have hjn : j < n := by have := (List.getElem?_eq_some_iff.1 hj).1; simpa [L'] using this
      rw [hL' j hjn] at hj
      split at hj
      · exact ho v (List.mem_of_getElem? hj)
      · exact ro v (List.mem_of_getElem? hj)
  · rw [b3, hL' j hj]
    by_cases c : off ≤ j ∧ j < off + vs.length
    · rw [if_pos (by omega), if_pos c]
      congr 1; omega
    · rw [if_neg (by omega), if_neg c]
      exact hc j hj

theorem putCellsK_true {id off : Nat} {l : List AVal} {k' : H → Bool} (hk : putCellsK F h id off l k' = true) :
    ∃ c n ex e c', h.get id = some (.cells c n ex true e) ∧ T.setO l c off = some c' ∧ k' (h.set (.cells c' n ex true e) id) = true := by
  unfold putCellsK at hk
  replace hk := getK_true hk
  obtain ⟨b, hb, hk⟩ := hk
  split at hk
  · rename_i c n ex rw' e
    split at hk
    · rw [setListK_eq] at hk
      split at hk
      · rename_i c' hc'
        replace hk := setK_true hk
        exact ⟨c, n, ex, e, c', hb, hc', hk.2⟩
      · exact (F_false hk).elim
    · exact (F_false hk).elim
  · exact (F_false hk).elim
  · exact (F_false hk).elim

theorem isCellA_rel {E : Env} {a : AVal} {v : Value} (h : isCellA a = true) (r : Rel E a v) : v.oneCell' = true := by
  have : treeO a = some (.leaf a) := by cases a <;> first | rfl | simp [isCellA] at h
  obtain ⟨u, _, h2, h3⟩ := treeO_rel this r
  cases v <;> simp [Value.cells] at h3 <;> first | rfl | (subst h3; exact h2) | (cases a <;> simp [Rel] at r <;> simp [isCellA] at h)
theorem T.set_set {α : Type} (t : T α) (a b : α) (i : Nat) : (t.set a i).set b i = t.set b i := by
  induction t generalizing i with
  | nil => rfl
  | leaf c => simp only [T.set]; split <;> simp_all [T.set]
  | node sz l r hl hr =>
    by_cases c : sz ≤ i
    · simp [T.set, c, hr]
    · simp [T.set, c, hl]

/-- another tree of the same cells -/
theorem HeapOk.retree {w : World} {E : Env} (x : HeapOk P N0 w0 E h nx w) {id n : Nat} {i : Info} {c s : T AVal} {ex : Bool} {e : TypeId}
    (hid : E id = some i) (hb : h.get id = some (.cells c n ex true e)) (hr : ∀ L, RelT E c L → RelT E s L) : HeapOk P N0 w0 E (h.set (.cells s n ex true e) id) nx w := by
  obtain ⟨obj, hobj, cs, lo, hi, L, rfl, r, rest⟩ := x.obj id i _ hid hb rfl
  exact x.set hid hb rfl rfl (fun _ _ => rfl) rfl rfl rfl rfl hobj ⟨cs, lo, hi, L, rfl, hr L r, rest⟩

theorem putAggK_true {id off m : Nat} {s : T AVal} {k' : H → Bool} (hk : putAggK F h id off m s k' = true) :
    ∃ h', k' h' = true ∧ ∀ E w i L, HeapOk P N0 w0 E h nx w → E id = some i → RelT E s L → L.length = m ∧ ∃ w', (storeCells ⟨i.blk, i.base + off, none⟩ L).run P w = .ok () w' ∧ HeapOk P N0 w0 E h' nx w' := by
  unfold putAggK at hk
  replace hk := getK_true hk
  obtain ⟨b, hb, hk⟩ := hk
  split at hk
  · rename_i c n ex rw' e
    split at hk
    · rw [T.lenK_eq] at hk
      replace hk := cond_true hk
      obtain ⟨hm, hk⟩ := hk
      have hm' : 0 + s.len = m := by simpa using hm
      cases hc : (Nat.beq off 0 && Nat.beq n m) with
      | true =>
        rw [hc] at hk
        replace hk := setK_true (show T.setK _ (F _) h id k' = true from hk)
        refine ⟨_, hk.2, fun E w i L x hid r => ?_⟩
        simp only [Bool.and_eq_true, Nat.beq_eq] at hc
        obtain ⟨rfl, rfl⟩ := hc
        obtain ⟨ws, ls⟩ := r.wf
        have hL : L.length = n := by rw [ls, ← T.len_eq s ws]; omega
        refine ⟨hL, ?_⟩
        obtain ⟨rs, ro⟩ := r.toList
        -- the stores, cell by cell
        obtain ⟨L0, r0, hn0, _⟩ := cells_of x hid hb
        obtain ⟨w0', l0⟩ := r0.wf
        have hset : ∃ c', T.setO s.toList c 0 = some c' := by
          have key : ∀ (l : List AVal) (t : T AVal) (i : Nat), t.Wf → i + l.length ≤ t.toList.length → ∃ t', T.setO l t i = some t' := by
            intro l
            induction l with
            | nil => intro t i _ _; exact ⟨t, rfl⟩
            | cons v l ih =>
              intro t i ht hi
              simp only [List.length_cons] at hi
              obtain ⟨a, b⟩ := T.wf_set t v i ht
              obtain ⟨t', e'⟩ := ih (t.set v i) (i + 1) a (by rw [b]; simp; omega)
              refine ⟨t', ?_⟩
              have : (t.get i).isSome = true := by
                rw [T.get_toList t ht, List.getElem?_eq_getElem (by omega)]; rfl
              simp [T.setO, this, e']
          exact key _ _ _ w0' (by rw [← l0, hn0, ← hL, ls]; omega)
        obtain ⟨c', hc'⟩ := hset
        obtain ⟨w', hrun, hx⟩ := store_cells x hid hb hc' rs ro
        refine ⟨w', hrun, ?_⟩
        have hb2 : (h.set (.cells c' n ex true e) id).get id = some (.cells c' n ex true e) := by rw [T.get_set, if_pos rfl, hb]; rfl
        have := hx.retree (s := s) hid hb2 (fun M rM => by
          obtain ⟨rl, ro'⟩ := rM.toList
          refine RelT.of_list ws ?_ ro'
          obtain ⟨wc', q1, q2, q3⟩ := T.wf_setO s.toList c 0 w0' c' hc'
          have : c'.toList = s.toList := by
            apply List.ext_getElem?
            intro j
            rw [q3 j]
            by_cases hj : j < s.toList.length
            · rw [if_pos (by omega), Nat.sub_zero]
            · rw [if_neg (by omega), List.getElem?_eq_none (by omega), List.getElem?_eq_none (by omega)]
          rw [← this]; exact rl)
        rw [T.set_set] at this
        exact this
      | false =>
        rw [hc] at hk
        replace hk : (s.colK 0 m [] fun l => setListK (F "store: no cell") l c off fun c' => h.setK (.cells c' n ex true e) (F "store: set") id k') = true := hk
        rw [T.colK_eq, setListK_eq] at hk
        split at hk
        · rename_i c' hc'
          replace hk := setK_true hk
          refine ⟨_, hk.2, fun E w i L x hid r => ?_⟩
          obtain ⟨ws, ls⟩ := r.wf
          have hL : L.length = m := by rw [ls, ← T.len_eq s ws]; omega
          obtain ⟨rs, ro⟩ := r.toList
          have hcol : s.col 0 m [] = s.toList := by
            rw [T.col_eq s ws, List.append_nil, List.drop_zero, List.take_of_length_le (by omega)]
          rw [hcol] at hc'
          obtain ⟨w', hrun, hx⟩ := store_cells x hid hb hc' rs ro
          exact ⟨hL, w', hrun, hx⟩
        · exact (F_false hk).elim
    · exact (F_false hk).elim
  · exact (F_false hk).elim
  · exact (F_false hk).elim

theorem sound_store {t : TypeId} {a x : Operand} (ho : o.op = .store t a x) (hk : opK P tm F h nx (.store t a x) o.type k = true) : OpGoal P N0 w0 tm h nx o k := by
  simp only [opK] at hk
  replace hk := evK_true hk
  obtain ⟨p, hk, hp⟩ := hk
  split at hk
  · rename_i id off
    replace hk := evK_true hk
    obtain ⟨v, hk, hv⟩ := hk
    unfold storeK at hk
    split at hk
    · rename_i m hl
      split at hk
      · rename_i s
        replace hk := putAggK_true (P := P) (N0 := N0) (w0 := w0) (nx := nx) hk
        obtain ⟨h', hk, hh⟩ := hk
        refine ⟨_, _, _, hk, OpOk.heavy (by rw [ho]; rfl) (Nat.le_refl _) fun E tmps w r hw => ?_⟩
        obtain ⟨i, hid, e1⟩ := hp E tmps hw.globs r
        obtain ⟨L, rL, e2⟩ := hv E tmps hw.globs r
        obtain ⟨hL, w', hrun, hx⟩ := hh E w i L hw hid rL
        refine ⟨E, w', undef, Env.Le.refl E, fun _ _ => rfl, hx, ⟨[], rfl, rfl⟩, .inr ⟨?_, rfl⟩⟩
        simp [execOp, ho, Instr.storeAt, Instr.sureAddr, e1, e2, storeVar, run_sizeOf_agg hl, Value.cells, hL, hrun]
      · exact (F_false hk).elim
    · rename_i hl
      split at hk
      · rename_i hcell
        replace hk := putCellsK_true hk
        obtain ⟨c, n, ex, e, c', hb, hs, hk⟩ := hk
        refine ⟨_, _, _, hk, OpOk.heavy (by rw [ho]; rfl) (Nat.le_refl _) fun E tmps w r hw => ?_⟩
        obtain ⟨i, hid, e1⟩ := hp E tmps hw.globs r
        have rv := hv E tmps hw.globs r
        have hone := isCellA_rel hcell rv
        obtain ⟨w', hrun, hx⟩ := store_cells hw hid hb hs (vs := [ev tmps x]) ⟨_, _, rv, rfl, rfl⟩ (by simpa using hone)
        refine ⟨E, w', undef, Env.Le.refl E, fun _ _ => rfl, hx, ⟨[], rfl, rfl⟩, .inr ⟨?_, rfl⟩⟩
        have hcs : (ev tmps x).cells = #[ev tmps x] := by
          generalize ev tmps x = z at *
          cases z <;> first | rfl | simp [Value.oneCell'] at hone
        simp [execOp, ho, Instr.storeAt, Instr.sureAddr, e1, storeVar, run_sizeOf_one hl, hcs, hrun]
      · exact (F_false hk).elim
    · exact (F_false hk).elim
  · exact (F_false hk).elim
end
end Go.Ev
