/-
  A part of the proof that the evaluator is sound: what it answers, the model's run answers. No condition.
-/
import Derived.Test.YtfkhilehbikaaaaGreatDoorEvLawF
import Derived.Test.YtfkhilehbikaaaaGreatDoorEvRun
set_option linter.all false
/-! What an operation looks at; guards; the slots of operations that are not yet done. -/
namespace Go.Ev
open Go.RowKit (Below)
section
variable {P : Program} {N0 : Nat} {w0 : World} {tm tm' : T AVal} {h : H} {nx : Nat} {o : Oper} {k : AVal → H → Nat → Bool}

theorem evK_congr {x : Operand} (he : ∀ t, x = .tmp t → tm.get t = tm'.get t) : (evK P tm F x : (AVal → Bool) → Bool) = evK P tm' F x := by
  funext k
  cases x with
  | tmp t => simp only [evK, T.getK_eq, he t rfl]
  | const v => rfl
  | global g => rfl
  | func f => rfl

theorem mapK_congr {α γ : Type} {f g : α → (γ → Bool) → Bool} : ∀ {l : List α}, (∀ x ∈ l, f x = g x) → mapK f l = mapK g l
  | [], _ => rfl
  | a :: l, h => by
    funext k
    simp only [mapK]
    rw [h a (by simp), mapK_congr (l := l) fun x hx => h x (by simp [hx])]

theorem boundK_congr {x : Option Operand} {dflt : Nat} (he : ∀ y, x = some y → ∀ t, y = .tmp t → tm.get t = tm'.get t) : (boundK P tm F x dflt : (Nat → Bool) → Bool) = boundK P tm' F x dflt := by
  funext k
  cases x with
  | none => rfl
  | some y => simp only [boundK, evK_congr (he y rfl)]

theorem fillK_congr {place : Nat → Option (Nat × Nat)} : ∀ {parts : List (Nat × Operand)} {c : T AVal} {kk : T AVal → Bool}, (∀ p ∈ parts, ∀ t, p.2 = .tmp t → tm.get t = tm'.get t) →
    fillK P tm F place c parts kk = fillK P tm' F place c parts kk
  | [], _, _, _ => rfl
  | (i, x) :: rest, c, kk, he => by
    have ih : ∀ c', fillK P tm F place c' rest kk = fillK P tm' F place c' rest kk := fun c' => fillK_congr fun p hp => he p (by simp [hp])
    simp only [fillK, ih, evK_congr (he (i, x) (by simp))]

theorem sliceK_congr {t : TypeId} {a : AVal} {lo hi mx : Option Operand} {kk : AVal → Bool} (h1 : ∀ y, lo = some y → ∀ t, y = .tmp t → tm.get t = tm'.get t) (h2 : ∀ y, hi = some y → ∀ t, y = .tmp t → tm.get t = tm'.get t)
    (h3 : ∀ y, mx = some y → ∀ t, y = .tmp t → tm.get t = tm'.get t) : sliceK P tm F h t a lo hi mx kk = sliceK P tm' F h t a lo hi mx kk := by
  have e1 : ∀ n, (boundK P tm F lo n : (Nat → Bool) → Bool) = boundK P tm' F lo n := fun n => boundK_congr h1
  have e2 : ∀ n, (boundK P tm F hi n : (Nat → Bool) → Bool) = boundK P tm' F hi n := fun n => boundK_congr h2
  have e3 : ∀ n, (boundK P tm F mx n : (Nat → Bool) → Bool) = boundK P tm' F mx n := fun n => boundK_congr h3
  cases mx <;> simp only [sliceK, e1, e2, e3]

/-- two rows of slots say the same where the operation looks -/
theorem opK_congr (he : ∀ x ∈ o.op.operands, ∀ t, x = .tmp t → tm.get t = tm'.get t) : opK P tm F h nx o.op o.type k = opK P tm' F h nx o.op o.type k := by
  have e : ∀ x ∈ o.op.operands, (evK P tm F x : (AVal → Bool) → Bool) = evK P tm' F x := fun x hx => evK_congr (he x hx)
  cases ho : o.op <;> rw [ho] at he e <;> simp only [Op.operands] at he e <;> simp only [opK]
  case build t ps =>
    have : ∀ p ∈ ps.toList, ∀ t, p.2 = .tmp t → tm.get t = tm'.get t := fun p hp => he p.2 (by simpa using ⟨p.1, by simpa using hp⟩)
    simp only [fillK_congr this]
  case buildSlice t n ps =>
    have : ∀ p ∈ ps.toList, ∀ t, p.2 = .tmp t → tm.get t = tm'.get t := fun p hp => he p.2 (by simpa using ⟨p.1, by simpa using hp⟩)
    simp only [fillK_congr this]
  case makeFunc fn first captured =>
    have e1 := mapK_congr (f := evK P tm F) (g := evK P tm' F) (l := first.toList) fun x hx => e x (by simp at hx; simp [hx])
    have e2 := mapK_congr (f := evK P tm F) (g := evK P tm' F) (l := captured.toList) fun x hx => e x (by simp at hx; simp [hx])
    simp only [e1, e2]
  case makeMap t r =>
    cases r with
    | none => rfl
    | some x => simp only [e x (by simp)]
  case slice t x lo hi mx =>
    have h0 := e x (by simp)
    have h1 : ∀ y, lo = some y → ∀ t, y = .tmp t → tm.get t = tm'.get t := fun y hy => he y (by simp [hy])
    have h2 : ∀ y, hi = some y → ∀ t, y = .tmp t → tm.get t = tm'.get t := fun y hy => he y (by simp [hy])
    have h3 : ∀ y, mx = some y → ∀ t, y = .tmp t → tm.get t = tm'.get t := fun y hy => he y (by simp [hy])
    rw [h0]
    simp only [sliceK_congr h1 h2 h3]
  case call c =>
    have := mapK_congr (f := evK P tm F) (g := evK P tm' F) (l := c.args.toList) fun x hx => e x (by simp [Call.operands]; exact .inr (by simpa using hx))
    rw [this]
  all_goals first
    | rfl
    | (simp only [List.mem_toArray, List.mem_cons, List.mem_nil_iff, or_false, forall_eq_or_imp, forall_eq, List.mem_toArray] at e
       simp only [e]; done)
    | skip

/-- the slots U are unsure; all others say what they say -/
structure RelBut (E : Env) (U : List Nat) (tm : T AVal) (tmps : Array Value) : Prop where
  size : ∀ t x, tm.get t = some x → t < tmps.size
  rel : ∀ t, t ∉ U → ∀ x, tm.get t = some x → ∃ v, tmps[t]? = some v ∧ Rel E x v
theorem RelBut.of {E : Env} {tmps : Array Value} (r : RelTm E tm tmps) (U : List Nat) : RelBut E U tm tmps :=
  ⟨fun t x hx => by obtain ⟨v, hv, _⟩ := r t x hx; exact (Array.getElem?_eq_some_iff.1 hv).1, fun t _ x hx => r t x hx⟩
theorem RelBut.relTm {E : Env} {tmps : Array Value} (r : RelBut E [] tm tmps) : RelTm E tm tmps := fun t x hx => r.rel t (by simp) x hx
theorem RelBut.mono {E E' : Env} {U : List Nat} {tmps : Array Value} (h : E.Le E') (r : RelBut E U tm tmps) : RelBut E' U tm tmps :=
  ⟨r.size, fun t ht x hx => let ⟨v, hv, hr⟩ := r.rel t ht x hx; ⟨v, hv, hr.mono h _⟩⟩
theorem RelBut.weaken {E : Env} {U U' : List Nat} {tmps : Array Value} (h : ∀ t ∈ U, t ∈ U') (r : RelBut E U tm tmps) : RelBut E U' tm tmps :=
  ⟨r.size, fun t ht => r.rel t fun c => ht (h t c)⟩

def tmU (U : List Nat) (tm : T AVal) : T AVal := U.foldl (fun tm t => tm.set undefA t) tm
def tmpsU (U : List Nat) (a : Array Value) : Array Value := U.foldl (fun a t => a.setIfInBounds t undef) a
theorem tmU_get : ∀ (U : List Nat) (tm : T AVal) (t : Nat), (tmU U tm).get t = if t ∈ U then (tm.get t).map (fun _ => undefA) else tm.get t
  | [], tm, t => by simp [tmU]
  | u :: U, tm, t => by
    rw [tmU, List.foldl_cons]
    have := tmU_get U (tm.set undefA u) t
    rw [tmU] at this
    rw [this, T.get_set]
    by_cases c : u = t
    · subst c
      simp only [if_true, List.mem_cons, true_or, Option.map_map]
      split <;> rfl
    · have hne : t ≠ u := fun e => c e.symm
      simp only [c, if_false, List.mem_cons, hne, false_or]
theorem tmpsU_get : ∀ (U : List Nat) (a : Array Value) (t : Nat), (tmpsU U a)[t]? = if t ∈ U then (a[t]?).map (fun _ => undef) else a[t]?
  | [], a, t => by simp [tmpsU]
  | u :: U, a, t => by
    rw [tmpsU, List.foldl_cons]
    have := tmpsU_get U (a.setIfInBounds u undef) t
    rw [tmpsU] at this
    rw [this]
    by_cases c : u = t
    · subst c
      simp only [List.mem_cons, true_or, if_true]
      by_cases hl : u < a.size
      · simp [hl]
      · simp [hl]
    · have hne : t ≠ u := fun e => c e.symm
      rw [Array.getElem?_setIfInBounds_ne c]
      simp only [List.mem_cons, hne, false_or]
theorem RelBut.star {E : Env} {U : List Nat} {tmps : Array Value} (r : RelBut E U tm tmps) : RelTm E (tmU U tm) (tmpsU U tmps) := by
  intro t x hx
  rw [tmU_get] at hx
  rw [tmpsU_get]
  split at hx
  · rename_i hm
    rw [if_pos hm]
    cases ht : tm.get t with
    | none => rw [ht] at hx; cases hx
    | some y =>
      rw [ht] at hx
      cases hx
      have := r.size t y ht
      exact ⟨undef, by simp [this], ⟨[], rfl, rfl⟩⟩
  · rename_i hm
    rw [if_neg hm]
    exact r.rel t hm x hx

/-- the operation looks at none of these slots -/
def Clear (U : List Nat) (all : Array Oper) (o : Oper) : Prop := ∀ t ∈ o.looksAt all, t ∉ U
theorem Clear.ops {U : List Nat} {all : Array Oper} (c : Clear U all o) : ∀ x ∈ o.op.operands, ∀ t, x = .tmp t → t ∉ U := fun x hx t e => by
  subst e
  exact c t (List.mem_append_left _ (List.mem_filterMap.2 ⟨.tmp t, by simpa using hx, rfl⟩))

theorem guardK_true {all : Array Oper} {U : List Nat} {go skip : Unit → Bool} (c : Clear U all o) (hk : guardK all tm F o go skip = true) :
    (go () = true ∧ ∀ E tmps, RelBut E U tm tmps → Region.wanted o (yielded all tmps) = true) ∨ (skip () = true ∧ ∀ E tmps, RelBut E U tm tmps → Region.wanted o (yielded all tmps) = false) := by
  unfold guardK at hk
  split at hk
  · rename_i hg
    exact .inl ⟨hk, fun E tmps _ => by simp [Region.wanted, hg]⟩
  · rename_i j want hg
    split at hk
    · exact (F_false hk).elim
    · rename_i t ht
      have hU : t ∉ U := c t (List.mem_append_right _ (by simp [hg, ht]))
      replace hk := getK_true hk
      obtain ⟨x, hx, hk⟩ := hk
      have hy : ∀ E tmps, RelBut E U tm tmps → ∃ v, Rel E x v ∧ yielded all tmps j = (match v with | .bool b => some b | _ => none) := fun E tmps r => by
        obtain ⟨v, hv, hr⟩ := r.rel t hU x hx
        refine ⟨v, hr, ?_⟩
        unfold yielded
        rw [ht, Option.bind_some, hv]
        cases v <;> rfl
      split at hk
      · rename_i b
        rcases bif_true hk with ⟨hb, hk⟩ | ⟨hb, hk⟩
        · refine .inl ⟨hk, fun E tmps r => ?_⟩
          obtain ⟨v, hr, e⟩ := hy E tmps r
          simp only [Rel] at hr
          subst hr
          simp only [Region.wanted, hg, e]
          simpa using hb
        · refine .inr ⟨hk, fun E tmps r => ?_⟩
          obtain ⟨v, hr, e⟩ := hy E tmps r
          simp only [Rel] at hr
          subst hr
          simp only [Region.wanted, hg, e]
          simpa using hb
      · exact (F_false hk).elim
      · rename_i h1 h2
        refine .inr ⟨hk, fun E tmps r => ?_⟩
        obtain ⟨v, hr, e⟩ := hy E tmps r
        simp only [Region.wanted, hg, e]
        cases v with
        | bool b =>
          exfalso
          cases x with
          | bool b' => exact h1 b' rfl
          | poison => exact h2 rfl
          | int | ptr0 | slice0 | map0 | nilFunc | nilIface => simp [Rel] at hr
          | str l => obtain ⟨s, e, _⟩ := hr; cases e
          | ptr id off => obtain ⟨i, _, e⟩ := hr; cases e
          | slice id off n c => obtain ⟨i, q, _, _, _, _, e⟩ := hr; cases e
          | map id => obtain ⟨i, _, e⟩ := hr; cases e
          | func f a c => obtain ⟨g, x, y, _, _, _, e⟩ := hr; cases e
          | iface t y => obtain ⟨z, _, e⟩ := hr; cases e
          | agg t => obtain ⟨a, _, e⟩ := hr; cases e
          | tuple l => obtain ⟨a, _, e⟩ := hr; cases e
        | _ => rfl

theorem ev_congr {tmps tmps' : Array Value} {x : Operand} (he : ∀ t, x = .tmp t → tmps[t]? = tmps'[t]?) : ev tmps x = ev tmps' x := by
  cases x with
  | tmp t => simp [ev, Array.getD_eq_getD_getElem?, he t rfl]
  | _ => rfl
theorem gives_but {U : List Nat} {all : Array Oper} {tmps : Array Value} {w w' : World} {cv : Value} (c : Clear U all o) (hs : ∀ cs b, o.op ≠ .select cs b) (g : Gives P (tmpsU U tmps) o w cv w') : Gives P tmps o w cv w' := by
  have e : execOp (ev (tmpsU U tmps)) o = execOp (ev tmps) o := execOp_congr o hs fun x hx => ev_congr fun t ht => by
    rw [tmpsU_get, if_neg (c.ops x hx t ht)]
  unfold Gives at *
  rw [← e]
  exact g

def PureBut (P : Program) (N0 : Nat) (w0 : World) (U : List Nat) (tm : T AVal) (h : H) (nx : Nat) (o : Oper) (v : AVal) : Prop :=
  ∀ E tmps w, RelBut E U tm tmps → HeapOk P N0 w0 E h nx w → ∃ cv, Rel E v cv ∧ Gives P tmps o w cv w
def MakeBut (P : Program) (N0 : Nat) (w0 : World) (U : List Nat) (tm : T AVal) (h : H) (nx : Nat) (o : Oper) (mkv : Nat → AVal) (b : ABlk) : Prop :=
  ∀ E tmps w, RelBut E U tm tmps → HeapOk P N0 w0 E h nx w → ∃ i obj cv n, i.blk = w.heap.size ∧ RelObj P E i b obj ∧ (∀ E' id, E' id = some i → Rel E' (mkv id) cv) ∧
    Gives P tmps o w cv { w with heap := w.heap.push obj, drawn := n }
def GenBut (P : Program) (N0 : Nat) (w0 : World) (U : List Nat) (tm : T AVal) (h : H) (nx : Nat) (o : Oper) (v : AVal) (h' : H) (nx' : Nat) : Prop :=
  nx ≤ nx' ∧ ∀ E tmps w, RelBut E U tm tmps → HeapOk P N0 w0 E h nx w → ∃ E' w' cv, E.Le E' ∧ (∀ id, id < nx → E' id = E id) ∧ HeapOk P N0 w0 E' h' nx' w' ∧ Rel E' v cv ∧ Gives P tmps o w cv w'

/-- an operation among unsure slots at which it does not look -/
theorem opK_but {all : Array Oper} (U : List Nat) (c : Clear U all o) (hk : opK P tm F h nx o.op o.type k = true) :
    ∃ v h' nx', k v h' nx' = true ∧ GenBut P N0 w0 U tm h nx o v h' nx' ∧
      ((h' = h ∧ nx' = nx ∧ PureBut P N0 w0 U tm h nx o v) ∨ (∃ mkv b, MkKind mkv ∧ v = mkv nx ∧ h' = h.push b nx ∧ nx' = nx + 1 ∧ MakeBut P N0 w0 U tm h nx o mkv b) ∨ isHeavy o.op = true) := by
  have hs : ∀ cs b, o.op ≠ .select cs b := fun cs b e => by rw [e] at hk; simp only [opK] at hk; exact F_false hk
  have e : opK P tm F h nx o.op o.type k = opK P (tmU U tm) F h nx o.op o.type k := opK_congr fun x hx t ht => by
    rw [tmU_get, if_neg (c.ops x hx t ht)]
  rw [e] at hk
  obtain ⟨v, h', nx', hk, hok⟩ := opK_sound (N0 := N0) (w0 := w0) hk
  refine ⟨v, h', nx', hk, ?_, ?_⟩
  · obtain ⟨g1, g2⟩ := hok.gen
    refine ⟨g1, fun E tmps w r hw => ?_⟩
    obtain ⟨E', w', cv, a1, a2, a3, a4, a5⟩ := g2 E (tmpsU U tmps) w r.star hw
    exact ⟨E', w', cv, a1, a2, a3, a4, gives_but c hs a5⟩
  · rcases hok with ⟨e1, e2, x⟩ | ⟨mkv, b, m1, m2, m3, m4, x⟩ | ⟨x, _⟩
    · refine .inl ⟨e1, e2, fun E tmps w r hw => ?_⟩
      obtain ⟨cv, a1, a2⟩ := x E (tmpsU U tmps) w r.star hw
      exact ⟨cv, a1, gives_but c hs (.inl a2)⟩
    · refine .inr (.inl ⟨mkv, b, m1, m2, m3, m4, fun E tmps w r hw => ?_⟩)
      obtain ⟨i, obj, cv, n, a1, a2, a3, a4⟩ := x E (tmpsU U tmps) w r.star hw
      exact ⟨i, obj, cv, n, a1, a2, a3, gives_but c hs a4⟩
    · exact .inr (.inr x)
end
end Go.Ev
/-! Lights: what a look at one says. -/
namespace Go.Ev
open Go.RowKit (Below)
section
variable {P : Program} {N0 : Nat} {w0 : World} {tm tm' : T AVal} {h : H} {nx : Nat} {o : Oper} {k : AVal → H → Nat → Bool}

theorem eqBool_eq {a b : Bool} (h : eqBool a b = true) : a = b := by cases a <;> cases b <;> simp_all [eqBool]
theorem eqCap_eq {a b : Cap} (h : eqCap a b = true) : a = b := by
  cases a <;> cases b <;> simp only [eqCap] at h
  · rw [beq_eq' h]
  · cases h
  · cases h
  · rw [beq_eq' h]
theorem eqFn_eq {a b : Fn} (h : eqFn a b = true) : a = b := by
  cases a <;> cases b <;> simp only [eqFn] at h <;> first | (rw [beq_eq' h]; done) | cases h

theorem eqVs_rel {f : AVal → AVal → Bool} (hf : ∀ a b, f a b = true → ∀ E v, Rel E a v → Rel E b v) : ∀ {l m : List AVal}, eqVs f l m = true → ∀ E vs, RelL E l vs → RelL E m vs
  | [], [], _, _, _, r => r
  | a :: l, b :: m, h, E, vs, r => by
    obtain ⟨v, y, r1, r2, e⟩ := r
    rw [eqVs] at h
    rcases bif_true h with ⟨c, h'⟩ | ⟨_, h'⟩
    · exact ⟨v, y, hf a b c E v r1, eqVs_rel hf h' E y r2, e⟩
    · cases h'
  | [], _ :: _, h, _, _, _ => by simp [eqVs] at h
  | _ :: _, [], h, _, _, _ => by simp [eqVs] at h

theorem wfB_wf {α : Type} : ∀ {t : T α}, wfB t = true → t.Wf
  | .nil, _ => trivial
  | .leaf _, _ => trivial
  | .node sz l r, h => by
    simp only [wfB] at h
    obtain ⟨h1, h2, h3⟩ := and3 h
    have w1 := wfB_wf h2
    have w2 := wfB_wf h3
    rw [T.lenK_eq] at h1
    have h1 := beq_eq' h1
    rw [T.len_eq _ w1] at h1
    exact ⟨by omega, w1, w2⟩
theorem colAll {α β : Type} {t : T α} (hw : t.Wf) (k : List α → β) : (t.lenK 0 fun n => t.colK 0 n [] k) = k t.toList := by
  rw [T.lenK_eq, T.colK_eq, T.col_eq _ hw, T.len_eq _ hw]; simp

theorem eqV_rel : ∀ (q : Nat) (a b : AVal), eqV q a b = true → ∀ E v, Rel E a v → Rel E b v
  | 0, _, _, h, _, _, _ => by simp [eqV] at h
  | q + 1, a, b, h, E, v, r => by
    have ih := eqV_rel q
    unfold eqV at h
    split at h
    · rw [← eqBool_eq h]; exact r
    · obtain ⟨h1, h2⟩ := and2 h
      have := beqK_eq h1
      subst this
      rw [eqI_eq] at h2
      rw [← eq_of_beq h2]; exact r
    · rw [← (eqL_iff _ _).1 h]; exact r
    · exact r
    · obtain ⟨h1, h2⟩ := and2 h
      rw [← beq_eq' h1, ← beq_eq' h2]; exact r
    · exact r
    · obtain ⟨h1, h2, h3, h4⟩ := and4 h
      rw [← beq_eq' h1, ← beq_eq' h2, ← beq_eq' h3, ← eqCap_eq h4]; exact r
    · exact r
    · rw [← beq_eq' h]; exact r
    · exact r
    · exact r
    · obtain ⟨h1, h2, h3⟩ := and3 h
      obtain ⟨g, x, y, r1, r2, r3, e⟩ := r
      rw [← eqFn_eq h1]
      exact ⟨g, x, y, r1, eqVs_rel ih h2 E x r2, eqVs_rel ih h3 E y r3, e⟩
    · obtain ⟨h1, h2⟩ := and2 h
      obtain ⟨y, r1, e⟩ := r
      rw [← beq_eq' h1]
      exact ⟨y, ih _ _ h2 E y r1, e⟩
    · obtain ⟨y, r1, e⟩ := r
      exact ⟨y, eqVs_rel ih h E y r1, e⟩
    · obtain ⟨L, rL, e⟩ := r
      rcases bif_true h with ⟨hw, h'⟩ | ⟨_, h'⟩
      · have wb := wfB_wf hw
        have wa := rL.wf.1
        rw [colAll wa, colAll wb] at h'
        obtain ⟨rl, one⟩ := rL.toList
        exact ⟨L, RelT.of_list wb (eqVs_rel ih h' E L rl) one, e⟩
      · cases h'
    · cases h

theorem eqBlk_rel {a b : ABlk} {k' : Bool → Bool} (hk : eqBlkK a b k' = true) (hf : k' false = false) : k' true = true ∧ b.live = true ∧ ∀ E i obj, RelObj P E i a obj → RelObj P E i b obj := by
  unfold eqBlkK at hk
  split at hk
  · rename_i c n ex rw' e c' n' ex' rw2 e'
    rcases bif_true hk with ⟨hc, hk'⟩ | ⟨_, hk'⟩
    · clear hk
      simp only [Bool.and_eq_true] at hc
      obtain ⟨⟨⟨⟨h1, h2⟩, h3⟩, h4⟩, h5⟩ := hc
      obtain rfl := beq_eq' h1
      obtain rfl := eqBool_eq h2
      obtain rfl := eqBool_eq h3
      obtain rfl := beq_eq' h4
      have wb := wfB_wf h5
      rw [T.lenK_eq, T.colK_eq, colAll wb] at hk'
      cases hq : eqVs (eqV 8) (c.col 0 (0 + c.len) []) c'.toList with
      | false => rw [hq, hf] at hk'; cases hk'
      | true =>
        rw [hq] at hk'
        refine ⟨hk', rfl, fun E i obj r => ?_⟩
        obtain ⟨cs, lo, hi, L, e1, rL, rest⟩ := r
        obtain ⟨wf, el⟩ := rL.wf
        obtain ⟨rl, one⟩ := rL.toList
        have hcol : c.col 0 (0 + c.len) [] = c.toList := by rw [T.col_eq _ wf, T.len_eq _ wf]; simp
        rw [hcol] at hq
        exact ⟨cs, lo, hi, L, e1, RelT.of_list wb (eqVs_rel (eqV_rel 8) hq E L rl) one, rest⟩
    · rw [hf] at hk'; cases hk'
  · rename_i x y
    cases hq : Nat.beq x y with
    | false => rw [hq, hf] at hk; cases hk
    | true =>
      rw [hq] at hk
      obtain rfl := beq_eq' hq
      exact ⟨hk, rfl, fun E i obj r => r⟩
  · rw [hf] at hk; cases hk

theorem sameMk_eq {mkv : Nat → AVal} {u : AVal} {n id : Nat} (hm : MkKind mkv) (hs : sameMk (mkv n) u = true) (hh : headOf u = some id) : u = mkv id := by
  rcases hm with rfl | ⟨m, c, rfl⟩ | rfl
  · unfold sameMk at hs
    split at hs
    · rename_i i o j p h1
      obtain ⟨_, h2⟩ := and2 hs
      obtain rfl := beq_eq' h2
      simp [headOf] at hh
      rw [hh]
    · rename_i h1; cases h1
    · rename_i h1; cases h1
    · cases hs
  · unfold sameMk at hs
    split at hs
    · rename_i h1; cases h1
    · rename_i i o m' c' j p m2 c2 h1
      injection h1 with h1 h2 h3 h4
      obtain ⟨_, q2, q3, q4⟩ := and4 hs
      have q2 := beq_eq' q2
      have q3 := beq_eq' q3
      have q4 := eqCap_eq q4
      subst q2
      simp [headOf] at hh
      rw [hh, ← q3, ← q4, ← h3, ← h4]
    · rename_i h1; cases h1
    · cases hs
  · unfold sameMk at hs
    split at hs
    · rename_i h1; cases h1
    · rename_i h1; cases h1
    · simp [headOf] at hh
      rw [hh]
    · cases hs

/-- a light may be carried out here: it gives what its slot says -/
def LightOk (P : Program) (N0 : Nat) (w0 : World) (all : Array Oper) (U : List Nat) (tm : T AVal) (h : H) (nx : Nat) (o : Oper) : Prop :=
  ∃ t u, o.dst = some t ∧ tm.get t = some u ∧
    ((u = undefA ∧ ∀ E tmps, RelBut E U tm tmps → Region.wanted o (yielded all tmps) = false) ∨
     ((∀ E tmps, RelBut E U tm tmps → Region.wanted o (yielded all tmps) = true) ∧ makesMem P o.op = false ∧ PureBut P N0 w0 U tm h nx o u) ∨
     ((∀ E tmps, RelBut E U tm tmps → Region.wanted o (yielded all tmps) = true) ∧ makesMem P o.op = true ∧ ∃ id b, headOf u = some id ∧ h.get id = some b ∧
        ∀ E tmps w, RelBut E U tm tmps → HeapOk P N0 w0 E h nx w → ∃ i obj cv n, i.blk = w.heap.size ∧ RelObj P E i b obj ∧ (∀ E', E' id = some i → Rel E' u cv) ∧ Gives P tmps o w cv { w with heap := w.heap.push obj, drawn := n }))

theorem checkK_true {all : Array Oper} {U : List Nat} {i : Nat} {k' : Unit → Bool} (hl : isHeavy (opAt all i).op = false) (c : Clear U all (opAt all i)) (hk : checkK P all tm F h nx i k' = true) :
    k' () = true ∧ LightOk P N0 w0 all U tm h nx (opAt all i) := by
  unfold checkK at hk
  generalize opAt all i = o at *
  simp only at hk
  split at hk
  · exact (F_false hk).elim
  rename_i t ht
  replace hk := getK_true hk
  obtain ⟨u, hu, hk⟩ := hk
  rcases guardK_true c hk with ⟨hk, hg⟩ | ⟨hk, hg⟩
  · replace hk := opK_but (N0 := N0) (w0 := w0) U c hk
    obtain ⟨v, h', nx', hk, _, hcase⟩ := hk
    rcases bif_true hk with ⟨hm, hk⟩ | ⟨hm, hk⟩
    · split at hk
      · rename_i id hid
        replace hk := cond_true hk
        obtain ⟨hc, hk⟩ := hk
        obtain ⟨c1, c2⟩ := and2 hc
        replace c2 := beq_eq' c2
        replace hk := getK_true hk
        obtain ⟨b', hb', hk⟩ := hk
        replace hk := getK_true hk
        obtain ⟨b, hb, hk⟩ := hk
        obtain ⟨hk, _, hrel⟩ := eqBlk_rel (P := P) hk rfl
        refine ⟨hk, t, u, ht, hu, .inr (.inr ⟨hg, hm, id, b, hid, hb, ?_⟩)⟩
        rcases hcase with ⟨_, e, _⟩ | ⟨mkv, b2, m1, m2, m3, m4, x⟩ | x
        · omega
        · intro E tmps w r hw
          obtain ⟨i, obj, cv, n, a1, a2, a3, a4⟩ := x E tmps w r hw
          subst m3
          rw [push_get hw.wf hw.len, if_pos rfl] at hb'
          cases hb'
          subst m2
          rw [sameMk_eq m1 c1 hid]
          exact ⟨i, obj, cv, n, a1, hrel E i obj a2, fun E' e => a3 E' id e, a4⟩
        · rw [hl] at x; cases x
      · exact (F_false hk).elim
    · replace hk := cond_true hk
      obtain ⟨hn, hk⟩ := hk
      replace hn := beq_eq' hn
      replace hk := cond_true hk
      obtain ⟨he, hk⟩ := hk
      refine ⟨hk, t, u, ht, hu, .inr (.inl ⟨hg, hm, ?_⟩)⟩
      rcases hcase with ⟨_, _, x⟩ | ⟨_, _, _, _, _, e, _⟩ | x
      · intro E tmps w r hw
        obtain ⟨cv, a1, a2⟩ := x E tmps w r hw
        exact ⟨cv, eqV_rel 8 _ _ he E cv a1, a2⟩
      · omega
      · rw [hl] at x; cases x
  · split at hk
    · exact ⟨hk, t, _, ht, hu, .inl ⟨rfl, hg⟩⟩
    · exact (F_false hk).elim
end
end Go.Ev
/-! Regions that draw their order: the plan, the schedule, lights that are worked out ahead. -/
namespace Go.Ev
open Go.RowKit (Below)
section
variable {P : Program} {N0 : Nat} {w0 : World} {tm tm' : T AVal} {h : H} {nx : Nat} {o : Oper}

theorem guardK_or {all : Array Oper} {go skip : Unit → Bool} (hk : guardK all tm F o go skip = true) : go () = true ∨ skip () = true := by
  rcases guardK_true (U := []) (fun _ _ => by simp) hk with ⟨h, _⟩ | ⟨h, _⟩
  · exact .inl h
  · exact .inr h

theorem putK_true {dst : Option Tmp} {v : AVal} {kk : T AVal → Bool} (hk : putK F dst v tm kk = true) :
    ∃ tm', kk tm' = true ∧ (∀ t, dst ≠ some t → tm'.get t = tm.get t) ∧ (∀ t, dst = some t → tm'.get t = some v) ∧ (∀ t, (tm'.get t).isSome = (tm.get t).isSome) := by
  cases dst with
  | none => exact ⟨tm, hk, fun _ _ => rfl, (fun _ h => by cases h), fun _ => rfl⟩
  | some d =>
    simp only [putK] at hk
    replace hk := setK_true hk
    obtain ⟨hs, hk⟩ := hk
    refine ⟨_, hk, fun t ht => ?_, fun t ht => ?_, fun t => ?_⟩
    · rw [T.get_set, if_neg (fun e => ht (by rw [e]))]
    · cases ht
      rw [T.get_set, if_pos rfl]
      obtain ⟨x, hx⟩ := Option.isSome_iff_exists.1 hs
      rw [hx]; rfl
    · rw [T.get_set]
      split
      · rename_i e; subst e; simp
      · rfl

theorem checksK_true {all : Array Oper} {kk : Unit → Bool} : ∀ {l : List Nat}, checksK P all tm F h nx l kk = true → (∀ i ∈ l, isHeavy (opAt all i).op = false) →
    kk () = true ∧ ∀ i ∈ l, ∀ U, Clear U all (opAt all i) → LightOk P N0 w0 all U tm h nx (opAt all i)
  | [], hk, _ => ⟨hk, by simp⟩
  | i :: l, hk, hl => by
    rw [checksK] at hk
    have hi := hl i (by simp)
    have h1 := (checkK_true (N0 := N0) (w0 := w0) (U := []) hi (fun _ _ => by simp) hk).1
    obtain ⟨h2, h3⟩ := checksK_true h1 fun j hj => hl j (by simp [hj])
    refine ⟨h2, fun j hj U c => ?_⟩
    rcases List.mem_cons.1 hj with rfl | hj
    · exact (checkK_true (N0 := N0) (w0 := w0) hi c hk).2
    · exact h3 j hj U c

/-- the lights of a stage are worked out -/
theorem evalsK_true {all : Array Oper} {kk : T AVal → H → Nat → Bool} : ∀ {l : List Nat} {tm : T AVal} {h : H} {nx : Nat}, evalsK P all F kk l tm h nx = true →
    (l.Pairwise fun i j => ∀ t, (opAt all i).dst = some t → (opAt all j).dst ≠ some t) →
    ∃ tm' h' nx', kk tm' h' nx' = true ∧ nx ≤ nx' ∧ (∀ t, (∀ i ∈ l, (opAt all i).dst ≠ some t) → tm'.get t = tm.get t) ∧ (∀ t, (tm'.get t).isSome = (tm.get t).isSome) ∧
      (∀ (N0 : Nat) (w0 : World) E w, HeapOk P N0 w0 E h nx w → HeapOk P N0 w0 E h' nx' w) ∧
      (∀ i ∈ l, makesMem P (opAt all i).op = true → ∀ t id, (opAt all i).dst = some t → (tm'.get t).bind headOf = some id → nx ≤ id ∧ id < nx') ∧
      (l.Pairwise fun i j => makesMem P (opAt all i).op = true → makesMem P (opAt all j).op = true → ∀ t u id id', (opAt all i).dst = some t → (opAt all j).dst = some u →
        (tm'.get t).bind headOf = some id → (tm'.get u).bind headOf = some id' → id < id')
  | [], tm, h, nx, hk, _ => ⟨tm, h, nx, hk, Nat.le_refl _, fun _ _ => rfl, fun _ => rfl, fun _ _ _ _ x => x, by simp, .nil⟩
  | i :: l, tm, h, nx, hk, hp => by
    rw [evalsK] at hk
    obtain ⟨hp1, hp2⟩ := List.pairwise_cons.1 hp
    -- the light's own outcome
    have own : ∃ tm1 h1 nx1, evalsK P all F kk l tm1 h1 nx1 = true ∧ nx ≤ nx1 ∧ (∀ t, (opAt all i).dst ≠ some t → tm1.get t = tm.get t) ∧ (∀ t, (tm1.get t).isSome = (tm.get t).isSome) ∧
        (∀ (N0 : Nat) (w0 : World) E w, HeapOk P N0 w0 E h nx w → HeapOk P N0 w0 E h1 nx1 w) ∧
        (makesMem P (opAt all i).op = true → ∀ t id, (opAt all i).dst = some t → (tm1.get t).bind headOf = some id → nx ≤ id ∧ id < nx1) := by
      generalize opAt all i = o at *
      rcases guardK_or hk with hk | hk
      · replace hk := opK_sound (N0 := 0) (w0 := default) hk
        obtain ⟨v, h', nx', hk, _⟩ := hk
        unfold keepK at hk
        rcases bif_true hk with ⟨hm, hk⟩ | ⟨hm, hk⟩
        · split at hk
          · rename_i id hid
            replace hk := cond_true hk
            obtain ⟨hn, hk⟩ := hk
            obtain rfl := beq_eq' hn
            replace hk := getK_true hk
            obtain ⟨b, _, hk⟩ := hk
            rw [T.pushK_eq, forceN_eq] at hk
            replace hk := putK_true hk
            obtain ⟨tm1, hk, a1, a2, a3⟩ := hk
            refine ⟨tm1, _, _, hk, Nat.le_succ _, a1, a3, fun N0 w0 E w x => x.reserve b, fun _ t id' ht hid' => ?_⟩
            rw [a2 t ht, Option.bind_some, hid] at hid'
            cases hid'
            exact ⟨Nat.le_refl _, Nat.lt_succ_self _⟩
          · exact (F_false hk).elim
        · replace hk := putK_true hk
          obtain ⟨tm1, hk, a1, a2, a3⟩ := hk
          exact ⟨tm1, _, _, hk, Nat.le_refl _, a1, a3, fun N0 w0 E w x => x, fun hm' => by rw [hm] at hm'; cases hm'⟩
      · replace hk := putK_true hk
        obtain ⟨tm1, hk, a1, a2, a3⟩ := hk
        refine ⟨tm1, _, _, hk, Nat.le_refl _, a1, a3, fun N0 w0 E w x => x, fun _ t id ht hid => ?_⟩
        rw [a2 t ht] at hid
        cases hid
    obtain ⟨tm1, h1, nx1, hk, b1, b2, b3, b4, b5⟩ := own
    obtain ⟨tm', h', nx', hk, c1, c2, c3, c4, c5, c6⟩ := evalsK_true hk hp2
    have keep : ∀ t, (opAt all i).dst = some t → tm'.get t = tm1.get t := fun t ht => c2 t fun j hj => hp1 j hj t ht
    refine ⟨tm', h', nx', hk, Nat.le_trans b1 c1, fun t ht => ?_, fun t => (c3 t).trans (b3 t), fun N0 w0 E w x => c4 _ _ _ _ (b4 _ _ _ _ x), ?_, ?_⟩
    · rw [c2 t fun j hj => ht j (by simp [hj]), b2 t (ht i (by simp))]
    · intro j hj hm t id ht hid
      rcases List.mem_cons.1 hj with rfl | hj
      · rw [keep t ht] at hid
        have := b5 hm t id ht hid
        omega
      · have := c5 j hj hm t id ht hid
        omega
    · refine List.pairwise_cons.2 ⟨fun j hj hm hm' t u id id' ht hu hid hid' => ?_, c6⟩
      rw [keep t ht] at hid
      have := b5 hm t id ht hid
      have := c5 j hj hm' u id' hu hid'
      omega

/-! The plan. -/
section plan
variable {all : Array Oper}
abbrev bfOf (all : Array Oper) : Array Nat := Region.before all
abbrev nbL (all : Array Oper) (l : Nat) : Nat := nbOf (bfOf all) (heavies all) l

structure Plan (all : Array Oper) : Prop where
  mask : ∀ i, i < all.size → ∀ a, befB (bfOf all) i a = true → ∃ e ∈ (opAt all i).after, Region.binds .any e = true ∧ (a = e.on ∨ befB (bfOf all) e.on a = true)
  topo : ∀ i, i < all.size → ∀ e ∈ (opAt all i).after, Region.binds .any e = true → e.on < i
  chain : ∀ m a b, (heavies all)[m]? = some a → (heavies all)[m + 1]? = some b → befB (bfOf all) b a = true
  own : ∀ i, i < all.size → isHeavy (opAt all i).op = false → ∃ t, (opAt all i).dst = some t ∧ t ∉ (opAt all i).looksAt all
  one : ∀ i j, i < all.size → j < all.size → i ≠ j → ∀ t, (opAt all i).dst = some t → (opAt all j).dst ≠ some t
  behind : ∀ i j, i < all.size → j < all.size → i ≠ j → isHeavy (opAt all i).op = false → ∀ t, (opAt all i).dst = some t → t ∈ (opAt all j).looksAt all → befB (bfOf all) j i = true

theorem testBit_fold (bf : Array Nat) (a : Nat) : ∀ (l : List Edge) (s : Nat), (l.foldl (fun s e => bif Region.binds .any e then s ||| 2 ^ e.on ||| bf.getD e.on 0 else s) s).testBit a = true →
    s.testBit a = true ∨ ∃ e ∈ l, Region.binds .any e = true ∧ (a = e.on ∨ (bf.getD e.on 0).testBit a = true)
  | [], s, h => .inl h
  | e :: l, s, h => by
    rw [List.foldl_cons] at h
    rcases testBit_fold bf a l _ h with h | ⟨e', he', hb, hc⟩
    · cases hb : Region.binds .any e with
      | false => rw [hb] at h; exact .inl h
      | true =>
        rw [hb] at h
        simp only [_root_.cond_true, Nat.testBit_or, Bool.or_eq_true] at h
        rcases h with (h | h) | h
        · exact .inl h
        · refine .inr ⟨e, by simp, hb, .inl ?_⟩
          rw [Nat.testBit_two_pow] at h
          exact (by simpa using h : e.on = a).symm
        · exact .inr ⟨e, by simp, hb, .inr h⟩
    · exact .inr ⟨e', by simp [he'], hb, hc⟩

theorem mem_heavies {i : Nat} : i ∈ heavies all ↔ i < all.size ∧ isHeavy (opAt all i).op = true := by simp [heavies]
theorem mem_lights {i : Nat} : i ∈ lights all ↔ i < all.size ∧ isHeavy (opAt all i).op = false := by simp [lights]

theorem planOk_plan (h : planOk all = true) : Plan all := by
  unfold planOk at h
  obtain ⟨h1, h2⟩ := and2 h
  rw [List.all_eq_true] at h1 h2
  have hi : ∀ i, i < all.size → maskOk all (bfOf all) i = true ∧ ∀ j, j < all.size → slotsOk all (bfOf all) i j = true := fun i hi => by
    have := h2 i (by simpa using hi)
    obtain ⟨a, b⟩ := and2 this
    rw [List.all_eq_true] at b
    exact ⟨a, fun j hj => b j (by simpa using hj)⟩
  have hm : ∀ i, i < all.size → (bfOf all).getD i 0 = (opAt all i).after.toList.foldl (fun s e => bif Region.binds .any e then s ||| 2 ^ e.on ||| (bfOf all).getD e.on 0 else s) 0 ∧
      ∀ e ∈ (opAt all i).after, Region.binds .any e = true → e.on < i := fun i hii => by
    have := (hi i hii).1
    unfold maskOk at this
    obtain ⟨a, b⟩ := and2 this
    refine ⟨beq_eq' a, fun e he hb => ?_⟩
    rw [List.all_eq_true] at b
    have := b e (by simpa using he)
    rw [hb] at this
    have := ble_le (a := e.on + 1) (b := i) (by simpa using this)
    omega
  refine ⟨fun i hii a ha => ?_, fun i hii e he hb => (hm i hii).2 e he hb, fun m a b ha hb => ?_, fun i hii hl => ?_, fun i j hii hjj hne t ht => ?_, fun i j hii hjj hne hl t ht hlook => ?_⟩
  · unfold befB at ha
    rw [(hm i hii).1] at ha
    rcases testBit_fold _ _ _ _ ha with h | ⟨e, he, hb, hc⟩
    · simp at h
    · exact ⟨e, by simpa using he, hb, hc⟩
  · have : (a, b) ∈ (heavies all).zip ((heavies all).drop 1) := by
      apply List.mem_iff_getElem?.2
      refine ⟨m, ?_⟩
      rw [List.getElem?_zip_eq_some]
      exact ⟨ha, by rw [List.getElem?_drop, Nat.add_comm]; exact hb⟩
    exact h1 _ this
  · have := (hi i hii).2 i hii
    unfold slotsOk at this
    cases hd : (opAt all i).dst with
    | none => rw [hd] at this; simp only at this; rw [hl] at this; cases this
    | some t =>
      rw [hd] at this
      have hb : Nat.beq i i = true := by simp
      simp only [hb, _root_.cond_true, hl, Bool.false_or] at this
      exact ⟨t, rfl, by simpa using this⟩
  · have := (hi i hii).2 j hjj
    unfold slotsOk at this
    rw [ht] at this
    have hne' : Nat.beq i j = false := by
      cases hb : Nat.beq i j with
      | false => rfl
      | true => exact absurd (beq_eq' hb) hne
    simp only [hne', _root_.cond_false] at this
    obtain ⟨a, _⟩ := and2 this
    simpa using a
  · have := (hi i hii).2 j hjj
    unfold slotsOk at this
    rw [ht] at this
    have hne' : Nat.beq i j = false := by
      cases hb : Nat.beq i j with
      | false => rfl
      | true => exact absurd (beq_eq' hb) hne
    simp only [hne', _root_.cond_false, hl, Bool.false_and, Bool.or_false] at this
    obtain ⟨_, b⟩ := and2 this
    have hc : ((opAt all j).looksAt all).contains t = true := by simpa using hlook
    rw [hc] at b
    simpa using b
end plan
end
end Go.Ev
/-! Regions that draw their order: the schedule. -/
namespace Go.Ev
open Go.RowKit (Below)
section
variable {P : Program} {all : Array Oper}

/-- what is still to be carried out, in an order that the edges allow; all that is not in it is done -/
structure Sched (all : Array Oper) (rest : List Nat) : Prop where
  nodup : rest.Nodup
  lt : ∀ i ∈ rest, i < all.size
  deps : ∀ p i q, rest = p ++ i :: q → ∀ e ∈ (opAt all i).after, Region.binds .any e = true → e.on ∈ p ∨ e.on ∉ rest
  closed : ∀ j, j < all.size → j ∉ rest → ∀ e ∈ (opAt all j).after, Region.binds .any e = true → e.on ∉ rest

theorem Sched.tail {i : Nat} {q : List Nat} (s : Sched all (i :: q)) : Sched all q := by
  have hn := List.nodup_cons.1 s.nodup
  refine ⟨hn.2, fun j hj => s.lt j (by simp [hj]), fun p j r he e hm hb => ?_, fun j hj hnj e hm hb => ?_⟩
  · subst he
    rcases s.deps (i :: p) j r rfl e hm hb with h | h
    · rcases List.mem_cons.1 h with h | h
      · right; rw [h]; exact hn.1
      · exact .inl h
    · exact .inr fun c => h (by simp [c])
  · by_cases c : j = i
    · subst c
      rcases s.deps [] j q rfl e hm hb with h | h
      · cases h
      · exact fun c => h (by simp [c])
    · have := s.closed j hj (by simp [c, hnj]) e hm hb
      exact fun c => this (by simp [c])

/-- what is before a done operation is done -/
theorem Sched.before_done (pl : Plan all) {rest : List Nat} (s : Sched all rest) : ∀ (n j a : Nat), j < n → j < all.size → j ∉ rest → befB (bfOf all) j a = true → a ∉ rest
  | 0, _, _, h, _, _, _ => by omega
  | n + 1, j, a, h, hj, hd, hb => by
    obtain ⟨e, he, hbi, hc⟩ := pl.mask j hj a hb
    have hon := s.closed j hj hd e he hbi
    have hlt := pl.topo j hj e he hbi
    rcases hc with rfl | hc
    · exact hon
    · exact s.before_done pl n e.on a (by omega) (by omega) hon hc
/-- what is before the next operation is done -/
theorem Sched.before_head (pl : Plan all) {i : Nat} {q : List Nat} (s : Sched all (i :: q)) {a : Nat} (hb : befB (bfOf all) i a = true) : a ∉ i :: q := by
  have hi := s.lt i (by simp)
  obtain ⟨e, he, hbi, hc⟩ := pl.mask i hi a hb
  have hon : e.on ∉ i :: q := by
    rcases s.deps [] i q rfl e he hbi with h | h
    · cases h
    · exact h
  have hlt := pl.topo i hi e he hbi
  rcases hc with rfl | hc
  · exact hon
  · exact s.before_done pl _ e.on a (Nat.lt_succ_self _) (by omega) hon hc

theorem filter_le {α : Type} (p : α → Bool) (l : List α) (n : Nat) (h : ∀ m a, l[m]? = some a → n ≤ m → p a = false) : (l.filter p).length ≤ n := by
  rw [← List.take_append_drop n l, List.filter_append, List.length_append]
  have h2 : ((l.drop n).filter p) = [] := by
    rw [List.filter_eq_nil_iff]
    intro a ha
    obtain ⟨m, hm⟩ := List.mem_iff_getElem?.1 ha
    rw [List.getElem?_drop] at hm
    simp [h _ a hm (by omega)]
  rw [h2]
  have := List.length_filter_le p (l.take n)
  simp at this ⊢
  omega

/-- the heavies that are done -/
def Heavy (all : Array Oper) (n : Nat) (rest : List Nat) : Prop := ∀ m i, (heavies all)[m]? = some i → (i ∈ rest ↔ n ≤ m)

theorem nb_le (pl : Plan all) {rest : List Nat} {n j : Nat} (hv : Heavy all n rest) (hd : ∀ a, befB (bfOf all) j a = true → a ∉ rest) : nbL all j ≤ n := by
  unfold nbL nbOf
  refine filter_le _ _ _ fun m a hm hle => ?_
  cases hb : befB (bfOf all) j a with
  | false => rfl
  | true => exact absurd ((hv m a hm).2 hle) (hd a hb)

/-- a heavy at the head is the next one -/
theorem head_heavy (pl : Plan all) {n i : Nat} {q : List Nat} (s : Sched all (i :: q)) (hv : Heavy all n (i :: q)) (hh : isHeavy (opAt all i).op = true) : (heavies all)[n]? = some i := by
  have hi := s.lt i (by simp)
  obtain ⟨m, hm⟩ := List.mem_iff_getElem?.1 (mem_heavies.2 ⟨hi, hh⟩)
  have hle := (hv m i hm).1 (by simp)
  rcases Nat.lt_or_ge n m with hlt | hge
  · obtain ⟨m', rfl⟩ : ∃ m', m = m' + 1 := ⟨m - 1, by omega⟩
    have hlen : m' < (heavies all).length := by have := (List.getElem?_eq_some_iff.1 hm).1; omega
    have ha : (heavies all)[m']? = some (heavies all)[m'] := List.getElem?_eq_getElem hlen
    have := s.before_head pl (pl.chain m' _ i ha hm)
    exact absurd ((hv m' _ ha).2 (by omega)) this
  · rw [show n = m by omega]; exact hm

/-- the evaluated lights that are not carried out -/
def pend (all : Array Oper) (b : Nat) (rest : List Nat) : List Nat := rest.filter fun l => !isHeavy (opAt all l).op && Nat.ble (nbL all l + 1) b
def unsure (all : Array Oper) (b : Nat) (rest : List Nat) : List Nat := (pend all b rest).filterMap fun l => (opAt all l).dst
theorem mem_pend {b l : Nat} {rest : List Nat} : l ∈ pend all b rest ↔ l ∈ rest ∧ isHeavy (opAt all l).op = false ∧ nbL all l < b := by
  unfold pend
  rw [List.mem_filter]
  constructor
  · rintro ⟨h1, h2⟩
    obtain ⟨h3, h4⟩ := and2 h2
    exact ⟨h1, by simpa using h3, by have := ble_le h4; omega⟩
  · rintro ⟨h1, h2, h3⟩
    refine ⟨h1, ?_⟩
    rw [h2, Nat.ble_eq_true_of_le (by omega : nbL all l + 1 ≤ b)]
    rfl
theorem mem_unsure {b t : Nat} {rest : List Nat} : t ∈ unsure all b rest ↔ ∃ l, l ∈ rest ∧ isHeavy (opAt all l).op = false ∧ nbL all l < b ∧ (opAt all l).dst = some t := by
  unfold unsure
  rw [List.mem_filterMap]
  constructor
  · rintro ⟨l, h1, h2⟩
    obtain ⟨a, b, c⟩ := mem_pend.1 h1
    exact ⟨l, a, b, c, h2⟩
  · rintro ⟨l, a, b, c, d⟩
    exact ⟨l, mem_pend.2 ⟨a, b, c⟩, d⟩

/-- the next operation looks at no slot that is unsure -/
theorem clear_head (pl : Plan all) {b i : Nat} {q : List Nat} (s : Sched all (i :: q)) : Clear (unsure all b (i :: q)) all (opAt all i) := by
  intro t ht hu
  obtain ⟨l, hl, hh, _, hd⟩ := mem_unsure.1 hu
  have hi := s.lt i (by simp)
  have hlt := s.lt l hl
  by_cases c : l = i
  · subst c
    obtain ⟨t', ht', hno⟩ := pl.own l hi hh
    rw [hd] at ht'
    cases ht'
    exact hno ht
  · have := pl.behind l i hlt hi c hh t hd ht
    exact s.before_head pl this hl
end
end Go.Ev
