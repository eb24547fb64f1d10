/-
  A part of the proof that the evaluator is sound: what it answers, the model's run answers. No condition.
-/
import Derived.Test.YtfkhilehbikaaaaGreatDoorEvLawC
set_option linter.all false
/-! The operations are sound, part 9: parts of values. -/
namespace Go.Ev
open Go.RowKit (Below)
section
variable {P : Program} {N0 : Nat} {w0 : World} {tm : T AVal} {h : H} {nx : Nat} {o : Oper} {k : AVal → H → Nat → Bool}

theorem partK_true {t : TypeId} {c : T AVal} {off : Nat} {k : AVal → Bool} (hk : partK P F t c off k = true) :
    ∃ v, k v = true ∧ ∀ E L w, RelT E c L → ∃ cv, Rel E v cv ∧ (part t L.toArray off).run P w = .ok cv w := by
  unfold partK at hk
  split at hk
  · rename_i n hl
    rw [T.lenK_eq] at hk
    replace hk := cond_true hk
    obtain ⟨hb, hk⟩ := hk
    replace hk := subK_true hk
    obtain ⟨s, hk, hs⟩ := hk
    have hb := Nat.le_of_ble_eq_true hb
    refine ⟨_, hk, fun E L w r => ?_⟩
    have hlen : L.length = 0 + c.len := by rw [T.len_eq _ r.wf.1, r.wf.2]; simp
    refine ⟨_, ⟨_, hs E L r hlen hb, rfl⟩, ?_⟩
    simp only [part, Sem.run_bind, run_isAgg_agg hl, Result.andThen_ok, if_true, run_sizeOf_agg hl, Sem.run_pure]
    congr 2
    rw [← Array.toList_inj]
    simp [List.extract]
  · rename_i hl
    replace hk := getK_true hk
    obtain ⟨v, hv, hk⟩ := hk
    refine ⟨v, hk, fun E L w r => ?_⟩
    have := hv
    rw [T.get_toList _ r.wf.1] at this
    obtain ⟨x, hx, rx⟩ := RelL.get r.toList.1 _ _ this
    refine ⟨x, rx, ?_⟩
    simp only [part, Sem.run_bind, run_isAgg_one hl, Result.andThen_ok, Bool.false_eq_true, if_false]
    simp [hx]
  · exact (F_false hk).elim

theorem sound_field {s : TypeId} {x : Operand} {f : Nat} (ho : o.op = .field s x f) (hk : opK P tm F h nx (.field s x f) o.type k = true) : OpGoal P N0 w0 tm h nx o k := by
  simp only [opK] at hk
  split at hk
  · rename_i off t hf
    replace hk := evK_true hk
    obtain ⟨a, hk, ha⟩ := hk
    split at hk
    · rename_i c
      replace hk := partK_true hk
      obtain ⟨v, hk, hv⟩ := hk
      refine ⟨_, _, _, hk, OpOk.pure fun E tmps w r hw => ?_⟩
      obtain ⟨L, rl, e⟩ := ha E tmps hw.globs r
      obtain ⟨cv, h1, h2⟩ := hv E L w rl
      refine ⟨cv, h1, ?_⟩
      obtain ⟨fs, fl, hs, hfl, e1, e2⟩ := fieldP_some hf
      subst e1; subst e2
      have hfl' : fs[f]? = some fl := hfl
      simp only [execOp, ho, e, Sem.run_bind, Instr.field, run_underlying hs, Result.andThen_ok, hfl', Sem.run_pure]
      rw [show asAgg (.agg L.toArray) = pure L.toArray from rfl, Sem.run_pure, Result.andThen_ok, h2, Result.andThen_ok]
    · exact (F_false hk).elim
  · exact (F_false hk).elim

theorem sound_index {t : TypeId} {x ix : Operand} (ho : o.op = .index t x ix) (hk : opK P tm F h nx (.index t x ix) o.type k = true) : OpGoal P N0 w0 tm h nx o k := by
  simp only [opK] at hk
  replace hk := evK_true hk
  obtain ⟨a, hk, ha⟩ := hk
  replace hk := evK_true hk
  obtain ⟨b, hk, hb⟩ := hk
  split at hk
  · rename_i ki j
    split at hk
    · rename_i s
      split at hk
      · rename_i hu
        rw [nthK_eq] at hk
        split at hk
        · rename_i c hc
          refine ⟨_, _, _, hk, OpOk.pure fun E tmps w r hw => ?_⟩
          obtain ⟨str, e, hs⟩ := ha E tmps hw.globs r
          have e2 := hb E tmps hw.globs r
          subst hs
          rw [List.getElem?_map] at hc
          cases hg : str.data.toList[j]? with
          | none => rw [hg] at hc; cases hc
          | some u =>
            rw [hg] at hc
            cases hc
            refine ⟨_, rfl, ?_⟩
            have : str[j]? = some u := by
              obtain ⟨hl, he⟩ := List.getElem?_eq_some_iff.1 hg
              have hl' : j < str.size := by simpa using hl
              rw [getElem?_pos str j hl']
              exact congrArg some he
            simp only [execOp, ho, e, show ev tmps ix = .int ki (Int.ofNat j) from e2, Sem.run_bind, Instr.index, asIntOf, Sem.run_pure, run_underlying hu, Result.andThen_ok]
            simp [this]
        · exact (F_false hk).elim
      · exact (F_false hk).elim
    · rename_i c
      split at hk
      · rename_i n e hu
        replace hk := cond_true hk
        obtain ⟨hb', hk⟩ := hk
        have hb' := Nat.le_of_ble_eq_true hb'
        replace hk := szK_true hk
        obtain ⟨i, hi, hne, hk⟩ := hk
        rw [forceN_eq] at hk
        replace hk := partK_true hk
        obtain ⟨v, hk, hv⟩ := hk
        refine ⟨_, _, _, hk, OpOk.pure fun E tmps w r hw => ?_⟩
        obtain ⟨L, rl, e1⟩ := ha E tmps hw.globs r
        have e2 := hb E tmps hw.globs r
        obtain ⟨cv, h1, h2⟩ := hv E L w rl
        refine ⟨cv, h1, ?_⟩
        have hlt : (0 : Int) ≤ (Int.ofNat j) ∧ (Int.ofNat j) < (n : Int) := by
          constructor
          · exact Int.natCast_nonneg j
          · exact Int.ofNat_lt.2 hb'
        simp only [execOp, ho, e1, show ev tmps ix = .int ki (Int.ofNat j) from e2, Sem.run_bind, Instr.index, asIntOf, Sem.run_pure, run_underlying hu, Result.andThen_ok]
        rw [if_pos hlt]
        simp only [Sem.run_bind, run_sizeOf' hi, Result.andThen_ok]
        rw [show (Int.ofNat j).toNat * i.size = Nat.mul j i.size from rfl, h2]
        rfl
      · exact (F_false hk).elim
    · exact (F_false hk).elim
  · exact (F_false hk).elim
end
end Go.Ev
/-! The operations are sound, part 10: new maps. -/
namespace Go.Ev
open Go.RowKit (Below)
section
variable {P : Program} {N0 : Nat} {w0 : World} {tm : T AVal} {h : H} {nx : Nat} {o : Oper} {k : AVal → H → Nat → Bool}

theorem OpOk.newMap
    (hh : ∀ E tmps w, RelTm E tm tmps → HeapOk P N0 w0 E h nx w → Gives P tmps o w (.map (some w.heap.size)) { w with heap := w.heap.push (.map #[] 0) }) :
    OpOk P N0 w0 tm h nx o (.map nx) (h.push (.map [] 0) nx) (nx + 1) :=
  OpOk.make (mkv := fun id => .map id) (.inr (.inr rfl)) fun E tmps w r hw =>
    ⟨⟨w.heap.size, 0, 0, 0⟩, .map #[] 0, _, w.drawn, rfl, ⟨#[], rfl, by simp [RelEs]⟩, fun E' id e => ⟨_, e, rfl⟩, hh E tmps w r hw⟩

theorem sound_makeMap {t : TypeId} {r : Option Operand} (ho : o.op = .makeMap t r) (hk : opK P tm F h nx (.makeMap t r) o.type k = true) : OpGoal P N0 w0 tm h nx o k := by
  cases r with
  | none =>
    simp only [opK, T.pushK_eq, forceN_eq] at hk
    refine ⟨_, _, _, hk, OpOk.newMap fun E tmps w r hw => .inl ?_⟩
    simp only [execOp, ho, Instr.makeMap, Option.map_none, Sem.run_bind]
    rfl
  | some x =>
    simp only [opK] at hk
    split at hk
    · rename_i a b hu
      replace hk := evK_true hk
      obtain ⟨v, hk, hv⟩ := hk
      split at hk
      · rw [T.pushK_eq, forceN_eq] at hk
        refine ⟨_, _, _, hk, OpOk.newMap fun E tmps w r hw => .inl ?_⟩
        have e := hv E tmps hw.globs r
        simp only [Rel] at e
        simp only [execOp, ho, Instr.makeMap, Option.map_some, Sem.run_bind, run_underlying hu, Result.andThen_ok, e, asInt]
        rfl
      · exact (F_false hk).elim
    · exact (F_false hk).elim
end
end Go.Ev
/-! The operations are sound, part 11: bounds of slices. -/
namespace Go.Ev
open Go.RowKit (Below)
section
variable {P : Program} {N0 : Nat} {w0 : World} {tm : T AVal} {h : H} {nx : Nat} {o : Oper} {k : AVal → H → Nat → Bool}

/-- the bound x is n -/
def BoundIs (x : Option Value) (dflt n : Nat) : Prop := x = none ∧ n = dflt ∨ ∃ ki, x = some (.int ki (Int.ofNat n))

theorem boundK_true {x : Option Operand} {dflt : Nat} {k : Nat → Bool} (hk : boundK P tm F x dflt k = true) :
    ∃ n, k n = true ∧ ∀ E tmps, Globs P E → RelTm E tm tmps → BoundIs (x.map (ev tmps)) dflt n := by
  cases x with
  | none => exact ⟨dflt, hk, fun _ _ _ _ => .inl ⟨rfl, rfl⟩⟩
  | some x =>
    simp only [boundK] at hk
    replace hk := evK_true hk
    obtain ⟨a, hk, ha⟩ := hk
    split at hk
    · rename_i ki n
      exact ⟨n, hk, fun E tmps g r => .inr ⟨ki, congrArg some (ha E tmps g r)⟩⟩
    · exact (F_false hk).elim

theorem sliceBound_ok {ki : IntKind} {n y : Nat} {c : BoundsCode} (h : n ≤ y) (w : World) : (Instr.sliceBound (.int ki (Int.ofNat n)) y c).run P w = .ok n w := by
  have : (0 : Int) ≤ Int.ofNat n ∧ Int.ofNat n ≤ (y : Int) := ⟨Int.natCast_nonneg n, Int.ofNat_le.2 h⟩
  simp only [Instr.sliceBound, asIntOf, Sem.run_bind, Sem.run_pure, Result.andThen_ok]
  rw [if_pos this]
  rfl

theorem sliceBound_ok' {ki : IntKind} {n y : Nat} {c : BoundsCode} (h : n ≤ y) (w : World) : (Instr.sliceBound (.int ki (n : Int)) y c).run P w = .ok n w := sliceBound_ok h w

theorem sliceBounds_ok {s : Bool} {len cap l hN m : Nat} {lo hi mx : Option Value} (hl : BoundIs lo 0 l) (hh : BoundIs hi len hN) (hm : BoundIs mx cap m)
    (h1 : l ≤ hN) (h2 : hN ≤ m) (h3 : m ≤ cap) (h4 : mx.isSome = true → hi.isSome = true) (w : World) :
    (Instr.sliceBounds s len cap lo hi mx).run P w = .ok (l, hN, m) w := by
  rcases hm with ⟨rfl, rfl⟩ | ⟨km, rfl⟩ <;> rcases hh with ⟨rfl, rfl⟩ | ⟨kh, rfl⟩ <;> rcases hl with ⟨rfl, rfl⟩ | ⟨kl, rfl⟩ <;>
    first
      | (simp [Instr.sliceBounds, sliceBound_ok', h1, h2, h3]; done)
      | (simp at h4; done)
end
end Go.Ev
/-! The operations are sound, part 12: slices. -/
namespace Go.Ev
open Go.RowKit (Below)
section
variable {P : Program} {N0 : Nat} {w0 : World} {tm : T AVal} {h : H} {nx : Nat} {o : Oper} {k : AVal → H → Nat → Bool}

theorem and3 {a b c : Bool} (h : (a && b && c) = true) : a = true ∧ b = true ∧ c = true := by
  cases a <;> cases b <;> cases c <;> simp_all
theorem and4 {a b c d : Bool} (h : (a && b && c && d) = true) : a = true ∧ b = true ∧ c = true ∧ d = true := by
  cases a <;> cases b <;> cases c <;> cases d <;> simp_all
theorem and2 {a b : Bool} (h : (a && b) = true) : a = true ∧ b = true := by
  cases a <;> cases b <;> simp_all
theorem ble_le {a b : Nat} (h : Nat.ble a b = true) : a ≤ b := Nat.le_of_ble_eq_true h
theorem beq_eq' {a b : Nat} (h : Nat.beq a b = true) : a = b := by rw [Nat.beq_eq] at h; exact h
theorem beq_ne {a b : Nat} (h : Nat.beq a b = false) : a ≠ b := fun c => by subst c; simp at h
/-- a condition with two ways -/
theorem bif_true {c : Bool} {x y : Bool} (h : (bif c then x else y) = true) : (c = true ∧ x = true) ∨ (c = false ∧ y = true) := by
  cases c
  · exact .inr ⟨rfl, h⟩
  · exact .inl ⟨rfl, h⟩

theorem addr_add0 (a : Addr) : a.add 0 = a := by simp [Addr.add]

/-- the outcome of a slice of a slice -/
theorem run_sliceAt {t e : TypeId} {ti : TypeInfo} {a : Option Addr} {len cap l hN m : Nat} {lo hi mx : Option Value} (hu : P.underlying t = some (.slice e)) (hi' : P.info? e = some ti)
    (hl : BoundIs lo 0 l) (hh : BoundIs hi len hN) (hm : BoundIs mx cap m) (h1 : l ≤ hN) (h2 : hN ≤ m) (h3 : m ≤ cap) (h4 : mx.isSome = true → hi.isSome = true) (w : World) :
    (Instr.sliceAt t (.slice a len cap) lo hi mx).run P w = .ok (.slice (if m = l then a else a.map (·.add (l * ti.size))) (hN - l) (m - l)) w := by
  have hb := sliceBounds_ok (P := P) (s := true) hl hh hm h1 h2 h3 h4 w
  simp only [Instr.sliceAt, Instr.slice, Sem.run_bind, run_underlying hu, Result.andThen_ok, hb, run_sizeOf' hi', Sem.run_pure]

theorem extract_map (s : ByteArray) (l n : Nat) (L : List Nat) (h : s.data.toList.map UInt8.toNat = L) : (s.extract l (l + n)).data.toList.map UInt8.toNat = (L.drop l).take n := by
  subst h
  simp [ByteArray.data_extract, List.map_take, List.map_drop, List.extract]

theorem sliceK_true {t : TypeId} {a : AVal} {lo hi mx : Option Operand} {k' : AVal → Bool} (h4 : mx.isSome = true → hi.isSome = true) (hk : sliceK P tm F h t a lo hi mx k' = true) :
    ∃ v, k' v = true ∧ ∀ E tmps w X, HeapOk P N0 w0 E h nx w → RelTm E tm tmps → Rel E a X →
      ∃ cv, Rel E v cv ∧ (Instr.sliceAt t X (lo.map (ev tmps)) (hi.map (ev tmps)) (mx.map (ev tmps))).run P w = .ok cv w := by
  have h4' : ∀ tmps, (mx.map (ev tmps)).isSome = true → (hi.map (ev tmps)).isSome = true := fun tmps => by cases mx <;> cases hi <;> simp_all
  unfold sliceK at hk
  split at hk
  · rename_i s
    split at hk
    · rename_i hu
      rw [lengthK_eq, Nat.zero_add] at hk
      replace hk := boundK_true hk
      obtain ⟨hN, hk, hh⟩ := hk
      replace hk := boundK_true hk
      obtain ⟨l, hk, hl⟩ := hk
      replace hk := cond_true hk
      obtain ⟨hc, hk⟩ := hk
      obtain ⟨c1, c2⟩ := and2 hc
      have c1 := ble_le c1
      have c2 := ble_le c2
      split at hk
      · refine ⟨_, hk, fun E tmps w X g r hx => ?_⟩
        obtain ⟨b, rfl, hb⟩ := hx
        have hs : b.size = s.length := by rw [← hb]; simp
        have hb2 := sliceBounds_ok (P := P) (s := false) (len := b.size) (cap := b.size) (mx := none) (hl E tmps g.globs r) (by rw [hs]; exact hh E tmps g.globs r) (.inl ⟨rfl, rfl⟩) c1 (by omega) (Nat.le_refl _) (by simp) w
        refine ⟨.string (b.extract l hN), ⟨_, rfl, ?_⟩, ?_⟩
        · have := extract_map b l (hN - l) s hb
          rw [show l + (hN - l) = hN by omega] at this
          exact this
        · simp [Instr.sliceAt, Instr.slice, run_underlying hu, hb2]
      · exact (F_false hk).elim
    · exact (F_false hk).elim
  · split at hk
    · rename_i e hu
      replace hk := szK_true hk
      obtain ⟨ti, hi', _, hk⟩ := hk
      replace hk := boundK_true hk
      obtain ⟨m, hk, hm⟩ := hk
      replace hk := boundK_true hk
      obtain ⟨hN, hk, hh⟩ := hk
      replace hk := boundK_true hk
      obtain ⟨l, hk, hl⟩ := hk
      replace hk := cond_true hk
      obtain ⟨hc, hk⟩ := hk
      obtain ⟨c1, c2, c3⟩ := and3 hc
      obtain rfl := beq_eq' c1
      obtain rfl := beq_eq' c2
      obtain rfl := beq_eq' c3
      refine ⟨_, hk, fun E tmps w X g r hx => ?_⟩
      simp only [Rel] at hx
      subst hx
      exact ⟨_, rfl, run_sliceAt hu hi' (hl E tmps g.globs r) (hh E tmps g.globs r) (hm E tmps g.globs r) (Nat.le_refl _) (Nat.le_refl _) (Nat.le_refl _) (h4' tmps) w⟩
    · exact (F_false hk).elim
  · rename_i id off len cap
    split at hk
    · rename_i e hu
      replace hk := szK_true hk
      obtain ⟨ti, hi', _, hk⟩ := hk
      split at hk
      · rename_i c
        replace hk := boundK_true hk
        obtain ⟨m, hk, hm⟩ := hk
        replace hk := boundK_true hk
        obtain ⟨hN, hk, hh⟩ := hk
        replace hk := boundK_true hk
        obtain ⟨l, hk, hl⟩ := hk
        replace hk := cond_true hk
        obtain ⟨hc, hk⟩ := hk
        obtain ⟨c1, c2, c3⟩ := and3 hc
        replace c1 := ble_le c1
        replace c2 := ble_le c2
        replace c3 := ble_le c3
        rcases bif_true hk with ⟨hq, hk⟩ | ⟨hq, hk⟩
        · replace hq := beq_eq' hq
          refine ⟨_, hk, fun E tmps w X g r hx => ?_⟩
          obtain ⟨i, n, e1, e2, e3, e4, rfl⟩ := hx
          simp only [Cap.Rel] at e2
          subst e2
          refine ⟨_, ?_, run_sliceAt hu hi' (hl E tmps g.globs r) (hh E tmps g.globs r) (hm E tmps g.globs r) c3 c2 c1 (h4' tmps) w⟩
          rw [if_pos hq, show hN - l = 0 by omega, show m - l = 0 by omega]
          exact ⟨i, 0, e1, rfl, trivial, Nat.le_refl _, rfl⟩
        · simp only [forceN_eq] at hk
          have hne := beq_ne hq
          refine ⟨_, hk, fun E tmps w X g r hx => ?_⟩
          obtain ⟨i, n, e1, e2, e3, e4, rfl⟩ := hx
          simp only [Cap.Rel] at e2
          subst e2
          refine ⟨_, ?_, run_sliceAt hu hi' (hl E tmps g.globs r) (hh E tmps g.globs r) (hm E tmps g.globs r) c3 c2 c1 (h4' tmps) w⟩
          rw [if_neg hne]
          refine ⟨i, m - l, e1, rfl, trivial, by show hN - l ≤ _; omega, ?_⟩
          rw [Option.map_some, addr_add, Nat.add_assoc]; rfl
      · rename_i q
        split at hk
        · replace hk := boundK_true hk
          obtain ⟨hN, hk, hh⟩ := hk
          replace hk := boundK_true hk
          obtain ⟨l, hk, hl⟩ := hk
          replace hk := cond_true hk
          obtain ⟨c1, hk⟩ := hk
          replace c1 := ble_le c1
          rcases bif_true hk with ⟨hq, hk⟩ | ⟨hq, hk⟩
          · obtain rfl := beq_eq' hq
            refine ⟨_, hk, fun E tmps w X g r hx => ?_⟩
            obtain ⟨i, n, e1, e2, e3, e4, rfl⟩ := hx
            refine ⟨_, ?_, run_sliceAt hu hi' (hl E tmps g.globs r) (hh E tmps g.globs r) (.inl ⟨rfl, rfl⟩) (Nat.zero_le _) (by omega) (Nat.le_refl _) (by simp) w⟩
            refine ⟨i, n, e1, e2, e3, by omega, ?_⟩
            simp [addr_add0]
          · replace hk := cond_true hk
            obtain ⟨hc, hk⟩ := hk
            obtain ⟨c2, c3⟩ := and2 hc
            replace c2 := ble_le c2
            replace c3 := ble_le c3
            replace hk := getK_true hk
            obtain ⟨b, hb, hk⟩ := hk
            split at hk
            · replace hk := cond_true hk
              obtain ⟨hs, hk⟩ := hk
              replace hs := beq_eq' hs
              simp only [forceN_eq] at hk
              refine ⟨_, hk, fun E tmps w X g r hx => ?_⟩
              obtain ⟨i, n, e1, e2, e3, e4, rfl⟩ := hx
              obtain ⟨ob, _, hobj⟩ := g.obj id i _ e1 hb rfl
              obtain ⟨cs, lo', hi'', L, _, _, _, _, hesz, _⟩ := hobj
              refine ⟨_, ?_, run_sliceAt hu hi' (hl E tmps g.globs r) (hh E tmps g.globs r) (.inl ⟨rfl, rfl⟩) c3 (by omega) (Nat.le_refl _) (by simp) w⟩
              simp only [Cap.Rel] at e2
              simp only [Cap.At] at e3
              have hnl : n ≠ l := by omega
              rw [if_neg hnl]
              refine ⟨i, n - l, e1, ?_, ?_, by show hN - l ≤ _; omega, ?_⟩
              · show n - l + (q + l) = i.cap; omega
              · show off + l * ti.size = (q + l) * i.esz
                rw [e3, hs, hesz, Nat.add_mul]
              · rw [Option.map_some, addr_add, Nat.add_assoc]; rfl
            · exact (F_false hk).elim
        · rename_i xm
          replace hk := boundK_true hk
          obtain ⟨m, hk, hm⟩ := hk
          replace hk := boundK_true hk
          obtain ⟨hN, hk, hh⟩ := hk
          replace hk := boundK_true hk
          obtain ⟨l, hk, hl⟩ := hk
          replace hk := cond_true hk
          obtain ⟨hc, hk⟩ := hk
          obtain ⟨c1, c2, c3⟩ := and3 hc
          replace c1 := ble_le c1
          replace c2 := ble_le c2
          replace c3 := ble_le c3
          have hm' : ∀ E tmps, Globs P E → RelTm E tm tmps → ∀ n, BoundIs ((some xm).map (ev tmps)) n m := fun E tmps a b n => by
            rcases hm E tmps a b with ⟨h, _⟩ | h
            · simp at h
            · exact .inr h
          rcases bif_true hk with ⟨hq, hk⟩ | ⟨hq, hk⟩
          · replace hq := beq_eq' hq
            refine ⟨_, hk, fun E tmps w X g r hx => ?_⟩
            obtain ⟨i, n, e1, e2, e3, e4, rfl⟩ := hx
            refine ⟨_, ?_, run_sliceAt hu hi' (hl E tmps g.globs r) (hh E tmps g.globs r) (hm' E tmps g.globs r n) c3 c2 (by omega) (h4' tmps) w⟩
            rw [if_pos hq, show hN - l = 0 by omega, show m - l = 0 by omega]
            exact ⟨i, 0, e1, rfl, trivial, Nat.le_refl _, rfl⟩
          · simp only [forceN_eq] at hk
            have hne := beq_ne hq
            refine ⟨_, hk, fun E tmps w X g r hx => ?_⟩
            obtain ⟨i, n, e1, e2, e3, e4, rfl⟩ := hx
            refine ⟨_, ?_, run_sliceAt hu hi' (hl E tmps g.globs r) (hh E tmps g.globs r) (hm' E tmps g.globs r n) c3 c2 (by omega) (h4' tmps) w⟩
            rw [if_neg hne]
            refine ⟨i, m - l, e1, rfl, trivial, by show hN - l ≤ _; omega, ?_⟩
            rw [Option.map_some, addr_add, Nat.add_assoc]; rfl
    · exact (F_false hk).elim
  · rename_i id off
    split at hk
    · rename_i n e hu
      replace hk := szK_true hk
      obtain ⟨ti, hi', _, hk⟩ := hk
      replace hk := boundK_true hk
      obtain ⟨hN, hk, hh⟩ := hk
      replace hk := boundK_true hk
      obtain ⟨l, hk, hl⟩ := hk
      split at hk
      · replace hk := cond_true hk
        obtain ⟨hc, hk⟩ := hk
        obtain ⟨c1, c2, c3⟩ := and3 hc
        replace c1 := ble_le c1
        replace c2 := ble_le c2
        replace c3 := ble_le c3
        simp only [forceN_eq] at hk
        refine ⟨_, hk, fun E tmps w X g r hx => ?_⟩
        obtain ⟨i, e1, rfl⟩ := hx
        have hb := sliceBounds_ok (P := P) (s := false) (mx := none) (hl E tmps g.globs r) (hh E tmps g.globs r) (.inl ⟨rfl, rfl⟩) c2 c1 (Nat.le_refl _) (by simp) w
        have hne : n ≠ l := by omega
        refine ⟨.slice (some (Addr.add ⟨i.blk, i.base + off, none⟩ (l * ti.size))) (hN - l) (n - l), ⟨i, n - l, e1, rfl, trivial, by show hN - l ≤ _; omega, ?_⟩, ?_⟩
        · rw [addr_add, Nat.add_assoc]; rfl
        · simp [Instr.sliceAt, run_underlying hu, Instr.sureAddr, hb, run_sizeOf' hi', hne]
      · exact (F_false hk).elim
    · exact (F_false hk).elim
  · exact (F_false hk).elim

theorem sound_slice {t : TypeId} {x : Operand} {lo hi mx : Option Operand} (ho : o.op = .slice t x lo hi mx) (hk : opK P tm F h nx (.slice t x lo hi mx) o.type k = true) : OpGoal P N0 w0 tm h nx o k := by
  simp only [opK] at hk
  rcases bif_true hk with ⟨_, hk⟩ | ⟨hq, hk⟩
  · exact (F_false hk).elim
  replace hk := evK_true hk
  obtain ⟨a, hk, ha⟩ := hk
  replace hk := sliceK_true (N0 := N0) (w0 := w0) (nx := nx) (by cases mx <;> cases hi <;> simp_all) hk
  obtain ⟨v, hk, hv⟩ := hk
  refine ⟨_, _, _, hk, OpOk.pure fun E tmps w r hw => ?_⟩
  obtain ⟨cv, h1, h2⟩ := hv E tmps w _ hw r (ha E tmps hw.globs r)
  refine ⟨cv, h1, ?_⟩
  simp only [execOp, ho, Sem.run_bind, h2]
  rfl
end
end Go.Ev
/-! The operations are sound, part 13: values and rows that are built. -/
namespace Go.Ev
open Go.RowKit (Below)
section
variable {P : Program} {N0 : Nat} {w0 : World} {tm : T AVal} {h : H} {nx : Nat} {o : Oper} {k : AVal → H → Nat → Bool}

theorem foldl_set : ∀ (vs : List Value) (m off : Nat) (cs : Array Value), off + m + vs.length ≤ cs.size →
    ((vs.zipIdx m).foldl (fun cs p => cs.setIfInBounds (off + p.2) p.1) cs).size = cs.size ∧
    ∀ j : Nat, ((vs.zipIdx m).foldl (fun cs p => cs.setIfInBounds (off + p.2) p.1) cs)[j]? = if off + m ≤ j ∧ j < off + m + vs.length then vs[j - (off + m)]? else cs[j]?
  | [], m, off, cs, _ => ⟨rfl, fun j => by rw [if_neg (by simp only [List.length_nil]; omega)]; rfl⟩
  | v :: vs, m, off, cs, hle => by
    simp only [List.length_cons] at hle
    obtain ⟨h1, h2⟩ := foldl_set vs (m + 1) off (cs.setIfInBounds (off + m) v) (by simp; omega)
    simp only [List.zipIdx_cons, List.foldl_cons]
    refine ⟨by rw [h1]; simp, fun j => ?_⟩
    rw [h2 j]
    simp only [List.length_cons]
    by_cases c1 : off + (m + 1) ≤ j ∧ j < off + (m + 1) + vs.length
    · rw [if_pos c1, if_pos (by omega)]
      obtain ⟨q, rfl⟩ : ∃ q, j = off + (m + 1) + q := ⟨j - (off + (m + 1)), by omega⟩
      rw [show off + (m + 1) + q - (off + m) = q + 1 by omega, show off + (m + 1) + q - (off + (m + 1)) = q by omega]; rfl
    · rw [if_neg c1]
      by_cases c2 : off + m = j
      · subst c2
        rw [if_pos (by omega)]
        have hlt : off + m < cs.size := by omega
        simp [hlt]
      · rw [if_neg (by omega), Array.getElem?_setIfInBounds_ne c2]

theorem zipIdx_toList (a : Array Value) : a.zipIdx.toList = a.toList.zipIdx := by simp

theorem setO_len {l : List AVal} {t t' : T AVal} {i : Nat} (hw : t.Wf) (h : T.setO l t i = some t') : t'.len = t.len := by
  obtain ⟨w1, _, h2, _⟩ := T.wf_setO l t i hw t' h
  rw [T.len_eq _ w1, T.len_eq _ hw, h2]

theorem fillK_true {place cplace : Nat → Option (Nat × Nat)} {c : T AVal} {parts : List (Nat × Operand)} {kk : T AVal → Bool} (hk : fillK P tm F place c parts kk = true) :
    ∃ c', kk c' = true ∧ (c.Wf → c'.Wf ∧ c'.len = c.len) ∧ ∀ E tmps L, (∀ i r, place i = some r → cplace i = some r) → Globs P E → RelTm E tm tmps → RelT E c L →
      ∃ L', RelT E c' L' ∧ L'.length = L.length ∧ Instr.fill cplace L.toArray (parts.map fun p => (p.1, ev tmps p.2)) = some L'.toArray := by
  induction parts generalizing c with
  | nil => exact ⟨c, hk, fun hw => ⟨hw, rfl⟩, fun E tmps L _ _ _ r => ⟨L, r, rfl, rfl⟩⟩
  | cons p rest ih =>
    obtain ⟨i, x⟩ := p
    simp only [fillK] at hk
    split at hk
    · rename_i off size hpl
      replace hk := evK_true hk
      obtain ⟨a, hk, ha⟩ := hk
      split at hk
      · rename_i t ht
        rw [T.lenK_eq] at hk
        replace hk := cond_true hk
        obtain ⟨hc, hk⟩ := hk
        obtain ⟨hc1, hc2⟩ := and2 hc
        have hc1 : 0 + t.len = size := beq_eq' hc1
        have hc2 : size ≠ 0 := by
          intro e; subst e; simp at hc2
        rw [T.colK_eq, setListK_eq] at hk
        split at hk
        · rename_i c1 hset
          obtain ⟨c', hk', hwf, hh⟩ := ih hk
          refine ⟨c', hk', fun hw => ⟨(hwf (T.wf_setO _ _ _ hw _ hset).1).1, by rw [(hwf (T.wf_setO _ _ _ hw _ hset).1).2, setO_len hw hset]⟩, fun E tmps L hp g r rc => ?_⟩
          have rv := treeO_rel ht (ha E tmps g r)
          obtain ⟨wt, et⟩ := rv.wf
          obtain ⟨wc, ec⟩ := rc.wf
          rw [T.col_eq _ wt] at hset
          rw [T.len_eq _ wt] at hc1
          have hcol : (t.toList.drop 0).take (0 + t.len) ++ [] = t.toList := by
            rw [T.len_eq _ wt]; simp
          rw [hcol] at hset
          obtain ⟨w1, b1, b2, b3⟩ := T.wf_setO _ _ _ wc _ hset
          have hne : t.toList ≠ [] := by intro e; rw [e] at hc1; simp at hc1; omega
          have hle := b1 hne
          have hsz : (ev tmps x).cells.size = size := by
            have : (ev tmps x).cells.toList.length = size := by rw [et]; omega
            simpa using this
          obtain ⟨f1, f2⟩ := foldl_set (ev tmps x).cells.toList 0 off L.toArray (by simp only [List.size_toArray]; rw [ec, et]; omega)
          have rel1 : RelT E c1 ((ev tmps x).cells.toList.zipIdx.foldl (fun cs p => cs.setIfInBounds (off + p.2) p.1) L.toArray).toList := by
            have lenEq : ((ev tmps x).cells.toList.zipIdx.foldl (fun cs p => cs.setIfInBounds (off + p.2) p.1) L.toArray).toList.length = c1.toList.length := by
              have := f1
              simp only [List.size_toArray] at this
              rw [Array.length_toList, this, b2, ec]
            have cell : ∀ (j : Nat), ((ev tmps x).cells.toList.zipIdx.foldl (fun cs p => cs.setIfInBounds (off + p.2) p.1) L.toArray).toList[j]? = if off ≤ j ∧ j < off + t.toList.length then (ev tmps x).cells.toList[j - off]? else L[j]? := by
              intro j
              rw [Array.getElem?_toList, f2 j]
              simp only [Nat.add_zero, et, List.getElem?_toArray]
            obtain ⟨rl1, one1⟩ := rv.toList
            obtain ⟨rl2, one2⟩ := rc.toList
            refine RelT.of_list w1 (RelL.of_get lenEq ?_) ?_
            · intro j b hj
              rw [b3 j] at hj
              rw [cell j]
              split at hj
              · rename_i hcj
                rw [if_pos hcj]
                exact rl1.get _ _ hj
              · rename_i hcj
                rw [if_neg hcj]
                exact rl2.get _ _ hj
            · intro v hv
              obtain ⟨j, hj⟩ := List.mem_iff_getElem?.1 hv
              rw [cell j] at hj
              split at hj
              · exact one1 v (List.mem_iff_getElem?.2 ⟨_, hj⟩)
              · exact one2 v (List.mem_iff_getElem?.2 ⟨_, hj⟩)
          obtain ⟨L', r1, r2, r3⟩ := hh E tmps _ hp g r rel1
          refine ⟨L', r1, ?_, ?_⟩
          · rw [r2, Array.length_toList, f1]; simp
          · simp only [List.map_cons, Instr.fill, hp _ _ hpl]
            rw [if_neg]
            · rw [← r3]
              congr 1
              rw [← Array.foldl_toList, zipIdx_toList]
            · have : off + (ev tmps x).cells.size ≤ L.toArray.size := by rw [hsz]; simp; rw [ec]; omega
              simp [hsz]
              simp [hsz] at this
              omega
        · exact (F_false hk).elim
      · exact (F_false hk).elim
    · exact (F_false hk).elim

theorem run_mapM_infos {fs : List Field} (h : (fs.all fun f => (P.info? f.type).isSome) = true) (w : World) :
    (fs.mapM (fun f => do pure (f.offset, ← sizeOf f.type) : Field → Sem (Nat × Nat))).run P w = .ok (fs.map fun f => (f.offset, sizeP P f.type)) w := by
  induction fs with
  | nil => rfl
  | cons f fs ih =>
    simp only [List.all_cons, Bool.and_eq_true] at h
    obtain ⟨i, hi⟩ := Option.isSome_iff_exists.1 h.1
    have : sizeP P f.type = i.size := by simp [sizeP, hi, forceN_eq]
    have h1 : (do pure (f.offset, ← sizeOf f.type) : Sem (Nat × Nat)).run P w = .ok (f.offset, sizeP P f.type) w := by
      simp only [Sem.run_bind, run_sizeOf' hi, Result.andThen_ok, Sem.run_pure, this]
    rw [List.mapM_cons, Sem.run_bind, h1, Result.andThen_ok, Sem.run_bind, ih h.2, Result.andThen_ok, Sem.run_pure]
    rfl

theorem placeS_eq {fs : Array Field} {i : Nat} {r : Nat × Nat} (h : placeS P fs i = some r) : (fs.toList.map fun f => (f.offset, sizeP P f.type)).toArray[i]? = some r := by
  unfold placeS at h
  split at h
  · rename_i f hf
    rw [forceN_eq, forceN_eq] at h
    simp [hf, ← h]
  · cases h
theorem placeA_eq {size i : Nat} {r : Nat × Nat} (h : placeA size i = some r) : some (i * size, size) = some r := by
  unfold placeA at h
  rw [forceN_eq] at h
  exact h

theorem sound_build {t : TypeId} {parts : Array (Nat × Operand)} (ho : o.op = .build t parts) (hk : opK P tm F h nx (.build t parts) o.type k = true) : OpGoal P N0 w0 tm h nx o k := by
  simp only [opK] at hk
  split at hk
  · rename_i z hz
    split at hk
    · rename_i fs hu
      replace hk := cond_true hk
      obtain ⟨hi, hk⟩ := hk
      obtain ⟨c', hk, _, hh⟩ := fillK_true (cplace := fun i => (fs.toList.map fun f => (f.offset, sizeP P f.type)).toArray[i]?) hk
      refine ⟨_, _, _, hk, OpOk.pure fun E tmps w r hw => ?_⟩
      obtain ⟨v, hv, rv, _⟩ := zeroP_run hz E w
      obtain ⟨L, rL, rfl⟩ := rv
      obtain ⟨L', r1, _, r3⟩ := hh E tmps L (fun i q e => placeS_eq e) hw.globs r rL
      refine ⟨.agg L'.toArray, ⟨L', r1, rfl⟩, ?_⟩
      have hm := run_mapM_infos (P := P) (fs := fs.toList) hi w
      simp only [execOp, ho, Instr.build, Sem.run_bind, hv, Result.andThen_ok, Sem.run_pure, run_underlying hu, Value.cells]
      rw [Array.mapM_eq_mapM_toList]
      simp only [Sem.run_map, hm, Result.andThen_ok, Array.toList_map, r3]
      rfl
    · rename_i m e hu
      replace hk := szK_true hk
      obtain ⟨ti, hi', _, hk⟩ := hk
      obtain ⟨c', hk, _, hh⟩ := fillK_true (cplace := fun i => some (i * ti.size, ti.size)) hk
      refine ⟨_, _, _, hk, OpOk.pure fun E tmps w r hw => ?_⟩
      obtain ⟨v, hv, rv, _⟩ := zeroP_run hz E w
      obtain ⟨L, rL, rfl⟩ := rv
      obtain ⟨L', r1, _, r3⟩ := hh E tmps L (fun i q e => placeA_eq e) hw.globs r rL
      refine ⟨.agg L'.toArray, ⟨L', r1, rfl⟩, ?_⟩
      simp only [execOp, ho, Instr.build, Sem.run_bind, hv, Result.andThen_ok, Sem.run_pure, run_underlying hu, Value.cells, run_sizeOf' hi', Array.toList_map, r3]
    · exact (F_false hk).elim
  · exact (F_false hk).elim

theorem flatten_get (z : List Value) : ∀ (n j : Nat), (List.replicate n z).flatten[j]? = if j < n * z.length then z[j % z.length]? else none
  | 0, j => by simp
  | n + 1, j => by
    rw [List.replicate_succ, List.flatten_cons]
    by_cases c : j < z.length
    · rw [List.getElem?_append_left c, if_pos (by rw [Nat.succ_mul]; omega), Nat.mod_eq_of_lt c]
    · rw [List.getElem?_append_right (by omega), flatten_get z n, Nat.mod_eq_sub_mod (by omega : j ≥ z.length)]
      rw [Nat.succ_mul]
      by_cases c2 : j - z.length < n * z.length
      · rw [if_pos c2, if_pos (by omega)]
      · rw [if_neg c2, if_neg (by omega)]

theorem relL_rep {E : Env} {l : List AVal} {v : List Value} (r : RelL E l v) : ∀ n, RelL E (List.replicate n l).flatten (List.replicate n v).flatten
  | 0 => rfl
  | n + 1 => by
    rw [List.replicate_succ, List.replicate_succ, List.flatten_cons, List.flatten_cons]
    exact r.append (relL_rep r n)

/-- a row of zero values -/
theorem rowK_true {e : TypeId} {size n : Nat} {kk : T AVal → Bool} (hs : size ≠ 0) (hk : rowK P F e size n kk = true) :
    ∃ c, kk c = true ∧ c.Wf ∧ c.len = n * size ∧ ∀ E w, ∃ zv, (zeroValue e).run P w = .ok zv w ∧
      RelT E c ((Array.range (n * size)).map (zv.cells[· % zv.cells.size]!)).toList ∧ zv.cells.size = size := by
  unfold rowK at hk
  split at hk
  · exact (F_false hk).elim
  rename_i z hz
  split at hk
  · exact (F_false hk).elim
  rename_i t ht
  rw [T.lenK_eq] at hk
  replace hk := cond_true hk
  obtain ⟨hc, hk⟩ := hk
  have hc : 0 + t.len = size := beq_eq' hc
  rw [T.colK_eq, pushListK_eq] at hk
  have wt : t.Wf := by
    obtain ⟨v, hv, rv, _⟩ := zeroP_run hz (fun _ => none) default
    exact (treeO_rel ht rv).wf.1
  have hcol : t.col 0 (0 + t.len) [] = t.toList := by
    rw [T.col_eq _ wt, T.len_eq _ wt]; simp
  rw [hcol] at hk
  have hl : t.toList.length = size := by rw [← T.len_eq _ wt]; omega
  obtain ⟨a1, a2⟩ := T.wf_pushL (List.replicate n t.toList).flatten (.nil : T AVal) 0 trivial rfl
  refine ⟨_, hk, a1, ?_, fun E w => ?_⟩
  · rw [T.len_eq _ a1, a2]
    simp [T.toList, hl]
  · obtain ⟨v, hv, rv, _⟩ := zeroP_run hz E w
    have rt := treeO_rel ht rv
    obtain ⟨_, el⟩ := rt.wf
    obtain ⟨rl, one⟩ := rt.toList
    have hsz : v.cells.size = size := by
      have : v.cells.toList.length = size := by rw [el, hl]
      simpa using this
    refine ⟨v, hv, ?_, hsz⟩
    have heq : ((Array.range (n * size)).map (v.cells[· % v.cells.size]!)).toList = (List.replicate n v.cells.toList).flatten := by
      apply List.ext_getElem?
      intro j
      rw [flatten_get]
      simp only [Array.length_toList, hsz]
      by_cases c : j < n * size
      · rw [if_pos c]
        have hm : j % size < v.cells.size := by rw [hsz]; exact Nat.mod_lt _ (by omega)
        simp [c, hm]
      · rw [if_neg c]
        simp; omega
    rw [heq]
    refine RelT.of_list a1 (by rw [a2]; simpa [T.toList] using relL_rep rl n) ?_
    intro x hx
    obtain ⟨l, h1, h2⟩ := List.mem_flatten.1 hx
    obtain ⟨_, rfl⟩ := List.mem_replicate.1 h1
    exact one x h2

/-- a new slice over a new row of its own -/
theorem OpOk.rowSlice {t : T AVal} {n len cap : Nat} {e : TypeId} (hn : n = t.len) (hlc : len ≤ cap)
    (hh : ∀ E tmps w, RelTm E tm tmps → HeapOk P N0 w0 E h nx w → ∃ l : List Value, ∃ dn, RelT E t l ∧ Gives P tmps o w (.slice (some ⟨w.heap.size, 0, none⟩) len cap) { w with heap := w.heap.push (.cells l.toArray e (0, 0)), drawn := dn }) :
    OpOk P N0 w0 tm h nx o (.slice nx 0 len (.known cap)) (h.push (.cells t n true true e) nx) (nx + 1) :=
  OpOk.make (mkv := fun id => .slice id 0 len (.known cap)) (.inr (.inl ⟨_, _, rfl⟩)) fun E tmps w r hw => by
    obtain ⟨l, dn, hl, hg⟩ := hh E tmps w r hw
    exact ⟨⟨w.heap.size, 0, 0, sizeP P e⟩, _, _, dn, rfl, relObj_row hl hn, fun E' id e => ⟨_, cap, e, rfl, trivial, hlc, rfl⟩, hg⟩

theorem sound_buildSlice {t : TypeId} {len : Nat} {parts : Array (Nat × Operand)} (ho : o.op = .buildSlice t len parts) (hk : opK P tm F h nx (.buildSlice t len parts) o.type k = true) : OpGoal P N0 w0 tm h nx o k := by
  simp only [opK] at hk
  split at hk
  · rename_i e hu
    replace hk := szK_true hk
    obtain ⟨ti, hi', hne, hk⟩ := hk
    replace hk := cond_true hk
    obtain ⟨hc, hk⟩ := hk
    replace hc := ble_le hc
    replace hk := rowK_true hne hk
    obtain ⟨c0, hk, hwf, hlen, hz⟩ := hk
    obtain ⟨c', hk, hwf', hh⟩ := fillK_true (cplace := fun i => some (i * ti.size, ti.size)) hk
    rw [forceN_eq, newK_eq] at hk
    have hlen' : len * ti.size = c'.len := by rw [(hwf' hwf).2, hlen]
    refine ⟨_, _, _, hk, OpOk.rowSlice hlen' (Nat.le_refl _) fun E tmps w r hw => ?_⟩
    obtain ⟨zv, hv, rl, hsz⟩ := hz E w
    obtain ⟨L', r1, _, r3⟩ := hh E tmps _ (fun i q e => placeA_eq e) hw.globs r rl
    refine ⟨L', w.drawn, r1, .inl ?_⟩
    have hle : ¬ len * ti.size > 2 ^ 24 := by
      have : len.mul ti.size = len * ti.size := rfl
      omega
    simp only [execOp, ho, Instr.buildSlice, Sem.run_bind, run_underlying hu, Result.andThen_ok, run_sizeOf' hi', Sem.run_pure]
    rw [if_neg hle]
    have hz' : ∀ z : Array Value, (z = zv.cells ∨ len * ti.size = 0) → Instr.fill (fun i => some (i * ti.size, ti.size)) ((Array.range (len * ti.size)).map (z[· % z.size]!)) (parts.toList.map fun p => (p.1, ev tmps p.2)) = some L'.toArray := by
      intro z hz
      have : ((Array.range (len * ti.size)).map (z[· % z.size]!)) = ((Array.range (len * ti.size)).map (zv.cells[· % zv.cells.size]!)) := by
        rcases hz with rfl | hz
        · rfl
        · rw [hz]; simp
      rw [this]
      rw [Array.toArray_toList] at r3
      exact r3
    by_cases c : len * ti.size = 0
    · rw [if_pos c]
      simp only [Sem.run_bind, Sem.run_pure, Result.andThen_ok, Array.toList_map, hz' #[] (.inr c)]
      rfl
    · rw [if_neg c]
      simp only [Sem.run_bind, Sem.run_pure, Result.andThen_ok, hv, Array.toList_map, hz' zv.cells (.inl rfl)]
      rfl
  · exact (F_false hk).elim

theorem sound_makeSlice {t : TypeId} {l c : Operand} (ho : o.op = .makeSlice t l c) (hk : opK P tm F h nx (.makeSlice t l c) o.type k = true) : OpGoal P N0 w0 tm h nx o k := by
  simp only [opK] at hk
  split at hk
  · rename_i e hu
    replace hk := evK_true hk
    obtain ⟨vl, hk, hl⟩ := hk
    replace hk := evK_true hk
    obtain ⟨vc, hk, hc⟩ := hk
    split at hk
    · rename_i l' c'
      replace hk := cond_true hk
      obtain ⟨q, hk⟩ := hk
      obtain ⟨q1, q2⟩ := and2 q
      replace q1 := ble_le q1
      replace q2 := ble_le q2
      split at hk
      · rename_i ti hti
        replace hk := cond_true hk
        obtain ⟨q3, hk⟩ := hk
        replace q3 := ble_le q3
        replace hk := szK_true hk
        obtain ⟨ti', hi', hne, hk⟩ := hk
        rw [hti] at hi'
        obtain rfl : ti = ti' := by simpa using hi'
        replace hk := rowK_true hne hk
        obtain ⟨c0, hk, hwf, hlen, hz⟩ := hk
        rw [forceN_eq, newK_eq] at hk
        refine ⟨_, _, _, hk, OpOk.rowSlice (by rw [hlen]; rfl) q1 fun E tmps w r hw => ?_⟩
        obtain ⟨zv, hv, rl, hsz⟩ := hz E w
        refine ⟨_, w.drawn, rl, .inl ?_⟩
        have e1 : ev tmps l = .int .i64 (Int.ofNat l') := hl E tmps hw.globs r
        have e2 : ev tmps c = .int .i64 (Int.ofNat c') := hc E tmps hw.globs r
        have w1 : IntKind.i64.wrap (Int.ofNat l') = Int.ofNat l' := wrap_of_fits (by simp only [fits]; exact Nat.ble_eq_true_of_le (by omega))
        have w2 : IntKind.i64.wrap (Int.ofNat c') = Int.ofNat c' := wrap_of_fits (by simp only [fits]; exact Nat.ble_eq_true_of_le (by omega))
        have hprod : ti.bytes * c' ≤ 1000000 * 1000000 := Nat.mul_le_mul q3 q2
        have hprod' : c' * ti.bytes ≤ 1000000 * 1000000 := by rw [Nat.mul_comm]; exact hprod
        have big : ¬ ((ti.bytes : Int) * (c' : Int) > 2 ^ 48) := by
          have h1 : ((ti.bytes : Int) * (c' : Int)) = ((ti.bytes * c' : Nat) : Int) := by simp
          rw [h1]
          omega
        have room : ¬ (c' * ti.bytes > roomBytes) := by unfold roomBytes; omega
        simp only [execOp, ho, Instr.makeSlice, Sem.run_bind, run_underlying hu, Result.andThen_ok, e1, e2, asInt, asIntOf, Sem.run_pure, run_typeInfo' hti, w1, w2]
        have cond : ((decide ((Int.ofNat c') < 0) || decide ((ti.bytes : Int) * (Int.ofNat c') > 2 ^ 48)) || decide ((Int.ofNat l') < 0) || decide ((Int.ofNat l') > (Int.ofNat c'))) = false := by
          have a1 : ¬ ((c' : Int) < 0) := by omega
          have a2 : ¬ ((l' : Int) < 0) := by omega
          have a3 : ¬ ((l' : Int) > (c' : Int)) := by omega
          have big' : ¬ ((ti.bytes : Int) * (c' : Int) > 281474976710656) := by simpa using big
          simp [a1, a2, a3, big']
        rw [cond]
        simp only [Bool.false_eq_true, if_false, Sem.run_bind, show (Int.ofNat c').toNat = c' from rfl, show (Int.ofNat l').toNat = l' from rfl, askRoom, if_neg room, Sem.run_pure, Result.andThen_ok, run_sizeOf' hti]
        have hz' : ∀ z : Array Value, (z = zv.cells ∨ c' * ti.size = 0) → ((Array.range (c' * ti.size)).map (z[· % z.size]!)) = ((Array.range (c' * ti.size)).map (zv.cells[· % zv.cells.size]!)) := by
          intro z hz
          rcases hz with rfl | hz
          · rfl
          · rw [hz]; simp
        by_cases cz : c' * ti.size = 0
        · rw [if_pos cz]
          simp only [Sem.run_bind, Sem.run_pure, Result.andThen_ok, hz' #[] (.inr cz)]
          rfl
        · rw [if_neg cz]
          simp only [Sem.run_bind, Sem.run_pure, Result.andThen_ok, hv]
          rfl
      · exact (F_false hk).elim
    · exact (F_false hk).elim
  · exact (F_false hk).elim
end
end Go.Ev
