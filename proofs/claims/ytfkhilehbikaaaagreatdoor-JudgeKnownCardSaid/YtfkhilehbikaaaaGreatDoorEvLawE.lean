/-
  A part of the proof that the evaluator is sound: what it answers, the model's run answers. No condition.
-/
import Derived.Test.YtfkhilehbikaaaaGreatDoorEvLawD
import Derived.Deep.AppendSrc
import Derived.Laws.BytesString
import Derived.Lib.UnsafeStr
set_option linter.all false
/-! The operations are sound, part 14: maps. -/
namespace Go.Ev
open Go.RowKit (Below)
section
variable {P : Program} {N0 : Nat} {w0 : World} {tm : T AVal} {h : H} {nx : Nat} {o : Oper} {k : AVal → H → Nat → Bool}

theorem lenK_colK (t : T AVal) (hw : t.Wf) : (t.lenK 0 fun m => t.colK 0 m [] id) = t.toList := by
  rw [T.lenK_eq, T.colK_eq, T.col_eq _ hw, T.len_eq _ hw]; simp

theorem keyL_rel {E : Env} {t : TypeId} {a : AVal} {l : List AVal} {V : Value} {u : TypeDesc} (hl : keyL (aggTy P t) a = some l) (hu : P.underlying t = some u) (r : Rel E a V) :
    ∃ X, RelL E l X ∧ Shape P t X V := by
  cases ha : aggTy P t with
  | true =>
    rw [ha] at hl
    cases a <;> simp only [keyL, reduceCtorEq, Option.some.injEq] at hl
    obtain ⟨L, rL, rfl⟩ := r
    rw [lenK_colK _ rL.wf.1] at hl
    subst hl
    refine ⟨L, rL.toList.1, ?_⟩
    unfold aggTy at ha
    unfold Shape
    rw [hu] at ha ⊢
    cases u <;> first | rfl | cases ha
  | false =>
    rw [ha] at hl
    simp only [keyL] at hl
    cases hc : isCellA a with
    | false => rw [hc] at hl; cases hl
    | true =>
      rw [hc] at hl
      obtain rfl : [a] = l := by simpa using hl
      refine ⟨[V], ⟨V, [], r, rfl, rfl⟩, ?_⟩
      unfold aggTy at ha
      unfold Shape
      rw [hu] at ha ⊢
      cases u <;> first | rfl | cases ha

theorem checkKey_ok {em : Bool} {w : World} : ∀ (n d : Nat), n ≤ d → ∀ (t : TypeId) (m : Nat) (X : List Value) (V : Value), keyOk P n t m = true → Shape P t X V → X.length = m →
    (Instr.checkKey em d t V).run P w = .ok () w
  | 0, _, _, _, _, _, _, h, _, _ => by simp [keyOk] at h
  | n + 1, 0, hd, _, _, _, _, _, _, _ => by omega
  | n + 1, d + 1, hd, t, m, X, V, hk, hs, hX => by
    have ih := checkKey_ok (em := em) (w := w) n d (by omega)
    have lone : ∀ {t m}, keyOk P n t m = true → ∃ u, P.underlying t = some u ∧ ((∃ fs, u = .struct fs) ∨ (∃ m e, u = .array m e) ∨ m = 1) := by
      intro t m h
      cases n with
      | zero => simp [keyOk] at h
      | succ n =>
        unfold keyOk at h
        cases hu : P.underlying t with
        | none => rw [hu] at h; cases h
        | some u =>
          rw [hu] at h
          refine ⟨u, rfl, ?_⟩
          cases u with
          | struct fs => exact .inl ⟨_, rfl⟩
          | array m e => exact .inr (.inl ⟨_, _, rfl⟩)
          | bool | int | string => exact .inr (.inr (beq_eq' h))
          | _ => cases h
    unfold keyOk at hk
    unfold Shape at hs
    cases hu : P.underlying t with
    | none => rw [hu] at hk; cases hk
    | some u =>
      rw [hu] at hk hs
      cases u with
      | bool | int | string =>
        simp only [Instr.checkKey, Sem.run_bind, run_underlying hu, Result.andThen_ok]
        cases V <;> rfl
      | struct fs =>
        simp only at hs hk
        subst hs
        simp only [Instr.checkKey, Sem.run_bind, run_underlying hu, Result.andThen_ok]
        rw [← Array.forIn_toList]
        generalize fs.toList = L at hk
        induction L with
        | nil => simp
        | cons f L ihL =>
          simp only [List.all_cons, Bool.and_eq_true] at hk
          obtain ⟨hf, hk⟩ := hk
          rw [List.forIn_cons]
          by_cases hn : f.name = "_"
          · simp only [hn, ne_eq, not_true_eq_false, if_false, Sem.run_bind, Sem.run_pure, Result.andThen_ok]
            exact ihL hk
          · have hn' : (f.name == "_") = false := by simpa using hn
            rw [hn'] at hf
            simp only [Bool.false_or, Bool.and_eq_true] at hf
            obtain ⟨h1, h2⟩ := hf
            have h1 : f.offset + sizeP P f.type ≤ m := ble_le h1
            obtain ⟨u, hu', hl⟩ := lone h2
            have hlen : ((X.drop f.offset).take (sizeP P f.type)).length = sizeP P f.type := by simp; omega
            obtain ⟨V', v1, v2⟩ := part_shape (X := X) (off := f.offset) hu' (hl.imp_right (Or.imp_right fun c => hlen.trans c)) w
            have p2 := ih _ _ _ _ h2 v2 hlen
            simp only [hn, ne_eq, not_false_eq_true, if_true, Sem.run_bind, v1, p2, Sem.run_pure, Result.andThen_ok]
            exact ihL hk
      | array len e =>
        simp only at hs hk
        subst hs
        simp only [Bool.and_eq_true] at hk
        obtain ⟨h1, h2⟩ := hk
        have h1 : len * sizeP P e ≤ m := ble_le h1
        obtain ⟨u, hu', hl⟩ := lone h2
        obtain ⟨i, hi⟩ := underlying_info hu'
        have hz : sizeP P e = i.size := by simp [sizeP, hi, forceN_eq]
        simp only [Instr.checkKey, Sem.run_bind, run_underlying hu, Result.andThen_ok]
        simp only [Std.Legacy.Range.forIn_eq_forIn_range', Std.Legacy.Range.size, Nat.sub_zero, Nat.add_one_sub_one, Nat.div_one]
        have each : ∀ j ∈ List.range' 0 len, j < len := fun j hj => by
          obtain ⟨q, hq, rfl⟩ := List.mem_range'.1 hj
          omega
        generalize List.range' 0 len = is at each
        induction is with
        | nil => simp
        | cons j is ihL =>
          have hj := each j (by simp)
          have hle : (j + 1) * sizeP P e ≤ len * sizeP P e := Nat.mul_le_mul_right _ hj
          rw [Nat.succ_mul] at hle
          have hlen : ((X.drop (j * sizeP P e)).take (sizeP P e)).length = sizeP P e := by simp; omega
          obtain ⟨V', v1, v2⟩ := part_shape (X := X) (off := j * sizeP P e) hu' (hl.imp_right (Or.imp_right fun c => hlen.trans c)) w
          have p2 := ih _ _ _ _ h2 v2 hlen
          rw [hz] at v1
          simp only [List.forIn_cons, Sem.run_bind, run_sizeOf' hi, Result.andThen_ok, v1, p2, Sem.run_pure]
          exact ihL (fun y hy => each y (by simp [hy]))
      | _ => cases hk

theorem sameNow_eqT {E : Env} {n : Nat} {t : TypeId} {u : TypeDesc} {x y : List AVal} {X Y : List Value} {V W : Value} {r s : Bool} (hu : P.underlying t = some u) (hr : eqT P n t x y = some r)
    (hx : RelL E x X) (hy : RelL E y Y) (sx : Shape P t X V) (sy : Shape P t Y W) (hs : Instr.sameNow u V W = some s) : s = r := by
  cases n with
  | zero => simp [eqT] at hr
  | succ n =>
    unfold eqT at hr
    unfold Shape at sx sy
    rw [hu] at hr sx sy
    cases u with
    | bool =>
      simp only at hr sx sy
      split at hr
      · cases hr; subst sx; subst sy
        obtain ⟨_, _, h1, rfl, e1⟩ := hx
        obtain ⟨_, _, h2, rfl, e2⟩ := hy
        cases e1; cases e2; cases h1; cases h2
        simpa [Instr.sameNow] using hs.symm
      · cases hr
    | int kd =>
      simp only at hr sx sy
      split at hr
      · rename_i k a k' b
        cases hk : beqK k k' with
        | false => rw [hk] at hr; cases hr
        | true =>
          rw [hk] at hr
          have := beqK_eq hk
          cases hr; subst sx; subst sy; subst this
          obtain ⟨_, _, h1, rfl, e1⟩ := hx
          obtain ⟨_, _, h2, rfl, e2⟩ := hy
          cases e1; cases e2; cases h1; cases h2
          simp only [Instr.sameNow, if_true, Option.some.injEq] at hs
          rw [eqI_eq]; exact hs.symm
      · cases hr
    | string =>
      simp only at hr sx sy
      split at hr
      · cases hr; subst sx; subst sy
        obtain ⟨_, _, ⟨s1, h1, g1⟩, rfl, e1⟩ := hx
        obtain ⟨_, _, ⟨s2, h2, g2⟩, rfl, e2⟩ := hy
        cases e1; cases e2; cases h1; cases h2
        subst g1; subst g2
        rw [eqL_bytes]
        simp only [Instr.sameNow, Option.some.injEq] at hs
        rw [← hs]
        obtain ⟨⟨s1⟩⟩ := s1
        obtain ⟨⟨s2⟩⟩ := s2
        show ((⟨s1⟩ : Array UInt8) == ⟨s2⟩) = _
        simp
      · cases hr
    | _ => simp [Instr.sameNow] at hs

theorem RelEs.get {E : Env} : ∀ {es : List AEntry} {l : List MapEntry}, RelEs E es l → ∀ (i : Nat) (e : AEntry), es[i]? = some e → ∃ m, l[i]? = some m ∧ Rel E e.key m.key ∧ Rel E e.val m.val ∧ m.born = e.born
  | [], _, _, i, e, h => by simp at h
  | a :: es, _, ⟨m, ms, h1, h2, h3, h4, rfl⟩, i, e, h => by
    cases i with
    | zero => simp at h; subst h; exact ⟨m, rfl, h1, h2, h3⟩
    | succ i => simpa using RelEs.get h4 i e (by simpa using h)
theorem RelEs.length {E : Env} : ∀ {es : List AEntry} {l : List MapEntry}, RelEs E es l → l.length = es.length
  | [], _, r => by rw [r]; rfl
  | _ :: _, _, ⟨_, _, _, _, _, h4, rfl⟩ => by simp [RelEs.length h4]

/-- the place of a key -/
theorem findK_true {kt : TypeId} {u : TypeDesc} {key : List AVal} {no : Unit → Bool} {yes : Nat → AEntry → Bool} (hu : P.underlying kt = some u) : ∀ {es : List AEntry} {j : Nat},
    findK P F kt (aggTy P kt) key no yes es j = true →
    (no () = true ∧ ∀ E X V ces w, RelL E key X → Shape P kt X V → RelEs E es ces → (Instr.findAsking kt V ces j).run P w = .ok none w ∧ (Instr.findNow u V ces j = none ∨ Instr.findNow u V ces j = some none)) ∨
    ∃ i e, es[i]? = some e ∧ yes (j + i) e = true ∧ ∀ E X V ces w, RelL E key X → Shape P kt X V → RelEs E es ces → ∃ m, ces[i]? = some m ∧
      (Instr.findAsking kt V ces j).run P w = .ok (some (j + i, m.val)) w ∧ (Instr.findNow u V ces j = none ∨ Instr.findNow u V ces j = some (some (j + i, m.val)))
  | [], j, hk => .inl ⟨hk, fun E X V ces w _ _ r => by
      simp only [RelEs] at r; subst r
      exact ⟨by simp [Instr.findAsking], .inr (by simp [Instr.findNow])⟩⟩
  | e :: es, j, hk => by
    rw [findK] at hk
    split at hk
    · exact (F_false hk).elim
    rename_i l hl
    have step : ∀ (r : Bool), eqT P 20 kt key l = some r → ∀ E X V (m : MapEntry) w, RelL E key X → Shape P kt X V → Rel E e.key m.key →
        (Op.equal kt V m.key).run P w = .ok r w ∧ ∀ s, Instr.sameNow u V m.key = some s → s = r := by
      intro r hr E X V m w hx sx hm
      obtain ⟨Y, hy, sy⟩ := keyL_rel hl hu hm
      exact ⟨eqT_sound 20 10000 (by omega) kt key l X Y V m.key r hr hx hy sx sy w, fun s hs => sameNow_eqT hu hr hx hy sx sy hs⟩
    split at hk
    · rename_i hr
      refine .inr ⟨0, e, rfl, hk, fun E X V ces w hx sx r => ?_⟩
      obtain ⟨m, ms, h1, h2, h3, h4, rfl⟩ := r
      obtain ⟨s1, s2⟩ := step true hr E X V m w hx sx h1
      refine ⟨m, rfl, by simp [Instr.findAsking, s1], ?_⟩
      rw [Instr.findNow]
      cases hn : Instr.sameNow u V m.key with
      | none => exact .inl rfl
      | some s => rw [s2 s hn]; exact .inr rfl
    · rename_i hr
      rcases findK_true hu hk with ⟨hno, hh⟩ | ⟨i, e', he', hy, hh⟩
      · refine .inl ⟨hno, fun E X V ces w hx sx r => ?_⟩
        obtain ⟨m, ms, h1, h2, h3, h4, rfl⟩ := r
        obtain ⟨s1, s2⟩ := step false hr E X V m w hx sx h1
        obtain ⟨q1, q2⟩ := hh E X V ms w hx sx h4
        refine ⟨by simp only [Instr.findAsking, Sem.run_bind, s1, Result.andThen_ok, Bool.false_eq_true, if_false]; exact q1, ?_⟩
        rw [Instr.findNow]
        cases hn : Instr.sameNow u V m.key with
        | none => exact .inl rfl
        | some s => rw [s2 s hn]; exact q2
      · refine .inr ⟨i + 1, e', by simpa using he', by rw [show j + (i + 1) = j.succ + i by omega]; exact hy, fun E X V ces w hx sx r => ?_⟩
        obtain ⟨m, ms, h1, h2, h3, h4, rfl⟩ := r
        obtain ⟨s1, s2⟩ := step false hr E X V m w hx sx h1
        obtain ⟨m', hm', q1, q2⟩ := hh E X V ms w hx sx h4
        refine ⟨m', by simpa using hm', ?_, ?_⟩
        · simp only [Instr.findAsking, Sem.run_bind, s1, Result.andThen_ok, Bool.false_eq_true, if_false]
          rw [show j + (i + 1) = j.succ + i by omega]; exact q1
        · rw [Instr.findNow, show j + (i + 1) = j.succ + i by omega]
          cases hn : Instr.sameNow u V m.key with
          | none => exact .inl rfl
          | some s => rw [s2 s hn]; exact q2
    · exact (F_false hk).elim

theorem run_findKey_of {kt : TypeId} {u : TypeDesc} {V : Value} {ces : List MapEntry} {r : Option (Nat × Value)} {w : World} (hu : P.underlying kt = some u)
    (h1 : (Instr.findAsking kt V ces 0).run P w = .ok r w) (h2 : Instr.findNow u V ces 0 = none ∨ Instr.findNow u V ces 0 = some r) : (Instr.findKey kt V ces).run P w = .ok r w := by
  simp only [Instr.findKey, Sem.run_bind, run_underlying hu, Result.andThen_ok]
  rcases h2 with h2 | h2 <;> rw [h2]
  · exact h1
  · rfl

theorem mapTy_some {t kt e : TypeId} (h : mapTy P t = some (kt, e)) : P.underlying t = some (.map kt e) ∧ keyOk P 20 kt (sizeP P kt) = true := by
  unfold mapTy at h
  split at h
  · rename_i k' e' hu
    cases hc : keyOk P 20 k' (sizeP P k') with
    | false => rw [hc] at h; cases h
    | true => rw [hc] at h; cases h; exact ⟨hu, hc⟩
  · cases h

theorem keyOk_und {n m : Nat} {t : TypeId} (h : keyOk P n t m = true) : ∃ u, P.underlying t = some u := by
  cases n with
  | zero => simp [keyOk] at h
  | succ n =>
    unfold keyOk at h
    cases hu : P.underlying t with
    | none => rw [hu] at h; cases h
    | some u => exact ⟨u, rfl⟩

theorem keyK_true {kt : TypeId} {key : AVal} {k' : List AVal → Bool} (hk : keyK P F kt key k' = true) :
    ∃ l, k' l = true ∧ keyL (aggTy P kt) key = some l ∧ l.length = sizeP P kt := by
  unfold keyK at hk
  split at hk
  · rename_i l hl
    rw [lengthK_eq, Nat.zero_add] at hk
    replace hk := cond_true hk
    exact ⟨l, hk.2, hl, beq_eq' hk.1⟩
  · exact (F_false hk).elim

theorem lookupK_true {t : TypeId} {x key : AVal} {ok : Bool} {k' : AVal → Bool} (hk : lookupK P F h t x key ok k' = true) :
    ∃ v, k' v = true ∧ ∀ E w X K, HeapOk P N0 w0 E h nx w → Rel E x X → Rel E key K → ∃ cv, Rel E v cv ∧ (Instr.lookup t X K ok).run P w = .ok cv w := by
  unfold lookupK at hk
  split at hk
  · exact (F_false hk).elim
  rename_i kt e hm
  obtain ⟨hu, hko⟩ := mapTy_some hm
  obtain ⟨uk, huk⟩ := keyOk_und hko
  split at hk
  · exact (F_false hk).elim
  rename_i z hz
  replace hk := keyK_true hk
  obtain ⟨l, hk, hl, hlen⟩ := hk
  have chk : ∀ em E w K, Rel E key K → (Instr.checkKey em 10000 kt K).run P w = .ok () w := fun em E w K hK => by
    obtain ⟨X, rX, sX⟩ := keyL_rel hl huk hK
    exact checkKey_ok 20 10000 (by omega) kt _ X K hko sX (by rw [rX.length, hlen])
  have zero : ∀ E w, ∃ zv, (zeroValue e).run P w = .ok zv w ∧ Rel E z zv := fun E w => by
    obtain ⟨v, h1, h2, _⟩ := zeroP_run hz E w
    exact ⟨v, h1, h2⟩
  have pack : ∀ (a : AVal) (b : Bool), k' (bif ok then .tuple [a, .bool b] else a) = true → ∃ v, k' v = true ∧ ∀ (E : Env) (V : Value), Rel E a V → Rel E v (if ok then .tuple #[V, .bool b] else V) := by
    intro a b hk
    refine ⟨_, hk, fun E V hV => ?_⟩
    cases ok
    · exact hV
    · exact ⟨[V, .bool b], ⟨V, _, hV, ⟨_, _, rfl, rfl, rfl⟩, rfl⟩, rfl⟩
  split at hk
  · obtain ⟨v, hk, hv⟩ := pack _ _ hk
    refine ⟨v, hk, fun E w X K _ hx hK => ?_⟩
    simp only [Rel] at hx
    subst hx
    obtain ⟨zv, z1, z2⟩ := zero E w
    refine ⟨_, hv E zv z2, ?_⟩
    have hf : (Instr.findKey kt K []).run P w = .ok none w := run_findKey_of huk (by simp [Instr.findAsking]) (.inr (by simp [Instr.findNow]))
    simp only [Instr.lookup, Sem.run_bind, run_underlying hu, Result.andThen_ok, Sem.run_pure, chk _ E w K hK, hf, z1]
  · rename_i id
    replace hk := getK_true hk
    obtain ⟨b, hb, hk⟩ := hk
    split at hk
    · rename_i es clock
      rcases findK_true huk hk with ⟨hk, hh⟩ | ⟨i, en, hen, hk, hh⟩
      · obtain ⟨v, hk, hv⟩ := pack _ _ hk
        refine ⟨v, hk, fun E w X K hw hx hK => ?_⟩
        obtain ⟨i, hid, rfl⟩ := hx
        obtain ⟨ob, hob, hobj⟩ := hw.obj id i _ hid hb rfl
        obtain ⟨ces, rfl, res⟩ := hobj
        obtain ⟨zv, z1, z2⟩ := zero E w
        obtain ⟨XX, rX, sX⟩ := keyL_rel hl huk hK
        obtain ⟨f1, f2⟩ := hh E XX K ces.toList w rX sX res
        have hf := run_findKey_of huk f1 f2
        refine ⟨_, hv E zv z2, ?_⟩
        simp only [Instr.lookup, Sem.run_bind, run_underlying hu, Result.andThen_ok, Sem.run_pure, getObj, Sem.run, hob, chk _ E w K hK, hf, z1]
      · obtain ⟨v, hk, hv⟩ := pack _ _ hk
        refine ⟨v, hk, fun E w X K hw hx hK => ?_⟩
        obtain ⟨q, hid, rfl⟩ := hx
        obtain ⟨ob, hob, hobj⟩ := hw.obj id q _ hid hb rfl
        obtain ⟨ces, rfl, res⟩ := hobj
        obtain ⟨XX, rX, sX⟩ := keyL_rel hl huk hK
        obtain ⟨m, hm', f1, f2⟩ := hh E XX K ces.toList w rX sX res
        have hf := run_findKey_of huk f1 f2
        obtain ⟨m2, hm2, _, rv, _⟩ := res.get i en hen
        rw [hm'] at hm2
        obtain rfl : m = m2 := by simpa using hm2
        refine ⟨_, hv E m.val rv, ?_⟩
        simp only [Instr.lookup, Sem.run_bind, run_underlying hu, Result.andThen_ok, Sem.run_pure, getObj, Sem.run, hob, chk _ E w K hK, hf]
    · exact (F_false hk).elim
  · exact (F_false hk).elim

theorem sound_lookup {t : TypeId} {x i : Operand} {ok : Bool} (ho : o.op = .lookup t x i ok) (hk : opK P tm F h nx (.lookup t x i ok) o.type k = true) : OpGoal P N0 w0 tm h nx o k := by
  simp only [opK] at hk
  replace hk := evK_true hk
  obtain ⟨a, hk, ha⟩ := hk
  replace hk := evK_true hk
  obtain ⟨b, hk, hb⟩ := hk
  replace hk := lookupK_true (N0 := N0) (w0 := w0) (nx := nx) hk
  obtain ⟨v, hk, hv⟩ := hk
  refine ⟨_, _, _, hk, OpOk.pure fun E tmps w r hw => ?_⟩
  obtain ⟨cv, h1, h2⟩ := hv E w _ _ hw (ha E tmps hw.globs r) (hb E tmps hw.globs r)
  refine ⟨cv, h1, ?_⟩
  simp only [execOp, ho, Sem.run_bind, h2]
  rfl
end
end Go.Ev
/-! The operations are sound, part 15: maps are written. -/
namespace Go.Ev
open Go.RowKit (Below)
section
variable {P : Program} {N0 : Nat} {w0 : World} {tm : T AVal} {h : H} {nx : Nat} {o : Oper} {k : AVal → H → Nat → Bool}

def Ground : Value → Prop
  | .int _ _ => True
  | .bool _ => True
  | .string _ => True
  | _ => False
theorem eqGs_eq {E : Env} : ∀ {l l' : List AVal} {X Y : List Value}, eqGs l l' = true → RelL E l X → RelL E l' Y → X = Y ∧ ∀ v ∈ X, Ground v
  | [], [], X, Y, _, r, s => by simp only [RelL] at r s; subst r; subst s; simp
  | a :: l, b :: l', X, Y, h, r, s => by
    obtain ⟨x, xs, r1, r2, rfl⟩ := r
    obtain ⟨y, ys, s1, s2, rfl⟩ := s
    have main : x = y ∧ Ground x ∧ eqGs l l' = true := by
      unfold eqGs at h
      split at h <;> rename_i h1 h2
      · cases h1
      · cases h1; cases h2
        rcases bif_true h with ⟨c, h'⟩ | ⟨_, h'⟩
        · obtain ⟨c1, c2⟩ := and2 c
          have := beqK_eq c1
          subst this
          rw [eqI_eq] at c2
          have := eq_of_beq c2
          subst this
          simp only [Rel] at r1 s1
          subst r1; subst s1
          exact ⟨rfl, trivial, h'⟩
        · cases h'
      · cases h1; cases h2
        rcases bif_true h with ⟨c, h'⟩ | ⟨_, h'⟩
        · have := eq_of_beq c
          subst this
          simp only [Rel] at r1 s1
          subst r1; subst s1
          exact ⟨rfl, trivial, h'⟩
        · cases h'
      · cases h1; cases h2
        rcases bif_true h with ⟨c, h'⟩ | ⟨_, h'⟩
        · have := (eqL_iff _ _).1 c
          subst this
          obtain ⟨s1', rfl, e1⟩ := r1
          obtain ⟨s2', rfl, e2⟩ := s1
          have h3 := u8_inj (e1.trans e2.symm)
          refine ⟨?_, trivial, h'⟩
          congr 1
          obtain ⟨⟨a1⟩⟩ := s1'
          obtain ⟨⟨a2⟩⟩ := s2'
          simp at h3
          rw [h3]
        · cases h'
      · cases h
    obtain ⟨rfl, g, h⟩ := main
    obtain ⟨rfl, gs⟩ := eqGs_eq h r2 s2
    exact ⟨rfl, by simpa using ⟨g, gs⟩⟩
  | [], _ :: _, _, _, h, _, _ => by simp [eqGs] at h
  | _ :: _, [], _, _, h, _, _ => by unfold eqGs at h; split at h <;> simp_all

theorem shape_inj {t : TypeId} {X : List Value} {V W : Value} (a : Shape P t X V) (b : Shape P t X W) : V = W := by
  unfold Shape at a b
  cases hu : P.underlying t with
  | none => rw [hu] at a; cases a
  | some u => rw [hu] at a b; cases u <;> simp_all

theorem sameBits_ground : ∀ (n : Nat) (v : Value), Ground v → Instr.sameBits n v v = true
  | n, .int _ _, _ => by cases n <;> simp [Instr.sameBits]
  | n, .bool _, _ => by cases n <;> simp [Instr.sameBits]
  | n, .string s, _ => by
    have : (s == s) = true := by
      obtain ⟨⟨a⟩⟩ := s
      show ((⟨a⟩ : Array UInt8) == ⟨a⟩) = true
      simp
    cases n <;> simp [Instr.sameBits, this]
theorem sameBits_shape {t : TypeId} {X : List Value} {V : Value} (hs : Shape P t X V) (hg : ∀ v ∈ X, Ground v) : Instr.sameBits 10000 V V = true := by
  have agg : V = .agg X.toArray → Instr.sameBits 10000 V V = true := fun h => by
    subst h
    show ((X.toArray.size == X.toArray.size) && (X.toArray.toList.zip X.toArray.toList).all fun (x, y) => Instr.sameBits 9999 x y) = true
    simp only [beq_self_eq_true, Bool.true_and, List.all_eq_true]
    rintro ⟨a, b⟩ hab
    have := List.of_mem_zip hab
    have hz : a = b := by
      obtain ⟨i, h1, h2⟩ := List.mem_iff_getElem.1 hab
      simp at h2
      rw [← h2.1, ← h2.2]
    subst hz
    exact sameBits_ground _ _ (hg a (by simpa using this.1))
  unfold Shape at hs
  cases hu : P.underlying t with
  | none => rw [hu] at hs; cases hs
  | some u =>
    rw [hu] at hs
    cases u <;> first | exact agg hs | (subst hs; exact sameBits_ground _ _ (hg V (by simp)))

theorem heap_set' {w : World} {r : Nat} {o o' : Obj} (hb : w.heap[r]? = some o) : (w.heap.setIfInBounds r o')[r]? = some o' ∧ ∀ r', r' ≠ r → (w.heap.setIfInBounds r o')[r']? = w.heap[r']? := by
  have hlt : r < w.heap.size := (Array.getElem?_eq_some_iff.1 hb).1
  exact ⟨by simp [hlt], fun r' hne => by simp [Ne.symm hne]⟩
theorem setVal_rel {E : Env} {v : AVal} {V : Value} (hv : Rel E v V) : ∀ {es : List AEntry} {ces : List MapEntry} (i : Nat) (K : Value), RelEs E es ces → (∀ m, ces[i]? = some m → m.key = K) →
    RelEs E (setVal v es i) (ces.modify i fun e => { e with key := K, val := V })
  | [], _, i, K, r, _ => by simp only [RelEs] at r; subst r; simp [setVal, RelEs]
  | e :: es, _, i, K, ⟨m, ms, h1, h2, h3, h4, hl⟩, hK => by
    subst hl
    cases i with
    | zero =>
      have := hK m rfl
      show RelEs E ({ e with val := v } :: es) _
      refine ⟨{ m with key := K, val := V }, ms, ?_, hv, h3, h4, by simp⟩
      rw [← this]; exact h1
    | succ i =>
      show RelEs E (e :: setVal v es i) _
      exact ⟨m, _, h1, h2, h3, setVal_rel hv i K h4 (fun m' hm' => hK m' (by simpa using hm')), by simp⟩
theorem pushL_eq {α : Type} (a : α) : ∀ l : List α, pushL a l = l ++ [a]
  | [] => rfl
  | b :: l => by rw [pushL, pushL_eq a l]; rfl
theorem RelEs.append {E : Env} : ∀ {es fs : List AEntry} {l m : List MapEntry}, RelEs E es l → RelEs E fs m → RelEs E (es ++ fs) (l ++ m)
  | [], _, _, _, r, s => by simp only [RelEs] at r; subst r; exact s
  | _ :: _, _, _, _, ⟨m, ms, h1, h2, h3, h4, e⟩, s => by subst e; exact ⟨m, _, h1, h2, h3, h4.append s, rfl⟩

theorem mapSetK_true {t : TypeId} {x key v : AVal} {k' : H → Bool} (hk : mapSetK P F h t x key v k' = true) :
    ∃ h', k' h' = true ∧ ∀ E w X K V, HeapOk P N0 w0 E h nx w → Rel E x X → Rel E key K → Rel E v V → ∃ w', HeapOk P N0 w0 E h' nx w' ∧ (Instr.mapUpdate t X K V).run P w = .ok () w' := by
  unfold mapSetK at hk
  split at hk
  · exact (F_false hk).elim
  rename_i kt e hm
  obtain ⟨hu, hko⟩ := mapTy_some hm
  obtain ⟨uk, huk⟩ := keyOk_und hko
  split at hk
  · rename_i id
    replace hk := keyK_true hk
    obtain ⟨l, hk, hl, hlen⟩ := hk
    have chk : ∀ em E w K, Rel E key K → (Instr.checkKey em 10000 kt K).run P w = .ok () w := fun em E w K hK => by
      obtain ⟨X, rX, sX⟩ := keyL_rel hl huk hK
      exact checkKey_ok 20 10000 (by omega) kt _ X K hko sX (by rw [rX.length, hlen])
    replace hk := getK_true hk
    obtain ⟨b, hb, hk⟩ := hk
    split at hk
    · rename_i es clock
      rcases findK_true huk hk with ⟨hk, hh⟩ | ⟨i, en, hen, hk, hh⟩
      · rw [forceN_eq] at hk
        obtain ⟨_, hk⟩ := setK_true (show T.setK _ (F _) h id k' = true from hk)
        refine ⟨_, hk, fun E w X K V hw hx hK hV => ?_⟩
        obtain ⟨i, hid, rfl⟩ := hx
        obtain ⟨ob, hob, hobj⟩ := hw.obj id i _ hid hb rfl
        obtain ⟨ces, rfl, res⟩ := hobj
        obtain ⟨XX, rX, sX⟩ := keyL_rel hl huk hK
        obtain ⟨f1, f2⟩ := hh E XX K ces.toList w rX sX res
        have hf := run_findKey_of huk f1 f2
        obtain ⟨s1, s2⟩ := heap_set' (o' := .map (ces.push { key := K, val := V, born := clock }) (clock + 1)) hob
        refine ⟨{ w with heap := w.heap.setIfInBounds i.blk (.map (ces.push { key := K, val := V, born := clock }) (clock + 1)) }, ?_, ?_⟩
        · refine hw.set (w' := { w with heap := w.heap.setIfInBounds i.blk (.map (ces.push { key := K, val := V, born := clock }) (clock + 1)) }) hid hb rfl rfl s2 (by simp) rfl rfl rfl s1 ⟨_, rfl, ?_⟩
          rw [pushL_eq, Array.toList_push]
          exact res.append ⟨_, [], hK, hV, rfl, rfl, rfl⟩
        · simp only [Instr.mapUpdate, Sem.run_bind, run_underlying hu, Result.andThen_ok, Sem.run_pure, getObj, Sem.run, hob, chk _ E w K hK, hf, setObj]
      · split at hk
        · rename_i l' hl'
          replace hk := cond_true hk
          obtain ⟨hg, hk⟩ := hk
          obtain ⟨_, hk⟩ := setK_true (show T.setK _ (F _) h id k' = true from hk)
          refine ⟨_, hk, fun E w X K V hw hx hK hV => ?_⟩
          obtain ⟨q, hid, rfl⟩ := hx
          obtain ⟨ob, hob, hobj⟩ := hw.obj id q _ hid hb rfl
          obtain ⟨ces, rfl, res⟩ := hobj
          obtain ⟨XX, rX, sX⟩ := keyL_rel hl huk hK
          obtain ⟨m, hm', f1, f2⟩ := hh E XX K ces.toList w rX sX res
          have hf := run_findKey_of huk f1 f2
          obtain ⟨m2, hm2, rk, rv, _⟩ := res.get i en hen
          rw [hm'] at hm2
          obtain rfl : m = m2 := by simpa using hm2
          obtain ⟨YY, rY, sY⟩ := keyL_rel hl' huk rk
          obtain ⟨rfl, hgr⟩ := eqGs_eq hg rX rY
          have hkey : m.key = K := shape_inj sY sX
          have hsb := sameBits_shape sX hgr
          have hces : ces[i]? = some m := by simpa using hm'
          obtain ⟨s1, s2⟩ := heap_set' (o' := .map (ces.modify i fun e => { e with key := K, val := V }) clock) hob
          refine ⟨{ w with heap := w.heap.setIfInBounds q.blk (.map (ces.modify i fun e => { e with key := K, val := V }) clock) }, ?_, ?_⟩
          · refine hw.set (w' := { w with heap := w.heap.setIfInBounds q.blk (.map (ces.modify i fun e => { e with key := K, val := V }) clock) }) hid hb rfl rfl s2 (by simp) rfl rfl rfl s1 ⟨_, rfl, ?_⟩
            rw [Array.toList_modify, Nat.zero_add]
            exact setVal_rel hV i K res (fun m' hm2 => by rw [hm'] at hm2; cases hm2; exact hkey)
          · simp only [Instr.mapUpdate, Sem.run_bind, run_underlying hu, Result.andThen_ok, Sem.run_pure, getObj, Sem.run, hob, chk _ E w K hK, hf, Nat.zero_add, hces, Option.map_some, Option.getD_some,
              Instr.keyThatStays, hkey, hsb, if_true, setObj]
        · exact (F_false hk).elim
    · exact (F_false hk).elim
  · exact (F_false hk).elim

theorem sound_mapUpdate {t : TypeId} {m i x : Operand} (ho : o.op = .mapUpdate t m i x ∨ o.op = .insert t m i x) (hk : opK P tm F h nx (.mapUpdate t m i x) o.type k = true) : OpGoal P N0 w0 tm h nx o k := by
  simp only [opK] at hk
  replace hk := evK_true hk
  obtain ⟨a, hk, ha⟩ := hk
  replace hk := evK_true hk
  obtain ⟨b, hk, hb⟩ := hk
  replace hk := evK_true hk
  obtain ⟨c, hk, hc⟩ := hk
  replace hk := mapSetK_true (N0 := N0) (w0 := w0) (nx := nx) hk
  obtain ⟨h', hk, hv⟩ := hk
  refine ⟨_, _, _, hk, OpOk.heavy (by rcases ho with ho | ho <;> rw [ho] <;> rfl) (Nat.le_refl _) fun E tmps w r hw => ?_⟩
  obtain ⟨w', h1, h2⟩ := hv E w _ _ _ hw (ha E tmps hw.globs r) (hb E tmps hw.globs r) (hc E tmps hw.globs r)
  refine ⟨E, w', undef, Env.Le.refl E, fun _ _ => rfl, h1, ⟨[], rfl, rfl⟩, .inr ⟨?_, rfl⟩⟩
  rcases ho with ho | ho <;> simp only [execOp, ho, Sem.run_bind, h2] <;> rfl
end
end Go.Ev
/-! The operations are sound, part 16: sources of cells, conversions. -/
namespace Go.Ev
open Go.RowKit (Below)
section
variable {P : Program} {N0 : Nat} {w0 : World} {tm : T AVal} {h : H} {nx : Nat} {o : Oper} {k : AVal → H → Nat → Bool}

theorem relT_part {E : Env} {c : T AVal} {L : List Value} (r : RelT E c L) (off n : Nat) : RelL E (c.col off n []) ((L.drop off).take n) ∧ ∀ v ∈ (L.drop off).take n, v.oneCell' = true := by
  obtain ⟨wf, e⟩ := r.wf
  obtain ⟨rl, one⟩ := r.toList
  rw [T.col_eq _ wf, List.append_nil]
  exact ⟨(rl.drop off).take n, fun v hv => one v (List.mem_of_mem_drop (List.mem_of_mem_take hv))⟩

theorem drop_take_get {α : Type} (L : List α) (off n j : Nat) (v : α) (h : ((L.drop off).take n)[j]? = some v) : L[off + j]? = some v := by
  rw [List.getElem?_take] at h
  split at h
  · simpa using h
  · cases h

/-- what a source yields -/
theorem srcK_true {size n : Nat} {x : AVal} {k' : List AVal → Bool} (hk : srcK F h size n x k' = true) :
    ∃ l, k' l = true ∧ ∀ E w X, HeapOk P N0 w0 E h nx w → Rel E x X → (x = .slice0 → n = 0) → (∀ s, x = .str s → n ≤ s.length) → ∃ vs, RelL E l vs ∧ (∀ v ∈ vs, v.oneCell' = true) ∧ vs.length = n * size ∧
      (∀ w' : World, w'.heap = w.heap → (Builtin.firstCells size n X).run P w' = .ok vs.toArray w') := by
  unfold srcK at hk
  split at hk
  · refine ⟨_, hk, fun E w X _ hx hn _ => ?_⟩
    simp only [Rel] at hx
    subst hx
    obtain rfl := hn rfl
    exact ⟨[], rfl, by simp, by simp, fun w' _ => rfl⟩
  · rename_i id off len cap
    rcases bif_true hk with ⟨hc, hk⟩ | ⟨hc, hk⟩
    · obtain rfl := beq_eq' hc
      refine ⟨_, hk, fun E w X hw hx _ _ => ?_⟩
      obtain ⟨i, q, e1, _, _, _, rfl⟩ := hx
      refine ⟨[], rfl, by simp, by simp, fun w' _ => ?_⟩
      simp [Builtin.firstCells, loadCells, loadCellsFrom]
    · replace hk := getK_true hk
      obtain ⟨b, hb, hk⟩ := hk
      split at hk
      · rename_i c m ex rw' e
        replace hk := cond_true hk
        obtain ⟨hle, hk⟩ := hk
        replace hle : off + n * size ≤ m := ble_le hle
        rw [T.colK_eq] at hk
        refine ⟨_, hk, fun E w X hw hx _ _ => ?_⟩
        obtain ⟨i, q, e1, _, _, _, rfl⟩ := hx
        obtain ⟨L, rL, hL, hcell⟩ := cells_of hw e1 hb
        obtain ⟨p1, p2⟩ := relT_part rL off (n * size)
        have hlen : ((L.drop off).take (n * size)).length = n * size := by simp; omega
        refine ⟨_, p1, p2, hlen, fun w' hw' => ?_⟩
        have := run_loadCells_list (P := P) w' ⟨i.blk, i.base + off, none⟩ ((L.drop off).take (n * size)) (fun j v hv => by
          rw [addr_add, Nat.add_assoc]
          have := hcell (off + j) v (drop_take_get _ _ _ _ _ hv)
          rw [← this]
          simp [World.cell?, hw'])
        rw [hlen] at this
        exact this
      · exact (F_false hk).elim
      · exact (F_false hk).elim
  · rename_i s
    replace hk := cond_true hk
    obtain ⟨hs, hk⟩ := hk
    obtain rfl := beq_eq' hs
    refine ⟨_, hk, fun E w X hw hx _ hn => ?_⟩
    obtain ⟨b, rfl, rfl⟩ := hx
    have hn := hn _ rfl
    have hb : n ≤ b.size := by simpa using hn
    refine ⟨((b.data.toList.take n).map fun x => Value.int .u8 x.toNat), ?_, ?_, ?_, fun w' _ => ?_⟩
    · have : ∀ l : List UInt8, RelL E ((l.map UInt8.toNat).map fun b => AVal.int .u8 (Int.ofNat b)) (l.map fun x => Value.int .u8 x.toNat) := by
        intro l
        induction l with
        | nil => rfl
        | cons a l ih => exact ⟨_, _, rfl, ih, rfl⟩
      rw [← List.map_take]
      exact this _
    · intro v hv
      obtain ⟨_, _, rfl⟩ := List.mem_map.1 hv
      rfl
    · simp; omega
    · simp only [Builtin.firstCells, Sem.run_pure]
      congr 1
      apply Array.ext'
      simp [ByteArray.data_extract, List.extract]
  · exact (F_false hk).elim

theorem lenA_true {x : AVal} {k' : Nat → Bool} (hk : lenA F x k' = true) :
    ∃ n, k' n = true ∧ (x = .slice0 → n = 0) ∧ (∀ s, x = .str s → n = s.length) ∧ (∀ i o l c, x = .slice i o l c → n = l) ∧ ∀ E X w, Rel E x X → (Builtin.lenOf X).run P w = .ok n w := by
  unfold lenA at hk
  split at hk
  · exact ⟨0, hk, fun _ => rfl, by simp, by simp, fun E X w hx => by simp only [Rel] at hx; subst hx; rfl⟩
  · exact ⟨_, hk, by simp, by simp, fun _ _ _ _ e => by injection e, fun E X w hx => by obtain ⟨i, q, _, _, _, _, rfl⟩ := hx; rfl⟩
  · rw [lengthK_eq, Nat.zero_add] at hk
    refine ⟨_, hk, by simp, by simp, by simp, fun E X w hx => ?_⟩
    obtain ⟨b, rfl, rfl⟩ := hx
    simp [Builtin.lenOf]
  · exact (F_false hk).elim

theorem bytes_of {k' : List Nat → Bool} : ∀ {l : List AVal}, mapK (byteK F) l k' = true → ∃ s : List Nat, k' s = true ∧ l = s.map (fun b => AVal.int .u8 (Int.ofNat b)) ∧ ∀ b ∈ s, b < 256
  | [], hk => ⟨[], hk, rfl, by simp⟩
  | a :: l, hk => by
    simp only [mapK] at hk
    unfold byteK at hk
    split at hk
    · rename_i b
      replace hk := cond_true hk
      obtain ⟨hb, hk⟩ := hk
      replace hb := ble_le hb
      obtain ⟨s, h1, h2, h3⟩ := bytes_of hk
      exact ⟨_, h1, by rw [h2]; rfl, by simpa using ⟨by omega, h3⟩⟩
    · exact (F_false hk).elim

theorem relL_bytes {E : Env} : ∀ {s : List Nat} {vs : List Value}, RelL E (s.map fun b => AVal.int .u8 (Int.ofNat b)) vs → vs = s.map fun b => Value.int .u8 (Int.ofNat b)
  | [], _, r => r
  | a :: s, _, ⟨v, y, r1, r2, e⟩ => by
    rw [e, relL_bytes r2]
    simp only [Rel] at r1
    rw [r1]; rfl

theorem foldl_push (ns : List Int) : ∀ (b : ByteArray), (ns.foldl (fun r n => r.push (UInt8.ofNat n.toNat)) b).data.toList = b.data.toList ++ ns.map fun n => UInt8.ofNat n.toNat := by
  induction ns with
  | nil => simp
  | cons n ns ih => intro b; rw [List.foldl_cons, ih]; simp [ByteArray.push]

theorem toNat_bytes {s : List Nat} (h : ∀ b ∈ s, b < 256) : (s.map fun b => UInt8.ofNat b).map UInt8.toNat = s := by
  rw [List.map_map]
  conv => rhs; rw [← List.map_id s]
  apply List.map_congr_left
  intro a ha
  simp [Function.comp, Nat.mod_eq_of_lt (h a ha)]

theorem liesAt_bytes' {e : TypeId} (hc : P.cellsOf e = 1) (count off n : Nat) (hn : off + n ≤ count) : liesAt P P.depth e count off e n = true := by
  have hd : P.depth = (2 * (P.types.size + Made.depth) + 1) + 1 := rfl
  rw [hd]
  simp only [liesAt, Bool.or_eq_true]
  left
  rw [hd]
  simp [rowAt, hc, hn, sameLayout, Nat.mod_one]

theorem push_modify (A : Array Obj) (X : Obj) (f : Obj → Obj) : (A.push X).modify A.size f = A.push (f X) := by
  apply Array.ext_getElem?
  intro i
  rw [Array.getElem?_modify]
  by_cases c : A.size = i
  · subst c; simp
  · rw [if_neg c]
    simp only [Array.getElem?_push]
    by_cases c2 : i = A.size
    · exact absurd c2.symm c
    · simp [c2]
theorem str_mk (s : ByteArray) (l : List UInt8) (h : s.data.toList = l) : s = ⟨l.toArray⟩ := by
  apply ByteArray.ext
  rw [← h]

theorem sound_convert {s t : TypeId} {x : Operand} (ho : o.op = .convert s t x) (hk : opK P tm F h nx (.convert s t x) o.type k = true) : OpGoal P N0 w0 tm h nx o k := by
  simp only [opK] at hk
  replace hk := evK_true hk
  obtain ⟨a, hk, ha⟩ := hk
  unfold convertK at hk
  split at hk
  · rename_i hs ht
    rw [intK_eq, wrapFast_eq] at hk
    refine ⟨_, _, _, hk, OpOk.pure fun E tmps w r hw => ?_⟩
    have e := ha E tmps hw.globs r
    simp only [Rel] at e
    refine ⟨_, rfl, ?_⟩
    simp only [execOp, ho, convert, Sem.run_bind, run_underlying hs, run_underlying ht, Result.andThen_ok, e, Conv.intToInt, Sem.run_pure]
  · rename_i hs ht
    refine ⟨_, _, _, hk, OpOk.pure fun E tmps w r hw => ?_⟩
    obtain ⟨b, e, e2⟩ := ha E tmps hw.globs r
    refine ⟨_, ⟨b, rfl, e2⟩, ?_⟩
    simp only [execOp, ho, convert, Sem.run_bind, run_underlying hs, run_underlying ht, Result.andThen_ok, e, Sem.run_pure]
  · rename_i e l hs ht
    split at hk
    · rename_i hu
      replace hk := cond_true hk
      obtain ⟨hsz, hk⟩ := hk
      replace hsz := beq_eq' hsz
      rw [lengthK_eq, Nat.zero_add, pushListK_eq, newK_eq] at hk
      refine ⟨_, _, _, hk, OpOk.make (mkv := fun id => .slice id 0 l.length (.rest 0)) (.inr (.inl ⟨_, _, rfl⟩)) fun E tmps w r hw => ?_⟩
      obtain ⟨b, eX, e2⟩ := ha E tmps hw.globs r
      have hb : b.size = l.length := by rw [← e2]; simp
      have hcap : b.size ≤ grownCap w b.size 0 e := by simp [grownCap, Question.cut]
      obtain ⟨a1, a2⟩ := T.wf_pushL (l.map fun b => AVal.int .u8 (Int.ofNat b)) (.nil : T AVal) 0 trivial rfl
      refine ⟨⟨w.heap.size, 0, grownCap w b.size 0 e, 1⟩, .cells (byteCells b ++ List.replicate (grownCap w b.size 0 e - b.size) (Value.int .u8 0)).toArray e (grownCap w b.size 0 e, grownCap w b.size 0 e + 1), .slice (some ⟨w.heap.size, 0, none⟩) b.size (grownCap w b.size 0 e), w.drawn + 1, rfl, ?_, ?_, ?_⟩
      · have hbc : (byteCells b).length = b.size := byteCells_length b
        refine ⟨_, _, _, byteCells b, rfl, ?_, by rw [hbc, hb], ?_, hsz.symm, ?_, by simp, ?_⟩
        · refine RelT.of_list a1 ?_ ?_
          · rw [a2]
            simp only [T.toList, List.nil_append, ← e2, byteCells]
            generalize b.data.toList = q
            induction q with
            | nil => rfl
            | cons c q ih => exact ⟨_, _, rfl, ih, rfl⟩
          · intro v hv
            obtain ⟨_, _, rfl⟩ := List.mem_map.1 hv
            rfl
        · intro j hj
          simp only [Nat.zero_add, List.getElem?_toArray]
          rw [List.getElem?_append_left (by rw [hbc, hb]; exact hj)]
        · simp only [Nat.zero_add, Nat.mul_one, List.size_toArray, List.length_append, List.length_replicate, hbc]
          omega
        · intro _ j hj
          simp only [List.size_toArray, List.length_append, List.length_replicate, hbc] at hj
          omega
      · intro E' id hid
        exact ⟨_, grownCap w b.size 0 e, hid, rfl, by simp [Cap.At], by show l.length ≤ _; omega, by rw [hb]⟩
      · left
        simp only [execOp, ho, convert, Sem.run_bind, run_underlying hs, run_underlying ht, run_underlying hu, Result.andThen_ok, eX]
        simp only [Conv.stringToBytes, Sem.run_bind, choose, Sem.run, Question.forced, Bool.false_eq_true, if_false, Sem.run_pure, Result.andThen_ok, newRow, newObj, markStringish, shape, World.shape?]
        have hg : (Question.appendCap b.size 0 e).cut (w.tape w.drawn (Question.appendCap b.size 0 e)) = grownCap w b.size 0 e := rfl
        have hsz2 : (Array.map (fun b => Value.int IntKind.u8 ↑b.toNat) b.data ++ Array.replicate (grownCap w b.size 0 e - b.size) (Value.int IntKind.u8 0)).size = grownCap w b.size 0 e := by
          have : b.data.size = b.size := rfl
          simp only [Array.size_append, Array.size_map, Array.size_replicate, this]
          omega
        simp only [hg, Array.getElem?_push_size, freeze, Sem.run, World.freeze, Nat.one_ne_zero, if_false, push_modify, hsz2, beq_self_eq_true, if_true, Result.andThen_ok]
        have hcells : (byteCells b ++ List.replicate (grownCap w b.size 0 e - b.size) (Value.int IntKind.u8 0)).toArray = Array.map (fun b => Value.int IntKind.u8 ↑b.toNat) b.data ++ Array.replicate (grownCap w b.size 0 e - b.size) (Value.int IntKind.u8 0) := by
          apply Array.ext'
          simp [byteCells]
        rw [hcells]
    · exact (F_false hk).elim
  · rename_i e hs ht
    split at hk
    · rename_i hu
      refine ⟨_, _, _, hk, OpOk.pure fun E tmps w r hw => ?_⟩
      have eX := ha E tmps hw.globs r
      simp only [Rel] at eX
      refine ⟨_, ⟨ByteArray.empty, rfl, rfl⟩, ?_⟩
      simp only [execOp, ho, convert, Sem.run_bind, run_underlying hs, run_underlying ht, run_underlying hu, Result.andThen_ok, eX, Conv.bytesToString, Sem.run_pure]
    · exact (F_false hk).elim
  · rename_i e id off n cap hs ht
    split at hk
    · rename_i hu
      replace hk := srcK_true (P := P) (N0 := N0) (w0 := w0) (nx := nx) hk
      obtain ⟨l, hk, hh⟩ := hk
      replace hk := bytes_of hk
      obtain ⟨q, hk, rfl, hq⟩ := hk
      refine ⟨_, _, _, hk, OpOk.pure fun E tmps w r hw => ?_⟩
      obtain ⟨i, c, e1, _, _, hle, eX⟩ := ha E tmps hw.globs r
      obtain ⟨vs, v1, v2, v3, v4⟩ := hh E w (.slice (some ⟨i.blk, i.base + off, none⟩) n n) hw ⟨i, n, e1, rfl, trivial, Nat.le_refl _, rfl⟩ (by simp) (by simp)
      have hv := relL_bytes v1
      have v5 := v4 w rfl
      simp only [Builtin.firstCells, Nat.mul_one] at v5
      have hl : (loadCells ⟨i.blk, i.base + off, none⟩ n).run P w = .ok ((q.map Int.ofNat).map (Value.int .u8)).toArray w := by
        rw [v5, hv]
        congr 2
        simp [Function.comp_def]
      have := run_bytesToString w ⟨i.blk, i.base + off, none⟩ n c (q.map Int.ofNat) hl
      refine ⟨.string ((q.map Int.ofNat).foldl (fun r n => r.push (UInt8.ofNat n.toNat)) ByteArray.empty), ⟨_, rfl, ?_⟩, ?_⟩
      rotate_left
      · simp only [execOp, ho, convert, Sem.run_bind, run_underlying hs, run_underlying ht, run_underlying hu, Result.andThen_ok, eX, this, Sem.run_pure]
      · rw [foldl_push]
        have h0 : ByteArray.empty.data.toList = [] := rfl
        rw [h0, List.nil_append, List.map_map (l := q)]
        exact toNat_bytes hq
    · exact (F_false hk).elim
  · rename_i t' id off hs ht
    rcases bif_true hk with ⟨_, hk⟩ | ⟨hz, hk⟩
    · exact (F_false hk).elim
    replace hz := beq_ne hz
    obtain ⟨ti, hti, hts⟩ := sizeP_info hz
    replace hk := getK_true hk
    obtain ⟨b, hb, hk⟩ := hk
    split at hk
    · rename_i c n ex rw' e
      replace hk := cond_true hk
      obtain ⟨hlt, hk⟩ := hk
      replace hlt : off + 1 ≤ n := ble_le hlt
      refine ⟨_, _, _, hk, OpOk.pure fun E tmps w r hw => ?_⟩
      obtain ⟨i, e1, eX⟩ := ha E tmps hw.globs r
      refine ⟨_, ⟨i, e1, rfl⟩, ?_⟩
      obtain ⟨ob, hob, cs, lo, hi, L, rfl, rL, hL, hcells, _⟩ := hw.obj id i _ e1 hb rfl
      have hoff : i.base + off < cs.size := by
        have h1 := hcells off (by omega)
        have h2 : L[off]? ≠ none := by
          intro c; rw [List.getElem?_eq_none_iff] at c; omega
        rw [← h1] at h2
        rcases Nat.lt_or_ge (i.base + off) cs.size with h | h
        · exact h
        · exact absurd (Array.getElem?_eq_none h) h2
      have hne : ¬ ti.size = 0 := by rw [hts]; exact hz
      have hnlt : ¬ (cs.size ≤ i.base + off) := by omega
      simp only [execOp, ho, convert, Sem.run_bind, run_underlying hs, run_underlying ht, Result.andThen_ok, eX, Conv.unsafePointer, Conv.seenAt, viewAt, shape, Sem.run, World.shape?, hob, Option.isSome_some, if_true, Sem.run_pure,
        cellsIn, run_sizeOf' hti]
      simp [hnlt, hne]
    · exact (F_false hk).elim
  · rename_i u id off hs ht
    replace hk := getK_true hk
    obtain ⟨b, hb, hk⟩ := hk
    split at hk
    · rename_i c n ex rw' e
      replace hk := cond_true hk
      obtain ⟨hc, hk⟩ := hk
      obtain ⟨c1, c2, c3⟩ := and3 hc
      have hz : sizeP P u ≠ 0 := by
        intro q; rw [q] at c3; simp at c3
      obtain ⟨ti, hti, hts⟩ := sizeP_info hz
      refine ⟨_, _, _, hk, OpOk.pure fun E tmps w r hw => ?_⟩
      obtain ⟨i, e1, eX⟩ := ha E tmps hw.globs r
      refine ⟨_, ⟨i, e1, rfl⟩, ?_⟩
      obtain ⟨ob, hob, cs, lo, hi, L, rfl, rL, hL, hcells, _, _, hex, _⟩ := hw.obj id i _ e1 hb rfl
      obtain ⟨x1, x2⟩ := hex c1
      have hne : ¬ ti.size = 0 := by rw [hts]; exact hz
      have hlies : liesAt P P.depth e (cs.size / P.cellsOf e) (i.base + off) u 1 = true := by
        rw [x1, x2, Nat.zero_add]; exact c2
      simp only [execOp, ho, convert, Sem.run_bind, run_underlying hs, run_underlying ht, Result.andThen_ok, eX, Conv.unsafePointer, Conv.seenAt, viewAt, shape, Sem.run, World.shape?, hob, Option.isSome_some, if_true, Sem.run_pure,
        variablesAt, run_sizeOf' hti, program]
      simp [hne, hlies]
    · exact (F_false hk).elim
  · exact (F_false hk).elim
end
end Go.Ev
