/-
  A part of the proof that the evaluator is sound: what it answers, the model's run answers. No condition.
-/
import Derived.Test.YtfkhilehbikaaaaGreatDoorEvLawH
import Derived.Room.MakeNoZero
import Derived.KernelRfl
set_option linter.all false
/-! The machine's steps, part 2: functions without a body, calls. -/
namespace Go.Ev
open Go.RowKit (Below)
section
variable {P : Program} {N0 : Nat} {w0 : World} {base : List Frame} {f0 : FuncId} {ih : GoK Bool}
  {fi : FI} {tm : T AVal} {k : List AItem} {ds : List ADef} {cs : List AFrame} {h : H} {nx : Nat}

/-- what a call of code comes to -/
def CallOut (P : Program) (N0 : Nat) (w0 : World) (base : List Frame) (f0 : FuncId) (E : Env) (nx : Nat) (s : Sem Next) (w : World) (ccs : List Frame) (now : AVal → H → Nat → Bool) : Prop :=
  (∃ f args, s.run P w = .ok (.enter f args) w ∧ Fin P N0 w0 base f0 (lone (Frame.enter P f args .normal) ccs w)) ∨
  (∃ l f tmps as body, s.run P w = .ok (.round l f tmps as body) w ∧ Fin P N0 w0 base f0 (lone (Frame.round l f tmps as body .normal) ccs w)) ∨
  (∃ v h' nx' E' w' cv, now v h' nx' = true ∧ s.run P w = .ok (.value cv) w' ∧ E.Le E' ∧ (∀ id, id < nx → E' id = E id) ∧ nx ≤ nx' ∧ HeapOk P N0 w0 E' h' nx' w' ∧ Rel E' v cv)

/-- what a call of a function by number comes to -/
def FnOut (P : Program) (N0 : Nat) (w0 : World) (base : List Frame) (f0 : FuncId) (E : Env) (nx : Nat) (s : Sem Next) (w : World) (ccs : List Frame) (now : AVal → H → Nat → Bool) : Prop :=
  (∃ f args, s.run P w = .ok (.enter f args) w ∧ Fin P N0 w0 base f0 (lone (Frame.enter P f args .normal) ccs w)) ∨
  (∃ v h' nx' E' w' cv, now v h' nx' = true ∧ s.run P w = .ok (.value cv) w' ∧ E.Le E' ∧ (∀ id, id < nx → E' id = E id) ∧ nx ≤ nx' ∧ HeapOk P N0 w0 E' h' nx' w' ∧ Rel E' v cv)
theorem FnOut.out {E : Env} {s : Sem Next} {w : World} {ccs : List Frame} {now : AVal → H → Nat → Bool} (x : FnOut P N0 w0 base f0 E nx s w ccs now) : CallOut P N0 w0 base f0 E nx s w ccs now := by
  rcases x with x | x
  · exact .inl x
  · exact .inr (.inr x)

theorem bodyOf_some {f : FuncId} {c : Code} {n : Nat} (hb : bodyOf P f = some (c, n)) : ∃ fn, P.funcs[f]? = some fn ∧ fn.body = some c ∧ fn.ntmps = n ∧ n ≤ 1000000 ∧ (fn.name == "runtime.NumGoroutine") = false := by
  unfold bodyOf at hb
  split at hb
  · rename_i fn hfn
    split at hb
    · rename_i c' hc
      cases hq : fn.name == "runtime.NumGoroutine" with
      | true => rw [hq] at hb; cases hb
      | false =>
        rw [hq] at hb
        simp only [_root_.cond_false, forceN_eq] at hb
        cases hn : Nat.ble fn.ntmps 1000000 with
        | false => rw [hn] at hb; cases hb
        | true =>
          rw [hn] at hb
          cases hb
          exact ⟨fn, hfn, hc, rfl, ble_le hn, hq⟩
    · cases hb
  · cases hb

theorem relTm_enter {E : Env} {args : List AVal} {cargs : List Value} {n : Nat} {tm : T AVal} (r : RelL E args cargs) (hn : n ≤ 1000000) (hs : T.setO args (T.rep n undefA) 0 = some tm) :
    RelTm E tm (cargs.toArray ++ Array.replicate (n - cargs.toArray.size) undef) := by
  obtain ⟨w1, e1⟩ := T.wf_repF undefA 63 n (by have : (2 : Nat) ^ 63 = 9223372036854775808 := by decide
                                               omega)
  obtain ⟨w2, h1, h2, h3⟩ := T.wf_setO args (T.rep n undefA) 0 w1 tm hs
  have el : (T.rep n undefA).toList = List.replicate n undefA := e1
  have hlen := r.length
  intro t x hx
  rw [T.get_toList _ w2, h3 t] at hx
  by_cases c : 0 ≤ t ∧ t < 0 + args.length
  · rw [if_pos c] at hx
    obtain ⟨v, hv, hr⟩ := r.get _ _ hx
    refine ⟨v, ?_, hr⟩
    rw [Array.getElem?_append_left (by simp; omega)]
    simpa using hv
  · rw [if_neg c, el] at hx
    have hlt : t < n := by have := (List.getElem?_eq_some_iff.1 hx).1; simpa using this
    rw [List.getElem?_replicate, if_pos hlt] at hx
    cases hx
    refine ⟨undef, ?_, [], rfl, rfl⟩
    rw [Array.getElem?_append_right (by simp; omega), Array.getElem?_replicate, if_pos (by simp; omega)]

theorem findByte_eq (b : Nat) : ∀ (l full : List Nat) (j : Nat), full.drop j = l → findByte b l j = (match (List.range' j l.length).find? (fun i => full.getD i 0 == b) with | some i => Int.ofNat i | none => -1)
  | [], _, _, _ => by simp [findByte]
  | a :: l, full, j, h => by
    have hj : full.getD j 0 = a := by
      have := congrArg (·[0]?) h
      simp at this
      simp [List.getD, this]
    have hd : full.drop (j + 1) = l := by
      rw [← List.drop_drop, h]; rfl
    rw [findByte, List.length_cons, List.range'_succ, List.find?_cons, hj]
    cases hb : Nat.beq a b with
    | true =>
      have : a = b := beq_eq' hb
      subst this
      simp
    | false =>
      have hne : (a == b) = false := by simpa using beq_ne hb
      rw [hne]
      simp only [_root_.cond_false]
      exact findByte_eq b l full (j + 1) hd

theorem digits_one : ∀ (n t : Nat) (acc : Array Value), (∀ v ∈ acc, v.oneCell' = true) → ∀ v ∈ Extern.BytealgMakeNoZero.digits n t acc, v.oneCell' = true
  | 0, _, _, h => h
  | n + 1, t, acc, h => digits_one n (t / 256) _ (fun v hv => by
      rcases Array.mem_push.1 hv with hv | rfl
      · exact h v hv
      · rfl)

theorem relT_poison {E : Env} : ∀ {t : T AVal} {L : List Value}, t.Wf → t.toList = List.replicate L.length .poison → (∀ v ∈ L, v.oneCell' = true) → RelT E t L := by
  intro t L hw he ho
  refine RelT.of_list hw ?_ ho
  rw [he]
  clear he hw
  induction L with
  | nil => rfl
  | cons v L ih => exact ⟨v, L, ho v (by simp), ih fun u hu => ho u (by simp [hu]), rfl⟩

def extName : ExtKind → String
  | .same => "internal/abi.NoEscape"
  | .indexByte => "internal/bytealg.IndexByteString"
  | .makeNoZero => "internal/bytealg.MakeNoZero"
  | .none => ""
theorem find_congr' {α : Type} {p q : α → Bool} : ∀ {l : List α}, (∀ a ∈ l, p a = q a) → l.find? p = l.find? q
  | [], _ => rfl
  | a :: l, h => by
    rw [List.find?_cons, List.find?_cons, h a (by simp), find_congr' (l := l) fun x hx => h x (by simp [hx])]
theorem indexByte_def (x y : Value) : Extern.BytealgIndexByte.indexByte #[x, y] = (do
    let b ← Extern.Bytes.bytesOf x
    let c ← Extern.Bytes.asByte y
    match (List.range b.size).find? fun i => b[i]! == c with
    | some i => pure (goInt i)
    | none => pure (goInt (-1))) := rfl
theorem extOf_spec {f : FuncId} {e : ExtKind} (h : extOf P f = e) (hn : e ≠ .none) : ∃ fn, P.funcs[f]? = some fn ∧ fn.body = none ∧ fn.origin = "" ∧
    fn.name = extName e := by
  unfold extOf at h
  split at h
  · rename_i fn hfn
    cases hc : (fn.body.isSome || not (fn.origin == "")) with
    | true => rw [hc] at h; exact absurd h.symm hn
    | false =>
      rw [hc] at h
      simp only [Bool.or_eq_false_iff, Bool.not_eq_false', beq_iff_eq] at hc
      refine ⟨fn, hfn, by simpa using hc.1, hc.2, ?_⟩
      simp only [_root_.cond_false] at h
      split at h <;> subst h <;> first | assumption | exact absurd rfl hn
  · exact absurd h.symm hn

theorem nx_none1 : Extern.allNextRows.lookup "internal/abi.NoEscape" = none := by kernel_rfl
theorem nx_none2 : Extern.allNextRows.lookup "internal/bytealg.IndexByteString" = none := by kernel_rfl
theorem nx_none3 : Extern.allNextRows.lookup "internal/bytealg.MakeNoZero" = none := by kernel_rfl
theorem nx_none : Extern.allNextRows.lookup "" = none := by kernel_rfl
theorem gen1 : Extern.allGenericRows.lookup "internal/abi.NoEscape" = none := by kernel_rfl
theorem gen2 : Extern.allGenericRows.lookup "internal/bytealg.IndexByteString" = none := by kernel_rfl
theorem gen3 : Extern.allGenericRows.lookup "internal/bytealg.MakeNoZero" = none := by kernel_rfl
theorem typ1 : Extern.allTypedRows.lookup "internal/abi.NoEscape" = none := by kernel_rfl
theorem typ2 : Extern.allTypedRows.lookup "internal/bytealg.IndexByteString" = none := by kernel_rfl
theorem typ3 : Extern.allTypedRows.lookup "internal/bytealg.MakeNoZero" = some Extern.BytealgMakeNoZero.makeNoZero := by kernel_rfl
theorem row1 : Extern.allRows.lookup "internal/abi.NoEscape" = some Extern.AbiNoEscape.same := by kernel_rfl
theorem row2 : Extern.allRows.lookup "internal/bytealg.IndexByteString" = some Extern.BytealgIndexByte.indexByte := by kernel_rfl

theorem run_ext {f : FuncId} {fn : Func} {e : Array Value → Sem Value} {args : Array Value} {v : Value} {w w' : World} (hf : P.funcs[f]? = some fn) (hb : fn.body = none) (hn : (fn.name == "runtime.NumGoroutine") = false)
    (h1 : Extern.findNext fn = none) (h2 : Extern.find fn = some e) (h3 : (e args).run P w = .ok v w') : (callFunc f args).run P w = .ok (.value v) w' := by
  simp only [callFunc, Sem.run_bind, program, Sem.run, Result.andThen_ok, hf, hn, hb, Option.isNone_none, Bool.false_eq_true, if_false, if_true, mark, h1, h2, h3]
  rfl

theorem extK_out {f : FuncId} {args : List AVal} {now : AVal → H → Nat → Bool} (hk : extK P F f args h nx now = true) {E : Env} {w : World} {cargs : List Value} {ccs : List Frame}
    (hh : HeapOk P N0 w0 E h nx w) (ha : RelL E args cargs) : FnOut P N0 w0 base f0 E nx (callFunc f cargs.toArray) w ccs now := by
  refine .inr ?_
  unfold extK at hk
  split at hk
  · rename_i he
    obtain ⟨fn, hf, hb, ho, hn⟩ := extOf_spec he (by simp)
    obtain ⟨v, _, hv, rfl, rfl⟩ := ha
    refine ⟨_, _, _, E, w, v, hk, ?_, Env.Le.refl E, fun _ _ => rfl, Nat.le_refl _, hh, hv⟩
    exact run_ext hf hb (by rw [hn]; decide) (by simp [Extern.findNext, hn, extName, ho, nx_none1, nx_none]) (by simp [Extern.find, hn, extName, gen1, typ1, row1]; rfl) rfl
  · rename_i s b he
    obtain ⟨fn, hf, hb, ho, hn⟩ := extOf_spec he (by simp)
    replace hk := cond_true hk
    obtain ⟨hb255, hk⟩ := hk
    replace hb255 := ble_le hb255
    rw [intK_eq] at hk
    obtain ⟨_, _, ⟨bs, rfl, hbs⟩, ⟨_, _, rfl, rfl, rfl⟩, rfl⟩ := ha
    refine ⟨_, _, _, E, w, _, hk, ?_, Env.Le.refl E, fun _ _ => rfl, Nat.le_refl _, hh, rfl⟩
    refine run_ext hf hb (by rw [hn]; decide) (by simp [Extern.findNext, hn, extName, ho, nx_none2, nx_none]) (by simp [Extern.find, hn, extName, gen2, typ2, row2]; rfl) ?_
    show (Extern.BytealgIndexByte.indexByte #[.string bs, .int .u8 (Int.ofNat b)]).run P w = _
    have hfind : (List.range bs.size).find? (fun i => bs[i]! == (Int.ofNat b).toNat.toUInt8) = (List.range' 0 s.length).find? (fun i => s.getD i 0 == b) := by
      have hl : s.length = bs.size := by rw [← hbs]; simp
      rw [hl, List.range_eq_range']
      apply find_congr'
      intro i hi
      have hi : i < bs.size := by
        obtain ⟨q, hq, rfl⟩ := List.mem_range'.1 hi
        omega
      have hsi : s.getD i 0 = (bs.data.toList.map UInt8.toNat).getD i 0 := by rw [hbs]
      have hi' : i < bs.data.size := hi
      rw [hsi]
      have e1 : bs[i]! = bs.data[i] := by
        rw [getElem!_pos bs i hi]; rfl
      have e2 : (bs.data.toList.map UInt8.toNat).getD i 0 = (bs.data[i]).toNat := by
        rw [List.getD_eq_getElem?_getD, List.getElem?_map, Array.getElem?_toList, Array.getElem?_eq_getElem hi']
        rfl
      rw [e1, e2]
      have e3 : (Int.ofNat b).toNat.toUInt8 = UInt8.ofNat b := rfl
      rw [e3]
      by_cases c : bs.data[i] = UInt8.ofNat b
      · rw [c]
        have : (UInt8.ofNat b).toNat = b := by simp; omega
        simp [this]
      · have hne : (bs.data[i]).toNat ≠ b := by
          intro q
          apply c
          rw [← q]
          simp
        have h1 : (bs.data[i] == UInt8.ofNat b) = false := by simpa using c
        have h2 : ((bs.data[i]).toNat == b) = false := by simpa using hne
        rw [h1, h2]
    have hfb := findByte_eq b s s 0 rfl
    rw [indexByte_def]
    simp only [Extern.Bytes.bytesOf, Extern.Bytes.asByte, Sem.run_bind, Sem.run_pure, Result.andThen_ok, hfind]
    rw [hfb]
    cases (List.range' 0 s.length).find? (fun i => s.getD i 0 == b) <;> rfl
  · rename_i n he
    obtain ⟨fn, hf, hb, ho, hn⟩ := extOf_spec he (by simp)
    simp only [hf] at hk
    split at hk
    · rename_i t ts hres
      split at hk
      · rename_i e hu
        replace hk := cond_true hk
        obtain ⟨hc, hk⟩ := hk
        obtain ⟨c1, c2⟩ := and2 hc
        replace c1 := ble_le c1
        replace c2 := beq_eq' c2
        rw [newK_eq] at hk
        obtain ⟨_, _, rfl, rfl, rfl⟩ := ha
        have hrt : fn.resultTypes = (t :: ts).toArray := by rw [← hres]
        have hrun : ∃ c : Array Value, (Extern.BytealgMakeNoZero.makeNoZero fn.params fn.resultTypes #[.int .i64 n]).run P w = .ok (.slice (some ⟨w.heap.size, 0, none⟩) n c.size) { w with heap := w.heap.push (.cells c e), drawn := w.drawn + 2 } ∧ n ≤ c.size ∧ ∀ v ∈ c, v.oneCell' = true := by
          have hdef : Extern.BytealgMakeNoZero.makeNoZero fn.params (t :: ts).toArray #[.int .i64 n] =
            (do
              let .slice elem ← underlying t | stuck "bytealg.MakeNoZero: slice type expected"
              if (n : Int) < 0 || (n : Int) > 2 ^ 48 then runtimePanic (.error "makeslice: len out of range")
              let cap ← choose (.appendCap (n : Int).toNat 0 elem)
              askRoom cap
              let bytes ← choose (.extern "internal/bytealg.MakeNoZero.bytes" 0)
              let a ← newRow elem (Extern.BytealgMakeNoZero.digits cap bytes #[])
              pure (.slice (some a) (n : Int).toNat cap)) := rfl
          rw [hrt, hdef]
          refine ⟨Extern.BytealgMakeNoZero.digits (grownCap w n 0 e) ((Question.extern "internal/bytealg.MakeNoZero.bytes" 0).cut (w.tape (w.drawn + 1) (.extern "internal/bytealg.MakeNoZero.bytes" 0))) #[], ?_, ?_, digits_one _ _ _ (by simp)⟩
          · have h1 : ¬ (n : Int) < 0 := by omega
            have h2 : ¬ (281474976710656 : Int) < (n : Int) := by omega
            simp [run_underlying hu, h1, h2, Question.forced, newRow, Lib.size_digits, grownCap]
            rfl
          · rw [Lib.size_digits]
            simpa using grownCap_ge w n 0 e
        obtain ⟨c, hr1, hr2, hr3⟩ := hrun
        have rw1 : ∀ m, n = m → (T.rep n (AVal.poison)).Wf ∧ (T.rep n AVal.poison).toList = List.replicate n .poison := fun _ _ => T.wf_repF AVal.poison 63 n (by
          have : (2 : Nat) ^ 63 = 9223372036854775808 := by decide
          omega)
        obtain ⟨wf, el⟩ := rw1 n rfl
        have hro : RelObj P E ⟨w.heap.size, 0, c.size, 1⟩ (.cells (T.rep n .poison) n false true e) (.cells c e (0, 0)) := by
          refine ⟨c, 0, 0, c.toList.take n, rfl, relT_poison wf ?_ ?_, by simp; omega, fun j hj => ?_, c2.symm, by simp, by simp, fun _ j _ => by omega⟩
          · rw [el]; congr 1; simp; omega
          · intro v hv
            exact hr3 v (by simpa using List.mem_of_mem_take hv)
          · simp only [Nat.zero_add, List.getElem?_take]
            rw [if_pos hj]
            simp
        have le := Env.le_put (i := ⟨w.heap.size, 0, c.size, 1⟩) (hh.fresh (Nat.le_refl nx))
        obtain ⟨_, hka⟩ := hh.alloc (b := .cells (T.rep n .poison) n false true e) (i := ⟨w.heap.size, 0, c.size, 1⟩) rfl (hro.mono le)
        refine ⟨_, _, _, _, _, _, hk, ?_, le, fun id hid => by simp [Env.put, Nat.ne_of_lt hid], Nat.le_succ _, hka.congr (w' := { w with heap := w.heap.push (.cells c e), drawn := w.drawn + 2 }) rfl rfl rfl rfl,
          ⟨⟨w.heap.size, 0, c.size, 1⟩, c.size, by simp [Env.put], rfl, by simp [Cap.At], hr2, rfl⟩⟩
        exact run_ext hf hb (by rw [hn]; decide) (by simp [Extern.findNext, hn, extName, ho, nx_none3, nx_none]) (by simp [Extern.find, hn, extName, gen3, typ3]) hr1
      · exact (F_false hk).elim
    · exact (F_false hk).elim
  · exact (F_false hk).elim

theorem callFn_out (I : IH P N0 w0 base f0 ih) {f : FuncId} {args : List AVal} {now : AVal → H → Nat → Bool} (hk : callFn P F ih f args cs h nx now = true) {E : Env} {w : World} {cargs : List Value} {ccs : List Frame}
    (hh : HeapOk P N0 w0 E h nx w) (hs : RelStack P base E nx cs ccs) (hb : ∀ fi', Bot f0 fi' cs) (ha : RelL E args cargs) : FnOut P N0 w0 base f0 E nx (callFunc f cargs.toArray) w ccs now := by
  unfold callFn at hk
  split at hk
  · rename_i c n hbody
    obtain ⟨fn, hf, hc, hn, hle, hname⟩ := bodyOf_some hbody
    rw [setListK_eq] at hk
    split at hk
    · rename_i tm hset
      refine .inl ⟨f, cargs.toArray, ?_, ?_⟩
      · simp only [callFunc, Sem.run_bind, program, Sem.run, Result.andThen_ok, hf, hname, hc, Option.isNone_some, Bool.false_eq_true, if_false]
        rfl
      · have hfr : Frame.enter P f cargs.toArray .normal = ({ (default : Frame) with fn := f, kind := .normal, roundOf := none } : Frame).atR ⟨cargs.toArray ++ Array.replicate (n - cargs.toArray.size) undef, []⟩ [.code c] := by
          simp [Frame.enter, Frame.atR, hf, hc, hn]
        rw [hfr]
        exact I.run hk ⟨rfl, rfl, rfl, rfl, relTm_enter ha hle hset, ⟨_, [], rfl, rfl, rfl⟩⟩ hh (Nat.le_refl _) hs (hb _)
    · exact (F_false hk).elim
  · exact extK_out hk hh ha

theorem putsK_true {E : Env} : ∀ {ps : List Tmp} {args : List AVal} {cargs : List Value} {tm : T AVal} {tmps : Array Value} {kk : T AVal → Bool}, ps.length = args.length → putsK F ps args tm kk = true →
    ∃ tm', kk tm' = true ∧ (∀ E tmps (cargs : List Value), RelTm E tm tmps → RelL E args cargs → RelTm E tm' ((ps.zip cargs).foldl (fun tmps p => tmps.setIfInBounds p.1 p.2) tmps))
  | [], [], cargs, tm, tmps, kk, _, hk => ⟨tm, by simpa [putsK] using hk, fun E tmps cargs r _ => by simpa using r⟩
  | p :: ps, a :: args, cargs, tm, tmps, kk, hl, hk => by
    simp only [putsK] at hk
    replace hk := setK_true hk
    obtain ⟨hs, hk⟩ := hk
    obtain ⟨tm', hk, hh⟩ := putsK_true (E := E) (cargs := cargs) (tmps := tmps) (by simpa using hl) hk
    refine ⟨tm', hk, fun E tmps cargs r ra => ?_⟩
    obtain ⟨v, y, r1, r2, rfl⟩ := ra
    simp only [List.zip_cons_cons, List.foldl_cons]
    exact hh E _ y (r.set r1 hs) r2
  | [], _ :: _, _, _, _, _, hl, _ => by simp at hl
  | _ :: _, [], _, _, _, _, hl, _ => by simp at hl

theorem callVal_out (I : IH P N0 w0 base f0 ih) {fn : Fn} {args captured : List AVal} {now : AVal → H → Nat → Bool} (hk : callVal P F ih fn args captured cs h nx now = true) {E : Env} {w : World} {g : Fn} {cargs ccap : List Value}
    {ccs : List Frame} (hh : HeapOk P N0 w0 E h nx w) (hs : RelStack P base E nx cs ccs) (hb : ∀ fi', Bot f0 fi' cs) (hg : RelFn E fn g) (ha : RelL E args cargs) (hc : RelL E captured ccap) :
    CallOut P N0 w0 base f0 E nx (invoke (.fn g ccap.toArray) cargs.toArray) w ccs now := by
  unfold callVal at hk
  split at hk
  · rename_i f
    simp only [RelFn] at hg
    subst hg
    have := (callFn_out I hk hh hs hb (ha.append hc)).out
    simpa [invoke] using this
  · rename_i l
    obtain ⟨i, hi, rfl⟩ := hg
    replace hk := getK_true hk
    obtain ⟨b, hbk, hk⟩ := hk
    split at hk
    · rename_i r
      rw [lengthK_eq, Nat.zero_add] at hk
      replace hk := cond_true hk
      obtain ⟨hn, hk⟩ := hk
      replace hn := beq_eq' hn
      obtain ⟨tm, hk, hput⟩ := putsK_true (E := E) (cargs := cargs) (tmps := #[]) (by simp [hn]) hk
      obtain ⟨ob, hob, cl, rfl, q1, q2, q3, q4, q5, q6, q7, q8⟩ := hh.obj l i _ hi hbk rfl
      refine .inr (.inl ⟨i.blk, cl.fn, (cl.params.zip cargs.toArray).foldl (fun tmps (t, a) => tmps.setIfInBounds t a) cl.tmps, cl.assign, cl.body, ?_, ?_⟩)
      · have hsz : cargs.toArray.size = cl.params.size := by rw [q5, ← hn]; simpa using ha.length
        simp only [invoke, Instr.yield, Instr.getLoop, Sem.run_bind, getObj, Sem.run, hob, Result.andThen_ok, Sem.run_pure]
        simp [hsz]
      · have hfr : Frame.round i.blk cl.fn ((cl.params.zip cargs.toArray).foldl (fun tmps (t, a) => tmps.setIfInBounds t a) cl.tmps) cl.assign cl.body .normal =
            ({ (default : Frame) with fn := cl.fn, kind := .normal, roundOf := some i.blk } : Frame).atR ⟨(cl.params.zip cargs.toArray).foldl (fun tmps (t, a) => tmps.setIfInBounds t a) cl.tmps, []⟩ [.code cl.assign, .beginRound, .code cl.body] := by
          simp [Frame.round, Frame.atR]
        rw [hfr]
        refine I.run hk ⟨q3, rfl, ⟨i, hi, rfl⟩, rfl, ?_, ⟨_, _, by rw [q6]; rfl, ⟨_, _, rfl, ⟨_, [], by rw [q7]; rfl, rfl, rfl⟩, rfl⟩, rfl⟩⟩ hh (Nat.le_refl _) hs (hb _)
        have := hput E cl.tmps cargs q4 ha
        rw [← q5] at this
        show RelTm E tm ((cl.params.zip cargs.toArray).foldl (fun tmps p => tmps.setIfInBounds p.1 p.2) cl.tmps)
        rw [← Array.foldl_toList, Array.toList_zip]
        exact this
    · exact (F_false hk).elim
  · exact (F_false hk).elim
end
end Go.Ev
/-! The machine's steps, part 3: regions. -/
namespace Go.Ev
open Go.RowKit (Below)
section
variable {P : Program} {N0 : Nat} {w0 : World} {base : List Frame} {f0 : FuncId} {ih : GoK Bool}
  {fi : FI} {tm : T AVal} {k : List AItem} {ds : List ADef} {cs : List AFrame} {h : H} {nx : Nat} {all : Array Oper}

theorem step_gives {b : Frame} {a : Act} {ck : List Item} {ccs : List Frame} {w w' : World} {i : Nat} {rest : List Nat} {o : Oper} {cv : Value} (ho : all[i]? = some o)
    (hw : Region.wanted o (yielded all a.tmps) = true) (hd : ∀ c, o.op ≠ .defer c) (g : Gives P a.tmps o w cv w') :
    step P (lone (b.atR a (.inRegion all (i :: rest) :: ck)) ccs w) = .next (lone (b.atR (a.put o.dst cv) (.inRegion all rest :: ck)) ccs w') := by
  have hg := stepGR_op (P := P) (b := b) (k := ck) (cs := ccs) (w := w) (rest := rest) ho hw
  rw [Oper.semAt_eq _ _ _ hd, act_eval] at hg
  have hfin : ∀ v, (b.atR a (.inRegion all (i :: rest) :: ck)).finish v = b.atR (a.put o.dst v) (.inRegion all rest :: ck) := by
    intro v; rw [Frame.finish_atR, ho]; rfl
  refine step_lone_go ?_
  rw [hg, ← hfin]
  rcases g with g | ⟨g, rfl⟩
  · simp [stepG.apply, Sem.runT_eq, g, GStep.bare_after]
  · simp [stepG.apply, Sem.runT_eq, g, GStep.bare_after]

theorem put_tmps (a : Act) (dst : Option Tmp) (v : Value) : (a.put dst v).tmps = (match dst with | some t => a.tmps.setIfInBounds t v | none => a.tmps) := by cases dst <;> rfl
theorem put_defers' (a : Act) (dst : Option Tmp) (v : Value) : (a.put dst v).defers = a.defers := by cases dst <;> rfl

theorem relTm_put {E : Env} {tm tm' : T AVal} {a : Act} {dst : Option Tmp} {u : AVal} {v : Value} (r : RelTm E tm a.tmps) (hr : Rel E u v) (p1 : ∀ t, dst ≠ some t → tm'.get t = tm.get t)
    (p2 : ∀ t, dst = some t → tm'.get t = some u) (p3 : ∀ t, (tm'.get t).isSome = (tm.get t).isSome) : RelTm E tm' (a.put dst v).tmps := by
  rw [put_tmps]
  intro t y hy
  by_cases c : dst = some t
  · rw [p2 t c] at hy
    obtain rfl : u = y := by simpa using hy
    have : (tm.get t).isSome = true := by rw [← p3, p2 t c]; rfl
    obtain ⟨z, hz⟩ := Option.isSome_iff_exists.1 this
    obtain ⟨q, hq, _⟩ := r t z hz
    have hlt : t < a.tmps.size := (Array.getElem?_eq_some_iff.1 hq).1
    rw [c]
    exact ⟨v, by simp [hlt], hr⟩
  · rw [p1 t c] at hy
    obtain ⟨q, hq, hq'⟩ := r t y hy
    refine ⟨q, ?_, hq'⟩
    cases hd : dst with
    | none => exact hq
    | some d =>
      have : d ≠ t := by intro e; subst e; exact c hd
      show (a.tmps.setIfInBounds d v)[t]? = _
      rw [Array.getElem?_setIfInBounds_ne this]; exact hq

theorem ev_but {U : List Nat} {tmps : Array Value} {x : Operand} (hx : ∀ t, x = .tmp t → t ∉ U) : ev (tmpsU U tmps) x = ev tmps x :=
  ev_congr fun t ht => by rw [tmpsU_get, if_neg (hx t ht)]

/-- a call in a region -/
theorem callK_good (I : IH P N0 w0 base f0 ih) {o : Oper} {wait : AItem2} {go : AVal → H → Nat → Bool} (hk : callK P F ih o.op wait fi k ds cs tm h nx go = true) {E : Env} {lo : Nat} {U : List Nat} {b : Frame} {a : Act}
    {i : Nat} {rest : List Nat} {ck : List Item} {ccs : List Frame} {w : World} (ho : all[i]? = some o) (hw : Region.wanted o (yielded all a.tmps) = true) (hU : RelBut E U tm a.tmps) (hc : Clear U all o)
    (hh : HeapOk P N0 w0 E h nx w) (hlo : lo ≤ nx) (hf : RelFr P E lo nx ⟨fi, tm, .other wait :: k, ds⟩ (b.atR a (.inRegion all (i :: rest) :: ck))) (hs : RelStack P base E lo cs ccs) (hb : Bot f0 fi cs)
    (hgo : ∀ v h' nx' E' w' cv, go v h' nx' = true → E.Le E' → (∀ id, id < nx → E' id = E id) → nx ≤ nx' → HeapOk P N0 w0 E' h' nx' w' → Rel E' v cv →
      Fin P N0 w0 base f0 (lone (b.atR (a.put o.dst cv) (.inRegion all rest :: ck)) ccs w')) : Fin P N0 w0 base f0 (lone (b.atR a (.inRegion all (i :: rest) :: ck)) ccs w) := by
  unfold callK at hk
  split at hk
  · rename_i c hop
    split at hk
    · rename_i f hcal
      have hops : ∀ x ∈ c.operands, ∀ t, x = .tmp t → t ∉ U := fun x hx => hc.ops x (by rw [hop]; exact hx)
      have hfo : ∀ t, f = .tmp t → t ∉ U := hops f (by simp [Call.operands, hcal])
      have hao : ∀ x ∈ c.args.toList, ∀ t, x = .tmp t → t ∉ U := fun x hx => hops x (by simp [Call.operands]; exact .inr (by simpa using hx))
      have cg : ∀ x : Operand, (∀ t, x = .tmp t → t ∉ U) → (evK P tm F x : (AVal → Bool) → Bool) = evK P (tmU U tm) F x := fun x hx => evK_congr fun t ht => by rw [tmU_get, if_neg (hx t ht)]
      rw [cg f hfo] at hk
      have e2 := mapK_congr (f := evK P tm F) (g := evK P (tmU U tm) F) (l := c.args.toList) fun x hx => cg x (hao x hx)
      simp only [e2] at hk
      replace hk := evK_true hk
      obtain ⟨fv, hk, hfv⟩ := hk
      split at hk
      · rename_i fn first captured
        replace hk := evL_true hk
        obtain ⟨args, hk, hargs⟩ := hk
        obtain ⟨g, cf, cc, r1, r2, r3, r4⟩ := hfv E _ hh.globs hU.star
        have r5 := hargs E _ hh.globs hU.star
        rw [ev_but hfo] at r4
        have hmap : c.args.toList.map (ev (tmpsU U a.tmps)) = c.args.toList.map (ev a.tmps) := List.map_congr_left fun x hx => ev_but (hao x hx)
        rw [hmap] at r5
        have hexec : ∀ w, (execOp (ev a.tmps) o).run P w = (invoke (.fn g cc.toArray) (cf ++ c.args.toList.map (ev a.tmps)).toArray).run P w := by
          intro w
          have : (c.args.map (ev a.tmps)) = (c.args.toList.map (ev a.tmps)).toArray := by rw [map_toArray]
          simp only [execOp, hop, resolve, hcal, r4, Deferred.ofValue, Sem.run_bind, Sem.run_pure, Result.andThen_ok, this]
          simp
        have hstack : RelStack P base E nx (⟨fi, tm, .other wait :: k, ds⟩ :: cs) (b.atR a (.inRegion all (i :: rest) :: ck) :: ccs) := ⟨lo, _, _, hlo, hf, hs, rfl⟩
        have hnd : ∀ c, o.op ≠ .defer c := fun c e => by rw [hop] at e; cases e
        have hg := stepGR_op (P := P) (b := b) (k := ck) (cs := ccs) (w := w) (rest := rest) ho hw
        rw [Oper.semAt_eq _ _ _ hnd, act_eval] at hg
        rcases callVal_out I hk hh hstack (fun _ => hb) r1 (r2.append r5) r3 with ⟨f, args', o1, o2⟩ | ⟨l, f, tmps, as, body, o1, o2⟩ | ⟨v, h', nx', E', w', cv, q1, o1, q2, q3, q4, q5, q6⟩
        · rw [← hexec] at o1
          refine o2.head (step_lone_go ?_)
          rw [hg]
          simp [stepG.apply, Sem.runT_eq, o1, GStep.bare_after, Frame.atR]
        · rw [← hexec] at o1
          refine o2.head (step_lone_go ?_)
          rw [hg]
          simp [stepG.apply, Sem.runT_eq, o1, GStep.bare_after, Frame.atR]
        · rw [← hexec] at o1
          exact (hgo v h' nx' E' w' cv q1 q2 q3 q4 q5 q6).head (step_gives ho hw hnd (.inl o1))
      · exact (F_false hk).elim
    · exact (F_false hk).elim
  · exact (F_false hk).elim

theorem none_of_agree {E E' : Env} {nx lo : Nat} (h : ∀ id, id < nx → E' id = E id) (hl : lo ≤ nx) : ∀ id, id < lo → E id = none → E' id = none := fun id hid he => by rw [h id (by omega)]; exact he

/-- a region in the order of the text -/
theorem regionK_good (I : IH P N0 w0 base f0 ih) : ∀ {l : List Oper} {tm : T AVal} {h : H} {nx : Nat}, regionK P F ih all l fi tm k ds cs h nx = true → ∀ {E : Env} {lo : Nat} {b : Frame} {a : Act} {idx : List Nat} {ck : List Item} {ccs : List Frame} {w : World},
    Run E fi tm k ds b a ck → (idx.map fun i => all[i]?) = l.map some → HeapOk P N0 w0 E h nx w → lo ≤ nx → RelStack P base E lo cs ccs → Bot f0 fi cs → Fin P N0 w0 base f0 (lone (b.atR a (.inRegion all idx :: ck)) ccs w)
  | [], tm, h, nx, hk, E, lo, b, a, idx, ck, ccs, w, r, hi, hh, hlo, hs, hb => by
    have : idx = [] := by simpa using hi
    subst this
    exact (I.run hk r hh hlo hs hb).head stepR_region_end
  | o :: l, tm, h, nx, hk, E, lo, b, a, idx, ck, ccs, w, r, hi, hh, hlo, hs, hb => by
    obtain ⟨i, idx', rfl⟩ : ∃ i idx', idx = i :: idx' := by
      cases idx with
      | nil => simp at hi
      | cons i idx => exact ⟨i, idx, rfl⟩
    simp only [List.map_cons, List.cons.injEq] at hi
    obtain ⟨hio, hi⟩ := hi
    unfold regionK at hk
    rw [opsK] at hk
    have hbut := RelBut.of r.tm []
    have hclear : Clear [] all o := fun _ _ => by simp
    have put : ∀ {tm' : T AVal} {u : AVal} {v : Value} {E' : Env}, E.Le E' → Rel E' u v → (∀ t, o.dst ≠ some t → tm'.get t = tm.get t) → (∀ t, o.dst = some t → tm'.get t = some u) → (∀ t, (tm'.get t).isSome = (tm.get t).isSome) →
        Run E' fi tm' k ds b (a.put o.dst v) ck := fun le hr p1 p2 p3 =>
      ⟨r.fn, r.kind, r.ro.mono le, by rw [put_defers']; exact r.defs.mono le, relTm_put (r.tm.mono le) hr p1 p2 p3, r.its.mono le⟩
    rcases guardK_true hclear hk with ⟨hk, hg⟩ | ⟨hk, hg⟩
    · have hw := hg E _ hbut
      split at hk
      · refine callK_good I hk hio hw hbut hclear hh hlo ⟨r.fn, r.kind, r.ro, r.defs, rfl, r.tm, _, _, rfl, by simp [hio, hi], r.its⟩ hs hb ?_
        intro v h' nx' E' w' cv hk le agree hle hh' hv
        replace hk := putK_true hk
        obtain ⟨tm', hk, p1, p2, p3⟩ := hk
        have r' := put le hv p1 p2 p3
        exact I _ _ _ _ _ _ _ hk E' lo _ _ _ ⟨hh', by omega, ⟨r'.fn, r'.kind, r'.ro, r'.defs, rfl, r'.tm, _, _, rfl, hi, r'.its⟩, hs.mono le (none_of_agree agree hlo) (Nat.le_refl _), hb⟩
      · replace hk := opK_sound (N0 := N0) (w0 := w0) hk
        obtain ⟨v, h', nx', hk, hok⟩ := hk
        obtain ⟨hle, hgen⟩ := hok.gen
        obtain ⟨E', w', cv, le, agree, hh', hv, hgv⟩ := hgen E a.tmps w r.tm hh
        replace hk := putK_true hk
        obtain ⟨tm', hk, p1, p2, p3⟩ := hk
        have hnd : ∀ c, o.op ≠ .defer c := by
          intro c e
          rename_i hctl
          rw [e] at hctl; cases hctl
        exact (regionK_good I hk (put le hv p1 p2 p3) hi hh' (by omega) (hs.mono le (none_of_agree agree hlo) (Nat.le_refl _)) hb).head (step_gives hio hw hnd hgv)
    · have hw := hg E _ hbut
      replace hk := putK_true hk
      obtain ⟨tm', hk, p1, p2, p3⟩ := hk
      have hstep := stepR_op_skip (P := P) (b := b) (a := a) (k := ck) (cs := ccs) (w := w) (ops := all) (i := i) (rest := idx') (by simp [hio, hw])
      rw [hio] at hstep
      exact (regionK_good I hk (put (Env.Le.refl E) (show Rel E undefA undef from ⟨[], rfl, rfl⟩) p1 p2 p3) hi hh hlo hs hb).head hstep
end
end Go.Ev
/-! The machine's steps, part 4: regions that draw their order. -/
namespace Go.Ev
open Go.RowKit (Below)
section
variable {P : Program} {N0 : Nat} {w0 : World} {base : List Frame} {f0 : FuncId} {ih : GoK Bool}
  {fi : FI} {tm : T AVal} {k : List AItem} {ds : List ADef} {cs : List AFrame} {h : H} {nx : Nat} {all : Array Oper}

/-- the lights up to the next heavy -/
theorem lights_run (pl : Plan all) {lo n : Nat} {b : Frame} {ck : List Item} {ccs : List Frame}
    (look : ∀ i ∈ (stageOf (bfOf all) (heavies all) (lights all) n).checks, ∀ U, Clear U all (opAt all i) → LightOk P N0 w0 all U tm h nx (opAt all i)) :
    ∀ (rest : List Nat) (E : Env) (a : Act) (w : World), DrawInv P E lo nx all (n + 1) n rest tm a.tmps → HeapOk P N0 w0 E h nx w →
      ∃ E' a' w' rest', Steps P (lone (b.atR a (.inRegion all rest :: ck)) ccs w) (lone (b.atR a' (.inRegion all rest' :: ck)) ccs w') ∧ E.Le E' ∧ (∀ id, id < lo → E id = none → E' id = none) ∧
        DrawInv P E' lo nx all (n + 1) n rest' tm a'.tmps ∧ HeapOk P N0 w0 E' h nx w' ∧ a'.defers = a.defers ∧ (rest' = [] ∨ ∃ i q, rest' = i :: q ∧ isHeavy (opAt all i).op = true)
  | [], E, a, w, d, hh => ⟨E, a, w, [], .refl _ _, Env.Le.refl E, fun _ _ h => h, d, hh, rfl, .inl rfl⟩
  | i :: q, E, a, w, d, hh => by
    cases hv : isHeavy (opAt all i).op with
    | true => exact ⟨E, a, w, i :: q, .refl _ _, Env.Le.refl E, fun _ _ h => h, d, hh, rfl, .inr ⟨i, q, rfl, hv⟩⟩
    | false =>
      have hi := d.sched.lt i (by simp)
      have hin : i ∈ (stageOf (bfOf all) (heavies all) (lights all) n).checks := by
        refine mem_checks.2 ⟨hi, hv, nb_le pl d.heavy fun x hx => d.sched.before_head pl hx, fun j hj => ?_⟩
        cases hb : befB (bfOf all) j i with
        | false => rfl
        | true =>
          exfalso
          obtain ⟨m, hm⟩ := List.mem_iff_getElem?.1 hj
          rw [List.getElem?_take] at hm
          split at hm
          · rename_i hmn
            have hjd : j ∉ i :: q := fun c => by have := (d.heavy m j hm).1 c; omega
            have hjl := (mem_heavies.1 (List.mem_of_getElem? hm)).1
            exact d.sched.before_done pl _ j i (Nat.lt_succ_self _) hjl hjd hb (by simp)
          · cases hm
      have hclear := clear_head (b := n + 1) pl d.sched
      obtain ⟨t, u, ht, hu, hcase⟩ := look i hin _ hclear
      have hget := opAt_get hi
      have hnd : ∀ c, (opAt all i).op ≠ .defer c := fun c e => by rw [e] at hv; cases hv
      have step : ∃ E' cv w', step P (lone (b.atR a (.inRegion all (i :: q) :: ck)) ccs w) = .next (lone (b.atR (a.put (opAt all i).dst cv) (.inRegion all q :: ck)) ccs w') ∧ E.Le E' ∧ (∀ id, id < lo → E id = none → E' id = none) ∧
          Rel E' u cv ∧ HeapOk P N0 w0 E' h nx w' ∧
          (∀ id, E id = none → (∀ l' ∈ pend all (n + 1) q, makesMem P (opAt all l').op = true → ∀ t', (opAt all l').dst = some t' → (tm.get t').bind headOf = some id → E' id = none)) := by
        rcases hcase with ⟨rfl, hw⟩ | ⟨hw, hm, hp⟩ | ⟨hw, hm, id, blk, hid, hblk, hmk⟩
        · have hw := hw E _ d.slots
          have hstep := stepR_op_skip (P := P) (b := b) (a := a) (k := ck) (cs := ccs) (w := w) (ops := all) (i := i) (rest := q) (by simp [hget, hw])
          rw [hget] at hstep
          exact ⟨E, undef, w, hstep, Env.Le.refl E, fun _ _ h => h, ⟨[], rfl, rfl⟩, hh, fun _ h _ _ _ _ _ _ => h⟩
        · obtain ⟨cv, p1, p2⟩ := hp E a.tmps w d.slots hh
          exact ⟨E, cv, w, step_gives hget (hw E _ d.slots) hnd p2, Env.Le.refl E, fun _ _ h => h, p1, hh, fun _ h _ _ _ _ _ _ => h⟩
        · obtain ⟨inf, obj, cv, dn, q1, q2, q3, q4⟩ := hmk E a.tmps w d.slots hh
          have hpend : i ∈ pend all (n + 1) (i :: q) := mem_pend.2 ⟨by simp, hv, Nat.lt_succ_of_le (nb_le pl d.heavy fun x hx => d.sched.before_head pl hx)⟩
          have hbind : (tm.get t).bind headOf = some id := by rw [hu]; exact hid
          obtain ⟨a1, a2, a3⟩ := d.ids i hpend hm t id ht hbind
          have le := Env.le_put (i := inf) a3
          have hpl := hh.place a3 a2 hblk q1 (q2.mono le)
          refine ⟨E.put id inf, cv, _, step_gives hget (hw E _ d.slots) hnd q4, le, fun j hj hn => ?_, q3 _ (by simp [Env.put]), hpl.congr (w' := { w with heap := w.heap.push obj, drawn := dn }) rfl rfl rfl rfl, fun j hn l' hl' hm' t' ht' hb' => ?_⟩
          · have : j ≠ id := by omega
            simp [Env.put, this, hn]
          · have hl2 : l' ∈ pend all (n + 1) (i :: q) := by
              obtain ⟨x, y, z⟩ := mem_pend.1 hl'
              exact mem_pend.2 ⟨by simp [x], y, z⟩
            have hne : j ≠ id := by
              intro e; subst e
              have := d.apart l' hl2 i hpend hm' hm t' t j ht' ht hb' hbind
              subst this
              have hnd' := (List.nodup_cons.1 d.sched.nodup).1
              exact hnd' (mem_pend.1 hl').1
            simp [Env.put, hne, hn]
      obtain ⟨E', cv, w', hst, le, low, hr, hh', hnone⟩ := step
      have d' := d.light pl hv ht hu le hr hnone
      have hput : (a.put (opAt all i).dst cv).tmps = a.tmps.setIfInBounds t cv := by rw [put_tmps, ht]
      rw [← hput] at d'
      obtain ⟨E2, a2, w2, rest', s1, s2, s3, s4, s5, s6, s7⟩ := lights_run pl look q E' _ w' d' hh'
      exact ⟨E2, a2, w2, rest', .head hst s1, le.trans s2, fun id hid hn => s3 id hid (low id hid hn), s4, s5, by rw [s6, put_defers'], s7⟩

/-- stage n of a region that draws its order, and all that comes behind it -/
theorem drawK_good (I : IH P N0 w0 base f0 ih) {n : Nat} (hk : drawK P F ih all n fi tm k ds cs h nx = true) {E : Env} {lo : Nat} {b : Frame} {a : Act} {rest : List Nat} {ck : List Item} {ccs : List Frame} {w : World}
    (f1 : b.fn = fi.fn) (f2 : b.kind = fi.kind) (f3 : RelRo E fi.ro b.roundOf) (f4 : RelDefs E ds a.defers) (f5 : RelIts E k ck) (hp : planOk all = true) (d : DrawInv P E lo nx all n n rest tm a.tmps)
    (hh : HeapOk P N0 w0 E h nx w) (hlo : lo ≤ nx) (hs : RelStack P base E lo cs ccs) (hb : Bot f0 fi cs) : Fin P N0 w0 base f0 (lone (b.atR a (.inRegion all rest :: ck)) ccs w) := by
  have pl := planOk_plan hp
  unfold drawK at hk
  simp only [planP, hp, _root_.cond_true] at hk
  rw [nthK_eq] at hk
  split at hk
  · rename_i g hg
    have hg' : g = stageOf (bfOf all) (heavies all) (lights all) n := by
      unfold stagesOf at hg
      rw [List.getElem?_map] at hg
      cases hr : (List.range ((heavies all).length + 1))[n]? with
      | none => rw [hr] at hg; cases hg
      | some m =>
        rw [hr] at hg
        have : m = n := by
          have := (List.getElem?_eq_some_iff.1 hr).2
          simpa using this.symm
        subst this
        simpa using hg.symm
    subst hg'
    unfold stageK at hk
    obtain ⟨tm1, h1, nx1, hk, hle1, d1, hh1⟩ := d.evals pl hlo hh hk
    obtain ⟨hk, look⟩ := checksK_true (N0 := N0) (w0 := w0) hk fun i hi => (mem_checks.1 hi).2.1
    obtain ⟨E2, a2, w2, rest2, st, le, low, d2, hh2, hdef, hhead⟩ := lights_run (b := b) (ck := ck) (ccs := ccs) pl look rest E a w d1 hh1
    refine Fin.steps st ?_
    have f3' := f3.mono le
    have f4' : RelDefs E2 ds a2.defers := by rw [hdef]; exact f4.mono le
    have f5' := f5.mono le
    have hs' := hs.mono le low (Nat.le_refl _)
    have hhv : (stageOf (bfOf all) (heavies all) (lights all) n).heavy = (heavies all)[n]? := rfl
    rw [hhv] at hk
    rcases hhead with rfl | ⟨i, q, rfl, hvy⟩
    · have hnone : (heavies all)[n]? = none := by
        cases hq : (heavies all)[n]? with
        | none => rfl
        | some i => have := (d2.heavy n i hq).2 (Nat.le_refl _); cases this
      rw [hnone] at hk
      simp only [heavyK] at hk
      exact (I.run hk ⟨f1, f2, f3', f4', d2.finish, f5'⟩ hh2 (by omega) hs' hb).head stepR_region_end
    · have hat := head_heavy pl d2.sched d2.heavy hvy
      rw [hat] at hk
      have hi := d2.sched.lt i (by simp)
      have hget := opAt_get hi
      have hclear := clear_head (b := n + 1) pl d2.sched
      simp only [heavyK] at hk
      have next : ∀ {tm' : T AVal} {u : AVal} {v : Value} {E' : Env} {h' : H} {nx' : Nat} {w' : World}, ih fi tm' (.other (.opsD all (Nat.succ n)) :: k) ds cs h' nx' = true → E2.Le E' → (∀ id, id < nx1 → E' id = E2 id) → nx1 ≤ nx' → HeapOk P N0 w0 E' h' nx' w' → Rel E' u v →
          (∀ t, (opAt all i).dst ≠ some t → tm'.get t = tm1.get t) → (∀ t, (opAt all i).dst = some t → tm'.get t = some u) → (∀ t, (tm'.get t).isSome = (tm1.get t).isSome) →
          Fin P N0 w0 base f0 (lone (b.atR (a2.put (opAt all i).dst v) (.inRegion all q :: ck)) ccs w') := by
        intro tm' u v E' h' nx' w' hk le' agree hle hh' hr p1 p2 p3
        have hnone' : ∀ id, id < nx1 → E2 id = none → E' id = none := fun id hid he => by rw [agree id hid]; exact he
        have d3 := d2.heavyStep pl hvy le' hnone' hle hr p1 p2 p3
        have d3 : DrawInv P E' lo nx' all (n + 1) (n + 1) q tm' (a2.put (opAt all i).dst v).tmps := by
          cases hd : (opAt all i).dst with
          | none => rw [hd] at d3; exact d3
          | some t => rw [hd] at d3; exact d3
        refine I _ _ _ _ _ _ _ hk E' lo _ _ _ ⟨hh', by omega, ⟨f1, f2, f3'.mono le', ?_, rfl, _, _, rfl, f5'.mono le', hp, d3⟩, hs'.mono le' (fun id hid he => hnone' id (by omega) he) (Nat.le_refl _), hb⟩
        show RelDefs E' ds (a2.put (opAt all i).dst v).defers
        rw [put_defers']
        exact f4'.mono le'
      rcases guardK_true hclear hk with ⟨hk, hg⟩ | ⟨hk, hg⟩
      · have hw := hg E2 _ d2.slots
        split at hk
        · refine callK_good I hk hget hw d2.slots hclear hh2 (by omega) ⟨f1, f2, f3', f4', rfl, i, n, q, ck, rfl, rfl, f5', hp, hvy, rfl, d2⟩ hs' hb ?_
          intro v h' nx' E' w' cv hk le' agree hle hh' hv
          replace hk := putK_true hk
          obtain ⟨tm', hk, p1, p2, p3⟩ := hk
          exact next hk le' agree hle hh' hv p1 p2 p3
        · rename_i hctl
          replace hk := opK_but (N0 := N0) (w0 := w0) _ hclear hk
          obtain ⟨v, h', nx', hk, ⟨hle, hgen⟩, _⟩ := hk
          obtain ⟨E', w', cv, le', agree, hh', hv, hgv⟩ := hgen E2 a2.tmps w2 d2.slots hh2
          replace hk := putK_true hk
          obtain ⟨tm', hk, p1, p2, p3⟩ := hk
          have hnd : ∀ c, (opAt all i).op ≠ .defer c := by
            intro c e
            rw [e] at hctl; cases hctl
          exact (next hk le' agree hle hh' hv p1 p2 p3).head (step_gives hget hw hnd hgv)
      · have hw := hg E2 _ d2.slots
        replace hk := putK_true hk
        obtain ⟨tm', hk, p1, p2, p3⟩ := hk
        have hstep := stepR_op_skip (P := P) (b := b) (a := a2) (k := ck) (cs := ccs) (w := w2) (ops := all) (i := i) (rest := q) (by simp [hget, hw])
        rw [hget] at hstep
        exact (next hk (Env.Le.refl E2) (fun _ _ => rfl) (Nat.le_refl _) hh2 (show Rel E2 undefA undef from ⟨[], rfl, rfl⟩) p1 p2 p3).head hstep
  · exact (F_false hk).elim
end
end Go.Ev
/-! The machine's steps, part 5: leaving, returning, loops over functions, code; every step; the run. -/
namespace Go.Ev
open Go.RowKit (Below)
section
variable {P : Program} {N0 : Nat} {w0 : World} {base : List Frame} {f0 : FuncId} {ih : GoK Bool}
  {fi : FI} {tm : T AVal} {k : List AItem} {ds : List ADef} {cs : List AFrame} {h : H} {nx : Nat}

theorem stepR_scope {b : Frame} {a : Act} {ck : List Item} {ccs : List Frame} {w : World} {c : Code} : step P (lone (b.atR a (.code (.scope c) :: ck)) ccs w) = .next (lone (b.atR a (.code c :: .inScope c :: ck)) ccs w) :=
  step_lone_go (by simp [stepG, stepG.exec, Frame.atR])
theorem stepR_inScope {b : Frame} {a : Act} {ck : List Item} {ccs : List Frame} {w : World} {c : Code} : step P (lone (b.atR a (.inScope c :: ck)) ccs w) = .next (lone (b.atR a ck) ccs w) :=
  step_lone_go (by simp [stepG, stepG.exec, Frame.atR])

/-- the end of a frame's code; 'ck' is what the concrete frame has to do -/
theorem leaveK_good (I : IH P N0 w0 base f0 ih) {jump : Option Code} (hk : leaveK F ih jump fi tm k ds cs h nx = true) {E : Env} {lo : Nat} {b : Frame} {a : Act} {ck : List Item} {ccs : List Frame} {w : World}
    (f1 : b.fn = fi.fn) (f2 : b.kind = fi.kind) (f3 : RelRo E fi.ro b.roundOf) (f4 : RelDefs E ds a.defers) (f5 : RelTm E tm a.tmps) (hh : HeapOk P N0 w0 E h nx w) (hlo : lo ≤ nx) (hs : RelStack P base E lo cs ccs) (hb : Bot f0 fi cs)
    (hj : (jump = none ∧ ck = []) ∨ (jump = some .ret ∧ ∃ q, ck = .code .ret :: q) ∨ (∃ id q, jump = some (.exit id) ∧ ck = .code (.exit id) :: q ∧ exitTo id q = none) ∨ (∃ t q, jump = some (.goto t) ∧ ck = .code (.goto t) :: q ∧ gotoIn t q = none)) :
    Fin P N0 w0 base f0 (lone (b.atR a ck) ccs w) := by
  unfold leaveK at hk
  split at hk
  · rename_i hro
    rw [hro] at f3
    simp only [RelRo] at f3
    have ret : ih fi tm (.other .ret :: k) ds cs h nx = true → step P (lone (b.atR a ck) ccs w) = .next (lone { b.atR a ck with mode := .returning } ccs w) → Fin P N0 w0 base f0 (lone (b.atR a ck) ccs w) := fun hk hst =>
      (I _ _ _ _ _ _ _ hk E lo { b.atR a ck with mode := .returning } ccs w ⟨hh, hlo, ⟨f1, f2, by rw [hro]; exact f3, f4, rfl, f5⟩, hs, hb⟩).head hst
    split at hk
    · rcases hj with ⟨_, rfl⟩ | ⟨e, _⟩ | ⟨_, _, e, _⟩ | ⟨_, _, e, _⟩
      · exact ret hk (stepR_end f3)
      · cases e
      · cases e
      · cases e
    · rcases hj with ⟨e, _⟩ | ⟨_, q, rfl⟩ | ⟨_, _, e, _⟩ | ⟨_, _, e, _⟩
      · cases e
      · exact ret hk (stepR_ret f3)
      · cases e
      · cases e
    · exact (F_false hk).elim
  · rename_i l hro
    rw [hro] at f3
    obtain ⟨i, hi, f3⟩ := f3
    replace hk := getK_true hk
    obtain ⟨blk, hblk, hk⟩ := hk
    split at hk
    · rename_i r
      split at hk
      · exact (F_false hk).elim
      rename_i fr rest
      split at hk
      · rename_i hkind
        obtain ⟨_, hk⟩ := setK_true (show T.setK _ (F _) h l _ = true from hk)
        obtain ⟨lo', c, ccs', hl', hfr, hs', rfl⟩ := hs
        obtain ⟨ob, hob, cl, rfl, q1, q2, q3, q4, q5, q6, q7, q8⟩ := hh.obj l i _ hi hblk rfl
        obtain ⟨s1, s2⟩ := heap_set' (o' := .loop { cl with state := endState jump, pending := jump }) hob
        have hh' : HeapOk P N0 w0 E (h.set (.loop { r with state := endState jump, pending := jump }) l) nx { w with heap := w.heap.setIfInBounds i.blk (.loop { cl with state := endState jump, pending := jump }) } :=
          hh.set (w' := { w with heap := w.heap.setIfInBounds i.blk (.loop { cl with state := endState jump, pending := jump }) }) hi hblk rfl rfl s2 (by simp) rfl rfl rfl s1
            ⟨_, rfl, rfl, rfl, q3, q4, q5, q6, q7, q8⟩
        have hend : (Instr.endRound i.blk jump).run P w = .ok (.bool (endBool jump)) { w with heap := w.heap.setIfInBounds i.blk (.loop { cl with state := endState jump, pending := jump }) } := by
          simp only [Instr.endRound, Instr.getLoop, Sem.run_bind, getObj, Sem.run, hob, Result.andThen_ok, Sem.run_pure, setObj]
          cases jump <;> rfl
        have fin := finish_good I hk (cv := .bool (endBool jump)) rfl hh' (by omega) (hfr.mono (Env.Le.refl E) (fun _ _ h => h) (by omega)) hs' hb
        have hkn : b.kind = .normal := by rw [f2, hkind]
        rcases hj with ⟨rfl, rfl⟩ | ⟨rfl, q, rfl⟩ | ⟨id, q, rfl, rfl, hx⟩ | ⟨t, q, rfl, rfl, hx⟩
        · exact fin.head (stepR_round_end f3 hkn hend)
        · exact fin.head (stepR_round_ret f3 hkn hend)
        · exact fin.head (stepR_round_exit f3 hkn hx hend)
        · exact fin.head (stepR_round_goto f3 hkn hx hend)
      · exact (F_false hk).elim
    · exact (F_false hk).elim

def resultOne (tmps : Array Value) : ResultVar → Sem Value
  | .tmp t => pure (tmps.getD t undef)
  | .cell a t => do loadVar t (← asAddr (tmps.getD a undef))
theorem resultsK_true : ∀ {rs : List ResultVar} {kk : List AVal → Bool}, resultsK P F tm h rs kk = true →
    ∃ vs, kk vs = true ∧ ∀ E w tmps, HeapOk P N0 w0 E h nx w → RelTm E tm tmps → ∃ cvs, RelL E vs cvs ∧
      (rs.mapM (resultOne tmps)).run P w = .ok cvs w
  | [], kk, hk => ⟨[], hk, fun _ _ _ _ _ => ⟨[], rfl, rfl⟩⟩
  | .tmp t :: rs, kk, hk => by
    rw [resultsK] at hk
    replace hk := getK_true hk
    obtain ⟨v, hv, hk⟩ := hk
    replace hk := resultsK_true hk
    obtain ⟨vs, hk, hh⟩ := hk
    refine ⟨v :: vs, hk, fun E w tmps hw r => ?_⟩
    obtain ⟨cvs, c1, c2⟩ := hh E w tmps hw r
    obtain ⟨x, hx, hx'⟩ := r t v hv
    refine ⟨x :: cvs, ⟨x, cvs, hx', c1, rfl⟩, ?_⟩
    have hg : tmps.getD t undef = x := by simp [Array.getD_eq_getD_getElem?, hx]
    have h1 : (resultOne tmps (.tmp t)).run P w = .ok x w := by simp only [resultOne, hg, Sem.run_pure]
    rw [List.mapM_cons, Sem.run_bind, h1, Result.andThen_ok, Sem.run_bind, c2, Result.andThen_ok, Sem.run_pure]
  | .cell a t :: rs, kk, hk => by
    rw [resultsK] at hk
    replace hk := getK_true hk
    obtain ⟨p, hp, hk⟩ := hk
    split at hk
    · rename_i id off
      replace hk := loadK_true (P := P) (N0 := N0) (w0 := w0) (nx := nx) hk
      obtain ⟨v, hk, hl⟩ := hk
      replace hk := resultsK_true hk
      obtain ⟨vs, hk, hh⟩ := hk
      refine ⟨v :: vs, hk, fun E w tmps hw r => ?_⟩
      obtain ⟨cvs, c1, c2⟩ := hh E w tmps hw r
      obtain ⟨x, hx, i, hi, rfl⟩ := r a _ hp
      obtain ⟨y, y1, y2⟩ := hl E w i hw hi
      refine ⟨y :: cvs, ⟨y, cvs, y2, c1, rfl⟩, ?_⟩
      have hg : tmps.getD a undef = .pointer (some ⟨i.blk, i.base + off, none⟩) := by simp [Array.getD_eq_getD_getElem?, hx]
      have h1 : (resultOne tmps (.cell a t)).run P w = .ok y w := by simp only [resultOne, hg, asAddr, Sem.run_bind, Sem.run_pure, Result.andThen_ok, y1]
      rw [List.mapM_cons, Sem.run_bind, h1, Result.andThen_ok, Sem.run_bind, c2, Result.andThen_ok, Sem.run_pure]
    · exact (F_false hk).elim

theorem run_results {fn : Func} {tmps : Array Value} {w : World} {cvs : List Value}
    (hm : (fn.results.toList.mapM (resultOne tmps)).run P w = .ok cvs w) :
    (results fn tmps).run P w = .ok (if h : cvs.toArray.size = 1 then cvs.toArray[0] else .tuple cvs.toArray) w := by
  have e : results fn tmps = (do let vs ← fn.results.mapM (resultOne tmps); pure (if h : vs.size = 1 then vs[0] else .tuple vs) : Sem Value) := by
    unfold results
    congr 1
  rw [e, Array.mapM_eq_mapM_toList]
  simp only [Sem.run_bind, Sem.run_map, hm, Result.andThen_ok, Sem.run_pure]

/-- the frame that returns has run its deferred calls -/
theorem ret_good (I : IH P N0 w0 base f0 ih) (hk : otherK P F finT ih .ret fi tm k ds cs h nx = true) {E : Env} {lo : Nat} {c : Frame} {ccs : List Frame} {w : World}
    (s : St P N0 w0 base f0 E lo fi tm (.other .ret :: k) ds cs h nx c ccs w) : Fin P N0 w0 base f0 (lone c ccs w) := by
  obtain ⟨hh, hlo, ⟨f1, f2, f3, f4, f5⟩, hs, hb⟩ := s
  obtain ⟨hmode, htm⟩ := f5
  simp only [otherK] at hk
  simp only at f1 f2 f3 f4 htm
  split at hk
  · rename_i dd ds
    unfold deferredK at hk
    split at hk
    · exact (F_false hk).elim
    · rename_i id
      replace hk := getK_true hk
      obtain ⟨blk, hblk, hk⟩ := hk
      split at hk
      · rename_i calls
        obtain ⟨_, hk⟩ := setK_true (show T.setK _ (F _) h id _ = true from hk)
        obtain ⟨d, dds, ⟨i, hi, rfl⟩, hds, hdl⟩ := f4
        obtain ⟨ob, hob, cds, rfl, hcds⟩ := hh.obj id i _ hi hblk rfl
        obtain ⟨s1, s2⟩ := heap_set' (o' := .deferred none) hob
        have hh' : HeapOk P N0 w0 E (h.set (.deferred none) id) nx { w with heap := w.heap.setIfInBounds i.blk (.deferred none) } :=
          hh.set (w' := { w with heap := w.heap.setIfInBounds i.blk (.deferred none) }) hi hblk rfl rfl s2 (by simp) rfl rfl rfl s1 rfl
        have htake : (Instr.takeDeferred i.blk).run P w = .ok cds { w with heap := w.heap.setIfInBounds i.blk (.deferred none) } := by
          simp only [Instr.takeDeferred, Sem.run_bind, getObj, Sem.run, hob, Result.andThen_ok, Sem.run_pure, setObj]
        have hst : step P (lone c ccs w) = .next (lone { c with defers := cds ++ dds } ccs { w with heap := w.heap.setIfInBounds i.blk (.deferred none) }) :=
          step_lone_go (by simp [stepG, unwind, hmode, hdl, Sem.runT_eq, htake, GStep.bare_after])
        have happ : ∀ {x y : List ADef} {u v : List Deferred}, RelDefs E x u → RelDefs E y v → RelDefs E (x ++ y) (u ++ v) := by
          intro x
          induction x with
          | nil => intro y u v r s; simp only [RelDefs] at r; subst r; exact s
          | cons a x ihx =>
            intro y u v r s
            obtain ⟨d, ds', r1, r2, e⟩ := r
            subst e
            exact ⟨d, _, r1, ihx r2 s, rfl⟩
        exact (I _ _ _ _ _ _ _ hk E lo { c with defers := cds ++ dds } ccs _ ⟨hh', hlo, ⟨f1, f2, f3, happ hcds hds, hmode, htm⟩, hs, hb⟩).head hst
      · exact (F_false hk).elim
  · simp only [RelDefs] at f4
    split at hk
    · exact (F_false hk).elim
    rename_i rs hrs
    unfold resultsOf at hrs
    cases hfn : P.funcs[fi.fn]? with
    | none => rw [hfn] at hrs; cases hrs
    | some fn =>
      rw [hfn] at hrs
      obtain rfl : fn.results.toList = rs := by simpa using hrs
      replace hk := resultsK_true (N0 := N0) (w0 := w0) (nx := nx) hk
      obtain ⟨vs, hk, hres⟩ := hk
      obtain ⟨cvs, c1, c2⟩ := hres E w c.tmps hh htm
      have hrun := run_results c2
      have hfc : P.funcs[c.fn]? = some fn := by rw [f1]; exact hfn
      have back : ∀ (v : AVal) (cv : Value), returnK F finT ih v fi.kind cs h nx = true → Rel E v cv → (results fn c.tmps).run P w = .ok cv w → Fin P N0 w0 base f0 (lone c ccs w) := by
        intro v cv hk hv hr
        unfold returnK at hk
        split at hk
        · rename_i hkind
          have hleave : c.leaving P w (.returned cv) := ⟨hmode, f4, by rw [f2]; exact hkind, fn, hfc, hr⟩
          split at hk
          · -- the call's own end
            have hb' : fi.fn = f0 := hb
            unfold finT at hk
            split at hk
            · rename_i bb
              subst hk
              simp only [Rel] at hv
              subst hv
              simp only [RelStack] at hs
              subst hs
              exact ⟨w, c, .refl _ _, by rw [f1]; exact hb', hleave, hh.below⟩
            · cases hk
          · rename_i fr rest
            obtain ⟨lo', c', ccs', hl', hfr, hs', rfl⟩ := hs
            exact (finish_good I hk hv hh (by omega) (hfr.mono (Env.Le.refl E) (fun _ _ h => h) (by omega)) hs' hb).head (step_leave_returned hleave)
        · exact (F_false hk).elim
      split at hk
      · rename_i v
        obtain ⟨x, _, hx, rfl, rfl⟩ := c1
        exact back v x hk hx (by simpa using hrun)
      · rename_i hne
        refine back _ (.tuple cvs.toArray) hk ⟨cvs, c1, rfl⟩ ?_
        have hsz : ¬ cvs.toArray.size = 1 := by
          intro e
          have hl := c1.length
          simp at e
          rw [e] at hl
          cases vs with
          | nil => simp at hl
          | cons a vs => cases vs with
            | nil => exact hne a rfl
            | cons _ _ => simp at hl
        rw [dif_neg hsz] at hrun
        exact hrun
end
end Go.Ev
