/-
  A part of the proof that the evaluator is sound: what it answers, the model's run answers. No condition.
-/
import Derived.Test.YtfkhilehbikaaaaGreatDoorEvLawJ
set_option linter.all false
/-! The fast evaluator is sound. -/
namespace Go.Ev
open Go.RowKit (Below)
section
variable {P : Program} {N0 : Nat} {w0 : World} {base : List Frame} {f0 : FuncId} {ih : GoK Bool}
  {fi : FI} {tm : T AVal} {k : List AItem} {ds : List ADef} {cs : List AFrame} {h : H} {nx : Nat} {all : Array Oper} {o : Oper}

theorem guardF_ok {go skip : StateF} {kk : T AVal → H → Nat → Bool} (hk : guardF all o go skip tm h nx kk = true) : guardK all tm F o (fun _ => go tm h nx kk) (fun _ => skip tm h nx kk) = true := by
  unfold guardF guardSlot at hk
  unfold guardK
  cases hg : o.guard with
  | none => simp only [hg] at hk; exact hk
  | some g =>
    obtain ⟨j, want⟩ := g
    simp only [hg] at hk
    simp only
    cases ht : (all[j]?).bind (·.dst) with
    | none => simp only [ht] at hk; exact (F_false hk).elim
    | some t =>
      simp only [ht] at hk
      simp only
      replace hk := getK_true hk
      obtain ⟨v, hv, hk⟩ := hk
      refine getK_intro hv ?_
      cases v with
      | bool b =>
        rcases boolrec_true (show Bool.rec (motive := fun _ => Bool) (skip tm h nx kk) (go tm h nx kk) (b == want) = true from hk) with ⟨hq, hk⟩ | ⟨hq, hk⟩
        · simp only [hq, _root_.cond_true]; exact hk
        · simp only [hq, _root_.cond_false]; exact hk
      | poison => exact Bool.noConfusion hk
      | _ => exact hk
theorem guardF_true {U : List Nat} {go skip : StateF} {kk : T AVal → H → Nat → Bool} (c : Clear U all o) (hk : guardF all o go skip tm h nx kk = true) :
    (go tm h nx kk = true ∧ ∀ E tmps, RelBut E U tm tmps → Region.wanted o (yielded all tmps) = true) ∨ (skip tm h nx kk = true ∧ ∀ E tmps, RelBut E U tm tmps → Region.wanted o (yielded all tmps) = false) :=
  guardK_true c (guardF_ok hk)

theorem compileO_run {f : StateF} {l : List Oper} (hc : compileO P all o l = .run f) {kk : T AVal → H → Nat → Bool} (hk : f tm h nx kk = true) : isCtl o.op = false ∧ ∃ g p, coreOf P o = .mk g ∧ dstC o.dst = .mk p ∧
    guardF all o (fun tm h nx k => g tm h nx fun v h nx => p v tm fun tm => k tm h nx) (fun tm h nx k => p undefA tm fun tm => k tm h nx) tm h nx kk = true := by
  unfold compileO at hc
  split at hc
  · cases hc
  · rename_i hctl
    split at hc
    rename_i g p hg hp
    simp only [COp.run.injEq] at hc
    subst hc
    exact ⟨hctl, g, p, hg, hp, hk⟩
theorem compileO_ctl {o' : Oper} {l l' : List Oper} (hc : compileO P all o l = .ctl o' l') : o' = o ∧ l' = l ∧ isCtl o.op = true := by
  unfold compileO at hc
  split at hc
  · rename_i hctl
    simp only [COp.ctl.injEq] at hc
    exact ⟨hc.1.symm, hc.2.symm, hctl⟩
  · split at hc
    cases hc

/-- a region in the order of the text -/
theorem regionF_good (I : IH P N0 w0 base f0 ih) : ∀ {l : List Oper} {tm : T AVal} {h : H} {nx : Nat}, regionF P all l ih fi tm k ds cs h nx = true → ∀ {E : Env} {lo : Nat} {b : Frame} {a : Act} {idx : List Nat} {ck : List Item} {ccs : List Frame} {w : World},
    Run E fi tm k ds b a ck → (idx.map fun i => all[i]?) = l.map some → HeapOk P N0 w0 E h nx w → lo ≤ nx → RelStack P base E lo cs ccs → Bot f0 fi cs → Fin P N0 w0 base f0 (lone (b.atR a (.inRegion all idx :: ck)) ccs w)
  | [], tm, h, nx, hk, E, lo, b, a, idx, ck, ccs, w, r, hi, hh, hlo, hs, hb => by
    have : idx = [] := by simpa using hi
    subst this
    replace hk : ih fi tm k ds cs h nx = true := hk
    exact (I.run hk r hh hlo hs hb).head stepR_region_end
  | o :: l, tm, h, nx, hk, E, lo, b, a, idx, ck, ccs, w, r, hi, hh, hlo, hs, hb => by
    obtain ⟨i, idx', rfl⟩ : ∃ i idx', idx = i :: idx' := by
      cases idx with
      | nil => simp at hi
      | cons i idx => exact ⟨i, idx, rfl⟩
    simp only [List.map_cons, List.cons.injEq] at hi
    obtain ⟨hio, hi⟩ := hi
    have hbut := RelBut.of r.tm []
    have hclear : Clear [] all o := fun _ _ => by simp
    have put : ∀ {tm' : T AVal} {u : AVal} {v : Value} {E' : Env}, E.Le E' → Rel E' u v → (∀ t, o.dst ≠ some t → tm'.get t = tm.get t) → (∀ t, o.dst = some t → tm'.get t = some u) → (∀ t, (tm'.get t).isSome = (tm.get t).isSome) →
        Run E' fi tm' k ds b (a.put o.dst v) ck := fun le hr p1 p2 p3 =>
      ⟨r.fn, r.kind, r.ro.mono le, by rw [put_defers']; exact r.defs.mono le, relTm_put (r.tm.mono le) hr p1 p2 p3, r.its.mono le⟩
    have skip : ∀ {tm' : T AVal}, regionF P all l ih fi tm' k ds cs h nx = true → (∀ t, o.dst ≠ some t → tm'.get t = tm.get t) → (∀ t, o.dst = some t → tm'.get t = some undefA) → (∀ t, (tm'.get t).isSome = (tm.get t).isSome) →
        Region.wanted o (yielded all a.tmps) = false → Fin P N0 w0 base f0 (lone (b.atR a (.inRegion all (i :: idx') :: ck)) ccs w) := by
      intro tm' hk p1 p2 p3 hw
      have hstep := stepR_op_skip (P := P) (b := b) (a := a) (k := ck) (cs := ccs) (w := w) (ops := all) (i := i) (rest := idx') (by simp [hio, hw])
      rw [hio] at hstep
      exact (regionF_good I hk (put (Env.Le.refl E) (show Rel E undefA undef from ⟨[], rfl, rfl⟩) p1 p2 p3) hi hh hlo hs hb).head hstep
    replace hk : COp.rec (motive := fun _ => Bool) (fun f => f tm h nx fun tm h nx => regionF P all l ih fi tm k ds cs h nx)
      (fun o' l' => guardK all tm F o' (fun _ => callK P F ih o'.op (.ops all (o' :: l')) fi k ds cs tm h nx fun v h nx => putK F o'.dst v tm fun tm => ih fi tm (.other (.ops all l') :: k) ds cs h nx)
        (fun _ => putK F o'.dst undefA tm fun tm' => regionF P all l ih fi tm' k ds cs h nx)) (compileO P all o l) = true := hk
    cases hc : compileO P all o l with
    | run f =>
      rw [hc] at hk
      obtain ⟨hctl, g, p, hg, hp, hk⟩ := compileO_run hc hk
      rcases guardF_true hclear hk with ⟨hk, hw⟩ | ⟨hk, hw⟩
      · have hw := hw E _ hbut
        replace hk := coreOf_ok g hg tm h nx _ hk
        replace hk := opK_sound (N0 := N0) (w0 := w0) hk
        obtain ⟨v, h', nx', hk, hok⟩ := hk
        obtain ⟨hle, hgen⟩ := hok.gen
        obtain ⟨E', w', cv, le, agree, hh', hv, hgv⟩ := hgen E a.tmps w r.tm hh
        simp only [dstC_eq hp] at hk
        replace hk := putK_true hk
        obtain ⟨tm', hk, p1, p2, p3⟩ := hk
        have hnd : ∀ c, o.op ≠ .defer c := by
          intro c e
          rw [e] at hctl; cases hctl
        exact (regionF_good I hk (put le hv p1 p2 p3) hi hh' (by omega) (hs.mono le (none_of_agree agree hlo) (Nat.le_refl _)) hb).head (step_gives hio hw hnd hgv)
      · simp only [dstC_eq hp] at hk
        replace hk := putK_true hk
        obtain ⟨tm', hk, p1, p2, p3⟩ := hk
        exact skip hk p1 p2 p3 (hw E _ hbut)
    | ctl o' l' =>
      obtain ⟨rfl, rfl, hctl⟩ := compileO_ctl hc
      rw [hc] at hk
      rcases guardK_true hclear hk with ⟨hk, hg⟩ | ⟨hk, hg⟩
      · have hw := hg E _ hbut
        refine callK_good I hk hio hw hbut hclear hh hlo ⟨r.fn, r.kind, r.ro, r.defs, rfl, r.tm, _, _, rfl, by simp [hio, hi], r.its⟩ hs hb ?_
        intro v h' nx' E' w' cv hk le agree hle hh' hv
        replace hk := putK_true hk
        obtain ⟨tm', hk, p1, p2, p3⟩ := hk
        have r' := put le hv p1 p2 p3
        exact I _ _ _ _ _ _ _ hk E' lo _ _ _ ⟨hh', by omega, ⟨r'.fn, r'.kind, r'.ro, r'.defs, rfl, r'.tm, _, _, rfl, hi, r'.its⟩, hs.mono le (none_of_agree agree hlo) (Nat.le_refl _), hb⟩
      · replace hk := putK_true hk
        obtain ⟨tm', hk, p1, p2, p3⟩ := hk
        exact skip hk p1 p2 p3 (hg E _ hbut)

/-- what working out a light does -/
structure Own (P : Program) (all : Array Oper) (o : Oper) (tm : T AVal) (h : H) (nx : Nat) (tm1 : T AVal) (h1 : H) (nx1 : Nat) : Prop where
  le : nx ≤ nx1
  slots : ∀ t, o.dst ≠ some t → tm1.get t = tm.get t
  some_ : ∀ t, (tm1.get t).isSome = (tm.get t).isSome
  heap : ∀ (N0 : Nat) (w0 : World) E w, HeapOk P N0 w0 E h nx w → HeapOk P N0 w0 E h1 nx1 w
  ids : makesMem P o.op = true → ∀ t id, o.dst = some t → (tm1.get t).bind headOf = some id → nx ≤ id ∧ id < nx1

theorem evalO_own {f : StateF} (hc : evalO P all o = .mk f) {kk : T AVal → H → Nat → Bool} (hk : f tm h nx kk = true) : ∃ tm1 h1 nx1, kk tm1 h1 nx1 = true ∧ Own P all o tm h nx tm1 h1 nx1 := by
  unfold evalO at hc
  split at hc
  rename_i g p hg hp
  have skip : p undefA tm (fun tm => kk tm h nx) = true → ∃ tm1 h1 nx1, kk tm1 h1 nx1 = true ∧ Own P all o tm h nx tm1 h1 nx1 := by
    intro hk
    simp only [dstC_eq hp] at hk
    replace hk := putK_true hk
    obtain ⟨tm1, hk, a1, a2, a3⟩ := hk
    exact ⟨tm1, h, nx, hk, Nat.le_refl _, a1, a3, fun _ _ _ _ x => x, fun _ t id ht hid => by rw [a2 t ht] at hid; cases hid⟩
  cases hm : makesMem P o.op with
  | true =>
    rw [hm] at hc
    simp only [_root_.cond_true, SClo.mk.injEq] at hc
    subst hc
    rcases guardF_true (U := []) (fun _ _ => by simp) hk with ⟨hk, _⟩ | ⟨hk, _⟩
    · replace hk := opK_sound (N0 := 0) (w0 := default) (coreOf_ok g hg tm h nx _ hk)
      obtain ⟨v, h', nx', hk, _⟩ := hk
      unfold keepK at hk
      rw [hm] at hk
      simp only [_root_.cond_true] at hk
      split at hk
      · rename_i id hid
        replace hk := cond_true hk
        obtain ⟨hn, hk⟩ := hk
        obtain rfl := beq_eq' hn
        replace hk := getK_true hk
        obtain ⟨b, _, hk⟩ := hk
        rw [T.pushK_eq, forceN_eq] at hk
        simp only [dstC_eq hp] at hk
        replace hk := putK_true hk
        obtain ⟨tm1, hk, a1, a2, a3⟩ := hk
        refine ⟨tm1, _, _, hk, Nat.le_succ _, a1, a3, fun N0 w0 E w x => x.reserve b, fun _ t id' ht hid' => ?_⟩
        rw [a2 t ht, Option.bind_some, hid] at hid'
        cases hid'
        exact ⟨Nat.le_refl _, Nat.lt_succ_self _⟩
      · exact (F_false hk).elim
    · exact skip hk
  | false =>
    rw [hm] at hc
    simp only [_root_.cond_false, SClo.mk.injEq] at hc
    subst hc
    rcases guardF_true (U := []) (fun _ _ => by simp) hk with ⟨hk, _⟩ | ⟨hk, _⟩
    · replace hk := opK_sound (N0 := 0) (w0 := default) (coreOf_ok g hg tm h nx _ hk)
      obtain ⟨v, h', nx', hk, _⟩ := hk
      simp only [dstC_eq hp] at hk
      replace hk := putK_true hk
      obtain ⟨tm1, hk, a1, a2, a3⟩ := hk
      exact ⟨tm1, h, nx, hk, Nat.le_refl _, a1, a3, fun _ _ _ _ x => x, fun hm' => by rw [hm] at hm'; cases hm'⟩
    · exact skip hk

noncomputable abbrev evalsC (P : Program) (all : Array Oper) (l : List Nat) : List SClo := List.rec (motive := fun _ => List SClo) [] (fun i _ ih => evalO P all (opAt all i) :: ih) l
noncomputable abbrev checksC (P : Program) (all : Array Oper) (l : List Nat) : List SClo := List.rec (motive := fun _ => List SClo) [] (fun i _ ih => checkO P all (opAt all i) :: ih) l

theorem evalsF_true {kk : T AVal → H → Nat → Bool} : ∀ {l : List Nat} {tm : T AVal} {h : H} {nx : Nat}, sclosF (evalsC P all l) kk tm h nx = true →
    (l.Pairwise fun i j => ∀ t, (opAt all i).dst = some t → (opAt all j).dst ≠ some t) →
    ∃ tm' h' nx', kk tm' h' nx' = true ∧ nx ≤ nx' ∧ (∀ t, (∀ i ∈ l, (opAt all i).dst ≠ some t) → tm'.get t = tm.get t) ∧ (∀ t, (tm'.get t).isSome = (tm.get t).isSome) ∧
      (∀ (N0 : Nat) (w0 : World) E w, HeapOk P N0 w0 E h nx w → HeapOk P N0 w0 E h' nx' w) ∧
      (∀ i ∈ l, makesMem P (opAt all i).op = true → ∀ t id, (opAt all i).dst = some t → (tm'.get t).bind headOf = some id → nx ≤ id ∧ id < nx') ∧
      (l.Pairwise fun i j => makesMem P (opAt all i).op = true → makesMem P (opAt all j).op = true → ∀ t u id id', (opAt all i).dst = some t → (opAt all j).dst = some u →
        (tm'.get t).bind headOf = some id → (tm'.get u).bind headOf = some id' → id < id')
  | [], tm, h, nx, hk, _ => ⟨tm, h, nx, hk, Nat.le_refl _, fun _ _ => rfl, fun _ => rfl, fun _ _ _ _ x => x, by simp, .nil⟩
  | i :: l, tm, h, nx, hk, hp => by
    obtain ⟨hp1, hp2⟩ := List.pairwise_cons.1 hp
    replace hk : SClo.rec (motive := fun _ => Bool) (fun f => f tm h nx (sclosF (evalsC P all l) kk)) (evalO P all (opAt all i)) = true := hk
    obtain ⟨tm1, h1, nx1, hk, own⟩ : ∃ tm1 h1 nx1, sclosF (evalsC P all l) kk tm1 h1 nx1 = true ∧ Own P all (opAt all i) tm h nx tm1 h1 nx1 := by
      cases hc : evalO P all (opAt all i) with
      | mk f => rw [hc] at hk; exact evalO_own hc hk
    obtain ⟨b1, b2, b3, b4, b5⟩ := own
    obtain ⟨tm', h', nx', hk, c1, c2, c3, c4, c5, c6⟩ := evalsF_true hk hp2
    have keep : ∀ t, (opAt all i).dst = some t → tm'.get t = tm1.get t := fun t ht => c2 t fun j hj => hp1 j hj t ht
    refine ⟨tm', h', nx', hk, Nat.le_trans b1 c1, fun t ht => ?_, fun t => (c3 t).trans (b3 t), fun N0 w0 E w x => c4 _ _ _ _ (b4 _ _ _ _ x), ?_, ?_⟩
    · rw [c2 t fun j hj => ht j (by simp [hj]), b2 t (ht i (by simp))]
    · intro j hj hm t id ht hid
      rcases List.mem_cons.1 hj with rfl | hj
      · rw [keep t ht] at hid
        have := b5 hm t id ht hid
        omega
      · have := c5 j hj hm t id ht hid
        omega
    · refine List.pairwise_cons.2 ⟨fun j hj hm hm' t u id id' ht hu hid hid' => ?_, c6⟩
      rw [keep t ht] at hid
      have := b5 hm t id ht hid
      have := c5 j hj hm' u id' hu hid'
      omega

theorem checkO_true {f : StateF} (hc : checkO P all o = .mk f) {U : List Nat} {kk : T AVal → H → Nat → Bool} (hl : isHeavy o.op = false) (c : Clear U all o) (hk : f tm h nx kk = true) :
    kk tm h nx = true ∧ LightOk P N0 w0 all U tm h nx o := by
  unfold checkO at hc
  split at hc
  · simp only [SClo.mk.injEq] at hc
    subst hc
    exact (F_false hk).elim
  rename_i g t hg ht
  simp only [SClo.mk.injEq] at hc
  subst hc
  rcases guardF_true c hk with ⟨hk, hgd⟩ | ⟨hk, hgd⟩
  · replace hk := getK_true hk
    obtain ⟨u, hu, hk⟩ := hk
    replace hk := opK_but (N0 := N0) (w0 := w0) U c (coreOf_ok g hg tm h nx _ hk)
    obtain ⟨v, h', nx', hk, _, hcase⟩ := hk
    rcases bif_true hk with ⟨hm, hk⟩ | ⟨hm, hk⟩
    · split at hk
      · rename_i id hid
        replace hk := cond_true hk
        obtain ⟨hc, hk⟩ := hk
        obtain ⟨c1, c2⟩ := and2 hc
        replace c2 := beq_eq' c2
        replace hk := getK_true hk
        obtain ⟨b', hb', hk⟩ := hk
        replace hk := getK_true hk
        obtain ⟨b, hb, hk⟩ := hk
        obtain ⟨hk, _, hrel⟩ := eqBlk_rel (P := P) hk rfl
        refine ⟨hk, t, u, ht, hu, .inr (.inr ⟨hgd, hm, id, b, hid, hb, ?_⟩)⟩
        rcases hcase with ⟨_, e, _⟩ | ⟨mkv, b2, m1, m2, m3, m4, x⟩ | x
        · omega
        · intro E tmps w r hw
          obtain ⟨i, obj, cv, n, a1, a2, a3, a4⟩ := x E tmps w r hw
          subst m3
          rw [push_get hw.wf hw.len, if_pos rfl] at hb'
          cases hb'
          subst m2
          rw [sameMk_eq m1 c1 hid]
          exact ⟨i, obj, cv, n, a1, hrel E i obj a2, fun E' e => a3 E' id e, a4⟩
        · rw [hl] at x; cases x
      · exact (F_false hk).elim
    · replace hk := cond_true hk
      obtain ⟨hn, hk⟩ := hk
      replace hn := beq_eq' hn
      replace hk := cond_true hk
      obtain ⟨he, hk⟩ := hk
      refine ⟨hk, t, u, ht, hu, .inr (.inl ⟨hgd, hm, ?_⟩)⟩
      rcases hcase with ⟨_, _, x⟩ | ⟨_, _, _, _, _, e, _⟩ | x
      · intro E tmps w r hw
        obtain ⟨cv, a1, a2⟩ := x E tmps w r hw
        exact ⟨cv, eqV_rel 8 _ _ he E cv a1, a2⟩
      · omega
      · rw [hl] at x; cases x
  · replace hk := getK_true hk
    obtain ⟨u, hu, hk⟩ := hk
    split at hk
    · exact ⟨hk, t, _, ht, hu, .inl ⟨rfl, hgd⟩⟩
    · exact (F_false hk).elim

theorem checksF_true {kk : T AVal → H → Nat → Bool} : ∀ {l : List Nat}, sclosF (checksC P all l) kk tm h nx = true → (∀ i ∈ l, isHeavy (opAt all i).op = false) →
    kk tm h nx = true ∧ ∀ i ∈ l, ∀ U, Clear U all (opAt all i) → LightOk P N0 w0 all U tm h nx (opAt all i)
  | [], hk, _ => ⟨hk, by simp⟩
  | i :: l, hk, hl => by
    replace hk : SClo.rec (motive := fun _ => Bool) (fun f => f tm h nx (sclosF (checksC P all l) kk)) (checkO P all (opAt all i)) = true := hk
    have hi := hl i (by simp)
    cases hc : checkO P all (opAt all i) with
    | mk f =>
      rw [hc] at hk
      have h1 := (checkO_true (N0 := N0) (w0 := w0) (U := []) hc hi (fun _ _ => by simp) hk).1
      obtain ⟨h2, h3⟩ := checksF_true h1 fun j hj => hl j (by simp [hj])
      refine ⟨h2, fun j hj U c => ?_⟩
      rcases List.mem_cons.1 hj with rfl | hj
      · exact (checkO_true (N0 := N0) (w0 := w0) hc hi c hk).2
      · exact h3 j hj U c
end
end Go.Ev
/-! The fast evaluator is sound: regions that draw their order, code, the run. -/
namespace Go.Ev
open Go.RowKit (Below)
section
variable {P : Program} {all : Array Oper}
/-- the lights of stage n have been worked out -/
theorem DrawInv.evalsF (pl : Plan all) {N0 : Nat} {w0 w : World} {E : Env} {lo n : Nat} {rest : List Nat} {tm : T AVal} {tmps : Array Value} {h : H} {nx : Nat} {kk : T AVal → H → Nat → Bool}
    (d : DrawInv P E lo nx all n n rest tm tmps) (hlo : lo ≤ nx) (x : HeapOk P N0 w0 E h nx w) (hk : sclosF (evalsC P all (stageOf (bfOf all) (heavies all) (lights all) n).evals) kk tm h nx = true) :
    ∃ tm' h' nx', kk tm' h' nx' = true ∧ nx ≤ nx' ∧ DrawInv P E lo nx' all (n + 1) n rest tm' tmps ∧ HeapOk P N0 w0 E h' nx' w := by
  obtain ⟨tm', h', nx', hk, c1, c2, c3, c4, c5, c6⟩ := evalsF_true hk (evals_apart pl n)
  have inrest : ∀ l, l ∈ (stageOf (bfOf all) (heavies all) (lights all) n).evals → l ∈ rest := by
    intro l hl
    obtain ⟨a, b, c⟩ := mem_evals.1 hl
    by_cases hr : l ∈ rest
    · exact hr
    · have := d.done l a b hr; omega
  have old : ∀ l, l ∈ pend all n rest → ∀ t, (opAt all l).dst = some t → tm'.get t = tm.get t := by
    intro l hl t ht
    obtain ⟨a, b, c⟩ := mem_pend.1 hl
    refine c2 t fun j hj hd => ?_
    obtain ⟨a', b', c'⟩ := mem_evals.1 hj
    have hne : l ≠ j := by intro e; subst e; omega
    exact pl.one l j (d.sched.lt l a) a' hne t ht hd
  have split : ∀ l, l ∈ pend all (n + 1) rest → l ∈ pend all n rest ∨ l ∈ (stageOf (bfOf all) (heavies all) (lights all) n).evals := by
    intro l hl
    obtain ⟨a, b, c⟩ := mem_pend.1 hl
    by_cases e : nbL all l < n
    · exact .inl (mem_pend.2 ⟨a, b, e⟩)
    · exact .inr (mem_evals.2 ⟨d.sched.lt l a, b, by omega⟩)
  refine ⟨tm', h', nx', hk, c1, ⟨d.sched, d.heavy, fun l a b c => Nat.lt_succ_of_lt (d.done l a b c), ⟨fun t y hy => ?_, fun t ht y hy => ?_⟩, fun l hl hm t id ht hid => ?_, fun l hl l' hl' hm hm' t t' id ht ht' hid hid' => ?_⟩, c4 _ _ _ _ x⟩
  · have := c3 t
    rw [hy] at this
    obtain ⟨z, hz⟩ := Option.isSome_iff_exists.1 this.symm
    exact d.slots.size t z hz
  · have e : tm'.get t = tm.get t := c2 t fun j hj hd => by
      obtain ⟨a', b', c'⟩ := mem_evals.1 hj
      exact ht (mem_unsure.2 ⟨j, inrest j hj, b', by omega, hd⟩)
    rw [e] at hy
    refine d.slots.rel t (fun c => ?_) y hy
    obtain ⟨l, a, b, c, hd⟩ := mem_unsure.1 c
    exact ht (mem_unsure.2 ⟨l, a, b, by omega, hd⟩)
  · rcases split l hl with hl | hl
    · rw [old l hl t ht] at hid
      obtain ⟨a, b, c⟩ := d.ids l hl hm t id ht hid
      exact ⟨a, by omega, c⟩
    · obtain ⟨a, b⟩ := c5 l hl hm t id ht hid
      exact ⟨by omega, b, x.fresh a⟩
  · rcases split l hl with hl | hl <;> rcases split l' hl' with hl' | hl'
    · rw [old l hl t ht] at hid
      rw [old l' hl' t' ht'] at hid'
      exact d.apart l hl l' hl' hm hm' t t' id ht ht' hid hid'
    · rw [old l hl t ht] at hid
      have := d.ids l hl hm t id ht hid
      have := c5 l' hl' hm' t' id ht' hid'
      omega
    · rw [old l' hl' t' ht'] at hid'
      have := d.ids l' hl' hm' t' id ht' hid'
      have := c5 l hl hm t id ht hid
      omega
    · obtain ⟨i, hi, hie⟩ := List.mem_iff_getElem.1 hl
      obtain ⟨j, hj, hje⟩ := List.mem_iff_getElem.1 hl'
      rw [List.pairwise_iff_getElem] at c6
      rcases Nat.lt_trichotomy i j with hij | hij | hij
      · have := c6 i j hi hj hij (by rw [hie]; exact hm) (by rw [hje]; exact hm') t t' id id (by rw [hie]; exact ht) (by rw [hje]; exact ht') hid hid'
        omega
      · subst hij; rw [← hie, ← hje]
      · have := c6 j i hj hi hij (by rw [hje]; exact hm') (by rw [hie]; exact hm) t' t id id (by rw [hje]; exact ht') (by rw [hie]; exact ht) hid' hid
        omega

end
section
variable {P : Program} {N0 : Nat} {w0 : World} {base : List Frame} {f0 : FuncId} {ih : GoK Bool}
  {fi : FI} {tm : T AVal} {k : List AItem} {ds : List ADef} {cs : List AFrame} {h : H} {nx : Nat} {all : Array Oper}

/-- stage n of a region that draws its order, and all that comes behind it -/
theorem drawF_good (I : IH P N0 w0 base f0 ih) {n : Nat} (hk : drawF P all n ih fi tm k ds cs h nx = true) {E : Env} {lo : Nat} {b : Frame} {a : Act} {rest : List Nat} {ck : List Item} {ccs : List Frame} {w : World}
    (f1 : b.fn = fi.fn) (f2 : b.kind = fi.kind) (f3 : RelRo E fi.ro b.roundOf) (f4 : RelDefs E ds a.defers) (f5 : RelIts E k ck) (hp : planOk all = true) (d : DrawInv P E lo nx all n n rest tm a.tmps)
    (hh : HeapOk P N0 w0 E h nx w) (hlo : lo ≤ nx) (hs : RelStack P base E lo cs ccs) (hb : Bot f0 fi cs) : Fin P N0 w0 base f0 (lone (b.atR a (.inRegion all rest :: ck)) ccs w) := by
  have pl := planOk_plan hp
  unfold drawF at hk
  have hst : stagesC P all = some (List.rec (motive := fun _ => List StageC) [] (fun g _ ih => stageC P all g :: ih) (stagesOf all)) := by
    simp only [stagesC, planP, hp, _root_.cond_true]
  rw [hst] at hk
  replace hk : nthK (F "stage") (fun g => StageC.rec (motive := fun _ => Bool) (fun ch ev hv => sclosF ev (sclosF ch (heavyF P all n hv ih fi k ds cs)) tm h nx) g) (List.rec (motive := fun _ => List StageC) [] (fun g _ ih => stageC P all g :: ih) (stagesOf all)) n = true := hk
  rw [nthK_eq] at hk
  have hmap : ∀ l : List Stage, (List.rec (motive := fun _ => List StageC) [] (fun g _ ih => stageC P all g :: ih) l : List StageC) = l.map (stageC P all) := by
    intro l
    induction l with
    | nil => rfl
    | cons g l ihl => exact congrArg _ ihl
  rw [hmap, List.getElem?_map] at hk
  cases hg : (stagesOf all)[n]? with
  | none => rw [hg] at hk; exact (F_false hk).elim
  | some g =>
    rw [hg] at hk
    have hg' : g = stageOf (bfOf all) (heavies all) (lights all) n := by
      unfold stagesOf at hg
      rw [List.getElem?_map] at hg
      cases hr : (List.range ((heavies all).length + 1))[n]? with
      | none => rw [hr] at hg; cases hg
      | some m =>
        rw [hr] at hg
        have : m = n := by
          have := (List.getElem?_eq_some_iff.1 hr).2
          simpa using this.symm
        subst this
        simpa using hg.symm
    subst hg'
    replace hk : sclosF (evalsC P all (stageOf (bfOf all) (heavies all) (lights all) n).evals) (sclosF (checksC P all (stageOf (bfOf all) (heavies all) (lights all) n).checks)
      (heavyF P all n (match (stageOf (bfOf all) (heavies all) (lights all) n).heavy with | none => none | some i => some (compileO P all (opAt all i) [], opAt all i)) ih fi k ds cs)) tm h nx = true := hk
    obtain ⟨tm1, h1, nx1, hk, hle1, d1, hh1⟩ := d.evalsF pl hlo hh hk
    obtain ⟨hk, look⟩ := checksF_true (N0 := N0) (w0 := w0) hk fun i hi => (mem_checks.1 hi).2.1
    obtain ⟨E2, a2, w2, rest2, st, le, low, d2, hh2, hdef, hhead⟩ := lights_run (b := b) (ck := ck) (ccs := ccs) pl look rest E a w d1 hh1
    refine Fin.steps st ?_
    have f3' := f3.mono le
    have f4' : RelDefs E2 ds a2.defers := by rw [hdef]; exact f4.mono le
    have f5' := f5.mono le
    have hs' := hs.mono le low (Nat.le_refl _)
    have hhv : (stageOf (bfOf all) (heavies all) (lights all) n).heavy = (heavies all)[n]? := rfl
    rw [hhv] at hk
    rcases hhead with rfl | ⟨i, q, rfl, hvy⟩
    · have hnone : (heavies all)[n]? = none := by
        cases hq : (heavies all)[n]? with
        | none => rfl
        | some i => have := (d2.heavy n i hq).2 (Nat.le_refl _); cases this
      rw [hnone] at hk
      replace hk : ih fi tm1 k ds cs h1 nx1 = true := hk
      exact (I.run hk ⟨f1, f2, f3', f4', d2.finish, f5'⟩ hh2 (by omega) hs' hb).head stepR_region_end
    · have hat := head_heavy pl d2.sched d2.heavy hvy
      rw [hat] at hk
      have hi := d2.sched.lt i (by simp)
      have hget := opAt_get hi
      have hclear := clear_head (b := n + 1) pl d2.sched
      have next : ∀ {tm' : T AVal} {u : AVal} {v : Value} {E' : Env} {h' : H} {nx' : Nat} {w' : World}, ih fi tm' (.other (.opsD all (Nat.succ n)) :: k) ds cs h' nx' = true → E2.Le E' → (∀ id, id < nx1 → E' id = E2 id) → nx1 ≤ nx' → HeapOk P N0 w0 E' h' nx' w' → Rel E' u v →
          (∀ t, (opAt all i).dst ≠ some t → tm'.get t = tm1.get t) → (∀ t, (opAt all i).dst = some t → tm'.get t = some u) → (∀ t, (tm'.get t).isSome = (tm1.get t).isSome) →
          Fin P N0 w0 base f0 (lone (b.atR (a2.put (opAt all i).dst v) (.inRegion all q :: ck)) ccs w') := by
        intro tm' u v E' h' nx' w' hk le' agree hle hh' hr p1 p2 p3
        have hnone' : ∀ id, id < nx1 → E2 id = none → E' id = none := fun id hid he => by rw [agree id hid]; exact he
        have d3 := d2.heavyStep pl hvy le' hnone' hle hr p1 p2 p3
        have d3 : DrawInv P E' lo nx' all (n + 1) (n + 1) q tm' (a2.put (opAt all i).dst v).tmps := by
          cases hd : (opAt all i).dst with
          | none => rw [hd] at d3; exact d3
          | some t => rw [hd] at d3; exact d3
        refine I _ _ _ _ _ _ _ hk E' lo _ _ _ ⟨hh', by omega, ⟨f1, f2, f3'.mono le', ?_, rfl, _, _, rfl, f5'.mono le', hp, d3⟩, hs'.mono le' (fun id hid he => hnone' id (by omega) he) (Nat.le_refl _), hb⟩
        show RelDefs E' ds (a2.put (opAt all i).dst v).defers
        rw [put_defers']
        exact f4'.mono le'
      have skip : ∀ {tm' : T AVal}, ih fi tm' (.other (.opsD all (Nat.succ n)) :: k) ds cs h1 nx1 = true → (∀ t, (opAt all i).dst ≠ some t → tm'.get t = tm1.get t) → (∀ t, (opAt all i).dst = some t → tm'.get t = some undefA) →
          (∀ t, (tm'.get t).isSome = (tm1.get t).isSome) → Region.wanted (opAt all i) (yielded all a2.tmps) = false → Fin P N0 w0 base f0 (lone (b.atR a2 (.inRegion all (i :: q) :: ck)) ccs w2) := by
        intro tm' hk p1 p2 p3 hw
        have hstep := stepR_op_skip (P := P) (b := b) (a := a2) (k := ck) (cs := ccs) (w := w2) (ops := all) (i := i) (rest := q) (by simp [hget, hw])
        rw [hget] at hstep
        exact (next hk (Env.Le.refl E2) (fun _ _ => rfl) (Nat.le_refl _) hh2 (show Rel E2 undefA undef from ⟨[], rfl, rfl⟩) p1 p2 p3).head hstep
      replace hk : COp.rec (motive := fun _ => Bool) (fun f => f tm1 h1 nx1 fun tm h nx => ih fi tm (.other (.opsD all (Nat.succ n)) :: k) ds cs h nx)
        (fun _ _ => guardK all tm1 F (opAt all i) (fun _ => callK P F ih (opAt all i).op (.opsW all (Nat.succ n) (opAt all i).dst) fi k ds cs tm1 h1 nx1 fun v h nx => putK F (opAt all i).dst v tm1 fun tm => ih fi tm (.other (.opsD all (Nat.succ n)) :: k) ds cs h nx)
          (fun _ => putK F (opAt all i).dst undefA tm1 fun tm => ih fi tm (.other (.opsD all (Nat.succ n)) :: k) ds cs h1 nx1)) (compileO P all (opAt all i) []) = true := hk
      cases hc : compileO P all (opAt all i) [] with
      | run f =>
        rw [hc] at hk
        obtain ⟨hctl, g, p, hg, hp', hk⟩ := compileO_run hc hk
        rcases guardF_true hclear hk with ⟨hk, hw⟩ | ⟨hk, hw⟩
        · have hw := hw E2 _ d2.slots
          replace hk := opK_but (N0 := N0) (w0 := w0) _ hclear (coreOf_ok g hg tm1 h1 nx1 _ hk)
          obtain ⟨v, h', nx', hk, ⟨hle, hgen⟩, _⟩ := hk
          obtain ⟨E', w', cv, le', agree, hh', hv, hgv⟩ := hgen E2 a2.tmps w2 d2.slots hh2
          simp only [dstC_eq hp'] at hk
          replace hk := putK_true hk
          obtain ⟨tm', hk, p1, p2, p3⟩ := hk
          have hnd : ∀ c, (opAt all i).op ≠ .defer c := by
            intro c e
            rw [e] at hctl; cases hctl
          exact (next hk le' agree hle hh' hv p1 p2 p3).head (step_gives hget hw hnd hgv)
        · simp only [dstC_eq hp'] at hk
          replace hk := putK_true hk
          obtain ⟨tm', hk, p1, p2, p3⟩ := hk
          exact skip hk p1 p2 p3 (hw E2 _ d2.slots)
      | ctl o' l' =>
        rw [hc] at hk
        rcases guardK_true hclear hk with ⟨hk, hg⟩ | ⟨hk, hg⟩
        · have hw := hg E2 _ d2.slots
          refine callK_good I hk hget hw d2.slots hclear hh2 (by omega) ⟨f1, f2, f3', f4', rfl, i, n, q, ck, rfl, rfl, f5', hp, hvy, rfl, d2⟩ hs' hb ?_
          intro v h' nx' E' w' cv hk le' agree hle hh' hv
          replace hk := putK_true hk
          obtain ⟨tm', hk, p1, p2, p3⟩ := hk
          exact next hk le' agree hle hh' hv p1 p2 p3
        · replace hk := putK_true hk
          obtain ⟨tm', hk, p1, p2, p3⟩ := hk
          exact skip hk p1 p2 p3 (hg E2 _ d2.slots)

theorem stepF_good (hfo : P.follows .mixedOrders = true) (I : IH P N0 w0 base f0 ih) : IH P N0 w0 base f0 (fun fi tm todo ds cs h nx => stepF P ih fi tm todo ds cs h nx) := by
  intro fi tm todo ds cs h nx hk E lo c ccs w s
  have slow : stepK P F finT ih fi tm todo ds cs h nx = true → Fin P N0 w0 base f0 (lone c ccs w) := fun hk => stepK_good hfo I _ _ _ _ _ _ _ hk E lo c ccs w s
  cases todo with
  | nil => exact slow hk
  | cons it k =>
    cases it with
    | code c' =>
      replace hk : CClo.rec (motive := fun _ => Bool) (fun f => f ih fi tm k ds cs h nx) (compileC P c') = true := hk
      obtain ⟨b, a, ctodo, rfl, r⟩ := s.run rfl
      obtain ⟨x, xs, e1, e2, e3⟩ := r.its
      simp only [RelIt] at e1
      subst e1; subst e3
      have run : ∀ {todo : List AItem} {ctodo : List Item}, ih fi tm todo ds cs h nx = true → RelIts E todo ctodo → Fin P N0 w0 base f0 (lone (b.atR a ctodo) ccs w) := fun hk hi =>
        I.run hk ⟨r.fn, r.kind, r.ro, r.defs, r.tm, hi⟩ s.heap s.lo_le s.stack s.bot
      have region : ∀ {id : Nat} {ops : Array Oper} {k' : List AItem} {ck' : List Item}, regionF P ops ops.toList ih fi tm k' ds cs h nx = true → RelIts E k' ck' → Fin P N0 w0 base f0 (lone (b.atR a (.code (.region id ops false) :: ck')) ccs w) := by
        intro id ops k' ck' hk hi
        refine (regionF_good I hk ⟨r.fn, r.kind, r.ro, r.defs, r.tm, hi⟩ ?_ s.heap s.lo_le s.stack s.bot).head stepR_region
        apply List.ext_getElem?
        intro i
        simp only [List.getElem?_map, List.range_eq_range']
        by_cases c : i < ops.size
        · simp [c]
        · simp [c]
      unfold compileC at hk
      split at hk
      · exact (run hk e2).head stepR_skip
      · rename_i x y
        split at hk
        · exact ((run hk ⟨_, _, rfl, e2, rfl⟩).head stepR_skip).head stepR_seq
        · exact (region hk ⟨_, _, rfl, e2, rfl⟩).head stepR_seq
        · exact (run hk ⟨_, _, rfl, ⟨_, _, rfl, e2, rfl⟩, rfl⟩).head stepR_seq
      · rename_i x y z
        split at hk
        rename_i e hx
        refine slow ?_
        show codeK P F ih (.cond x y z) fi tm k ds cs h nx = true
        simp only [codeK]
        obtain ⟨v, hk, hv⟩ := opnd_det hx hk
        obtain ⟨q, rfl, hk⟩ := asBool_true hk
        refine hv _ ?_
        rcases boolrec_true hk with ⟨rfl, hk⟩ | ⟨rfl, hk⟩ <;> exact hk
      · exact slow hk
      · exact slow hk
      · rename_i id ops
        have hp : planOk ops = true := by
          cases hp : planOk ops with
          | true => rfl
          | false =>
            replace hk : drawF P ops 0 ih fi tm k ds cs h nx = true := hk
            unfold drawF at hk
            have : stagesC P ops = none := by simp only [stagesC, planP, hp, _root_.cond_false]
            rw [this] at hk
            exact (F_false hk).elim
        have hst := stepR_region_draw (P := P) (b := b) (a := a) (k := xs) (cs := ccs) (w := w) (ops := ops) (id := id)
        have hsch : Region.schedule (P.follows .mixedOrders) ops (w.tape w.drawn (.order b.fn id)) = Region.linearise .any ops (w.tape w.drawn (.order b.fn id)) := by
          simp [Region.schedule, hfo]
        rw [hsch] at hst
        exact (drawF_good I hk r.fn r.kind r.ro r.defs e2 hp ((DrawInv.start (planOk_plan hp) r.tm _).mono (Env.Le.refl E) (fun _ _ h => h) (Nat.le_refl _)) s.heap.drew (Nat.le_refl nx) (s.stack.mono (Env.Le.refl E) (fun _ _ h => h) s.lo_le) s.bot).head hst
      · exact region hk e2
      · exact slow hk
    | other x =>
      cases x with
      | ops all l =>
        replace hk : regionF P all l ih fi tm k ds cs h nx = true := hk
        obtain ⟨hh, hlo, ⟨f1, f2, f3, f4, m, f5, idx, ck, e1, e2, e3⟩, hs, hb⟩ := s
        obtain ⟨fn, tmps, todo', defers, mode, kind, ro⟩ := c
        simp only at m e1
        subst m; subst e1
        exact regionF_good (b := ⟨fn, tmps, [], defers, .run, kind, ro⟩) (a := ⟨tmps, defers⟩) I hk ⟨f1, f2, f3, f4, f5, e3⟩ e2 hh hlo hs hb
      | opsD all n =>
        replace hk : drawF P all n ih fi tm k ds cs h nx = true := hk
        obtain ⟨hh, hlo, ⟨f1, f2, f3, f4, m, rest, ck, e1, e2, e3, e4⟩, hs, hb⟩ := s
        obtain ⟨fn, tmps, todo', defers, mode, kind, ro⟩ := c
        simp only at m e1
        subst m; subst e1
        exact drawF_good (b := ⟨fn, tmps, [], defers, .run, kind, ro⟩) (a := ⟨tmps, defers⟩) I hk f1 f2 f3 f4 e2 e3 e4 hh hlo hs hb
      | _ => exact slow hk

/-- the evaluator as it is run is sound -/
theorem runF_good (hfo : P.follows .mixedOrders = true) : ∀ n, IH P N0 w0 base f0 (runF P n)
  | 0 => fun fi tm todo ds cs h nx hk => by cases hk
  | n + 1 => stepF_good hfo (runF_good hfo n)
end
end Go.Ev
/-! What the evaluator says of a call without arguments. -/
namespace Go.Ev
open Go.RowKit (Below)

/-- a memory in which nothing is said of the n blocks that are there -/
noncomputable def deadHeap (n : Nat) : H := T.rep n .dead
/-- the call of function f, run for at most n steps: it returns true -/
noncomputable def checks (P : Program) (f : FuncId) (n : Nat) : Bool := match bodyOf P f with
  | some (c, m) => runF P n ⟨f, .normal, none⟩ (T.rep m undefA) [.code c] [] [] (deadHeap P.globals.size) P.globals.size
  | none => false

theorem calls_of_checks {P : Program} {f : FuncId} {n : Nat} (hfo : P.follows .mixedOrders = true) (hg : P.globals.size ≤ 1000000) (hk : checks P f n = true) (W : World) (hW : P.globals.size ≤ W.heap.size) :
    Calls P f #[] W (fun e w' => e = .returned (.bool true) ∧ Below W.heap.size W w') := by
  intro base
  unfold checks at hk
  split at hk
  · rename_i c m hbody
    obtain ⟨fn, hf, hc, hm, hle, _⟩ := bodyOf_some hbody
    have pw : (2 : Nat) ^ 63 = 9223372036854775808 := by decide
    obtain ⟨wf, el⟩ := T.wf_repF ABlk.dead 63 P.globals.size (by omega)
    have hdead : ∀ id b, (deadHeap P.globals.size).get id = some b → b = .dead := by
      intro id b hb
      have := T.get_toList _ wf id
      rw [el] at this
      have hb' : (T.repF ABlk.dead (63 + 1) P.globals.size).get id = some b := hb
      rw [this, List.getElem?_replicate] at hb'
      split at hb'
      · simpa using hb'.symm
      · cases hb'
    have hh : HeapOk P W.heap.size W (fun id => if id < P.globals.size then some ⟨id, 0, 0, 0⟩ else none) (deadHeap P.globals.size) P.globals.size W := by
      refine ⟨wf, by rw [show (deadHeap P.globals.size).toList = List.replicate P.globals.size .dead from el]; simp, Below.refl _ _, Nat.le_refl _, ?_, ?_, ?_, ?_, ?_⟩
      · intro id i e
        split at e
        · rename_i hlt
          cases e
          exact ⟨hlt, Nat.lt_of_lt_of_le hlt hW⟩
        · cases e
      · intro id i b e hb hw
        rw [hdead id b hb] at hw; cases hw
      · intro id id' i i' b b' e e' hb hb' hl
        rw [hdead id b hb] at hl; cases hl
      · intro id i b e hb hl
        rw [hdead id b hb] at hl; cases hl
      · intro g hg
        exact ⟨⟨g, 0, 0, 0⟩, by simp [hg], rfl, rfl⟩
    have hfr : Frame.enter P f #[] .normal = ({ (default : Frame) with fn := f, kind := .normal, roundOf := none } : Frame).atR ⟨(([] : List Value).toArray ++ Array.replicate (m - ([] : List Value).toArray.size) undef), []⟩ [.code c] := by
      simp [Frame.enter, Frame.atR, hf, hc, hm]
    have htm : RelTm (fun id => if id < P.globals.size then some ⟨id, 0, 0, 0⟩ else none) (T.rep m undefA) (([] : List Value).toArray ++ Array.replicate (m - ([] : List Value).toArray.size) undef) :=
      relTm_enter (args := []) (cargs := []) rfl hle rfl
    have fin : Fin P W.heap.size W base f (lone (Frame.enter P f #[] .normal) base W) := by
      rw [hfr]
      exact (runF_good hfo n).run hk ⟨rfl, rfl, rfl, rfl, htm, ⟨_, [], rfl, rfl, rfl⟩⟩ hh (Nat.le_refl _) rfl rfl
    obtain ⟨w', fr', s, hfn, hlv, hbl⟩ := fin
    exact ⟨.returned (.bool true), w', fr', ⟨rfl, hbl⟩, s, hfn, hlv⟩
  · cases hk
end Go.Ev
