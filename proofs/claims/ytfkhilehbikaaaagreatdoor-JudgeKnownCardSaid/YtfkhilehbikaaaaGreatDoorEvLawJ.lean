/-
  A part of the proof that the evaluator is sound: what it answers, the model's run answers. No condition.
-/
import Derived.Test.YtfkhilehbikaaaaGreatDoorEvLawI
import Derived.Test.YtfkhilehbikaaaaGreatDoorEvFast
set_option linter.all false
/-! The machine's steps, part 6: loops over functions, code; every step; the run. -/
namespace Go.Ev
open Go.RowKit (Below)
section
variable {P : Program} {N0 : Nat} {w0 : World} {base : List Frame} {f0 : FuncId} {ih : GoK Bool}
  {fi : FI} {tm : T AVal} {k : List AItem} {ds : List ADef} {cs : List AFrame} {h : H} {nx : Nat}

/-- a range over a function: the loop's block is laid, the function is called -/
theorem rangeStart_good (I : IH P N0 w0 base f0 ih) {f : Operand} {ps : Array Tmp} {assign body : Code} {dn : Nat} {mark : List ADef} (hk : rangeStartK P F ih f ps assign body dn mark fi tm k ds cs h nx = true)
    {E : Env} {lo : Nat} {b : Frame} {a : Act} {ck : List Item} {ccs : List Frame} {w w1 : World} {cmark : List Deferred} {j : Info} (r : Run E fi tm k ds b a ck)
    (hh : HeapOk P N0 w0 E h nx w1) (hlo : lo ≤ nx) (hs : RelStack P base E lo cs ccs) (hb : Bot f0 fi cs) (hj : E dn = some j) (hm : RelDefs E mark cmark)
    (he : (Instr.enterLoop b.fn a.tmps ps assign body b.roundOf).run P w = .ok (w1.heap.size, cmark) { w1 with heap := w1.heap.push (.loop { state := .ready, pending := none, fn := b.fn, tmps := a.tmps, params := ps, assign, body, defers := j.blk }) }) :
    Fin P N0 w0 base f0 (lone (b.atR a (.code (.rangeFunc f ps assign body) :: ck)) ccs w) := by
  unfold rangeStartK at hk
  replace hk := evK_true hk
  obtain ⟨fv, hk, hfv⟩ := hk
  split at hk
  · rename_i fn first captured
    rw [newK_eq] at hk
    split at hk
    · rename_i g
      have le := Env.le_put (i := ⟨w1.heap.size, 0, 0, 0⟩) (hh.fresh (Nat.le_refl nx))
      have hro : RelObj P (E.put nx ⟨w1.heap.size, 0, 0, 0⟩) ⟨w1.heap.size, 0, 0, 0⟩ (.loop { state := .ready, pending := none, fn := fi.fn, tm, params := ps, assign, body, defers := dn })
          (.loop { state := .ready, pending := none, fn := b.fn, tmps := a.tmps, params := ps, assign, body, defers := j.blk }) :=
        ⟨_, rfl, rfl, rfl, r.fn, r.tm.mono le, rfl, rfl, rfl, j, le _ _ hj, rfl⟩
      obtain ⟨_, hh2⟩ := hh.alloc (i := ⟨w1.heap.size, 0, 0, 0⟩) rfl hro
      obtain ⟨g', cf, cc, r1, r2, r3, r4⟩ := hfv E _ hh.globs r.tm
      simp only [RelFn] at r1
      subst r1
      have happ : ∀ {x y : List ADef} {u v : List Deferred}, RelDefs E x u → RelDefs E y v → RelDefs E (x ++ y) (u ++ v) := by
        intro x
        induction x with
        | nil => intro y u v r s; simp only [RelDefs] at r; subst r; exact s
        | cons a x ihx =>
          intro y u v r s
          obtain ⟨d, ds', r1, r2, e⟩ := r
          subst e
          exact ⟨d, _, r1, ihx r2 s, rfl⟩
      have agree : ∀ id, id < nx → (E.put nx ⟨w1.heap.size, 0, 0, 0⟩) id = E id := fun id hid => by simp [Env.put, Nat.ne_of_lt hid]
      have hyield : Rel (E.put nx ⟨w1.heap.size, 0, 0, 0⟩) (.func (.yield nx) [] []) (.func (.yield w1.heap.size) #[] #[]) :=
        ⟨.yield w1.heap.size, [], [], ⟨⟨w1.heap.size, 0, 0, 0⟩, by simp [Env.put], rfl⟩, rfl, rfl, rfl⟩
      have hfr : RelFr P (E.put nx ⟨w1.heap.size, 0, 0, 0⟩) lo (nx + 1) ⟨fi, tm, .other (.inRangeFunc nx) :: k, mark ++ ds⟩ (b.atR { a with defers := cmark ++ a.defers } (.inRangeFunc w1.heap.size :: ck)) :=
        ⟨r.fn, r.kind, r.ro.mono le, RelDefs.mono le (happ hm r.defs), rfl, r.tm.mono le, _, _, ⟨⟨w1.heap.size, 0, 0, 0⟩, by simp [Env.put], rfl⟩, r.its.mono le, rfl⟩
      have hstack : RelStack P base (E.put nx ⟨w1.heap.size, 0, 0, 0⟩) (nx + 1) (⟨fi, tm, .other (.inRangeFunc nx) :: k, mark ++ ds⟩ :: cs) (b.atR { a with defers := cmark ++ a.defers } (.inRangeFunc w1.heap.size :: ck) :: ccs) :=
        ⟨lo, _, _, by omega, hfr, hs.mono le (none_of_agree agree hlo) (Nat.le_refl _), rfl⟩
      have hargs : RelL (E.put nx ⟨w1.heap.size, 0, 0, 0⟩) ((first ++ [.func (.yield nx) [] []]) ++ captured) ((cf ++ [Value.func (.yield w1.heap.size) #[] #[]]) ++ cc) :=
        ((RelL.mono le _ r2).append (show RelL _ [.func (.yield nx) [] []] [Value.func (.yield w1.heap.size) #[] #[]] from ⟨_, [], hyield, rfl, rfl⟩)).append (RelL.mono le _ r3)
      have hres : (resolve a.eval (rangeCall f w1.heap.size) 0).run P { w1 with heap := w1.heap.push (.loop { state := .ready, pending := none, fn := b.fn, tmps := a.tmps, params := ps, assign, body, defers := j.blk }) } =
          .ok { target := .fn (.func g) cc.toArray, args := (cf ++ [Value.func (.yield w1.heap.size) #[] #[]]).toArray } { w1 with heap := w1.heap.push (.loop { state := .ready, pending := none, fn := b.fn, tmps := a.tmps, params := ps, assign, body, defers := j.blk }) } := by
        simp only [resolve, rangeCall, act_eval, r4, Deferred.ofValue, Sem.run_pure]
        simp [ev]
      rcases callFn_out I hk hh2 hstack (fun _ => hb) hargs with ⟨f', args', o1, o2⟩ | ⟨v, h', nx', E', w', cv, q1, _⟩
      · have hinv : (invoke (.fn (.func g) cc.toArray) (cf ++ [Value.func (.yield w1.heap.size) #[] #[]]).toArray).run P { w1 with heap := w1.heap.push (.loop { state := .ready, pending := none, fn := b.fn, tmps := a.tmps, params := ps, assign, body, defers := j.blk }) } =
            .ok (.enter f' args') { w1 with heap := w1.heap.push (.loop { state := .ready, pending := none, fn := b.fn, tmps := a.tmps, params := ps, assign, body, defers := j.blk }) } := by
          rw [← o1]; simp [invoke]
        exact o2.head (stepR_rangeFunc he hres hinv)
      · exact (F_false q1).elim
    · exact (F_false hk).elim
  · exact (F_false hk).elim

theorem rangeFunc_good (I : IH P N0 w0 base f0 ih) {f : Operand} {ps : Array Tmp} {assign body : Code} (hk : rangeFuncK P F ih f ps assign body fi tm k ds cs h nx = true)
    {E : Env} {lo : Nat} {b : Frame} {a : Act} {ck : List Item} {ccs : List Frame} {w : World} (r : Run E fi tm k ds b a ck) (hh : HeapOk P N0 w0 E h nx w) (hlo : lo ≤ nx) (hs : RelStack P base E lo cs ccs) (hb : Bot f0 fi cs) :
    Fin P N0 w0 base f0 (lone (b.atR a (.code (.rangeFunc f ps assign body) :: ck)) ccs w) := by
  unfold rangeFuncK at hk
  have f3 := r.ro
  split at hk
  · rename_i hro
    rw [hro] at f3
    simp only [RelRo] at f3
    rw [newK_eq] at hk
    have le := Env.le_put (i := ⟨w.heap.size, 0, 0, 0⟩) (hh.fresh (Nat.le_refl nx))
    obtain ⟨_, hh2⟩ := hh.alloc (b := .deferred (some [])) (i := ⟨w.heap.size, 0, 0, 0⟩) (o := .deferred (some [])) rfl ⟨[], rfl, rfl⟩
    have agree : ∀ id, id < nx → (E.put nx ⟨w.heap.size, 0, 0, 0⟩) id = E id := fun id hid => by simp [Env.put, Nat.ne_of_lt hid]
    refine rangeStart_good I hk (w1 := { w with heap := w.heap.push (.deferred (some [])) }) (cmark := [{ target := .collected w.heap.size, args := #[] }]) (j := ⟨w.heap.size, 0, 0, 0⟩) (r.mono le) hh2 (by omega)
      (hs.mono le (none_of_agree agree hlo) (Nat.le_refl _)) hb (by simp [Env.put]) ⟨_, [], ⟨⟨w.heap.size, 0, 0, 0⟩, by simp [Env.put], rfl⟩, rfl, rfl⟩ ?_
    rw [f3]
    simp only [Instr.enterLoop, Sem.run_bind, newObj, Sem.run, Result.andThen_ok, Sem.run_pure]
  · rename_i l hro
    rw [hro] at f3
    obtain ⟨i, hi, f3⟩ := f3
    replace hk := getK_true hk
    obtain ⟨blk, hblk, hk⟩ := hk
    split at hk
    · rename_i rl
      obtain ⟨ob, hob, cl, rfl, q1, q2, q3, q4, q5, q6, q7, j, q8, q9⟩ := hh.obj l i _ hi hblk rfl
      refine rangeStart_good I hk (w1 := w) (cmark := []) (j := j) r hh hlo hs hb q8 rfl ?_
      rw [f3]
      simp only [Instr.enterLoop, Instr.getLoop, Sem.run_bind, getObj, newObj, Sem.run, hob, Result.andThen_ok, Sem.run_pure, q9]
    · exact (F_false hk).elim

theorem planP_ok {all : Array Oper} {n : Nat} (hk : drawK P F ih all n fi tm k ds cs h nx = true) : planOk all = true := by
  unfold drawK at hk
  cases hp : planOk all with
  | true => rfl
  | false =>
    simp only [planP, hp, _root_.cond_false] at hk
    exact (F_false hk).elim

theorem codeK_good (hfo : P.follows .mixedOrders = true) (I : IH P N0 w0 base f0 ih) {c : Code} (hk : codeK P F ih c fi tm k ds cs h nx = true) {E : Env} {lo : Nat} {b : Frame} {a : Act} {ck : List Item} {ccs : List Frame} {w : World}
    (r : Run E fi tm k ds b a ck) (hh : HeapOk P N0 w0 E h nx w) (hlo : lo ≤ nx) (hs : RelStack P base E lo cs ccs) (hb : Bot f0 fi cs) : Fin P N0 w0 base f0 (lone (b.atR a (.code c :: ck)) ccs w) := by
  have run : ∀ {todo : List AItem} {ctodo : List Item}, ih fi tm todo ds cs h nx = true → RelIts E todo ctodo → Fin P N0 w0 base f0 (lone (b.atR a ctodo) ccs w) := fun hk hi =>
    I.run hk ⟨r.fn, r.kind, r.ro, r.defs, r.tm, hi⟩ hh hlo hs hb
  have leave : ∀ {jump : Option Code} {k' : List AItem} {ck' : List Item}, leaveK F ih jump fi tm k' ds cs h nx = true →
      ((jump = none ∧ ck' = []) ∨ (jump = some .ret ∧ ∃ q, ck' = .code .ret :: q) ∨ (∃ id q, jump = some (.exit id) ∧ ck' = .code (.exit id) :: q ∧ exitTo id q = none) ∨ (∃ t q, jump = some (.goto t) ∧ ck' = .code (.goto t) :: q ∧ gotoIn t q = none)) →
      Fin P N0 w0 base f0 (lone (b.atR a ck') ccs w) := fun hk hj => leaveK_good I hk r.fn r.kind r.ro r.defs r.tm hh hlo hs hb hj
  cases c with
  | skip => simp only [codeK] at hk; exact (run hk r.its).head stepR_skip
  | label l => simp only [codeK] at hk; exact (run hk r.its).head stepR_label
  | ret => simp only [codeK] at hk; exact leave hk (.inr (.inl ⟨rfl, _, rfl⟩))
  | seq x y => simp only [codeK] at hk; exact (run hk ⟨_, _, rfl, ⟨_, _, rfl, r.its, rfl⟩, rfl⟩).head stepR_seq
  | cond x y z =>
    simp only [codeK] at hk
    replace hk := evK_true hk
    obtain ⟨v, hk, hv⟩ := hk
    have hv := hv E _ hh.globs r.tm
    split at hk
    · simp only [Rel] at hv
      have := stepR_cond (P := P) (b := b) (a := a) (k := ck) (cs := ccs) (w := w) (c := x) (x := y) (y := z) (t := true) (by rw [act_eval]; exact hv)
      exact (run hk ⟨_, _, rfl, r.its, rfl⟩).head this
    · simp only [Rel] at hv
      have := stepR_cond (P := P) (b := b) (a := a) (k := ck) (cs := ccs) (w := w) (c := x) (x := y) (y := z) (t := false) (by rw [act_eval]; exact hv)
      exact (run hk ⟨_, _, rfl, r.its, rfl⟩).head this
    · exact (F_false hk).elim
  | block id x => simp only [codeK] at hk; exact (run hk ⟨_, _, rfl, ⟨_, _, rfl, r.its, rfl⟩, rfl⟩).head stepR_block
  | loop x => simp only [codeK] at hk; exact (run hk ⟨_, _, rfl, ⟨_, _, rfl, r.its, rfl⟩, rfl⟩).head stepR_loop
  | scope x => simp only [codeK] at hk; exact (run hk ⟨_, _, rfl, ⟨_, _, rfl, r.its, rfl⟩, rfl⟩).head stepR_scope
  | exit id =>
    simp only [codeK] at hk
    obtain ⟨e1, e2⟩ := exitToA_rel (id := id) r.its
    split at hk
    · rename_i k' hk'
      obtain ⟨ck', h1, h2⟩ := e1 k' hk'
      exact (run hk h2).head (stepR_exit h1)
    · rename_i hk'
      exact leave hk (.inr (.inr (.inl ⟨id, ck, rfl, rfl, e2 hk'⟩)))
  | goto l =>
    simp only [codeK] at hk
    obtain ⟨e1, e2⟩ := gotoInA_rel (l := l) r.its
    split at hk
    · rename_i k' hk'
      obtain ⟨ck', h1, h2⟩ := e1 k' hk'
      exact (run hk h2).head (stepR_goto h1)
    · rename_i hk'
      exact leave hk (.inr (.inr (.inr ⟨l, ck, rfl, rfl, e2 hk'⟩)))
  | region id ops draw =>
    simp only [codeK] at hk
    split at hk
    · have hp := planP_ok hk
      have hst := stepR_region_draw (P := P) (b := b) (a := a) (k := ck) (cs := ccs) (w := w) (ops := ops) (id := id)
      have hsch : Region.schedule (P.follows .mixedOrders) ops (w.tape w.drawn (.order b.fn id)) = Region.linearise .any ops (w.tape w.drawn (.order b.fn id)) := by
        simp [Region.schedule, hfo]
      rw [hsch] at hst
      exact (drawK_good I hk r.fn r.kind r.ro r.defs r.its hp ((DrawInv.start (planOk_plan hp) r.tm _).mono (Env.Le.refl E) (fun _ _ h => h) (Nat.le_refl _)) hh.drew (Nat.le_refl nx) (hs.mono (Env.Le.refl E) (fun _ _ h => h) hlo) hb).head hst
    · refine (regionK_good I hk r ?_ hh hlo hs hb).head stepR_region
      apply List.ext_getElem?
      intro i
      simp only [List.getElem?_map, List.getElem?_range', List.range_eq_range']
      by_cases c : i < ops.size
      · simp [c]
      · simp [c]
  | rangeFunc f ps assign body => simp only [codeK] at hk; exact rangeFunc_good I hk r hh hlo hs hb
  | refuse s => simp only [codeK] at hk; exact (F_false hk).elim

/-- a step of the evaluator is sound -/
theorem stepK_good (hfo : P.follows .mixedOrders = true) (I : IH P N0 w0 base f0 ih) : IH P N0 w0 base f0 (fun fi tm todo ds cs h nx => stepK P F finT ih fi tm todo ds cs h nx) := by
  intro fi tm todo ds cs h nx hk E lo c ccs w s
  replace hk : stepK P F finT ih fi tm todo ds cs h nx = true := hk
  unfold stepK at hk
  split at hk
  · obtain ⟨b, a, ctodo, rfl, r⟩ := s.run rfl
    have : ctodo = [] := r.its
    subst this
    exact leaveK_good I hk r.fn r.kind r.ro r.defs r.tm s.heap s.lo_le s.stack s.bot (.inl ⟨rfl, rfl⟩)
  · rename_i it k
    split at hk
    · rename_i c'
      obtain ⟨b, a, ctodo, rfl, r⟩ := s.run rfl
      obtain ⟨x, xs, e1, e2, e3⟩ := r.its
      simp only [RelIt] at e1
      subst e1; subst e3
      exact codeK_good hfo I hk ⟨r.fn, r.kind, r.ro, r.defs, r.tm, e2⟩ s.heap s.lo_le s.stack s.bot
    · rename_i x
      have run : ∀ {b : Frame} {a : Act} {todo : List AItem} {ctodo : List Item} {q : List AItem} {cq : List Item}, Run E fi tm q ds b a cq → ih fi tm todo ds cs h nx = true → RelIts E todo ctodo → Fin P N0 w0 base f0 (lone (b.atR a ctodo) ccs w) := fun r hk hi =>
        I.run hk ⟨r.fn, r.kind, r.ro, r.defs, r.tm, hi⟩ s.heap s.lo_le s.stack s.bot
      cases x with
      | inBlock id =>
        simp only [otherK] at hk
        obtain ⟨b, a, ctodo, rfl, r⟩ := s.run rfl
        obtain ⟨x, xs, e1, e2, rfl⟩ := r.its
        simp only [RelIt] at e1; subst e1
        exact (run r hk e2).head stepR_inBlock
      | inScope c' =>
        simp only [otherK] at hk
        obtain ⟨b, a, ctodo, rfl, r⟩ := s.run rfl
        obtain ⟨x, xs, e1, e2, rfl⟩ := r.its
        simp only [RelIt] at e1; subst e1
        exact (run r hk e2).head stepR_inScope
      | inLoop c' =>
        simp only [otherK] at hk
        obtain ⟨b, a, ctodo, rfl, r⟩ := s.run rfl
        obtain ⟨x, xs, e1, e2, rfl⟩ := r.its
        simp only [RelIt] at e1; subst e1
        exact (run r hk ⟨_, _, rfl, ⟨_, _, rfl, e2, rfl⟩, rfl⟩).head stepR_inLoop
      | ops all l =>
        simp only [otherK] at hk
        obtain ⟨hh, hlo, ⟨f1, f2, f3, f4, m, f5, idx, ck, e1, e2, e3⟩, hs, hb⟩ := s
        obtain ⟨fn, tmps, todo', defers, mode, kind, ro⟩ := c
        simp only at m e1
        subst m; subst e1
        exact regionK_good (b := ⟨fn, tmps, [], defers, .run, kind, ro⟩) (a := ⟨tmps, defers⟩) I hk ⟨f1, f2, f3, f4, f5, e3⟩ e2 hh hlo hs hb
      | opsD all n =>
        simp only [otherK] at hk
        obtain ⟨hh, hlo, ⟨f1, f2, f3, f4, m, rest, ck, e1, e2, e3, e4⟩, hs, hb⟩ := s
        obtain ⟨fn, tmps, todo', defers, mode, kind, ro⟩ := c
        simp only at m e1
        subst m; subst e1
        exact drawK_good (b := ⟨fn, tmps, [], defers, .run, kind, ro⟩) (a := ⟨tmps, defers⟩) I hk f1 f2 f3 f4 e2 e3 e4 hh hlo hs hb
      | opsW all n dst => simp only [otherK] at hk; exact (F_false hk).elim
      | inRangeFunc l => simp only [otherK] at hk; exact (F_false hk).elim
      | endRangeFunc l =>
        simp only [otherK] at hk
        obtain ⟨b, a, ctodo, rfl, r⟩ := s.run rfl
        obtain ⟨x, xs, ⟨i, hi, rfl⟩, e2, rfl⟩ := r.its
        replace hk := getK_true hk
        obtain ⟨blk, hblk, hk⟩ := hk
        split at hk
        · rename_i rl
          obtain ⟨ob, hob, cl, rfl, q1, q2, q3, q4, q5, q6, q7, q8⟩ := s.heap.obj l i _ hi hblk rfl
          split at hk
          · exact (F_false hk).elim
          · rename_i hbusy
            obtain ⟨_, hk⟩ := setK_true (show T.setK _ (F _) h l _ = true from hk)
            obtain ⟨s1, s2⟩ := heap_set' (o' := .loop { cl with state := .exhausted }) hob
            have hh' : HeapOk P N0 w0 E (h.set (.loop { rl with state := .exhausted }) l) nx { w with heap := w.heap.setIfInBounds i.blk (.loop { cl with state := .exhausted }) } :=
              s.heap.set (w' := { w with heap := w.heap.setIfInBounds i.blk (.loop { cl with state := .exhausted }) }) hi hblk rfl rfl s2 (by simp) rfl rfl rfl s1 ⟨_, rfl, rfl, q2, q3, q4, q5, q6, q7, q8⟩
            have hnb : (cl.state == LoopState.busy) = false := by
              rw [q1]
              cases hst : rl.state <;> first | rfl | exact absurd hst hbusy
            have hend : (Instr.endLoop i.blk).run P w = .ok cl.pending { w with heap := w.heap.setIfInBounds i.blk (.loop { cl with state := .exhausted }) } := by
              simp only [Instr.endLoop, Instr.getLoop, Sem.run_bind, getObj, Sem.run, hob, Result.andThen_ok, Sem.run_pure, setObj, hnb, Bool.false_eq_true, if_false]
            have hst := stepR_endRangeFunc (b := b) (a := a) (k := xs) (cs := ccs) hend
            split at hk
            · rename_i hp
              have hp' : cl.pending = none := by rw [q2]; exact hp
              have e : ((cl.pending.map Item.code).toList ++ xs) = xs := by rw [hp']; rfl
              rw [e] at hst
              exact (I.run hk ⟨r.fn, r.kind, r.ro, r.defs, r.tm, e2⟩ hh' s.lo_le s.stack s.bot).head hst
            · rename_i c' hp
              have hp' : cl.pending = some c' := by rw [q2]; exact hp
              have e : ((cl.pending.map Item.code).toList ++ xs) = .code c' :: xs := by rw [hp']; rfl
              rw [e] at hst
              exact (I.run hk ⟨r.fn, r.kind, r.ro, r.defs, r.tm, ⟨_, _, rfl, e2, rfl⟩⟩ hh' s.lo_le s.stack s.bot).head hst
        · exact (F_false hk).elim
      | beginRound =>
        simp only [otherK] at hk
        obtain ⟨b, a, ctodo, rfl, r⟩ := s.run rfl
        obtain ⟨x, xs, e1, e2, rfl⟩ := r.its
        simp only [RelIt] at e1; subst e1
        have f3 := r.ro
        split at hk
        · exact (F_false hk).elim
        · rename_i l hro
          rw [hro] at f3
          obtain ⟨i, hi, f3⟩ := f3
          replace hk := getK_true hk
          obtain ⟨blk, hblk, hk⟩ := hk
          split at hk
          · rename_i rl
            obtain ⟨ob, hob, cl, rfl, q1, q2, q3, q4, q5, q6, q7, q8⟩ := s.heap.obj l i _ hi hblk rfl
            split at hk
            · rename_i hready
              obtain ⟨_, hk⟩ := setK_true (show T.setK _ (F _) h l _ = true from hk)
              obtain ⟨s1, s2⟩ := heap_set' (o' := .loop { cl with state := .busy }) hob
              have hh' : HeapOk P N0 w0 E (h.set (.loop { rl with state := .busy }) l) nx { w with heap := w.heap.setIfInBounds i.blk (.loop { cl with state := .busy }) } :=
                s.heap.set (w' := { w with heap := w.heap.setIfInBounds i.blk (.loop { cl with state := .busy }) }) hi hblk rfl rfl s2 (by simp) rfl rfl rfl s1 ⟨_, rfl, rfl, q2, q3, q4, q5, q6, q7, q8⟩
              have hbeg : (Instr.beginRound i.blk).run P w = .ok () { w with heap := w.heap.setIfInBounds i.blk (.loop { cl with state := .busy }) } := by
                have : cl.state = .ready := by rw [q1, hready]
                simp only [Instr.beginRound, Instr.getLoop, Sem.run_bind, getObj, Sem.run, hob, Result.andThen_ok, Sem.run_pure, setObj, this]
              exact (I.run hk ⟨r.fn, r.kind, r.ro, r.defs, r.tm, e2⟩ hh' s.lo_le s.stack s.bot).head (stepR_beginRound f3 hbeg)
            · exact (F_false hk).elim
          · exact (F_false hk).elim
      | ret => exact ret_good I hk s

/-- the evaluator is sound -/
theorem run_good (hfo : P.follows .mixedOrders = true) : ∀ n, IH P N0 w0 base f0 (run P n)
  | 0 => fun fi tm todo ds cs h nx hk => by cases hk
  | n + 1 => stepK_good hfo (run_good hfo n)
end
end Go.Ev
/-! The fast evaluator says no more than the slow one, part 1: operands, operations. -/
namespace Go.Ev
section
variable {P : Program} {tm : T AVal} {h : H} {nx : Nat} {o : Oper}

theorem Fq (a b : String) : F a = F b := rfl

/-- the closure of an operand -/
theorem opnd_eq {x : Operand} {e : T AVal → (AVal → Bool) → Bool} (he : opnd P x = .mk e) (tm : T AVal) (k : AVal → Bool) : e tm k = evK P tm F x k := by
  cases x with
  | tmp t => simp only [opnd, OClo.mk.injEq] at he; subst he; rfl
  | const v =>
    simp only [opnd] at he
    cases hc : absV v with
    | none => rw [hc] at he; simp only [OClo.mk.injEq] at he; subst he; simp only [evK, hc]; rfl
    | some a => rw [hc] at he; simp only [OClo.mk.injEq] at he; subst he; simp only [evK, hc]
  | global g =>
    simp only [opnd] at he
    simp only [evK]
    cases hb : Nat.ble (Nat.succ g) P.globals.size <;> rw [hb] at he <;> (simp only [_root_.cond_true, _root_.cond_false, OClo.mk.injEq] at he; subst he; rfl)
  | func f => simp only [opnd, OClo.mk.injEq] at he; subst he; rfl
theorem dstC_eq {dst : Option Tmp} {p : AVal → T AVal → (T AVal → Bool) → Bool} (hp : dstC dst = .mk p) (v : AVal) (tm : T AVal) (k : T AVal → Bool) : p v tm k = putK F dst v tm k := by
  cases dst <;> (simp only [dstC, DClo.mk.injEq] at hp; subst hp; rfl)

theorem asBool_true {v : AVal} {k : Bool → Bool} (h : asBool' v k = true) : ∃ b, v = .bool b ∧ k b = true := by
  cases v <;> first | exact ⟨_, rfl, h⟩ | (simp [asBool', F] at h)
theorem asInt_true {v : AVal} {k : IntKind → Int → Bool} (h : asInt' v k = true) : ∃ a b, v = .int a b ∧ k a b = true := by
  cases v <;> first | exact ⟨_, _, rfl, h⟩ | (simp [asInt', F] at h)
theorem asPtr_true {v : AVal} {k : Nat → Nat → Bool} (h : asPtr' v k = true) : ∃ a b, v = .ptr a b ∧ k a b = true := by
  cases v <;> first | exact ⟨_, _, rfl, h⟩ | (simp [asPtr', F] at h)
theorem asSlice_true {v : AVal} {k : Nat → Nat → Nat → Bool} (h : asSlice' v k = true) : ∃ a b c d, v = .slice a b c d ∧ k a b c = true := by
  cases v <;> first | exact ⟨_, _, _, _, rfl, h⟩ | (simp [asSlice', F] at h)
theorem asAgg_true {v : AVal} {k : T AVal → Bool} (h : asAgg' v k = true) : ∃ a, v = .agg a ∧ k a = true := by
  cases v <;> first | exact ⟨_, rfl, h⟩ | (simp [asAgg', F] at h)
theorem asTuple_true {v : AVal} {k : List AVal → Bool} (h : asTuple' v k = true) : ∃ a, v = .tuple a ∧ k a = true := by
  cases v <;> first | exact ⟨_, rfl, h⟩ | (simp [asTuple', F] at h)
theorem asNat_true {n : Int} {k : Nat → Bool} (h : asNat' n k = true) : ∃ a, n = .ofNat a ∧ k a = true := by
  cases n <;> first | exact ⟨_, rfl, h⟩ | (simp [asNat', F] at h)
theorem notAgg_true {v : AVal} {k : AVal → Bool} (h : notAgg v k = true) : isCellA v = true ∧ k v = true := by
  cases v <;> first | exact ⟨rfl, h⟩ | (simp [notAgg, F] at h)
theorem notPoison_true {v : AVal} {k : AVal → Bool} (h : notPoison v k = true) : (∀ (g : AVal → Bool), (match v with | .poison => F "load: poison" | v => g v) = g v) ∧ k v = true := by
  cases v <;> first | exact ⟨fun _ => rfl, h⟩ | (simp [notPoison, F] at h)
theorem cells5_true {b : ABlk} {k : T AVal → Nat → Bool → Bool → TypeId → Bool} (h : cells5 b k = true) : ∃ c n ex rw e, b = .cells c n ex rw e ∧ k c n ex rw e = true := by
  cases b <;> first | exact ⟨_, _, _, _, _, rfl, h⟩ | (simp [cells5, F] at h)
theorem boolrec_true {c : Bool} {x y : Bool} (h : Bool.rec (motive := fun _ => Bool) x y c = true) : (c = true ∧ y = true) ∨ (c = false ∧ x = true) := by
  cases c
  · exact .inr ⟨rfl, h⟩
  · exact .inl ⟨rfl, h⟩
theorem setK_mono {α : Type} {v : α} {t : T α} {i : Nat} {k k' : T α → Bool} {s s' : String} (hk : ∀ t, k t = true → k' t = true) (h : t.setK v (F s) i k = true) : t.setK v (F s') i k' = true := by
  obtain ⟨a, b⟩ := setK_true h
  rw [T.setK_eq, if_pos a]
  exact hk _ b
theorem setK_intro {α : Type} {v : α} {t : T α} {i : Nat} {k : T α → Bool} {d : Bool} (a : (t.get i).isSome = true) (b : k (t.set v i) = true) : t.setK v d i k = true := by
  rw [T.setK_eq, if_pos a]; exact b
theorem getK_intro {α : Type} {k : α → Bool} {t : T α} {i : Nat} {d : Bool} {a : α} (ha : t.get i = some a) (hk : k a = true) : t.getK d k i = true := by
  rw [T.getK_eq, ha]; exact hk

def CoreOk (P : Program) (c : Core) (o : Oper) : Prop := ∀ f, c = .mk f → ∀ tm h nx k, f tm h nx k = true → opK P tm F h nx o.op o.type k = true
theorem CoreOk.gen (P : Program) (o : Oper) : CoreOk P (coreGen P o) o := by
  intro f hf tm h nx k hk
  simp only [coreGen, Core.mk.injEq] at hf
  subst hf
  exact hk
theorem forceN_core {c : Nat → Core} (n : Nat) : forceN n c = c n := forceN_eq n c

theorem ltK_eq (a b : Int) (y n : Bool) : ltK' a b y n = (if ltI a b then y else n) := by
  cases a <;> cases b <;> simp only [ltK', ltI] <;> first
    | rfl
    | exact boolRec_eq
theorem eqK'_eq (a b : Int) (y n : Bool) : eqK' a b y n = (if eqI a b then y else n) := by
  cases a <;> cases b <;> simp only [eqK', eqI] <;> first
    | rfl
    | exact boolRec_eq
theorem maxK_fits (k : IntKind) (n : Nat) : Nat.ble n (maxK k) = fits k n := by cases k <;> rfl
theorem idxK_beq {a b : IntKind} (h : Nat.beq (idxK a) (idxK b) = true) : beqK a b = true := by cases a <;> cases b <;> first | rfl | cases h

theorem addK_eq (kd : IntKind) (a b : Int) (k : AVal → Bool) : addK' kd a b k = intK (wrapFast kd (addI a b)) fun n => k (.int kd n) := by
  cases a <;> cases b <;> simp only [addK'] <;> try rfl
  rename_i x y
  simp only [forceN_eq, addI, wrapFast, maxK_fits]
  cases fits kd (Nat.add x y)
  · rfl
  · simp only [_root_.cond_true, intK_eq]
theorem subK_eq' (kd : IntKind) (a b : Int) (k : AVal → Bool) : subK' kd a b k = intK (wrapFast kd (subI a b)) fun n => k (.int kd n) := by
  cases a <;> cases b <;> simp only [subK'] <;> try rfl
  rename_i x y
  simp only [forceN_eq, maxK_fits]
  cases hb : Nat.ble y x
  · rfl
  · simp only [subI, hb, _root_.cond_true]
    cases hf : fits kd (Nat.sub x y)
    · rfl
    · simp only [wrapFast, hf, _root_.cond_true, intK_eq]

theorem intC_ok {op : BinOp} {g : IntKind → Int → Int → (AVal → Bool) → Bool} (hg : intC op = some g) (kd : IntKind) (a b : Int) (k : AVal → Bool) :
    g kd a b k = intOpK F op kd a b k ∧ op ≠ .shl ∧ op ≠ .shr := by
  cases op <;> simp only [intC, Option.some.injEq, reduceCtorEq] at hg <;> subst hg <;> refine ⟨?_, by simp, by simp⟩
  case lss => simp only [ltK_eq, intOpK]; cases ltI a b <;> rfl
  case gtr => simp only [ltK_eq, intOpK]; cases ltI b a <;> rfl
  case leq => simp only [ltK_eq, intOpK]; cases ltI b a <;> rfl
  case geq => simp only [ltK_eq, intOpK]; cases ltI a b <;> rfl
  case eql => simp only [eqK'_eq, intOpK]; cases eqI a b <;> rfl
  case neq => simp only [eqK'_eq, intOpK]; cases eqI a b <;> rfl
  case add => simp only [addK_eq, intOpK]
  case sub => simp only [subK_eq', intOpK]

/-- an operand gives one value -/
theorem evK_det {x : Operand} {k : AVal → Bool} (hk : evK P tm F x k = true) : ∃ a, k a = true ∧ ∀ k' : AVal → Bool, k' a = true → evK P tm F x k' = true := by
  cases x with
  | tmp t =>
    simp only [evK] at hk
    replace hk := getK_true hk
    obtain ⟨a, ha, hk⟩ := hk
    exact ⟨a, hk, fun k' h' => getK_intro ha h'⟩
  | const v =>
    simp only [evK] at hk
    cases hc : absV v with
    | none => rw [hc] at hk; exact (F_false hk).elim
    | some a => rw [hc] at hk; exact ⟨a, hk, fun k' h' => by simp only [evK, hc]; exact h'⟩
  | global g =>
    simp only [evK] at hk
    obtain ⟨c, hk⟩ := cond_true hk
    exact ⟨_, hk, fun k' h' => by simp only [evK, c, _root_.cond_true]; exact h'⟩
  | func f => exact ⟨_, hk, fun k' h' => h'⟩
theorem opnd_det {x : Operand} {e : T AVal → (AVal → Bool) → Bool} (he : opnd P x = .mk e) {k : AVal → Bool} (hk : e tm k = true) : ∃ a, k a = true ∧ ∀ k' : AVal → Bool, k' a = true → evK P tm F x k' = true := by
  rw [opnd_eq he] at hk
  exact evK_det hk

theorem core_bin {op : BinOp} {t : TypeId} {x y : Operand} {yt : TypeId} (ho : o.op = .binOp op t x y yt) : CoreOk P (coreBin P o op t x y) o := by
  unfold coreBin
  split
  · rename_i kd hu
    split
    · rename_i g ex ey hg hx hy
      intro f hf tm h nx k hk
      simp only [Core.mk.injEq] at hf
      subst hf
      rw [ho]
      simp only [opK]
      replace hk := opnd_det hx hk
      obtain ⟨a, hk, ha⟩ := hk
      replace hk := opnd_det hy hk
      obtain ⟨b, hk, hb⟩ := hk
      replace hk := asInt_true hk
      obtain ⟨ka, n, rfl, hk⟩ := hk
      replace hk := asInt_true hk
      obtain ⟨kb, m, rfl, hk⟩ := hk
      rcases boolrec_true hk with ⟨hq, hk⟩ | ⟨_, hk⟩
      · obtain ⟨e1, e2, e3⟩ := intC_ok hg ka n m fun v => k v h nx
        rw [e1] at hk
        refine ha _ (hb _ ?_)
        have hbk := idxK_beq hq
        cases op <;> first | exact absurd rfl e2 | exact absurd rfl e3 | (simp only [binK, hbk, _root_.cond_true]; exact hk)
      · exact (F_false hk).elim
    · exact CoreOk.gen P o
  · exact CoreOk.gen P o
end
end Go.Ev
/-! The fast evaluator says no more than the slow one, part 2: every operation. -/
namespace Go.Ev
section
variable {P : Program} {tm : T AVal} {h : H} {nx : Nat} {o : Oper}

theorem ld1_ok {t : TypeId} {id off : Nat} {k : AVal → Bool} (hl : layOf P t = .one) (hk : ld1 h id off k = true) : loadK P F h t id off k = true := by
  unfold ld1 at hk
  replace hk := getK_true hk
  obtain ⟨b, hb, hk⟩ := hk
  obtain ⟨c, n, ex, rw', e, rfl, hk⟩ := cells5_true hk
  replace hk := getK_true hk
  obtain ⟨v, hv, hk⟩ := hk
  unfold loadK
  refine getK_intro hb ?_
  simp only [hl]
  refine getK_intro hv ?_
  cases v <;> first | exact hk | (simp [notPoison, F] at hk)
theorem ldN_ok {t : TypeId} {m id off : Nat} {k : AVal → Bool} (hl : layOf P t = .agg m) (hk : ldN m h id off k = true) : loadK P F h t id off k = true := by
  unfold ldN at hk
  replace hk := getK_true hk
  obtain ⟨b, hb, hk⟩ := hk
  obtain ⟨c, n, ex, rw', e, rfl, hk⟩ := cells5_true hk
  unfold loadK
  refine getK_intro hb ?_
  simp only [hl]
  rcases boolrec_true hk with ⟨hq, hk⟩ | ⟨_, hk⟩
  · rw [hq]; exact hk
  · exact (F_false hk).elim
theorem st1_ok {t : TypeId} {id off : Nat} {v : AVal} {k : H → Bool} (hl : layOf P t = .one) (hc : isCellA v = true) (hk : st1 h id off v k = true) : storeK P F h t id off v k = true := by
  unfold st1 at hk
  replace hk := getK_true hk
  obtain ⟨b, hb, hk⟩ := hk
  obtain ⟨c, n, ex, rw', e, rfl, hk⟩ := cells5_true hk
  unfold storeK
  simp only [hl, hc]
  unfold putCellsK
  refine getK_intro hb ?_
  rcases boolrec_true hk with ⟨rfl, hk⟩ | ⟨_, hk⟩
  · obtain ⟨q1, q2⟩ := setK_true hk
    simp only
    rw [setListK_eq]
    simp only [T.setO, q1, if_true]
    exact setK_mono (fun _ h => h) q2
  · exact (F_false hk).elim
theorem stN_ok {t : TypeId} {m id off : Nat} {s : T AVal} {k : H → Bool} (hl : layOf P t = .agg m) (hk : stN m h id off s k = true) : storeK P F h t id off (.agg s) k = true := by
  unfold stN at hk
  replace hk := getK_true hk
  obtain ⟨b, hb, hk⟩ := hk
  obtain ⟨c, n, ex, rw', e, rfl, hk⟩ := cells5_true hk
  unfold storeK
  simp only [hl]
  unfold putAggK
  refine getK_intro hb ?_
  rcases boolrec_true hk with ⟨hr, hk'⟩ | ⟨_, hk'⟩
  · subst hr
    simp only
    rw [T.lenK_eq] at hk' ⊢
    rcases boolrec_true hk' with ⟨hq, hk2⟩ | ⟨_, hk2⟩
    · rw [hq]
      simp only [_root_.cond_true]
      rcases boolrec_true hk2 with ⟨hq2, hk3⟩ | ⟨hq2, hk3⟩
      · rw [hq2]; exact hk3
      · rw [hq2]; exact hk3
    · exact (F_false hk2).elim
  · exact (F_false hk').elim

theorem szC_ok {t : TypeId} {c : Core} {g : Nat → Core} (h1 : CoreOk P c o) (h2 : ∀ n, szO P t = some n → CoreOk P (g n) o) : CoreOk P (szC P t c g) o := by
  unfold szC
  split
  · rename_i n hn; exact h2 n hn
  · exact h1
theorem szK_of {t : TypeId} {n : Nat} {k : Nat → Bool} (hn : szO P t = some n) (hk : k n = true) : szK P F t k = true := by
  unfold szK; rw [hn]; exact hk

theorem partsC_ok {place : Nat → Option (Nat × Nat)} (hpl : ∀ i r, place i = some r → True) : ∀ {parts : List (Nat × Operand)} {c : T AVal} {kk : T AVal → Bool}, fillF tm (partsC P place parts) c kk = true → fillK P tm F place c parts kk = true
  | [], c, kk, hk => hk
  | (i, x) :: rest, c, kk, hk => by
    have ih : ∀ {c'}, fillF tm (partsC P place rest) c' kk = true → fillK P tm F place c' rest kk = true := fun h => partsC_ok hpl h
    have hk : PartC.rec (motive := fun _ => Bool) (fun f => f tm c (fun c' => fillF tm (partsC P place rest) c' kk)) (match place i, opnd P x with
      | some (off, size), .mk e => forceN off fun off => forceN size fun size => PartC.mk fun tm c k => e tm fun v => partsC.putPart off size c v k
      | none, _ => .mk fun _ _ _ => F "part") = true := hk
    simp only [fillK]
    split at hk
    · rename_i off size e hp hx
      rw [hp]
      rw [forceN_eq, forceN_eq] at hk
      replace hk : e tm (fun v => partsC.putPart off size c v fun c' => fillF tm (partsC P place rest) c' kk) = true := hk
      replace hk := opnd_det hx hk
      obtain ⟨v, hk, hv⟩ := hk
      refine hv _ ?_
      have one : ∀ v : AVal, treeO v = some (.leaf v) → partsC.one off size c v (fun c' => fillF tm (partsC P place rest) c' kk) = true →
          (match treeO v with | some t => t.lenK 0 fun n => bif Nat.beq n size && not (Nat.beq size 0) then t.colK 0 n [] fun l => setListK (F "fill") l c off fun c' => fillK P tm F place c' rest kk else F "fill: size" | none => F "fill: value") = true := by
        intro v hv hk
        unfold partsC.one at hk
        rcases boolrec_true hk with ⟨hq, hk⟩ | ⟨_, hk⟩
        · have hs : size = 1 := beq_eq' hq
          subst hs
          obtain ⟨q1, q2⟩ := setK_true hk
          rw [hv]
          show setListK (F "fill") [v] c off (fun c' => fillK P tm F place c' rest kk) = true
          rw [setListK_eq]
          simp only [T.setO, q1, if_true]
          exact ih q2
        · exact (F_false hk).elim
      cases v with
      | agg t =>
        replace hk : t.lenK 0 (fun n => Bool.rec (motive := fun _ => Bool) (F "fill: size") (Bool.rec (motive := fun _ => Bool) (t.colK 0 n [] fun l => setListK (F "fill") l c off fun c' => fillF tm (partsC P place rest) c' kk) (F "fill: size") (Nat.beq size 0)) (Nat.beq n size)) = true := hk
        show t.lenK 0 (fun n => bif Nat.beq n size && not (Nat.beq size 0) then t.colK 0 n [] fun l => setListK (F "fill") l c off fun c' => fillK P tm F place c' rest kk else F "fill: size") = true
        rw [T.lenK_eq] at hk ⊢
        rcases boolrec_true hk with ⟨hq, hk⟩ | ⟨_, hk⟩
        · rcases boolrec_true hk with ⟨_, hk⟩ | ⟨hq2, hk⟩
          · exact (F_false hk).elim
          · rw [hq, hq2]
            simp only [Bool.not_false, Bool.and_self, _root_.cond_true]
            rw [T.colK_eq, setListK_eq] at hk ⊢
            split at hk
            · exact ih hk
            · exact hk
        · exact (F_false hk).elim
      | tuple l => exact Bool.noConfusion hk
      | poison => exact Bool.noConfusion hk
      | _ => exact one _ rfl hk
    · exact (F_false hk).elim

theorem coreOf_ok : CoreOk P (coreOf P o) o := by
  unfold coreOf
  split
  · rename_i x ho
    split
    rename_i e hx
    intro f hf tm h nx k hk
    simp only [Core.mk.injEq] at hf; subst hf
    rw [ho]; simp only [opK]
    obtain ⟨a, hk, ha⟩ := opnd_det hx hk
    exact ha _ hk
  · rename_i x ho
    split
    rename_i e hx
    intro f hf tm h nx k hk
    simp only [Core.mk.injEq] at hf; subst hf
    rw [ho]; simp only [opK]
    obtain ⟨a, hk, ha⟩ := opnd_det hx hk
    exact ha _ hk
  · rename_i c a b ho
    split
    rename_i ec ea eb hc ha hb
    intro f hf tm h nx k hk
    simp only [Core.mk.injEq] at hf; subst hf
    rw [ho]; simp only [opK]
    obtain ⟨v, hk, hv⟩ := opnd_det hc hk
    obtain ⟨q, rfl, hk⟩ := asBool_true hk
    refine hv _ ?_
    rcases boolrec_true hk with ⟨rfl, hk⟩ | ⟨rfl, hk⟩
    · obtain ⟨y, hk, hy⟩ := opnd_det ha hk; exact hy _ hk
    · obtain ⟨y, hk, hy⟩ := opnd_det hb hk; exact hy _ hk
  · rename_i op t x y yt ho
    exact core_bin ho
  · rename_i t a ho
    split
    · rename_i e hl hx
      intro f hf tm h nx k hk
      simp only [Core.mk.injEq] at hf; subst hf
      rw [ho]; simp only [opK]
      obtain ⟨v, hk, hv⟩ := opnd_det hx hk
      obtain ⟨id, off, rfl, hk⟩ := asPtr_true hk
      exact hv _ (ld1_ok hl hk)
    · rename_i m e hl hx
      intro f hf tm h nx k hk
      simp only [Core.mk.injEq] at hf; subst hf
      rw [ho]; simp only [opK]
      obtain ⟨v, hk, hv⟩ := opnd_det hx hk
      obtain ⟨id, off, rfl, hk⟩ := asPtr_true hk
      exact hv _ (ldN_ok hl hk)
    · exact CoreOk.gen P o
  · rename_i s x fl ho
    split
    · rename_i fo t hfp
      cases hz : Nat.beq (sizeP P t) 0 with
      | true => exact CoreOk.gen P o
      | false =>
        cases hx : opnd P x with
        | mk e =>
        intro f hf tm h nx k hk
        simp only [_root_.cond_false, Core.mk.injEq] at hf; subst hf
        rw [ho]; simp only [opK, hfp, hz, _root_.cond_false]
        obtain ⟨v, hk, hv⟩ := opnd_det hx hk
        obtain ⟨id, off, rfl, hk⟩ := asPtr_true hk
        exact hv _ hk
    · exact CoreOk.gen P o
  · rename_i t x i ho
    split
    · rename_i e ex ei hu hx hi
      refine szC_ok (CoreOk.gen P o) fun sz hsz => ?_
      intro f hf tm h nx k hk
      simp only [Core.mk.injEq] at hf; subst hf
      rw [ho]; simp only [opK]
      obtain ⟨v, hk, hv⟩ := opnd_det hx hk
      obtain ⟨j, hk, hj⟩ := opnd_det hi hk
      obtain ⟨kj, jn, rfl, hk⟩ := asInt_true hk
      obtain ⟨jj, rfl, hk⟩ := asNat_true hk
      obtain ⟨id, off, n, cap, rfl, hk⟩ := asSlice_true hk
      refine hv _ (hj _ ?_)
      simp only [hu]
      rcases boolrec_true hk with ⟨hq, hk⟩ | ⟨_, hk⟩
      · rw [hq]; exact szK_of hsz hk
      · exact (F_false hk).elim
    · rename_i n e ex ei hu hx hi
      refine szC_ok (CoreOk.gen P o) fun sz hsz => ?_
      intro f hf tm h nx k hk
      simp only [Core.mk.injEq] at hf; subst hf
      rw [ho]; simp only [opK]
      obtain ⟨v, hk, hv⟩ := opnd_det hx hk
      obtain ⟨j, hk, hj⟩ := opnd_det hi hk
      obtain ⟨kj, jn, rfl, hk⟩ := asInt_true hk
      obtain ⟨jj, rfl, hk⟩ := asNat_true hk
      obtain ⟨id, off, rfl, hk⟩ := asPtr_true hk
      refine hv _ (hj _ ?_)
      simp only [hu]
      rcases boolrec_true hk with ⟨hq, hk⟩ | ⟨_, hk⟩
      · rw [hq]; exact szK_of hsz hk
      · exact (F_false hk).elim
    · exact CoreOk.gen P o
  · rename_i t a x ho
    split
    · rename_i ea ex hl hx hy
      intro f hf tm h nx k hk
      simp only [Core.mk.injEq] at hf; subst hf
      rw [ho]; simp only [opK]
      obtain ⟨v, hk, hv⟩ := opnd_det hx hk
      obtain ⟨id, off, rfl, hk⟩ := asPtr_true hk
      obtain ⟨u, hk, hu⟩ := opnd_det hy hk
      obtain ⟨hc, hk⟩ := notAgg_true hk
      exact hv _ (hu _ (st1_ok hl hc hk))
    · rename_i m ea ex hl hx hy
      intro f hf tm h nx k hk
      simp only [Core.mk.injEq] at hf; subst hf
      rw [ho]; simp only [opK]
      obtain ⟨v, hk, hv⟩ := opnd_det hx hk
      obtain ⟨id, off, rfl, hk⟩ := asPtr_true hk
      obtain ⟨u, hk, hu⟩ := opnd_det hy hk
      obtain ⟨s, rfl, hk⟩ := asAgg_true hk
      exact hv _ (hu _ (stN_ok hl hk))
    · exact CoreOk.gen P o
  · rename_i t i ho
    split
    rename_i e hx
    intro f hf tm h nx k hk
    simp only [Core.mk.injEq] at hf; subst hf
    rw [ho]; simp only [opK]
    obtain ⟨v, hk, hv⟩ := opnd_det hx hk
    obtain ⟨l, rfl, hk⟩ := asTuple_true hk
    exact hv _ hk
  · rename_i x ho
    split
    rename_i e hx
    intro f hf tm h nx k hk
    simp only [Core.mk.injEq] at hf; subst hf
    have hk0 := hk
    obtain ⟨v, hk, hv⟩ := opnd_det hx hk
    cases v <;> first
      | exact (F_false hk).elim
      | exact hk
      | (rw [ho]; simp only [opK]; exact hv _ hk)
  · rename_i e x ho
    split
    rename_i ex hx
    intro f hf tm h nx k hk
    simp only [Core.mk.injEq] at hf; subst hf
    rw [ho]; simp only [opK]
    obtain ⟨v, hk, hv⟩ := opnd_det hx hk
    refine hv _ ?_
    cases v <;> first
      | exact (F_false hk).elim
      | exact hk
  · rename_i t parts ho
    split
    · rename_i z fs hz hu
      cases hi : infosOk P fs with
      | false => exact CoreOk.gen P o
      | true =>
        intro f hf tm h nx k hk
        simp only [_root_.cond_true, Core.mk.injEq] at hf; subst hf
        rw [ho]; simp only [opK, hz, hu, hi, _root_.cond_true]
        exact partsC_ok (fun _ _ _ => trivial) hk
    · rename_i z n e hz hu
      refine szC_ok (CoreOk.gen P o) fun sz hsz => ?_
      intro f hf tm h nx k hk
      simp only [Core.mk.injEq] at hf; subst hf
      rw [ho]; simp only [opK, hz, hu]
      exact szK_of hsz (partsC_ok (fun _ _ _ => trivial) hk)
    · exact CoreOk.gen P o
  · rename_i t len parts ho
    split
    · rename_i e hu
      refine szC_ok (CoreOk.gen P o) fun sz hsz => ?_
      cases hle : Nat.ble (Nat.mul len sz) 16777216 with
      | false => exact CoreOk.gen P o
      | true =>
        simp only [_root_.cond_true]
        unfold rowK
        split
        · exact CoreOk.gen P o
        · rename_i z hz
          split
          · exact CoreOk.gen P o
          · rename_i tz htz
            rw [T.lenK_eq]
            cases hq : Nat.beq (0 + tz.len) sz with
            | false => exact CoreOk.gen P o
            | true =>
              simp only [_root_.cond_true]
              rw [T.colK_eq, pushListK_eq, forceN_eq]
              intro f hf tm h nx k hk
              simp only [Core.mk.injEq] at hf; subst hf
              rw [ho]; simp only [opK, hu]
              refine szK_of hsz ?_
              rw [hle]
              simp only [_root_.cond_true]
              unfold rowK
              simp only [hz, htz]
              rw [T.lenK_eq, hq]
              simp only [_root_.cond_true]
              rw [T.colK_eq, pushListK_eq]
              refine partsC_ok (fun _ _ _ => trivial) ?_
              simp only [forceN_eq]
              exact hk
    · exact CoreOk.gen P o
  · rename_i c ho
    split
    · rename_i x hc hargs
      split
      · rename_i e q hu hx
        intro f hf tm h nx k hk
        simp only [Core.mk.injEq] at hf; subst hf
        rw [ho]; simp only [opK, hc, hargs, mapK]
        obtain ⟨v, hk, hv⟩ := opnd_det hx hk
        refine hv _ ?_
        simp only [opK.builtinK, hu]
        cases v <;> first
          | exact (F_false hk).elim
          | exact hk
      · exact CoreOk.gen P o
    · exact CoreOk.gen P o
  · rename_i e ho
    split
    · exact CoreOk.gen P o
    · rename_i z hz
      split
      · exact CoreOk.gen P o
      · rename_i t ht
        rw [T.lenK_eq]
        intro f hf tm h nx k hk
        simp only [Core.mk.injEq] at hf; subst hf
        rw [ho]; simp only [opK, hz, ht]
        rw [T.lenK_eq]
        exact hk
  · rename_i op t x ho
    split
    · rename_i e hx
      intro f hf tm h nx k hk
      simp only [Core.mk.injEq] at hf; subst hf
      rw [ho]; simp only [opK]
      obtain ⟨v, hk, hv⟩ := opnd_det hx hk
      obtain ⟨q, rfl, hk⟩ := asBool_true hk
      refine hv _ ?_
      simp only [unK]
      rcases boolrec_true hk with ⟨rfl, hk⟩ | ⟨rfl, hk⟩ <;> exact hk
    · exact CoreOk.gen P o
  · exact CoreOk.gen P o
end
end Go.Ev
