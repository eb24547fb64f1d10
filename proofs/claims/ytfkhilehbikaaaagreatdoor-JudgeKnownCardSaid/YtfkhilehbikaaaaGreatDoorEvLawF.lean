/-
  A part of the proof that the evaluator is sound: what it answers, the model's run answers. No condition.
-/
import Derived.Test.YtfkhilehbikaaaaGreatDoorEvLawE
set_option linter.all false
/-! The operations are sound, part 17: append, copy. -/
namespace Go.Ev
open Go.RowKit (Below)
section
variable {P : Program} {N0 : Nat} {w0 : World} {tm : T AVal} {h : H} {nx : Nat} {o : Oper} {k : AVal → H → Nat → Bool}

/-- an id that is let go -/
theorem HeapOk.kill {w : World} {E : Env} (x : HeapOk P N0 w0 E h nx w) (id : Nat) : HeapOk P N0 w0 E (h.set .dead id) nx w := by
  obtain ⟨w1, e1⟩ := T.wf_set h .dead id x.wf
  have g : ∀ j b, (h.set .dead id).get j = some b → b.live = true → h.get j = some b := by
    intro j b hg hl
    rw [T.get_set] at hg
    split at hg
    · rename_i e; subst e
      cases hh : h.get id with
      | none => rw [hh] at hg; cases hg
      | some c => rw [hh] at hg; cases hg; cases hl
    · exact hg
  have live_of : ∀ b : ABlk, b.writes = true → b.live = true := fun b h => by cases b <;> first | rfl | cases h
  exact ⟨w1, by rw [e1]; simp [x.len], x.below, x.n0, x.dom, fun j i b e hg hw => x.new j i b e (g j b hg (live_of b hw)) hw,
    fun j j' i i' b b' e e' hg hg' hl hl' hk => x.sep j j' i i' b b' e e' (g j b hg hl) (g j' b' hg' hl') hl hl' hk, fun j i b e hg hl => x.obj j i b e (g j b hg hl) hl, x.glob⟩

/-- a block goes on under a new id -/
theorem HeapOk.graft {w w' : World} {E : Env} (H : HeapOk P N0 w0 E h nx w) {id : Nat} {i i' : Info} {b b' : ABlk} {o : Obj} (hid : E id = some i) (hb : h.get id = some b) (hl : b.live = true) (hw : b.writes = true)
    (h1 : ∀ j, j ≠ i.blk → w'.heap[j]? = w.heap[j]?) (h2 : w'.heap.size = w.heap.size) (h3 : w'.os = w.os) (h4 : w'.tape = w.tape) (h5 : w'.output = w.output)
    (ho : w'.heap[i.blk]? = some o) (hi' : i'.blk = i.blk) (hr : RelObj P E i' b' o) : HeapOk P N0 w0 (E.put nx i') ((h.set .dead id).push b' nx) (nx + 1) w' := by
  have hn := H.new id i b hid hb hw
  have K := H.kill id
  have hdead : ∀ j c, (h.set .dead id).get j = some c → c.live = true → j ≠ id ∧ h.get j = some c := by
    intro j c hg hc
    rw [T.get_set] at hg
    split at hg
    · rename_i e; subst e; rw [hb] at hg; cases hg; cases hc
    · rename_i e; exact ⟨fun x => e x.symm, hg⟩
  have le := Env.le_put (i := i') (H.fresh (Nat.le_refl nx))
  have g := push_get K.wf K.len b'
  obtain ⟨w1, e1⟩ := T.wf_push (h.set .dead id) b' nx K.wf K.len
  have old : ∀ j k, (E.put nx i') j = some k → j ≠ nx → E j = some k := fun j k e ne => by simpa [Env.put, ne] using e
  have at_ : ∀ k, (E.put nx i') nx = some k → k = i' := fun k e => by simpa [Env.put] using e.symm
  have other : ∀ j k c, E j = some k → (h.set .dead id).get j = some c → c.live = true → k.blk ≠ i.blk := by
    intro j k c e hg hc hk
    obtain ⟨ne, hg'⟩ := hdead j c hg hc
    exact ne (H.sep j id k i c b e hid hg' hb hc hl hk)
  refine ⟨w1, by rw [e1]; simp [K.len], ⟨h3.trans H.below.os, h4.trans H.below.tape, h5.trans H.below.output, by rw [h2]; exact H.below.size, fun k hk => by rw [h1 k (by omega)]; exact H.below.block k hk⟩, H.n0, ?_, ?_, ?_, ?_, ?_⟩
  · intro j k e
    by_cases c : j = nx
    · subst c; rw [at_ k e, hi', h2]; exact ⟨Nat.lt_succ_self _, (H.dom id i hid).2⟩
    · have := H.dom j k (old j k e c); rw [h2]; omega
  · intro j k c e hg hr'
    by_cases x : j = nx
    · subst x; rw [at_ k e, hi']; exact hn
    · rw [g, if_neg x] at hg
      exact K.new j k c (old j k e x) hg hr'
  · intro j j' k k' c c' e e' hg hg' l l' hk
    by_cases x : j = nx
    · by_cases x' : j' = nx
      · rw [x, x']
      · subst x
        rw [g, if_neg x'] at hg'
        rw [at_ k e, hi'] at hk
        exact absurd hk.symm (other j' k' c' (old j' k' e' x') hg' l')
    · by_cases x' : j' = nx
      · subst x'
        rw [g, if_neg x] at hg
        rw [at_ k' e', hi'] at hk
        exact absurd hk (other j k c (old j k e x) hg l)
      · rw [g, if_neg x] at hg
        rw [g, if_neg x'] at hg'
        exact K.sep j j' k k' c c' (old j k e x) (old j' k' e' x') hg hg' l l' hk
  · intro j k c e hg l
    by_cases x : j = nx
    · subst x
      rw [at_ k e, hi']
      rw [g, if_pos rfl] at hg
      cases hg
      exact ⟨o, ho, hr.mono le⟩
    · rw [g, if_neg x] at hg
      obtain ⟨o', a, r⟩ := K.obj j k c (old j k e x) hg l
      refine ⟨o', ?_, r.mono le⟩
      rw [h1 _ (other j k c (old j k e x) hg l)]
      exact a
  · intro q hq
    obtain ⟨k, e, r⟩ := H.glob q hq
    exact ⟨k, le _ _ e, r⟩

theorem growOk_true {e : TypeId} {ti : TypeInfo} (hti : P.info? e = some ti) (h : growOk P e ti.size = true) :
    ti.bytes ≤ 1000000 ∧ ∃ zv, ti.zero = some zv ∧ zv.cells.size = ti.size := by
  unfold growOk at h
  split at h
  · rename_i i z hi hz
    rw [hti] at hi
    cases hi
    obtain ⟨h1, h2⟩ := and2 h
    refine ⟨ble_le h1, ?_⟩
    split at h2
    · rename_i t ht
      rw [T.lenK_eq] at h2
      obtain ⟨v, _, rv, i', hi', hz'⟩ := zeroP_run hz (fun _ => none) default
      rw [hti] at hi'
      cases hi'
      refine ⟨v, hz', ?_⟩
      obtain ⟨wt, et⟩ := (treeO_rel ht rv).wf
      have : 0 + t.len = ti.size := beq_eq' h2
      rw [T.len_eq _ wt] at this
      have : v.cells.toList.length = ti.size := by rw [et]; omega
      simpa using this
    · cases h2
  · cases h

/-- what a new row of append looks like -/
theorem relObj_grown {E : Env} {c : T AVal} {e : TypeId} {ti : TypeInfo} {zv : Value} {m need gc blk : Nat} {vs : List Value} (hti : P.info? e = some ti) (hz : zv.cells.size = ti.size)
    (hr : RelT E c vs) (hm : m = need * ti.size) (hl : vs.length = need * ti.size) (hg : need ≤ gc) :
    RelObj P E ⟨blk, 0, gc, ti.size⟩ (.cells c m false true e) (.cells (vs.toArray ++ Builtin.zeroCells zv.cells (gc - need)) e (0, 0)) := by
  have hsz : sizeP P e = ti.size := by simp [sizeP, hti, forceN_eq]
  refine ⟨_, 0, 0, vs, rfl, hr, by rw [hl, hm], ?_, hsz.symm, ?_, by simp, fun _ j _ => by omega⟩
  · intro j hj
    have : j < vs.toArray.size := by simp; omega
    simp only [Nat.zero_add]
    rw [Array.getElem?_append_left this]
    simp
  · simp only [Nat.zero_add, Array.size_append, List.size_toArray, hl, Builtin.zeroCells, Array.size_map, Array.size_range, hz]
    have : gc * ti.size = need * ti.size + (gc - need) * ti.size := by rw [← Nat.add_mul]; congr 1; omega
    omega

theorem tailK_true {c : T AVal} {m off n : Nat} {new : List AVal} {k' : T AVal → Bool} (hk : tailK c m off n new k' = true) :
    ∃ c', k' c' = true ∧ (c.Wf → c.toList.length = m → off + n ≤ m → c'.Wf ∧ c'.toList = (c.toList.drop off).take n ++ new) := by
  unfold tailK at hk
  rcases bif_true hk with ⟨hc, hk'⟩ | ⟨_, hk'⟩
  · obtain ⟨h1, h2⟩ := and2 hc
    replace h1 := beq_eq' h1
    replace h2 := beq_eq' h2
    rw [pushListK_eq] at hk'
    refine ⟨_, hk', fun hw hm _ => ?_⟩
    obtain ⟨a, b⟩ := T.wf_pushL new c _ hw hm
    refine ⟨a, ?_⟩
    rw [b, h1, List.drop_zero, List.take_of_length_le (by omega)]
  · rw [T.colK_eq, pushListK_eq, pushListK_eq] at hk'
    refine ⟨_, hk', fun hw hm hle => ?_⟩
    rw [T.col_eq _ hw, List.append_nil]
    obtain ⟨a, b⟩ := T.wf_pushL ((c.toList.drop off).take n) (.nil : T AVal) 0 trivial rfl
    obtain ⟨a', b'⟩ := T.wf_pushL new _ n a (by rw [b]; simp [T.toList]; omega)
    exact ⟨a', by rw [b', b]; simp [T.toList]⟩

/-- append where there is room: the cells are stored -/
theorem run_append_room_store {w w' : World} {t tx ty e : TypeId} {i : TypeInfo} (ht : P.underlying t = some (.slice e)) (hi : P.info? e = some i) (a : Addr) (sLen sCap : Nat) (x : Value) (n : Nat) (news : List Value)
    (hs : Src P i.size tx x n news w) (hroom : sLen + n ≤ sCap) (hst : (storeCells (a.add (sLen * i.size)) news).run P w = .ok () w') :
    (Builtin.append_ #[t, tx] ty #[.slice (some a) sLen sCap, x]).run P w = .ok (.slice (some a) (sLen + n) sCap) w' := by
  rcases hs.kind with ⟨e', hk⟩ | hk <;> simp [Builtin.append_, run_underlying ht, run_underlying hk, sizeOf, typeInfo, hi, hs.len, hroom, hs.cells, hst]
theorem run_append_nothing_nil {w : World} {t tx ty e : TypeId} {i : TypeInfo} (ht : P.underlying t = some (.slice e)) (hi : P.info? e = some i) (x : Value) (hs : Src P i.size tx x 0 [] w) :
    (Builtin.append_ #[t, tx] ty #[.slice none 0 0, x]).run P w = .ok (.slice none 0 0) w := by
  rcases hs.kind with ⟨e', hk⟩ | hk <;> simp [Builtin.append_, run_underlying ht, run_underlying hk, sizeOf, typeInfo, hi, hs.len, hs.cells]

def ApOk (P : Program) (N0 : Nat) (w0 : World) (h : H) (nx : Nat) (t xt : TypeId) (s x v : AVal) (h' : H) (nx' : Nat) : Prop :=
  nx ≤ nx' ∧ ∀ E w S X ty, HeapOk P N0 w0 E h nx w → Rel E s S → Rel E x X → ∃ E' w' cv, E.Le E' ∧ (∀ id, id < nx → E' id = E id) ∧ HeapOk P N0 w0 E' h' nx' w' ∧ Rel E' v cv ∧
    (Builtin.append_ #[t, xt] ty #[S, X]).run P w = .ok cv w'

/-- append makes a new row -/
theorem append_grows {t xt e : TypeId} {ti : TypeInfo} {zv : Value} {E : Env} {w : World} {base : Option Addr} {sLen sCap n : Nat} {X : Value} {ty : TypeId} {c : T AVal} {olds news : List Value}
    (hu : P.underlying t = some (.slice e)) (hti : P.info? e = some ti) (hz : ti.zero = some zv) (hzs : zv.cells.size = ti.size) (hb : ti.bytes ≤ 1000000) (hneed : sLen + n ≤ 1000000) (hg : sCap < sLen + n)
    (x : HeapOk P N0 w0 E h nx w) (hold : (Builtin.firstCells ti.size sLen (.slice base sLen sCap)).run P w.drew = .ok olds.toArray w.drew) (hol : olds.length = sLen * ti.size)
    (hs : Src P ti.size xt X n news w) (hr : RelT E c (olds ++ news)) :
    ∃ E' w' cv, E.Le E' ∧ (∀ id, id < nx → E' id = E id) ∧ HeapOk P N0 w0 E' (h.push (.cells c ((sLen + n) * ti.size) false true e) nx) (nx + 1) w' ∧ Rel E' (.slice nx 0 (sLen + n) (.rest 0)) cv ∧
      (Builtin.append_ #[t, xt] ty #[.slice base sLen sCap, X]).run P w = .ok cv w' := by
  have hprod : (sLen + n) * ti.bytes ≤ 1000000 * 1000000 := Nat.mul_le_mul hneed hb
  have hfit := growslice_fits (bytes := ti.bytes) hg (by omega)
  have run := run_append_grow_src w t xt ty e ti zv hu hti hz base sLen sCap olds hold X n news hs hg (by omega) hfit
  have hgc : sLen + n ≤ grownCap w (sLen + n) sCap e := by simp [grownCap, Question.cut]
  have hro := relObj_grown (P := P) (E := E) (blk := w.heap.size) (gc := grownCap w (sLen + n) sCap e) hti hzs hr rfl (by rw [List.length_append, hol, hs.newsLen, Nat.add_mul]) hgc
  have le := Env.le_put (i := ⟨w.heap.size, 0, grownCap w (sLen + n) sCap e, ti.size⟩) (x.fresh (Nat.le_refl nx))
  obtain ⟨_, hk⟩ := x.drew.alloc (i := ⟨w.heap.size, 0, grownCap w (sLen + n) sCap e, ti.size⟩) rfl (hro.mono le)
  refine ⟨_, _, _, le, fun id hid => by simp [Env.put, Nat.ne_of_lt hid], hk, ⟨⟨w.heap.size, 0, grownCap w (sLen + n) sCap e, ti.size⟩, grownCap w (sLen + n) sCap e, by simp [Env.put], rfl, by simp [Cap.At], hgc, rfl⟩, ?_⟩
  rw [run]
  rfl

theorem appendK_true {t xt : TypeId} {s x : AVal} (hxt : (∃ e', P.underlying xt = some (.slice e')) ∨ P.underlying xt = some .string) (hk : appendK P F h nx t s x k = true) :
    ∃ v h' nx', k v h' nx' = true ∧ ApOk P N0 w0 h nx t xt s x v h' nx' := by
  unfold appendK at hk
  split at hk
  · rename_i e hu
    replace hk := szK_true hk
    obtain ⟨ti, hti, hne, hk⟩ := hk
    replace hk := cond_true hk
    obtain ⟨hgo, hk⟩ := hk
    obtain ⟨hbytes, zv, hzv, hzs⟩ := growOk_true hti hgo
    replace hk := lenA_true (P := P) hk
    obtain ⟨n, hk, n1, n2, n3, hlen⟩ := hk
    replace hk := srcK_true (P := P) (N0 := N0) (w0 := w0) (nx := nx) hk
    obtain ⟨new, hk, hsrc⟩ := hk
    have src : ∀ E w X, HeapOk P N0 w0 E h nx w → Rel E x X → ∃ news, RelL E new news ∧ (∀ v ∈ news, v.oneCell' = true) ∧ Src P ti.size xt X n news w := fun E w X hw hx => by
      obtain ⟨vs, v1, v2, v3, v4⟩ := hsrc E w X hw hx n1 (fun s e => Nat.le_of_eq (n2 s e))
      exact ⟨vs, v1, v2, ⟨hxt, fun w' => hlen E X w' hx, v4 w rfl, v4 w.drew rfl, v3, v2⟩⟩
    split at hk
    · rcases bif_true hk with ⟨hc, hk⟩ | ⟨hc, hk⟩
      · obtain rfl := beq_eq' hc
        refine ⟨_, _, _, hk, Nat.le_refl _, fun E w S X ty hw hS hX => ?_⟩
        obtain ⟨news, s1, s2, s3⟩ := src E w X hw hX
        simp only [Rel] at hS
        subst hS
        have : news = [] := List.length_eq_zero_iff.1 (by rw [s3.newsLen]; simp)
        subst this
        exact ⟨E, w, _, Env.Le.refl E, fun _ _ => rfl, hw, rfl, run_append_nothing_nil hu hti X s3⟩
      · replace hc := beq_ne hc
        replace hk := cond_true hk
        obtain ⟨hn, hk⟩ := hk
        replace hn := ble_le hn
        rw [pushListK_eq, forceN_eq, newK_eq] at hk
        refine ⟨_, _, _, hk, Nat.le_succ _, fun E w S X ty hw hS hX => ?_⟩
        obtain ⟨news, s1, s2, s3⟩ := src E w X hw hX
        simp only [Rel] at hS
        subst hS
        obtain ⟨a, b⟩ := T.wf_pushL new (.nil : T AVal) 0 trivial rfl
        have hr : RelT E (T.pushL new .nil 0) ([] ++ news) := RelT.of_list a (by rw [b]; simpa [T.toList] using s1) (by simpa using s2)
        have := append_grows (ty := ty) (sLen := 0) (sCap := 0) (base := none) (olds := []) hu hti hzv hzs hbytes (by omega) (by omega) hw rfl (by simp) s3 hr
        simpa using this
    · rename_i id off len cap
      rw [forceN_eq] at hk
      replace hk := cond_true hk
      obtain ⟨hn, hk⟩ := hk
      replace hn : len + n ≤ 1000000 := ble_le hn
      split at hk
      · rename_i c
        rcases bif_true hk with ⟨hc, hk⟩ | ⟨hc, hk⟩
        · replace hc : len + n ≤ c := ble_le hc
          replace hk := putCellsK_true hk
          obtain ⟨t1, m, ex, e', t2, hb, hset, hk⟩ := hk
          refine ⟨_, _, _, hk, Nat.le_refl _, fun E w S X ty hw hS hX => ?_⟩
          obtain ⟨news, s1, s2, s3⟩ := src E w X hw hX
          obtain ⟨i, q, e1, e2, _, hle, rfl⟩ := hS
          simp only [Cap.Rel] at e2
          subst e2
          have hsz : sizeP P e = ti.size := by simp [sizeP, hti, forceN_eq]
          obtain ⟨w', r1, r2⟩ := store_cells hw e1 hb hset s1 s2
          refine ⟨E, w', _, Env.Le.refl E, fun _ _ => rfl, r2, ⟨i, q, e1, rfl, trivial, hc, rfl⟩, ?_⟩
          refine run_append_room_store hu hti _ _ _ _ _ _ s3 hc ?_
          rw [addr_add, Nat.add_assoc]
          exact r1
        · replace hc : ¬ len + n ≤ c := fun q => by rw [show Nat.ble (len.add n) c = true from Nat.ble_eq_true_of_le q] at hc; cases hc
          replace hk := srcK_true (P := P) (N0 := N0) (w0 := w0) (nx := nx) hk
          obtain ⟨old, hk, hold⟩ := hk
          rw [pushListK_eq, pushListK_eq, forceN_eq, newK_eq] at hk
          refine ⟨_, _, _, hk, Nat.le_succ _, fun E w S X ty hw hS hX => ?_⟩
          obtain ⟨news, s1, s2, s3⟩ := src E w X hw hX
          obtain ⟨olds, o1, o2, o3, o4⟩ := hold E w S hw hS (by simp) (by simp)
          obtain ⟨i, q, e1, e2, _, hle, rfl⟩ := hS
          simp only [Cap.Rel] at e2
          subst e2
          obtain ⟨a, b⟩ := T.wf_pushL old (.nil : T AVal) 0 trivial rfl
          have hol : old.length = len.mul ti.size := by rw [← o1.length]; exact o3
          obtain ⟨a', b'⟩ := T.wf_pushL new _ (len.mul ti.size) a (by rw [b]; simpa [T.toList] using hol)
          have hr : RelT E (T.pushL new (T.pushL old .nil 0) (len.mul ti.size)) (olds ++ news) := RelT.of_list a' (by rw [b', b]; simpa [T.toList] using o1.append s1) (by
            intro v hv
            rcases List.mem_append.1 hv with hv | hv
            · exact o2 v hv
            · exact s2 v hv)
          exact append_grows (ty := ty) hu hti hzv hzs hbytes hn (by omega) hw (o4 w.drew rfl) o3 s3 hr
      · rename_i r0
        rcases bif_true hk with ⟨hc, hk⟩ | ⟨hc, hk⟩
        · obtain rfl := beq_eq' hc
          refine ⟨_, _, _, hk, Nat.le_refl _, fun E w S X ty hw hS hX => ?_⟩
          obtain ⟨news, s1, s2, s3⟩ := src E w X hw hX
          have hS' := hS
          obtain ⟨i, q, e1, e2, _, hle, rfl⟩ := hS
          have : news = [] := List.length_eq_zero_iff.1 (by rw [s3.newsLen]; simp)
          subst this
          exact ⟨E, w, _, Env.Le.refl E, fun _ _ => rfl, hw, hS', run_append_room_store hu hti _ _ _ _ _ _ s3 hle rfl⟩
        · replace hc := beq_ne hc
          replace hk := getK_true hk
          obtain ⟨b, hb, hk⟩ := hk
          split at hk
          · rename_i c m ex rw' e'
            split at hk
            · replace hk := cond_true hk
              obtain ⟨hcc, hk⟩ := hk
              obtain ⟨c1, c2⟩ := and2 hcc
              obtain rfl := beq_eq' c1
              replace c2 : off + len * ti.size ≤ m := ble_le c2
              replace hk := tailK_true hk
              obtain ⟨c', hk, hc'⟩ := hk
              rw [forceN_eq] at hk
              obtain ⟨_, hk⟩ := setK_true (show T.setK _ (F _) h id _ = true from hk)
              rw [newK_eq] at hk
              refine ⟨_, _, _, hk, Nat.le_succ _, fun E w S X ty hw hS hX => ?_⟩
              obtain ⟨news, s1, s2, s3⟩ := src E w X hw hX
              obtain ⟨i, q, e1, e2, eAt, hle, rfl⟩ := hS
              simp only [Cap.Rel] at e2
              simp only [Cap.At] at eAt
              obtain ⟨obj, hobj, cs, lo, hi, L, rfl, rL, hL, hcells, hesz, hcap, hex, hrw⟩ := hw.obj id i _ e1 hb rfl
              have hsz : sizeP P e = ti.size := by simp [sizeP, hti, forceN_eq]
              rw [hsz] at hesz
              obtain ⟨wf, el⟩ := rL.wf
              obtain ⟨rl, one⟩ := rL.toList
              obtain ⟨wf', el'⟩ := hc' wf (by rw [← el, hL]) c2
              -- the cells of the slice, old and new
              have hol : ((L.drop off).take (len * ti.size)).length = len * ti.size := by simp; omega
              have hr : RelT E c' ((L.drop off).take (len * ti.size) ++ news) := RelT.of_list wf' (by rw [el']; exact (((rl.drop off).take _).append s1)) (by
                intro v hv
                rcases List.mem_append.1 hv with hv | hv
                · exact one v (List.mem_of_mem_drop (List.mem_of_mem_take hv))
                · exact s2 v hv)
              have hcell : ∀ (j : Nat) (v : Value), L[j]? = some v → w.cell? ⟨i.blk, i.base + j, none⟩ = some v := fun j v hv => by
                have hj : j < m := by rw [← hL]; exact (List.getElem?_eq_some_iff.1 hv).1
                simp [World.cell?, hobj, hcells j hj, hv]
              by_cases room : len + n ≤ q
              · -- in place
                have hcs : i.base + off + (len + n) * ti.size ≤ cs.size := by
                  have h1 : (len + n) * ti.size ≤ q * ti.size := Nat.mul_le_mul_right _ room
                  have h2 : i.cap * i.esz = q * ti.size + r0 * ti.size := by rw [← e2, hesz, Nat.add_mul]
                  rw [hesz] at eAt
                  omega
                have hcell2 : ∀ j, j < news.length → (w.cell? ⟨i.blk, i.base + off + len * ti.size + 0 + j, none⟩).isSome = true := by
                  intro j hj
                  rw [s3.newsLen] at hj
                  rw [Nat.add_mul] at hcs
                  have hlt : i.base + off + len * ti.size + 0 + j < cs.size := by omega
                  simp [World.cell?, hobj]
                  omega
                have hfro : ∀ j, j < news.length → w.frozen? ⟨i.blk, i.base + off + len * ti.size + 0 + j, none⟩ = false := by
                  intro j hj
                  rw [s3.newsLen] at hj
                  rw [Nat.add_mul] at hcs
                  have := hrw rfl (i.base + off + len * ti.size + 0 + j) (by omega)
                  simp only [World.frozen?, hobj]
                  simp only [Bool.and_eq_false_iff, decide_eq_false_iff_not]
                  by_cases c : lo ≤ i.base + off + len * ti.size + 0 + j
                  · right; intro d; exact this ⟨c, d⟩
                  · left; exact c
                have hst := run_storeCells_cells (P := P) i.blk (i.base + off + len * ti.size) news 0 w hcell2 hfro s2
                obtain ⟨cs', b1, b2, b3, b4, b5, b6, b7, b8⟩ := setCells_heap i.blk e (lo, hi) news (i.base + off + len * ti.size + 0) w cs hobj (by rw [s3.newsLen]; rw [Nat.add_mul] at hcs; omega)
                have hrun := run_append_room_store (ty := ty) hu hti ⟨i.blk, i.base + off, none⟩ len q X n news s3 room (by rw [addr_add]; exact hst)
                have hobj' : RelObj P E ⟨i.blk, i.base + off, q, ti.size⟩ (.cells c' ((len + n) * ti.size) false true e) (.cells cs' e (lo, hi)) := by
                  refine ⟨cs', lo, hi, _, rfl, hr, by rw [List.length_append, hol, s3.newsLen, Nat.add_mul], fun j hj => ?_, by rw [hsz], ?_, by simp, fun _ j hj => hrw rfl j (by omega)⟩
                  · show cs'[i.base + off + j]? = _
                    rw [b3]
                    rw [Nat.add_mul] at hj
                    by_cases c : len * ti.size ≤ j
                    · rw [if_pos (by rw [s3.newsLen]; omega), List.getElem?_append_right (by omega), hol]
                      congr 1; omega
                    · rw [if_neg (by omega), List.getElem?_append_left (by omega), List.getElem?_take, if_pos (by omega), List.getElem?_drop, ← hcells (off + j) (by omega), Nat.add_assoc]
                  · show i.base + off + q * ti.size ≤ cs'.size
                    have h2 : i.cap * i.esz = q * ti.size + r0 * ti.size := by rw [← e2, hesz, Nat.add_mul]
                    rw [hesz] at eAt
                    omega
                have hg := hw.graft (w' := w.setCells i.blk (i.base + off + len * ti.size + 0) news) (i' := ⟨i.blk, i.base + off, q, ti.size⟩) e1 hb rfl rfl b4 b5 b6 b7 b8 b1 rfl hobj'
                refine ⟨_, _, _, Env.le_put (hw.fresh (Nat.le_refl nx)), fun id hid => by simp [Env.put, Nat.ne_of_lt hid], hg, ⟨⟨i.blk, i.base + off, q, ti.size⟩, q, by simp [Env.put], rfl, by simp [Cap.At], room, rfl⟩, hrun⟩
              · -- a new row
                have hold : (Builtin.firstCells ti.size len (.slice (some ⟨i.blk, i.base + off, none⟩) len q)).run P w.drew = .ok ((L.drop off).take (len * ti.size)).toArray w.drew := by
                  have := run_loadCells_list (P := P) w.drew ⟨i.blk, i.base + off, none⟩ ((L.drop off).take (len * ti.size)) (fun j v hv => by
                    rw [addr_add, Nat.add_assoc]
                    exact hcell (off + j) v (drop_take_get _ _ _ _ _ hv))
                  rw [hol] at this
                  exact this
                exact append_grows (ty := ty) hu hti hzv hzs hbytes hn (by omega) (hw.kill id) hold hol s3 hr
            · exact (F_false hk).elim
          · exact (F_false hk).elim
          · exact (F_false hk).elim
    · exact (F_false hk).elim
  · exact (F_false hk).elim
end
end Go.Ev
/-! The operations are sound, part 18: copy, the other builtins, assertions. -/
namespace Go.Ev
open Go.RowKit (Below)
section
variable {P : Program} {N0 : Nat} {w0 : World} {tm : T AVal} {h : H} {nx : Nat} {o : Oper} {k : AVal → H → Nat → Bool}

theorem run_copy {w w' : World} {t ty e : TypeId} {ti : TypeInfo} {base : Option Addr} {dLen dCap n m : Nat} {X : Value} {cells : List Value} {rest : List TypeId}
    (ht : P.underlying t = some (.slice e)) (hi : P.info? e = some ti) (hl : (Builtin.lenOf X).run P w = .ok n w) (hm : Nat.min n dLen = m)
    (hf : (Builtin.firstCells ti.size m X).run P w = .ok cells.toArray w) (hs : (match base with | some a => (storeCells a cells).run P w = .ok () w' | none => w' = w)) :
    (Builtin.copy_ (t :: rest).toArray ty #[.slice base dLen dCap, X]).run P w = .ok (.int .i64 m) w' := by
  cases base with
  | none =>
    simp only at hs
    subst hs
    simp [Builtin.copy_, run_underlying ht, hl, hm, run_sizeOf' hi, hf, goInt]
  | some a =>
    simp only at hs
    simp [Builtin.copy_, run_underlying ht, hl, hm, run_sizeOf' hi, hf, goInt, hs]

theorem copyK_true {t : TypeId} {s x : AVal} {k' : AVal → H → Bool} (hk : copyK P F h t s x k' = true) :
    ∃ v h', k' v h' = true ∧ ∀ E w S X ty rest, HeapOk P N0 w0 E h nx w → Rel E s S → Rel E x X → ∃ w' cv, HeapOk P N0 w0 E h' nx w' ∧ Rel E v cv ∧
      (Builtin.copy_ (t :: rest).toArray ty #[S, X]).run P w = .ok cv w' := by
  unfold copyK at hk
  split at hk
  · rename_i e hu
    replace hk := szK_true hk
    obtain ⟨ti, hti, hne, hk⟩ := hk
    replace hk := lenA_true (P := P) hk
    obtain ⟨m, hk, m1, m2, m3, mlen⟩ := hk
    replace hk := lenA_true (P := P) hk
    obtain ⟨n, hk, n1, n2, n3, nlen⟩ := hk
    rw [forceN_eq] at hk
    replace hk := srcK_true (P := P) (N0 := N0) (w0 := w0) (nx := nx) hk
    obtain ⟨l, hk, hsrc⟩ := hk
    have src : ∀ E w X, HeapOk P N0 w0 E h nx w → Rel E x X → ∃ vs, RelL E l vs ∧ (∀ v ∈ vs, v.oneCell' = true) ∧ (Builtin.firstCells ti.size (Nat.min n m) X).run P w = .ok vs.toArray w := fun E w X hw hx => by
      obtain ⟨vs, v1, v2, v3, v4⟩ := hsrc E w X hw hx (fun e => by rw [n1 e]; exact Nat.zero_min _) (fun s e => by rw [n2 s e]; exact Nat.min_le_left _ _)
      exact ⟨vs, v1, v2, v4 w rfl⟩
    split at hk
    · refine ⟨_, _, hk, fun E w S X ty rest hw hS hX => ?_⟩
      obtain ⟨vs, v1, v2, v3⟩ := src E w X hw hX
      simp only [Rel] at hS
      subst hS
      obtain rfl := m1 rfl
      exact ⟨w, _, hw, rfl, run_copy hu hti (nlen E X w hX) rfl v3 rfl⟩
    · rename_i id off len cap
      replace hk := putCellsK_true hk
      obtain ⟨t1, q, ex, e', t2, hb, hset, hk⟩ := hk
      refine ⟨_, _, hk, fun E w S X ty rest hw hS hX => ?_⟩
      obtain ⟨vs, v1, v2, v3⟩ := src E w X hw hX
      obtain ⟨i, c, e1, _, _, _, rfl⟩ := hS
      obtain rfl := m3 _ _ _ _ rfl
      obtain ⟨w', r1, r2⟩ := store_cells hw e1 hb hset v1 v2
      exact ⟨w', _, r2, rfl, run_copy hu hti (nlen E X w hX) rfl v3 r1⟩
    · exact (F_false hk).elim
  · exact (F_false hk).elim

theorem exec_builtin {tmps : Array Value} {c : Call} {b : Builtin} (ho : o.op = .call c) (hb : c.callee = .builtin b) :
    execOp (ev tmps) o = builtin b c.argTypes o.type (c.args.map fun | .const _ => true | _ => false) (c.args.map (ev tmps)) := by
  simp only [execOp, ho, resolve, hb]
  rfl

theorem relL_map {E : Env} {l : List AVal} {tmps : Array Value} {args : Array Operand} (r : RelL E l (args.toList.map (ev tmps))) : ∃ vs, RelL E l vs ∧ args.map (ev tmps) = vs.toArray :=
  ⟨_, r, by rw [map_toArray]⟩

theorem argT {c : Call} {t : TypeId} {rest : List TypeId} (h : c.argTypes.toList = t :: rest) : c.argTypes = (t :: rest).toArray := by
  rw [← h]

theorem sound_builtin {c : Call} {b : Builtin} (ho : o.op = .call c) (hb : c.callee = .builtin b) (hk : opK P tm F h nx (.call c) o.type k = true) : OpGoal P N0 w0 tm h nx o k := by
  simp only [opK, hb] at hk
  replace hk := evL_true hk
  obtain ⟨args, hk, ha⟩ := hk
  have hrun : ∀ tmps, execOp (ev tmps) o = builtin b c.argTypes o.type (c.args.map fun | .const _ => true | _ => false) (c.args.map (ev tmps)) := fun tmps => exec_builtin ho hb
  have hargs : ∀ E tmps, Globs P E → RelTm E tm tmps → ∃ vs, RelL E args vs ∧ c.args.map (ev tmps) = vs.toArray := fun E tmps g r => relL_map (ha E tmps g r)
  unfold opK.builtinK at hk
  have hb1 : ∀ v (h' : H) nx', k v h' nx' = true → h' = h → nx' = nx → (∀ E tmps w vs, HeapOk P N0 w0 E h nx w → RelL E args vs → c.args.map (ev tmps) = vs.toArray → ∃ cv, Rel E v cv ∧
      (builtin b c.argTypes o.type (c.args.map fun | .const _ => true | _ => false) vs.toArray).run P w = .ok (.value cv) w) → OpGoal P N0 w0 tm h nx o k := by
    intro v h' nx' hk' e1 e2 hh
    subst e1; subst e2
    refine ⟨_, _, _, hk', OpOk.pure fun E tmps w r hw => ?_⟩
    obtain ⟨vs, v1, v2⟩ := hargs E tmps hw.globs r
    obtain ⟨cv, q1, q2⟩ := hh E tmps w vs hw v1 v2
    exact ⟨cv, q1, by rw [hrun, v2]; exact q2⟩
  have bind_und : ∀ {u : TypeDesc}, (c.argTypes[0]?).bind P.underlying = some u → ∃ t, c.argTypes[0]? = some t ∧ P.underlying t = some u := by
    intro u hu
    cases ht : c.argTypes[0]? with
    | none => rw [ht] at hu; cases hu
    | some t => rw [ht] at hu; exact ⟨t, rfl, hu⟩
  split at hk
  · -- len
    split at hk
    · rename_i hu
      obtain ⟨t, ht, hu⟩ := bind_und hu
      rw [lengthK_eq, Nat.zero_add] at hk
      refine hb1 _ _ _ hk rfl rfl fun E tmps w vs hw hv _ => ?_
      obtain ⟨_, _, ⟨s, rfl, e⟩, rfl, rfl⟩ := hv
      refine ⟨_, rfl, ?_⟩
      have : (s.size : Int) = ((List.length (s.data.toList.map UInt8.toNat) : Nat) : Int) := by simp
      simp only [builtin, Builtin.len_, ht, List.getElem?_toArray, List.getElem?_cons_zero, Sem.run_bind, run_underlying hu, Result.andThen_ok, Sem.run_pure, goInt, this, e]
      rfl
    · rename_i hu
      obtain ⟨t, ht, hu⟩ := bind_und hu
      refine hb1 _ _ _ hk rfl rfl fun E tmps w vs hw hv _ => ?_
      obtain ⟨_, _, rfl, rfl, rfl⟩ := hv
      refine ⟨_, rfl, ?_⟩
      simp only [builtin, Builtin.len_, ht, List.getElem?_toArray, List.getElem?_cons_zero, Sem.run_bind, run_underlying hu, Result.andThen_ok, Sem.run_pure, goInt]
      rfl
    · rename_i hu
      obtain ⟨t, ht, hu⟩ := bind_und hu
      refine hb1 _ _ _ hk rfl rfl fun E tmps w vs hw hv _ => ?_
      obtain ⟨_, _, ⟨i, q, _, _, _, _, rfl⟩, rfl, rfl⟩ := hv
      refine ⟨_, rfl, ?_⟩
      simp only [builtin, Builtin.len_, ht, List.getElem?_toArray, List.getElem?_cons_zero, Sem.run_bind, run_underlying hu, Result.andThen_ok, Sem.run_pure, goInt]
      rfl
    · exact (F_false hk).elim
  · -- cap
    split at hk
    · rename_i hu
      obtain ⟨t, ht, hu⟩ := bind_und hu
      refine hb1 _ _ _ hk rfl rfl fun E tmps w vs hw hv _ => ?_
      obtain ⟨_, _, rfl, rfl, rfl⟩ := hv
      refine ⟨_, rfl, ?_⟩
      simp only [builtin, Builtin.cap_, ht, List.getElem?_toArray, List.getElem?_cons_zero, Sem.run_bind, run_underlying hu, Result.andThen_ok, Sem.run_pure, goInt]
      rfl
    · rename_i hu
      obtain ⟨t, ht, hu⟩ := bind_und hu
      refine hb1 _ _ _ hk rfl rfl fun E tmps w vs hw hv _ => ?_
      obtain ⟨_, _, ⟨i, q, _, hq, _, _, rfl⟩, rfl, rfl⟩ := hv
      simp only [Cap.Rel] at hq
      subst hq
      refine ⟨_, rfl, ?_⟩
      simp only [builtin, Builtin.cap_, ht, List.getElem?_toArray, List.getElem?_cons_zero, Sem.run_bind, run_underlying hu, Result.andThen_ok, Sem.run_pure, goInt]
      rfl
    · exact (F_false hk).elim
  · -- append
    rename_i s x
    have go : ∀ t xt, c.argTypes.toList = [t, xt] → (∃ e', P.underlying xt = some (.slice e')) ∨ P.underlying xt = some .string → appendK P F h nx t s x k = true → OpGoal P N0 w0 tm h nx o k := by
      intro t xt hat hxt hk
      obtain ⟨v, h', nx', hk, hle, hh⟩ := appendK_true (N0 := N0) (w0 := w0) hxt hk
      refine ⟨v, h', nx', hk, OpOk.heavy (by rw [ho]; simp [isHeavy, hb]) hle fun E tmps w r hw => ?_⟩
      obtain ⟨vs, v1, v2⟩ := hargs E tmps hw.globs r
      obtain ⟨S, _, hS, ⟨X, _, hX, rfl, rfl⟩, rfl⟩ := v1
      obtain ⟨E', w', cv, a1, a2, a3, a4, a5⟩ := hh E w S X o.type hw hS hX
      refine ⟨E', w', cv, a1, a2, a3, a4, .inl ?_⟩
      rw [hrun, v2, argT hat]
      simp only [builtin, Sem.run_bind, a5, Result.andThen_ok, Sem.run_pure]
    split at hk
    · rename_i t xt hat
      split at hk
      · rename_i e' hu
        exact go t xt hat (.inl ⟨e', hu⟩) hk
      · rename_i hu
        exact go t xt hat (.inr hu) hk
      · exact (F_false hk).elim
    · exact (F_false hk).elim
  · -- copy
    rename_i s x
    split at hk
    · rename_i t rest hat
      replace hk := copyK_true (N0 := N0) (w0 := w0) (nx := nx) hk
      obtain ⟨v, h', hk, hh⟩ := hk
      refine ⟨v, h', nx, hk, OpOk.heavy (by rw [ho]; simp [isHeavy, hb]) (Nat.le_refl _) fun E tmps w r hw => ?_⟩
      obtain ⟨vs, v1, v2⟩ := hargs E tmps hw.globs r
      obtain ⟨S, _, hS, ⟨X, _, hX, rfl, rfl⟩, rfl⟩ := v1
      obtain ⟨w', cv, a1, a2, a3⟩ := hh E w S X o.type rest hw hS hX
      refine ⟨E, w', cv, Env.Le.refl E, fun _ _ => rfl, a1, a2, .inl ?_⟩
      rw [hrun, v2, argT hat]
      simp only [builtin, Sem.run_bind, a3, Result.andThen_ok, Sem.run_pure]
    · exact (F_false hk).elim
  · -- min
    rename_i ka a kb b
    refine hb1 _ _ _ hk rfl rfl fun E tmps w vs hw hv _ => ?_
    obtain ⟨_, _, rfl, ⟨_, _, rfl, rfl, rfl⟩, rfl⟩ := hv
    refine ⟨_, rfl, ?_⟩
    rw [ltI_eq]
    simp only [builtin, Builtin.min_, List.foldlM_cons, List.foldlM_nil, Builtin.min2, Sem.run_bind, Sem.run_pure, Result.andThen_ok]
    congr 3
    by_cases c : b < a <;> simp [c]
  · -- max
    rename_i ka a kb b
    refine hb1 _ _ _ hk rfl rfl fun E tmps w vs hw hv _ => ?_
    obtain ⟨_, _, rfl, ⟨_, _, rfl, rfl, rfl⟩, rfl⟩ := hv
    refine ⟨_, rfl, ?_⟩
    rw [ltI_eq]
    simp only [builtin, Builtin.max_, List.foldlM_cons, List.foldlM_nil, Builtin.max2, Sem.run_bind, Sem.run_pure, Result.andThen_ok]
    congr 3
    by_cases c : a < b <;> simp [c]
  · -- unsafe.SliceData of nil
    refine hb1 _ _ _ hk rfl rfl fun E tmps w vs hw hv _ => ?_
    obtain ⟨_, _, rfl, rfl, rfl⟩ := hv
    exact ⟨_, rfl, rfl⟩
  · -- unsafe.SliceData
    rename_i id off n cap
    replace hk := cond_true hk
    obtain ⟨hn, hk⟩ := hk
    replace hn := ble_le hn
    refine hb1 _ _ _ hk rfl rfl fun E tmps w vs hw hv _ => ?_
    obtain ⟨_, _, ⟨i, q, e1, _, _, hle, rfl⟩, rfl, rfl⟩ := hv
    refine ⟨_, ⟨i, e1, rfl⟩, ?_⟩
    have hq : q ≠ 0 := by omega
    have := Go.Lib.run_unsafeSliceData_row (P := P) w c.argTypes o.type ⟨i.blk, i.base + off, none⟩ n q hq
    simp only [builtin, Sem.run_bind, this, Result.andThen_ok, Sem.run_pure]
  · -- unsafe.String
    rename_i id off ki n
    split at hk
    · rename_i pt rest hat
      split at hk
      · rename_i e hu
        replace hk := getK_true hk
        obtain ⟨b, hbk, hk⟩ := hk
        split at hk
        · rename_i c' m ex rw' e'
          replace hk := cond_true hk
          obtain ⟨hc, hk⟩ := hk
          simp only [Bool.and_eq_true] at hc
          obtain ⟨⟨⟨⟨⟨c1, c2⟩, c3⟩, c4⟩, c5⟩, c6⟩ := hc
          subst c1
          obtain rfl := beq_eq' c2
          replace c3 := beq_eq' c3
          replace c4 : off + n ≤ m := ble_le c4
          replace c5 := ble_le c5
          replace c6 := ble_le c6
          rw [T.colK_eq] at hk
          replace hk := bytes_of hk
          obtain ⟨s, hk, hcol, hs⟩ := hk
          obtain ⟨_, hk⟩ := setK_true (show T.setK _ (F _) h id _ = true from hk)
          refine ⟨_, _, _, hk, OpOk.heavy (by rw [ho]; simp [isHeavy, hb]) (Nat.le_refl _) fun E tmps w r hw => ?_⟩
          obtain ⟨vs, v1, v2⟩ := hargs E tmps hw.globs r
          obtain ⟨_, _, ⟨i, e1, rfl⟩, ⟨_, _, rfl, rfl, rfl⟩, rfl⟩ := v1
          obtain ⟨obj, hobj, cs, lo, hi, L, rfl, rL, hL, hcells, hesz, hcap, hex, hrw⟩ := hw.obj id i _ e1 hbk rfl
          obtain ⟨p1, p2⟩ := relT_part rL off n
          rw [hcol] at p1
          have hv := relL_bytes p1
          have hslen : s.length = n := by
            have := congrArg List.length hv
            simp at this
            omega
          have hoff : i.base + off + n ≤ cs.size := by
            have h1 := hcells (off + n - 1) (by omega)
            have h2 : L[off + n - 1]? ≠ none := by
              intro c; rw [List.getElem?_eq_none_iff] at c; omega
            rw [← h1] at h2
            rcases Nat.lt_or_ge (i.base + (off + n - 1)) cs.size with h | h
            · omega
            · exact absurd (Array.getElem?_eq_none h) h2
          have hce : P.cellsOf e = 1 := by rw [← sizeP_eq]; exact c3
          have hlies : liesAt P P.depth e (cs.size / P.cellsOf e) (i.base + off) e n = true := liesAt_bytes' hce _ _ _ (by rw [hce, Nat.div_one]; exact hoff)
          have hload : (loadBytes ⟨i.blk, i.base + off, none⟩ .empty n).run P w = .ok ⟨(s.map fun b => UInt8.ofNat b).toArray⟩ w := by
            have := Go.Lib.run_loadBytes (P := P) w (s.map fun b => UInt8.ofNat b) ⟨i.blk, i.base + off, none⟩ .empty (fun j x hx => by
              rw [List.getElem?_map] at hx
              cases hsj : s[j]? with
              | none => rw [hsj] at hx; cases hx
              | some b =>
                rw [hsj] at hx
                simp only [Option.map_some, Option.some.injEq] at hx
                subst hx
                have hjn : j < n := by rw [← hslen]; exact (List.getElem?_eq_some_iff.1 hsj).1
                have hLj : L[off + j]? = some (Value.int .u8 (Int.ofNat b)) := by
                  apply drop_take_get L off n j
                  rw [hv, List.getElem?_map, hsj]; rfl
                have hb256 : b < 256 := hs b (List.mem_of_getElem? hsj)
                rw [addr_add, Nat.add_assoc]
                simp only [World.cell?, hobj, hcells (off + j) (by omega), hLj]
                simp [Nat.mod_eq_of_lt hb256])
            simp only [List.length_map, hslen] at this
            rw [this]
            simp
          refine ⟨E, w.freeze ⟨i.blk, i.base + off, none⟩ n, .string ⟨(s.map fun b => UInt8.ofNat b).toArray⟩, Env.Le.refl E, fun _ _ => rfl, ?_, ⟨_, rfl, by simpa using toNat_bytes hs⟩, .inl ?_⟩
          · have hne : n ≠ 0 := by omega
            have hfz : (w.freeze ⟨i.blk, i.base + off, none⟩ n) = { w with heap := w.heap.modify i.blk fun
                | .cells c elem (lo, hi) => .cells c elem (if lo == hi then (i.base + off, i.base + off + n) else (min lo (i.base + off), max hi (i.base + off + n)))
                | o => o } := by simp only [World.freeze, if_neg hne]; rfl
            refine hw.set (o := .cells cs e (if lo == hi then (i.base + off, i.base + off + n) else (min lo (i.base + off), max hi (i.base + off + n)))) e1 hbk rfl rfl ?_ ?_ ?_ ?_ ?_ ?_ ?_
            · intro j hj
              rw [hfz]
              simp only [Array.getElem?_modify]
              rw [if_neg (by simpa using Ne.symm hj)]
            · rw [hfz]; simp
            · rw [hfz]
            · rw [hfz]
            · rw [hfz]
            · rw [hfz]
              simp only [Array.getElem?_modify, if_true, hobj, Option.map_some]
            · generalize (if lo == hi then (i.base + off, i.base + off + n) else (min lo (i.base + off), max hi (i.base + off + n))) = fr
              obtain ⟨a, b⟩ := fr
              exact ⟨cs, a, b, L, rfl, rL, hL, hcells, hesz, hcap, hex, by simp⟩
          · rw [hrun, v2, argT hat]
            have hn0 : ¬ ((n : Int) < 0) := by omega
            have hn1 : ¬ ((n : Int) > IntKind.i64.max) := by
              have : IntKind.i64.max = 9223372036854775807 := by decide
              rw [this]; omega
            have hn2 : ¬ ((n : Int) = 0) := by omega
            have hvar : (variablesAt ⟨i.blk, i.base + off, none⟩ e n).run P w = .ok true w := by
              simp only [variablesAt, Sem.run_bind, program, Sem.run, Result.andThen_ok, shape, World.shape?, hobj, Sem.run_pure]
              simp [hlies]
            have hel : (elemOf pt).run P w = .ok e w := by simp [elemOf, run_underlying hu]
            obtain ⟨far, hdef⟩ : ∃ far, Builtin.unsafeString_ (pt :: rest).toArray o.type #[.pointer (some ⟨i.blk, i.base + off, none⟩), .int ki (n : Int)] =
              (do
                let n ← asInt (.int ki (n : Int))
                if n < 0 then runtimePanic far
                if n > IntKind.i64.max then unsupported (.unsafePointer "String: a length above the largest int")
                if n = 0 then pure (.string .empty)
                else if ← variablesAt ⟨i.blk, i.base + off, none⟩ (← elemOf pt) n.toNat then do
                  let s ← loadBytes ⟨i.blk, i.base + off, none⟩ .empty n.toNat
                  freeze ⟨i.blk, i.base + off, none⟩ n.toNat
                  pure (.string s)
                else unsupported (.unsafePointer "String: not so many bytes at ptr")) := ⟨_, rfl⟩
            have hmax : IntKind.i64.max = 9223372036854775807 := rfl
            have h63' : ¬ (9223372036854775807 : Int) < (n : Int) := by omega
            have hne : n ≠ 0 := by omega
            show (do pure (.value (← Builtin.unsafeString_ (pt :: rest).toArray o.type #[.pointer (some ⟨i.blk, i.base + off, none⟩), .int ki (n : Int)])) : Sem Next).run P w = _
            rw [hdef]
            simp [asInt, asIntOf, hmax, h63', hn0, hne, hel, hvar, hload]
        · exact (F_false hk).elim
      · exact (F_false hk).elim
    · exact (F_false hk).elim
  · -- unsafe.String of nothing
    split at hk
    · rename_i pt rest hat
      refine hb1 _ _ _ hk rfl rfl fun E tmps w vs hw hv _ => ?_
      obtain ⟨_, _, rfl, ⟨_, _, rfl, rfl, rfl⟩, rfl⟩ := hv
      refine ⟨_, ⟨ByteArray.empty, rfl, rfl⟩, ?_⟩
      rw [argT hat]
      rfl
    · exact (F_false hk).elim
  · exact (F_false hk).elim
end
end Go.Ev
/-! The operations are sound, part 19: assertions; all of them. -/
namespace Go.Ev
open Go.RowKit (Below)
section
variable {P : Program} {N0 : Nat} {w0 : World} {tm : T AVal} {h : H} {nx : Nat} {o : Oper} {k : AVal → H → Nat → Bool}

theorem sound_typeAssert {x : Operand} {st t : TypeId} {ok : Bool} (ho : o.op = .typeAssert x st t ok) (hk : opK P tm F h nx (.typeAssert x st t ok) o.type k = true) : OpGoal P N0 w0 tm h nx o k := by
  simp only [opK] at hk
  split at hk
  · exact (F_false hk).elim
  · exact (F_false hk).elim
  rename_i u hni hu
  split at hk
  · exact (F_false hk).elim
  rename_i z hz
  replace hk := evK_true hk
  obtain ⟨a, hk, ha⟩ := hk
  have fails : ∀ (v : AVal), v = .tuple [z, .bool false] → ∀ E w, ∃ cv, Rel E v cv ∧ (do pure (.tuple #[← zeroValue t, .bool false]) : Sem Value).run P w = .ok cv w := by
    intro v hv E w
    subst hv
    obtain ⟨zv, h1, h2, _⟩ := zeroP_run hz E w
    exact ⟨_, ⟨[zv, .bool false], ⟨zv, _, h2, ⟨_, _, rfl, rfl, rfl⟩, rfl⟩, rfl⟩, by simp [h1]⟩
  split at hk
  · rename_i t' w'
    rcases bif_true hk with ⟨hc, hk1⟩ | ⟨hc, hk⟩
    · clear hk
      replace hc := beq_eq' hc
      subst hc
      refine ⟨_, _, _, hk1, OpOk.pure fun E tmps w r hw => ?_⟩
      obtain ⟨y, ry, eX⟩ := ha E tmps hw.globs r
      refine ⟨if ok then .tuple #[y, .bool true] else y, ?_, ?_⟩
      · cases ok
        · exact ry
        · exact ⟨[y, .bool true], ⟨y, _, ry, ⟨_, _, rfl, rfl, rfl⟩, rfl⟩, rfl⟩
      · simp only [execOp, ho, Instr.typeAssert, Sem.run_bind, run_underlying hu, Result.andThen_ok, eX]
        cases u <;> first | (exact absurd rfl (hni _)) | (simp; done)
    · replace hc := beq_ne hc
      rcases bif_true hk with ⟨hok, hk⟩ | ⟨_, hk⟩
      · refine ⟨_, _, _, hk, OpOk.pure fun E tmps w r hw => ?_⟩
        obtain ⟨y, ry, eX⟩ := ha E tmps hw.globs r
        obtain ⟨cv, f1, f2⟩ := fails _ rfl E w
        refine ⟨cv, f1, ?_⟩
        simp only [execOp, ho, Instr.typeAssert, Sem.run_bind, run_underlying hu, Result.andThen_ok, eX, hok]
        cases u <;> first | (exact absurd rfl (hni _)) | (simp only [hc, if_false, if_true]; rw [f2]; rfl)
      · exact (F_false hk).elim
  · rcases bif_true hk with ⟨hok, hk⟩ | ⟨_, hk⟩
    · refine ⟨_, _, _, hk, OpOk.pure fun E tmps w r hw => ?_⟩
      have eX := ha E tmps hw.globs r
      simp only [Rel] at eX
      obtain ⟨cv, f1, f2⟩ := fails _ rfl E w
      refine ⟨cv, f1, ?_⟩
      simp only [execOp, ho, Instr.typeAssert, Sem.run_bind, run_underlying hu, Result.andThen_ok, eX, hok]
      cases u <;> first | (exact absurd rfl (hni _)) | (simp only [if_true]; rw [f2]; rfl)
    · exact (F_false hk).elim
  · exact (F_false hk).elim

theorem opK_sound (hk : opK P tm F h nx o.op o.type k = true) : OpGoal P N0 w0 tm h nx o k := by
  cases ho : o.op <;> rw [ho] at hk
  case move x => simp only [opK] at hk; exact sound_move (.inl ho) hk
  case assign x => simp only [opK] at hk; exact sound_move (.inr ho) hk
  case pick => exact sound_pick ho hk
  case alloc => exact sound_alloc ho hk
  case box => exact sound_box ho hk
  case build => exact sound_build ho hk
  case buildSlice => exact sound_buildSlice ho hk
  case load => exact sound_load ho hk
  case store => exact sound_store ho hk
  case nilCheck => exact sound_nilCheck ho hk
  case binOp => exact sound_binOp ho hk
  case unOp => exact sound_unOp ho hk
  case convert => exact sound_convert ho hk
  case makeInterface => exact sound_makeInterface ho hk
  case makeFunc => exact sound_makeFunc ho hk
  case makeMap => exact sound_makeMap ho hk
  case makeSlice => exact sound_makeSlice ho hk
  case slice => exact sound_slice ho hk
  case fieldAddr => exact sound_fieldAddr ho hk
  case field => exact sound_field ho hk
  case indexAddr => exact sound_indexAddr ho hk
  case index => exact sound_index ho hk
  case lookup => exact sound_lookup ho hk
  case mapUpdate => exact sound_mapUpdate (.inl ho) hk
  case insert => simp only [opK] at hk; exact sound_mapUpdate (.inr ho) (by simpa only [opK] using hk)
  case typeAssert => exact sound_typeAssert ho hk
  case extract => exact sound_extract ho hk
  case call c =>
    cases hc : c.callee with
    | builtin b => exact sound_builtin ho hc hk
    | value f => simp only [opK, hc] at hk; exact (F_false hk).elim
    | invoke r m => simp only [opK, hc] at hk; exact (F_false hk).elim
  all_goals (simp only [opK] at hk; exact (F_false hk).elim)
end
end Go.Ev
