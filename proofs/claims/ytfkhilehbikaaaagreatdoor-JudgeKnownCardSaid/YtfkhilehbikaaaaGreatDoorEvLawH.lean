/-
  A part of the proof that the evaluator is sound: what it answers, the model's run answers. No condition.
-/
import Derived.Test.YtfkhilehbikaaaaGreatDoorEvLawG
import Derived.RangeFuncIn
import Derived.AtR
set_option linter.all false
/-! Regions that draw their order: every order that the machine draws is a schedule. -/
namespace Go.Ev
open Go.RowKit (Below)
section
variable {P : Program} {all : Array Oper}

theorem opAt_get {i : Nat} (h : i < all.size) : all[i]? = some (opAt all i) := by
  unfold opAt
  rw [Array.getD_eq_getD_getElem?, Array.getElem?_eq_getElem h]
  rfl

theorem least_unlisted {listed : Array Bool} : ∀ n i, i < n → i < all.size → listed.getD i true = false → ∃ j, j < all.size ∧ listed.getD j true = false ∧ ∀ k, k < j → listed.getD k true = true
  | 0, _, h, _, _ => by omega
  | n + 1, i, h, hi, hu => by
    by_cases c : ∃ k, k < i ∧ listed.getD k true = false
    · obtain ⟨k, hk, hku⟩ := c
      exact least_unlisted n k (by omega) (by omega) hku
    · refine ⟨i, hi, hu, fun k hk => ?_⟩
      cases hb : listed.getD k true with
      | true => rfl
      | false => exact absurd ⟨k, hk, hb⟩ c

theorem lin_go (pl : Plan all) : ∀ (fuel t : Nat) (listed : Array Bool), listed.size = all.size → ((List.range all.size).filter fun i => !listed.getD i true).length = fuel →
    (Region.linearise.go .any all fuel t listed []).Nodup ∧ (∀ i, i ∈ Region.linearise.go .any all fuel t listed [] ↔ i < all.size ∧ listed.getD i true = false) ∧
      ∀ p i q, Region.linearise.go .any all fuel t listed [] = p ++ i :: q → ∀ e ∈ (opAt all i).after, Region.binds .any e = true → e.on ∈ p ∨ listed.getD e.on false = true
  | 0, t, listed, hs, hf => by
    have hnone : ∀ i, i < all.size → listed.getD i true = true := by
      intro i hi
      have := List.length_eq_zero_iff.1 hf
      rw [List.filter_eq_nil_iff] at this
      simpa using this i (by simpa using hi)
    simp only [Region.linearise.go, List.reverse_nil]
    refine ⟨List.nodup_nil, fun i => ⟨fun h => (by cases h), fun ⟨h1, h2⟩ => by rw [hnone i h1] at h2; cases h2⟩, fun p i q h => by simp at h⟩
  | fuel + 1, t, listed, hs, hf => by
    -- something is ready
    have hex : ∃ i, i < all.size ∧ listed.getD i true = false := by
      have hne : ((List.range all.size).filter fun i => !listed.getD i true) ≠ [] := by
        intro c; rw [c] at hf; simp at hf
      obtain ⟨i, hi⟩ := List.exists_mem_of_ne_nil _ hne
      rw [List.mem_filter] at hi
      exact ⟨i, by simpa using hi.1, by simpa using hi.2⟩
    obtain ⟨i0, hi0, hu0⟩ := hex
    obtain ⟨j, hj, hju, hmin⟩ := least_unlisted (all := all) _ i0 (Nat.lt_succ_self _) hi0 hu0
    have hready : j ∈ Region.ready .any all listed := by
      rw [mem_ready]
      refine ⟨hju, _, opAt_get hj, fun e he hb => ?_⟩
      have hlt := pl.topo j hj e he hb
      have := hmin e.on hlt
      have hsz : e.on < listed.size := by omega
      rw [Array.getD_eq_getD_getElem?, Array.getElem?_eq_getElem hsz] at this ⊢
      simpa using this
    have hgo : Region.linearise.go .any all (fuel + 1) t listed [] = (match (Region.ready .any all listed)[t % (Region.ready .any all listed).length]? with
      | some i => Region.linearise.go .any all fuel (t / (Region.ready .any all listed).length) (listed.setIfInBounds i true) [i]
      | none => [].reverse) := rfl
    have hlen : 0 < (Region.ready .any all listed).length := List.length_pos_of_mem hready
    have hlt : t % (Region.ready .any all listed).length < (Region.ready .any all listed).length := Nat.mod_lt _ hlen
    rw [List.getElem?_eq_getElem hlt] at hgo
    generalize hi' : (Region.ready .any all listed)[t % (Region.ready .any all listed).length] = i at hgo
    have hir : i ∈ Region.ready .any all listed := by rw [← hi']; exact List.getElem_mem hlt
    rw [mem_ready] at hir
    obtain ⟨hiu, o, ho, hdeps⟩ := hir
    have hil : i < all.size := (Array.getElem?_eq_some_iff.1 ho).1
    have hoo : o = opAt all i := by have := opAt_get hil; rw [ho] at this; simpa using this
    subst hoo
    simp only at hgo
    rw [linearise_go_acc .any all fuel _ _ [i], List.reverse_singleton, List.singleton_append] at hgo
    have hisz : i < listed.size := by omega
    have hget : ∀ k d, (listed.setIfInBounds i true).getD k d = if k = i then true else listed.getD k d := by
      intro k d
      by_cases c : k = i
      · subst c; simp [hisz]
      · rw [if_neg c, Array.getD_eq_getD_getElem?, Array.getElem?_setIfInBounds_ne (Ne.symm c), ← Array.getD_eq_getD_getElem?]
    have hcount : ((List.range all.size).filter fun k => !(listed.setIfInBounds i true).getD k true).length = fuel := by
      have h1 : ((List.range all.size).filter fun k => !listed.getD k true) = ((List.range all.size).filter fun k => !listed.getD k true) := rfl
      have hnd : ((List.range all.size).filter fun k => !listed.getD k true).Nodup := List.Nodup.sublist List.filter_sublist List.nodup_range
      have hmem : i ∈ (List.range all.size).filter fun k => !listed.getD k true := by
        rw [List.mem_filter]; exact ⟨by simpa using hil, by simpa using hiu⟩
      have he : ((List.range all.size).filter fun k => !(listed.setIfInBounds i true).getD k true) = (((List.range all.size).filter fun k => !listed.getD k true).erase i) := by
        rw [List.Nodup.erase_eq_filter hnd, List.filter_filter]
        apply List.filter_congr
        intro k _
        rw [hget]
        by_cases c : k = i
        · subst c; simp
        · simp [c]
      rw [he, List.length_erase_of_mem hmem, hf]
      rfl
    obtain ⟨n1, n2, n3⟩ := lin_go pl fuel (t / (Region.ready .any all listed).length) (listed.setIfInBounds i true) (by simpa using hs) hcount
    rw [hgo]
    generalize Region.linearise.go .any all fuel (t / (Region.ready .any all listed).length) (listed.setIfInBounds i true) [] = L at *
    refine ⟨List.nodup_cons.2 ⟨fun c => ?_, n1⟩, fun k => ?_, fun p k q he e hm hb => ?_⟩
    · have := ((n2 i).1 c).2
      rw [hget, if_pos rfl] at this
      cases this
    · rw [List.mem_cons, n2 k, hget]
      by_cases c : k = i
      · subst c; simp [hil, hiu]
      · simp [c]
    · cases p with
      | nil =>
        injection he with h1 h2
        subst h1
        exact .inr (hdeps e hm hb)
      | cons p0 p =>
        injection he with h1 h2
        subst h1
        rcases n3 p k q h2 e hm hb with h | h
        · exact .inl (by simp [h])
        · rw [hget] at h
          by_cases c : e.on = i
          · exact .inl (by simp [c])
          · rw [if_neg c] at h
            exact .inr h

theorem sched_start (pl : Plan all) (t : Nat) : Sched all (Region.linearise .any all t) ∧ ∀ i, i < all.size → i ∈ Region.linearise .any all t := by
  have hall : ∀ i, i < all.size → (Array.replicate all.size false).getD i true = false := by
    intro i hi
    simp [hi]
  have hc : ((List.range all.size).filter fun i => !(Array.replicate all.size false).getD i true).length = all.size := by
    rw [List.filter_eq_self.2]
    · simp
    · intro i hi
      rw [hall i (by simpa using hi)]; rfl
  obtain ⟨n1, n2, n3⟩ := lin_go pl all.size t (Array.replicate all.size false) (by simp) hc
  have hin : ∀ i, i < all.size → i ∈ Region.linearise .any all t := fun i hi => (n2 i).2 ⟨hi, hall i hi⟩
  refine ⟨⟨n1, fun i hi => ((n2 i).1 hi).1, fun p i q he e hm hb => ?_, fun j hj hn => absurd (hin j hj) hn⟩, hin⟩
  rcases n3 p i q he e hm hb with h | h
  · exact .inl h
  · exfalso
    rw [Array.getD_eq_getD_getElem?] at h
    by_cases c : e.on < all.size
    · simp [c] at h
    · simp [c] at h
end
end Go.Ev
/-! Regions that draw their order: what holds while one runs. -/
namespace Go.Ev
open Go.RowKit (Below)
section
variable {P : Program} {all : Array Oper}

structure DrawInv (P : Program) (E : Env) (lo hi : Nat) (all : Array Oper) (b n : Nat) (rest : List Nat) (tm : T AVal) (tmps : Array Value) : Prop where
  sched : Sched all rest
  heavy : Heavy all n rest
  done : ∀ l, l < all.size → isHeavy (opAt all l).op = false → l ∉ rest → nbL all l < b
  slots : RelBut E (unsure all b rest) tm tmps
  ids : ∀ l ∈ pend all b rest, makesMem P (opAt all l).op = true → ∀ t id, (opAt all l).dst = some t → (tm.get t).bind headOf = some id → lo ≤ id ∧ id < hi ∧ E id = none
  apart : ∀ l ∈ pend all b rest, ∀ l' ∈ pend all b rest, makesMem P (opAt all l).op = true → makesMem P (opAt all l').op = true → ∀ t t' id, (opAt all l).dst = some t → (opAt all l').dst = some t' →
    (tm.get t).bind headOf = some id → (tm.get t').bind headOf = some id → l = l'

theorem DrawInv.mono {E E' : Env} {lo hi hi' b n : Nat} {rest : List Nat} {tm : T AVal} {tmps : Array Value} (d : DrawInv P E lo hi all b n rest tm tmps) (le : E.Le E')
    (hn : ∀ id, id < hi → E id = none → E' id = none) (hh : hi ≤ hi') : DrawInv P E' lo hi' all b n rest tm tmps :=
  ⟨d.sched, d.heavy, d.done, d.slots.mono le, fun l hl hm t id ht hid => let ⟨a, b, c⟩ := d.ids l hl hm t id ht hid; ⟨a, Nat.lt_of_lt_of_le b hh, hn id b c⟩, d.apart⟩

theorem mem_evals {n l : Nat} : l ∈ (stageOf (bfOf all) (heavies all) (lights all) n).evals ↔ l < all.size ∧ isHeavy (opAt all l).op = false ∧ nbL all l = n := by
  simp only [stageOf, List.mem_filter, mem_lights, Nat.beq_eq]
  constructor
  · rintro ⟨⟨a, b⟩, c⟩; exact ⟨a, b, c⟩
  · rintro ⟨a, b, c⟩; exact ⟨⟨a, b⟩, c⟩
theorem mem_checks {n l : Nat} : l ∈ (stageOf (bfOf all) (heavies all) (lights all) n).checks ↔ l < all.size ∧ isHeavy (opAt all l).op = false ∧ nbL all l ≤ n ∧ ∀ j ∈ (heavies all).take n, befB (bfOf all) j l = false := by
  simp only [stageOf, List.mem_filter, mem_lights, Bool.and_eq_true, Nat.ble_eq, List.all_eq_true, Bool.not_eq_true']
  constructor
  · rintro ⟨⟨a, b⟩, c, d⟩; exact ⟨a, b, c, d⟩
  · rintro ⟨a, b, c, d⟩; exact ⟨⟨a, b⟩, c, d⟩

theorem evals_apart (pl : Plan all) (n : Nat) : (stageOf (bfOf all) (heavies all) (lights all) n).evals.Pairwise fun i j => ∀ t, (opAt all i).dst = some t → (opAt all j).dst ≠ some t := by
  have hnd : (stageOf (bfOf all) (heavies all) (lights all) n).evals.Nodup := by
    simp only [stageOf, lights]
    exact (List.nodup_range.sublist List.filter_sublist).sublist List.filter_sublist
  rw [List.pairwise_iff_getElem]
  intro i j hi hj hij t ht
  have h1 := mem_evals.1 (List.getElem_mem hi)
  have h2 := mem_evals.1 (List.getElem_mem hj)
  exact pl.one _ _ h1.1 h2.1 ((List.pairwise_iff_getElem.1 hnd) i j hi hj hij) t ht

/-- the lights of stage n have been worked out -/
theorem DrawInv.evals (pl : Plan all) {N0 : Nat} {w0 w : World} {E : Env} {lo n : Nat} {rest : List Nat} {tm : T AVal} {tmps : Array Value} {h : H} {nx : Nat} {kk : T AVal → H → Nat → Bool}
    (d : DrawInv P E lo nx all n n rest tm tmps) (hlo : lo ≤ nx) (x : HeapOk P N0 w0 E h nx w) (hk : evalsK P all F kk (stageOf (bfOf all) (heavies all) (lights all) n).evals tm h nx = true) :
    ∃ tm' h' nx', kk tm' h' nx' = true ∧ nx ≤ nx' ∧ DrawInv P E lo nx' all (n + 1) n rest tm' tmps ∧ HeapOk P N0 w0 E h' nx' w := by
  obtain ⟨tm', h', nx', hk, c1, c2, c3, c4, c5, c6⟩ := evalsK_true hk (evals_apart pl n)
  have inrest : ∀ l, l ∈ (stageOf (bfOf all) (heavies all) (lights all) n).evals → l ∈ rest := by
    intro l hl
    obtain ⟨a, b, c⟩ := mem_evals.1 hl
    by_cases hr : l ∈ rest
    · exact hr
    · have := d.done l a b hr; omega
  have old : ∀ l, l ∈ pend all n rest → ∀ t, (opAt all l).dst = some t → tm'.get t = tm.get t := by
    intro l hl t ht
    obtain ⟨a, b, c⟩ := mem_pend.1 hl
    refine c2 t fun j hj hd => ?_
    obtain ⟨a', b', c'⟩ := mem_evals.1 hj
    have hne : l ≠ j := by intro e; subst e; omega
    exact pl.one l j (d.sched.lt l a) a' hne t ht hd
  have split : ∀ l, l ∈ pend all (n + 1) rest → l ∈ pend all n rest ∨ l ∈ (stageOf (bfOf all) (heavies all) (lights all) n).evals := by
    intro l hl
    obtain ⟨a, b, c⟩ := mem_pend.1 hl
    by_cases e : nbL all l < n
    · exact .inl (mem_pend.2 ⟨a, b, e⟩)
    · exact .inr (mem_evals.2 ⟨d.sched.lt l a, b, by omega⟩)
  refine ⟨tm', h', nx', hk, c1, ⟨d.sched, d.heavy, fun l a b c => Nat.lt_succ_of_lt (d.done l a b c), ⟨fun t y hy => ?_, fun t ht y hy => ?_⟩, fun l hl hm t id ht hid => ?_, fun l hl l' hl' hm hm' t t' id ht ht' hid hid' => ?_⟩, c4 _ _ _ _ x⟩
  · have := c3 t
    rw [hy] at this
    obtain ⟨z, hz⟩ := Option.isSome_iff_exists.1 this.symm
    exact d.slots.size t z hz
  · have e : tm'.get t = tm.get t := c2 t fun j hj hd => by
      obtain ⟨a', b', c'⟩ := mem_evals.1 hj
      exact ht (mem_unsure.2 ⟨j, inrest j hj, b', by omega, hd⟩)
    rw [e] at hy
    refine d.slots.rel t (fun c => ?_) y hy
    obtain ⟨l, a, b, c, hd⟩ := mem_unsure.1 c
    exact ht (mem_unsure.2 ⟨l, a, b, by omega, hd⟩)
  · rcases split l hl with hl | hl
    · rw [old l hl t ht] at hid
      obtain ⟨a, b, c⟩ := d.ids l hl hm t id ht hid
      exact ⟨a, by omega, c⟩
    · obtain ⟨a, b⟩ := c5 l hl hm t id ht hid
      exact ⟨by omega, b, x.fresh a⟩
  · rcases split l hl with hl | hl <;> rcases split l' hl' with hl' | hl'
    · rw [old l hl t ht] at hid
      rw [old l' hl' t' ht'] at hid'
      exact d.apart l hl l' hl' hm hm' t t' id ht ht' hid hid'
    · rw [old l hl t ht] at hid
      have := d.ids l hl hm t id ht hid
      have := c5 l' hl' hm' t' id ht' hid'
      omega
    · rw [old l' hl' t' ht'] at hid'
      have := d.ids l' hl' hm' t' id ht' hid'
      have := c5 l hl hm t id ht hid
      omega
    · obtain ⟨i, hi, hie⟩ := List.mem_iff_getElem.1 hl
      obtain ⟨j, hj, hje⟩ := List.mem_iff_getElem.1 hl'
      rw [List.pairwise_iff_getElem] at c6
      rcases Nat.lt_trichotomy i j with hij | hij | hij
      · have := c6 i j hi hj hij (by rw [hie]; exact hm) (by rw [hje]; exact hm') t t' id id (by rw [hie]; exact ht) (by rw [hje]; exact ht') hid hid'
        omega
      · subst hij; rw [← hie, ← hje]
      · have := c6 j i hj hi hij (by rw [hje]; exact hm') (by rw [hie]; exact hm) t' t id id (by rw [hje]; exact ht') (by rw [hie]; exact ht) hid' hid
        omega

/-- the next light has been carried out: its slot is sure -/
theorem DrawInv.light (pl : Plan all) {E E' : Env} {lo hi n l t : Nat} {rest : List Nat} {tm : T AVal} {tmps : Array Value} {u : AVal} {v : Value}
    (d : DrawInv P E lo hi all (n + 1) n (l :: rest) tm tmps) (hl : isHeavy (opAt all l).op = false) (ht : (opAt all l).dst = some t) (hu : tm.get t = some u) (le : E.Le E') (hr : Rel E' u v)
    (hn : ∀ id, E id = none → (∀ l' ∈ pend all (n + 1) rest, makesMem P (opAt all l').op = true → ∀ t', (opAt all l').dst = some t' → (tm.get t').bind headOf = some id → E' id = none)) :
    DrawInv P E' lo hi all (n + 1) n rest tm (tmps.setIfInBounds t v) := by
  have hnd := List.nodup_cons.1 d.sched.nodup
  have hlt := d.sched.lt l (by simp)
  have sub : ∀ l', l' ∈ pend all (n + 1) rest → l' ∈ pend all (n + 1) (l :: rest) := fun l' h => by
    obtain ⟨a, b, c⟩ := mem_pend.1 h
    exact mem_pend.2 ⟨by simp [a], b, c⟩
  refine ⟨d.sched.tail, fun m i hm => ?_, fun j hj hh hjr => ?_, ⟨fun t' y hy => by rw [Array.size_setIfInBounds]; exact d.slots.size t' y hy, fun t' ht' y hy => ?_⟩, fun l' hl' hm t' id h1 h2 => ?_, fun l1 h1 l2 h2 => d.apart l1 (sub l1 h1) l2 (sub l2 h2)⟩
  · rw [← d.heavy m i hm]
    have hne : i ≠ l := by
      intro e; subst e
      have := (mem_heavies.1 (List.mem_of_getElem? hm)).2
      rw [hl] at this; cases this
    simp [hne]
  · by_cases c : j = l
    · subst c
      exact Nat.lt_succ_of_le (nb_le pl d.heavy fun a hb => d.sched.before_head pl hb)
    · exact d.done j hj hh (by simp [c, hjr])
  · by_cases c : t' = t
    · subst c
      rw [hu] at hy
      obtain rfl : u = y := by simpa using hy
      have := d.slots.size t' u hu
      exact ⟨v, by simp [this], hr⟩
    · have hx : t' ∉ unsure all (n + 1) (l :: rest) := fun hc => by
        obtain ⟨l', a, b, e, f⟩ := mem_unsure.1 hc
        rcases List.mem_cons.1 a with rfl | a
        · rw [ht] at f; exact c (by simpa using f.symm)
        · exact ht' (mem_unsure.2 ⟨l', a, b, e, f⟩)
      obtain ⟨z, hz, hz'⟩ := d.slots.rel t' hx y hy
      exact ⟨z, by rw [Array.getElem?_setIfInBounds_ne (Ne.symm c)]; exact hz, hz'.mono le _⟩
  · obtain ⟨a, b, c⟩ := d.ids l' (sub l' hl') hm t' id h1 h2
    exact ⟨a, b, hn id c l' hl' hm t' h1 h2⟩

/-- the next heavy has been carried out -/
theorem DrawInv.heavyStep (pl : Plan all) {E E' : Env} {lo hi hi2 n i : Nat} {rest : List Nat} {tm tm' : T AVal} {tmps : Array Value} {u : AVal} {v : Value}
    (d : DrawInv P E lo hi all (n + 1) n (i :: rest) tm tmps) (hhv : isHeavy (opAt all i).op = true) (le : E.Le E') (hn : ∀ id, id < hi → E id = none → E' id = none) (hh : hi ≤ hi2) (hr : Rel E' u v)
    (p1 : ∀ t, (opAt all i).dst ≠ some t → tm'.get t = tm.get t) (p2 : ∀ t, (opAt all i).dst = some t → tm'.get t = some u) (p3 : ∀ t, (tm'.get t).isSome = (tm.get t).isSome) :
    DrawInv P E' lo hi2 all (n + 1) (n + 1) rest tm' (match (opAt all i).dst with | some t => tmps.setIfInBounds t v | none => tmps) := by
  have hnd := List.nodup_cons.1 d.sched.nodup
  have hlt := d.sched.lt i (by simp)
  have hat := head_heavy pl d.sched d.heavy hhv
  have pe : ∀ b, pend all b (i :: rest) = pend all b rest := fun b => by simp [pend, hhv]
  have ue : unsure all (n + 1) (i :: rest) = unsure all (n + 1) rest := by simp [unsure, pe]
  have slot : ∀ l, l ∈ pend all (n + 1) rest → ∀ t, (opAt all l).dst = some t → tm'.get t = tm.get t := by
    intro l hl t ht
    obtain ⟨a, b, c⟩ := mem_pend.1 hl
    refine p1 t fun hd => ?_
    have hne : l ≠ i := by intro e; subst e; rw [hhv] at b; cases b
    exact pl.one l i (d.sched.lt l (by simp [a])) hlt hne t ht hd
  have hnodup : (heavies all).Nodup := List.nodup_range.sublist List.filter_sublist
  refine ⟨d.sched.tail, fun m j hm => ?_, fun l hl hh' hlr => ?_, ⟨fun t y hy => ?_, fun t ht y hy => ?_⟩, fun l hl hm t id h1 h2 => ?_, fun l1 h1 l2 h2 m1 m2 t t' id a b c e => ?_⟩
  · have h0 := d.heavy m j hm
    by_cases c : j = i
    · subst c
      have hmn : m = n := by
        have h1 := (List.getElem?_eq_some_iff.1 hm).1
        have h2 := (List.getElem?_eq_some_iff.1 hat).1
        rcases Nat.lt_trichotomy m n with h | h | h
        · have := (List.pairwise_iff_getElem.1 hnodup) m n h1 h2 h
          rw [(List.getElem?_eq_some_iff.1 hm).2, (List.getElem?_eq_some_iff.1 hat).2] at this
          exact absurd rfl this
        · exact h
        · have := (List.pairwise_iff_getElem.1 hnodup) n m h2 h1 h
          rw [(List.getElem?_eq_some_iff.1 hm).2, (List.getElem?_eq_some_iff.1 hat).2] at this
          exact absurd rfl this
      subst hmn
      constructor
      · intro h; exact absurd h hnd.1
      · intro h; omega
    · have hne : m ≠ n := by
        intro e; subst e
        rw [hat] at hm; exact c (by simpa using hm.symm)
      have : j ∈ i :: rest ↔ j ∈ rest := by simp [c]
      rw [← this, h0]
      omega
  · have hne : l ≠ i := by intro e; subst e; rw [hhv] at hh'; cases hh'
    exact d.done l hl hh' (by simp [hne, hlr])
  · have := p3 t
    rw [hy] at this
    obtain ⟨z, hz⟩ := Option.isSome_iff_exists.1 this.symm
    have := d.slots.size t z hz
    cases (opAt all i).dst <;> simpa using this
  · rw [← ue] at ht
    by_cases c : (opAt all i).dst = some t
    · rw [p2 t c] at hy
      obtain rfl : u = y := by simpa using hy
      have hs : (tm.get t).isSome = true := by rw [← p3, p2 t c]; rfl
      obtain ⟨z, hz⟩ := Option.isSome_iff_exists.1 hs
      have := d.slots.size t z hz
      rw [c]
      exact ⟨v, by simp [this], hr⟩
    · rw [p1 t c] at hy
      obtain ⟨z, hz, hz'⟩ := d.slots.rel t ht y hy
      refine ⟨z, ?_, hz'.mono le _⟩
      cases hd : (opAt all i).dst with
      | none => exact hz
      | some t' =>
        have : t' ≠ t := by intro e; subst e; exact c hd
        show (tmps.setIfInBounds t' v)[t]? = _
        rw [Array.getElem?_setIfInBounds_ne this]
        exact hz
  · rw [slot l hl t h1] at h2
    rw [← pe] at hl
    obtain ⟨a, b, c⟩ := d.ids l hl hm t id h1 h2
    exact ⟨a, by omega, hn id b c⟩
  · rw [slot l1 h1 t a] at c
    rw [slot l2 h2 t' b] at e
    rw [← pe] at h1 h2
    exact d.apart l1 h1 l2 h2 m1 m2 t t' id a b c e

/-- the region begins -/
theorem DrawInv.start (pl : Plan all) {E : Env} {nx : Nat} {tm : T AVal} {tmps : Array Value} (r : RelTm E tm tmps) (t : Nat) :
    DrawInv P E nx nx all 0 0 (Region.linearise .any all t) tm tmps := by
  obtain ⟨s, hin⟩ := sched_start pl t
  have hp : ∀ rest, pend all 0 rest = [] := fun rest => by
    unfold pend
    rw [List.filter_eq_nil_iff]
    intro a _
    simp
  refine ⟨s, fun m i hm => ⟨fun _ => Nat.zero_le _, fun _ => hin i (mem_heavies.1 (List.mem_of_getElem? hm)).1⟩, fun l hl _ hn => absurd (hin l hl) hn, .of r _, ?_, ?_⟩
  · intro l hl; rw [hp] at hl; cases hl
  · intro l hl; rw [hp] at hl; cases hl
/-- the region has ended -/
theorem DrawInv.finish {E : Env} {lo hi b n : Nat} {tm : T AVal} {tmps : Array Value} (d : DrawInv P E lo hi all b n [] tm tmps) : RelTm E tm tmps := by
  have : unsure all b [] = [] := rfl
  have h := d.slots
  rw [this] at h
  exact h.relTm
end
end Go.Ev
/-! Frames, stacks, states. -/
namespace Go.Ev
open Go.RowKit (Below)
section
variable {P : Program}

def RelIt (E : Env) : AItem → Item → Prop
  | .code c, it => it = .code c
  | .other (.inBlock id), it => it = .inBlock id
  | .other (.inLoop b), it => it = .inLoop b
  | .other (.inScope b), it => it = .inScope b
  | .other (.endRangeFunc l), it => ∃ i, E l = some i ∧ it = .endRangeFunc i.blk
  | .other (.inRangeFunc l), it => ∃ i, E l = some i ∧ it = .inRangeFunc i.blk
  | .other .beginRound, it => it = .beginRound
  | _, _ => False
def RelIts (E : Env) : List AItem → List Item → Prop
  | [], l => l = []
  | a :: as, l => ∃ x xs, RelIt E a x ∧ RelIts E as xs ∧ l = x :: xs
def RelRo (E : Env) : Option Nat → Option Nat → Prop
  | none, r => r = none
  | some l, r => ∃ i, E l = some i ∧ r = some i.blk

def RelTodo (P : Program) (E : Env) (lo hi : Nat) (todo : List AItem) (tm : T AVal) (c : Frame) : Prop := match todo with
  | .other .ret :: _ => c.mode = .returning ∧ RelTm E tm c.tmps
  | .other (.ops all l) :: k => c.mode = .run ∧ RelTm E tm c.tmps ∧ ∃ idx ck, c.todo = .inRegion all idx :: ck ∧ (idx.map fun i => all[i]?) = l.map some ∧ RelIts E k ck
  | .other (.opsD all n) :: k => c.mode = .run ∧ ∃ rest ck, c.todo = .inRegion all rest :: ck ∧ RelIts E k ck ∧ planOk all = true ∧ DrawInv P E lo hi all n n rest tm c.tmps
  | .other (.opsW all n dst) :: k => c.mode = .run ∧ ∃ i m rest ck, n = m + 1 ∧ c.todo = .inRegion all (i :: rest) :: ck ∧ RelIts E k ck ∧ planOk all = true ∧ isHeavy (opAt all i).op = true ∧ dst = (opAt all i).dst ∧
      DrawInv P E lo hi all (m + 1) m (i :: rest) tm c.tmps
  | todo => c.mode = .run ∧ RelTm E tm c.tmps ∧ RelIts E todo c.todo
structure RelFr (P : Program) (E : Env) (lo hi : Nat) (a : AFrame) (c : Frame) : Prop where
  fn : c.fn = a.fi.fn
  kind : c.kind = a.fi.kind
  ro : RelRo E a.fi.ro c.roundOf
  defs : RelDefs E a.defers c.defers
  todo : RelTodo P E lo hi a.todo a.tm c
/-- the frames that wait, above 'base' -/
def RelStack (P : Program) (base : List Frame) (E : Env) : Nat → List AFrame → List Frame → Prop
  | _, [], ccs => ccs = base
  | hi, a :: as, ccs => ∃ lo c cs, lo ≤ hi ∧ RelFr P E lo hi a c ∧ RelStack P base E lo as cs ∧ ccs = c :: cs

theorem RelIt.mono {E E' : Env} (h : E.Le E') {a : AItem} {x : Item} (r : RelIt E a x) : RelIt E' a x := by
  cases a with
  | code c => exact r
  | other y => cases y <;> first | exact r | exact ⟨r.choose, h _ _ r.choose_spec.1, r.choose_spec.2⟩
theorem RelIts.mono {E E' : Env} (h : E.Le E') : ∀ {a : List AItem} {x : List Item}, RelIts E a x → RelIts E' a x
  | [], _, r => r
  | _ :: _, _, ⟨x, xs, r, s, e⟩ => ⟨x, xs, r.mono h, RelIts.mono h s, e⟩
theorem RelRo.mono {E E' : Env} (h : E.Le E') {a b : Option Nat} (r : RelRo E a b) : RelRo E' a b := by
  cases a with
  | none => exact r
  | some l => exact ⟨r.choose, h _ _ r.choose_spec.1, r.choose_spec.2⟩
theorem RelTodo.mono {E E' : Env} {lo hi hi' : Nat} {todo : List AItem} {tm : T AVal} {c : Frame} (le : E.Le E') (hn : ∀ id, id < hi → E id = none → E' id = none) (hh : hi ≤ hi')
    (r : RelTodo P E lo hi todo tm c) : RelTodo P E' lo hi' todo tm c := by
  unfold RelTodo at *
  split at r
  · exact ⟨r.1, r.2.mono le⟩
  · obtain ⟨a, b, idx, ck, d, e, f⟩ := r; exact ⟨a, b.mono le, idx, ck, d, e, f.mono le⟩
  · obtain ⟨a, rest, ck, b, d, e, f⟩ := r; exact ⟨a, rest, ck, b, d.mono le, e, f.mono le hn hh⟩
  · obtain ⟨a, i, m, rest, ck, b, d, e, f, g, q, s⟩ := r; exact ⟨a, i, m, rest, ck, b, d, e.mono le, f, g, q, s.mono le hn hh⟩
  · exact ⟨r.1, r.2.1.mono le, r.2.2.mono le⟩
theorem RelFr.mono {E E' : Env} {lo hi hi' : Nat} {a : AFrame} {c : Frame} (le : E.Le E') (hn : ∀ id, id < hi → E id = none → E' id = none) (hh : hi ≤ hi') (r : RelFr P E lo hi a c) : RelFr P E' lo hi' a c :=
  ⟨r.fn, r.kind, r.ro.mono le, r.defs.mono le, r.todo.mono le hn hh⟩
theorem RelStack.mono {base : List Frame} {E E' : Env} (le : E.Le E') : ∀ {hi hi' : Nat} {as : List AFrame} {cs : List Frame}, (∀ id, id < hi → E id = none → E' id = none) → hi ≤ hi' →
    RelStack P base E hi as cs → RelStack P base E' hi' as cs
  | _, _, [], _, _, _, r => r
  | _, _, _ :: _, _, hn, hh, ⟨lo, c, cs, hl, r, s, e⟩ => ⟨lo, c, cs, Nat.le_trans hl hh, r.mono le hn hh, s.mono le (fun id hid => hn id (Nat.lt_of_lt_of_le hid hl)) (Nat.le_refl _), e⟩

/-- the frame at the bottom is of function f0 -/
def Bot (f0 : FuncId) : FI → List AFrame → Prop
  | fi, [] => fi.fn = f0
  | _, a :: cs => Bot f0 a.fi cs

variable {N0 : Nat} {w0 : World} {base : List Frame} {f0 : FuncId}

/-- the call comes to its end: it returns true; old memory is as it was -/
def Fin (P : Program) (N0 : Nat) (w0 : World) (base : List Frame) (f0 : FuncId) (m : Machine) : Prop :=
  ∃ w' fr', Steps P m (lone fr' base w') ∧ fr'.fn = f0 ∧ fr'.leaving P w' (.returned (.bool true)) ∧ Below N0 w0 w'
theorem Fin.head {m m' : Machine} (h : step P m = .next m') (f : Fin P N0 w0 base f0 m') : Fin P N0 w0 base f0 m := by
  obtain ⟨w', fr', s, r⟩ := f
  exact ⟨w', fr', .head h s, r⟩
theorem Fin.steps {m m' : Machine} (h : Steps P m m') (f : Fin P N0 w0 base f0 m') : Fin P N0 w0 base f0 m := by
  obtain ⟨w', fr', s, r⟩ := f
  exact ⟨w', fr', h.trans s, r⟩

structure St (P : Program) (N0 : Nat) (w0 : World) (base : List Frame) (f0 : FuncId) (E : Env) (lo : Nat) (fi : FI) (tm : T AVal) (todo : List AItem) (ds : List ADef) (cs : List AFrame) (h : H) (nx : Nat)
    (c : Frame) (ccs : List Frame) (w : World) : Prop where
  heap : HeapOk P N0 w0 E h nx w
  lo_le : lo ≤ nx
  top : RelFr P E lo nx ⟨fi, tm, todo, ds⟩ c
  stack : RelStack P base E lo cs ccs
  bot : Bot f0 fi cs
def Good (P : Program) (N0 : Nat) (w0 : World) (base : List Frame) (f0 : FuncId) : FI → T AVal → List AItem → List ADef → List AFrame → H → Nat → Prop :=
  fun fi tm todo ds cs h nx => ∀ E lo c ccs w, St P N0 w0 base f0 E lo fi tm todo ds cs h nx c ccs w → Fin P N0 w0 base f0 (lone c ccs w)

/-- a frame that runs ordinary code -/
structure Run (E : Env) (fi : FI) (tm : T AVal) (todo : List AItem) (ds : List ADef) (b : Frame) (a : Act) (ctodo : List Item) : Prop where
  fn : b.fn = fi.fn
  kind : b.kind = fi.kind
  ro : RelRo E fi.ro b.roundOf
  defs : RelDefs E ds a.defers
  tm : RelTm E tm a.tmps
  its : RelIts E todo ctodo
theorem Run.mono {E E' : Env} (le : E.Le E') {fi : FI} {tm : T AVal} {todo : List AItem} {ds : List ADef} {b : Frame} {a : Act} {ctodo : List Item} (r : Run E fi tm todo ds b a ctodo) : Run E' fi tm todo ds b a ctodo :=
  ⟨r.fn, r.kind, r.ro.mono le, r.defs.mono le, r.tm.mono le, r.its.mono le⟩

theorem RelTodo.of_its {E : Env} {lo hi : Nat} {todo : List AItem} {tm : T AVal} {c : Frame} (hm : c.mode = .run) (ht : RelTm E tm c.tmps) (hi' : RelIts E todo c.todo) : RelTodo P E lo hi todo tm c := by
  cases todo with
  | nil => exact ⟨hm, ht, hi'⟩
  | cons a k =>
    cases a with
    | code c' => exact ⟨hm, ht, hi'⟩
    | other x =>
      cases x <;> first
        | exact ⟨hm, ht, hi'⟩
        | (obtain ⟨_, _, r, _⟩ := hi'; exact r.elim)
theorem Run.fr {E : Env} {lo hi : Nat} {fi : FI} {tm : T AVal} {todo : List AItem} {ds : List ADef} {b : Frame} {a : Act} {ctodo : List Item} (r : Run E fi tm todo ds b a ctodo) : RelFr P E lo hi ⟨fi, tm, todo, ds⟩ (b.atR a ctodo) :=
  ⟨r.fn, r.kind, r.ro, r.defs, .of_its rfl r.tm r.its⟩
/-- is the item at the head one of code? -/
def ordinary : List AItem → Bool
  | .other .ret :: _ => false
  | .other (.ops ..) :: _ => false
  | .other (.opsD ..) :: _ => false
  | .other (.opsW ..) :: _ => false
  | _ => true
theorem St.run {E : Env} {lo : Nat} {fi : FI} {tm : T AVal} {todo : List AItem} {ds : List ADef} {cs : List AFrame} {h : H} {nx : Nat} {c : Frame} {ccs : List Frame} {w : World}
    (s : St P N0 w0 base f0 E lo fi tm todo ds cs h nx c ccs w) (ho : ordinary todo = true) : ∃ b a ctodo, c = b.atR a ctodo ∧ Run E fi tm todo ds b a ctodo := by
  obtain ⟨f1, f2, f3, f4, f5⟩ := s.top
  have key : c.mode = .run ∧ RelTm E tm c.tmps ∧ RelIts E todo c.todo := by
    unfold RelTodo at f5
    simp only at f5
    cases todo with
    | nil => exact f5
    | cons a k =>
      cases a with
      | code c' => exact f5
      | other x => cases x <;> first | exact f5 | cases ho
  refine ⟨c, ⟨c.tmps, c.defers⟩, c.todo, ?_, ⟨f1, f2, f3, f4, key.2.1, key.2.2⟩⟩
  obtain ⟨fn, tmps, todo', defers, mode, kind, ro⟩ := c
  obtain ⟨rfl, _⟩ := key
  rfl
end
end Go.Ev
/-! The machine's steps, part 1: code. -/
namespace Go.Ev
open Go.RowKit (Below)
section
variable {P : Program} {N0 : Nat} {w0 : World} {base : List Frame} {f0 : FuncId} {ih : GoK Bool}
  {fi : FI} {tm : T AVal} {k : List AItem} {ds : List ADef} {cs : List AFrame} {h : H} {nx : Nat}

abbrev IH (P : Program) (N0 : Nat) (w0 : World) (base : List Frame) (f0 : FuncId) (ih : GoK Bool) : Prop :=
  ∀ fi tm todo ds cs h nx, ih fi tm todo ds cs h nx = true → Good P N0 w0 base f0 fi tm todo ds cs h nx

/-- the evaluator goes on in a frame that runs ordinary code -/
theorem IH.run (I : IH P N0 w0 base f0 ih) {todo : List AItem} (hk : ih fi tm todo ds cs h nx = true) {E : Env} {lo : Nat} {b : Frame} {a : Act} {ctodo : List Item} {ccs : List Frame} {w : World}
    (r : Run E fi tm todo ds b a ctodo) (hh : HeapOk P N0 w0 E h nx w) (hlo : lo ≤ nx) (hs : RelStack P base E lo cs ccs) (hb : Bot f0 fi cs) : Fin P N0 w0 base f0 (lone (b.atR a ctodo) ccs w) :=
  I _ _ _ _ _ _ _ hk E lo _ _ _ ⟨hh, hlo, r.fr, hs, hb⟩

theorem exitToA_rel {E : Env} {id : Nat} : ∀ {k : List AItem} {ck : List Item}, RelIts E k ck → (∀ k', exitToA id k = some k' → ∃ ck', exitTo id ck = some ck' ∧ RelIts E k' ck') ∧ (exitToA id k = none → exitTo id ck = none)
  | [], ck, r => by
    simp only [RelIts] at r; subst r
    exact ⟨fun k' h => by simp [exitToA] at h, fun _ => rfl⟩
  | a :: k, ck, ⟨x, xs, r, s, e⟩ => by
    subst e
    have ihx := exitToA_rel (id := id) s
    cases a with
    | code c => simp only [RelIt] at r; subst r; exact ihx
    | other y =>
      cases y with
      | inBlock id' =>
        simp only [RelIt] at r; subst r
        simp only [exitToA, exitTo]
        cases hb : Nat.beq id' id with
        | true =>
          have : id' = id := beq_eq' hb
          subst this
          refine ⟨fun k' h => ?_, fun h => by simp at h⟩
          simp only [_root_.cond_true, Option.some.injEq] at h
          subst h
          exact ⟨xs, by simp, s⟩
        | false =>
          have hne : (id' == id) = false := by simpa using beq_ne hb
          simp only [_root_.cond_false, hne, Bool.false_eq_true, if_false]
          exact ihx
      | inLoop b => simp only [RelIt] at r; subst r; exact ihx
      | inScope b => simp only [RelIt] at r; subst r; exact ihx
      | endRangeFunc l => obtain ⟨i, _, rfl⟩ := r; exact ihx
      | inRangeFunc l => obtain ⟨i, _, rfl⟩ := r; exact ihx
      | beginRound => simp only [RelIt] at r; subst r; exact ihx
      | _ => exact r.elim
theorem gotoInA_rel {E : Env} {l : Nat} : ∀ {k : List AItem} {ck : List Item}, RelIts E k ck → (∀ k', gotoInA l k = some k' → ∃ ck', gotoIn l ck = some ck' ∧ RelIts E k' ck') ∧ (gotoInA l k = none → gotoIn l ck = none)
  | [], ck, r => by
    simp only [RelIts] at r; subst r
    exact ⟨fun k' h => by simp [gotoInA] at h, fun _ => rfl⟩
  | a :: k, ck, ⟨x, xs, r, s, e⟩ => by
    subst e
    have ihx := gotoInA_rel (l := l) s
    cases a with
    | code c => simp only [RelIt] at r; subst r; exact ihx
    | other y =>
      cases y with
      | inBlock id' => simp only [RelIt] at r; subst r; exact ihx
      | inLoop b => simp only [RelIt] at r; subst r; exact ihx
      | inScope b =>
        simp only [RelIt] at r; subst r
        simp only [gotoInA, gotoIn]
        cases hf : findLabel b l with
        | some rest =>
          refine ⟨fun k' h => ?_, fun h => by simp at h⟩
          simp only [Option.some.injEq] at h
          subst h
          exact ⟨_, rfl, _, _, rfl, ⟨_, _, rfl, s, rfl⟩, rfl⟩
        | none => exact ihx
      | endRangeFunc l => obtain ⟨i, _, rfl⟩ := r; exact ihx
      | inRangeFunc l => obtain ⟨i, _, rfl⟩ := r; exact ihx
      | beginRound => simp only [RelIt] at r; subst r; exact ihx
      | _ => exact r.elim

/-- a value comes back to a frame that waits -/
theorem finish_good (I : IH P N0 w0 base f0 ih) {v : AVal} {fr : AFrame} (hk : finishK F ih v fr cs h nx = true) {E : Env} {lo : Nat} {c : Frame} {ccs : List Frame} {w : World} {cv : Value}
    (hv : Rel E v cv) (hh : HeapOk P N0 w0 E h nx w) (hlo : lo ≤ nx) (hr : RelFr P E lo nx fr c) (hs : RelStack P base E lo cs ccs) (hb : Bot f0 fr.fi cs) : Fin P N0 w0 base f0 (lone (c.finish cv) ccs w) := by
  obtain ⟨fi, tm, todo, ds⟩ := fr
  obtain ⟨r1, r2, r3, r4, r5⟩ := hr
  unfold finishK at hk
  simp only at hk r1 r2 r3 r4 r5 hb
  split at hk
  · rename_i x k
    split at hk
    · rename_i all o l
      replace hk := putK_true hk
      obtain ⟨tm', hk, p1, p2, p3⟩ := hk
      obtain ⟨m, ht, idx, ck, e1, e2, e3⟩ := r5
      obtain ⟨i, idx', rfl⟩ : ∃ i idx', idx = i :: idx' := by
        cases idx with
        | nil => simp at e2
        | cons i idx => exact ⟨i, idx, rfl⟩
      simp only [List.map_cons, List.cons.injEq] at e2
      refine I _ _ _ _ _ _ _ hk E lo _ _ _ ⟨hh, hlo, ?_, hs, hb⟩
      have hdst : (all[i]?).bind (·.dst) = o.dst := by rw [e2.1]; rfl
      have hfin : c.finish cv = { c with tmps := (match o.dst with | some d => c.tmps.setIfInBounds d cv | none => c.tmps), todo := .inRegion all idx' :: ck } := by
        unfold Frame.finish
        rw [e1]
        simp only [hdst]
        cases o.dst <;> rfl
      rw [hfin]
      refine ⟨r1, r2, r3, r4, m, ?_, idx', ck, rfl, e2.2, e3⟩
      intro t y hy
      by_cases c' : o.dst = some t
      · rw [p2 t c'] at hy
        obtain rfl : v = y := by simpa using hy
        have : (tm.get t).isSome = true := by rw [← p3, p2 t c']; rfl
        obtain ⟨z, hz⟩ := Option.isSome_iff_exists.1 this
        obtain ⟨q, hq, _⟩ := ht t z hz
        have hlt : t < c.tmps.size := (Array.getElem?_eq_some_iff.1 hq).1
        rw [c']
        exact ⟨cv, by simp [hlt], hv⟩
      · rw [p1 t c'] at hy
        obtain ⟨q, hq, hq'⟩ := ht t y hy
        refine ⟨q, ?_, hq'⟩
        cases hd : o.dst with
        | none => exact hq
        | some d =>
          have : d ≠ t := by intro e; subst e; exact c' hd
          show (c.tmps.setIfInBounds d cv)[t]? = _
          rw [Array.getElem?_setIfInBounds_ne this]; exact hq
    · rename_i all s dst
      replace hk := putK_true hk
      obtain ⟨tm', hk, p1, p2, p3⟩ := hk
      obtain ⟨m, i, n, rest, ck, e1, e2, e3, e4, e5, e6, e7⟩ := r5
      subst e1
      refine I _ _ _ _ _ _ _ hk E lo _ _ _ ⟨hh, hlo, ?_, hs, hb⟩
      have hi := e7.sched.lt i (by simp)
      have hdst : (all[i]?).bind (·.dst) = (opAt all i).dst := by rw [opAt_get hi]; rfl
      have hfin : c.finish cv = { c with tmps := (match (opAt all i).dst with | some d => c.tmps.setIfInBounds d cv | none => c.tmps), todo := .inRegion all rest :: ck } := by
        unfold Frame.finish
        rw [e2]
        simp only [hdst]
        cases (opAt all i).dst <;> rfl
      rw [hfin]
      subst e6
      exact ⟨r1, r2, r3, r4, m, rest, ck, rfl, e3, e4, e7.heavyStep (planOk_plan e4) e5 (Env.Le.refl E) (fun _ _ h => h) (Nat.le_refl _) hv p1 p2 p3⟩
    · rename_i l
      obtain ⟨m, ht, x, xs, ⟨i, hi, e1⟩, e2, e3⟩ := r5
      refine I _ _ _ _ _ _ _ hk E lo _ _ _ ⟨hh, hlo, ?_, hs, hb⟩
      have hfin : c.finish cv = { c with todo := .endRangeFunc i.blk :: xs } := by
        unfold Frame.finish
        rw [e3, e1]
      rw [hfin]
      exact ⟨r1, r2, r3, r4, m, ht, _, _, ⟨i, hi, rfl⟩, e2, rfl⟩
    · exact (F_false hk).elim
  · exact (F_false hk).elim
end
end Go.Ev
