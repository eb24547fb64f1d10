/-
  A part of the proof that the evaluator is sound: what it answers, the model's run answers. No condition.
-/
import Derived.Test.YtfkhilehbikaaaaGreatDoorEvLawB
import Derived.Laws.Strings
import Derived.Laws.StructEq
import Derived.LaidEql
set_option linter.all false
/-! The operations are sound, part 5: numbers, texts, comparisons. -/
namespace Go.Ev
open Go.RowKit (Below)

theorem wrap_signed {b : Nat} {m : Nat} {n : Nat} (hm : m < 2 ^ (b + 1)) (h : m < 2 ^ b) (e : n = b + 1) :
    (if (true && decide ((m : Int) % 2 ^ n ≥ 2 ^ (n - 1))) = true then (m : Int) % 2 ^ n - 2 ^ n else (m : Int) % 2 ^ n) = m := by
  subst e
  have h1 : (m : Int) % 2 ^ (b + 1) = m := Int.emod_eq_of_lt (by omega) (by exact_mod_cast hm)
  have h2 : ¬ ((m : Int) ≥ 2 ^ b) := by
    have : (m : Int) < 2 ^ b := by exact_mod_cast h
    omega
  rw [h1, Nat.add_sub_cancel, if_neg (by simpa using h2)]
theorem wrap_unsigned {m n : Nat} (hm : m < 2 ^ n) :
    (if (false && decide ((m : Int) % 2 ^ n ≥ 2 ^ (n - 1))) = true then (m : Int) % 2 ^ n - 2 ^ n else (m : Int) % 2 ^ n) = m := by
  rw [if_neg (by simp)]
  exact Int.emod_eq_of_lt (by omega) (by exact_mod_cast hm)
theorem wrap_of_fits {k : IntKind} {n : Nat} (h : fits k n = true) : k.wrap (.ofNat n) = .ofNat n := by
  cases k <;> simp only [fits] at h <;> replace h := Nat.le_of_ble_eq_true h
  · exact wrap_signed (b := 7) (by omega) (by omega) rfl
  · exact wrap_signed (b := 15) (by omega) (by omega) rfl
  · exact wrap_signed (b := 31) (by omega) (by omega) rfl
  · exact wrap_signed (b := 63) (by omega) (by omega) rfl
  · exact wrap_unsigned (n := 8) (by omega)
  · exact wrap_unsigned (n := 16) (by omega)
  · exact wrap_unsigned (n := 32) (by omega)
  · exact wrap_unsigned (n := 64) (by omega)
theorem wrapFast_eq (k : IntKind) (n : Int) : wrapFast k n = k.wrap n := by
  unfold wrapFast
  split
  · rename_i m
    cases h : fits k m with
    | true => exact (wrap_of_fits h).symm
    | false => rfl
  · rfl
theorem addI_eq (a b : Int) : addI a b = a + b := by
  unfold addI; split
  · rfl
  · rfl
theorem subI_eq (a b : Int) : subI a b = a - b := by
  unfold subI
  split
  · rename_i x y
    cases h : Nat.ble y x with
    | true => have := Nat.le_of_ble_eq_true h; simp; omega
    | false =>
      have : ¬ y ≤ x := fun c => by rw [Nat.ble_eq_true_of_le c] at h; cases h
      simp only [cond_false, Int.negSucc_eq, Int.ofNat_eq_natCast]
      have e : Nat.pred (Nat.sub y x) = y - x - 1 := rfl
      rw [e]; omega
  · rfl
theorem mulI_eq (a b : Int) : mulI a b = a * b := by
  unfold mulI; split
  · rfl
  · rfl
theorem ltI_eq (a b : Int) : ltI a b = decide (a < b) := by
  unfold ltI
  split
  · rename_i x y
    rw [Bool.eq_iff_iff]; simp [Nat.ble_eq, Nat.succ_le_iff]
  · rw [Bool.eq_iff_iff]; simp; omega
  · rw [Bool.eq_iff_iff]; simp; omega
  · rename_i x y
    rw [Bool.eq_iff_iff]; simp [Nat.ble_eq, Nat.succ_le_iff]; omega
theorem eqI_eq (a b : Int) : eqI a b = (a == b) := by
  unfold eqI
  split
  · rw [Bool.eq_iff_iff]; simp [Nat.beq_eq]; omega
  · rw [Bool.eq_iff_iff]; simp [Nat.beq_eq]
  · rename_i h1 h2
    rw [Bool.eq_iff_iff]; simp
    intro e; subst e
    cases a with
    | ofNat n => exact h1 n n rfl rfl
    | negSucc n => exact h2 n n rfl rfl
theorem beqK_eq {a b : IntKind} (h : beqK a b = true) : a = b := by
  cases a <;> cases b <;> first | rfl | simp [beqK] at h

def mK (k : IntKind) : Nat := match k with
  | .i8 => 7 | .i16 => 15 | .i32 => 31 | .i64 => 63 | .u8 => 8 | .u16 => 16 | .u32 => 32 | .u64 => 64
theorem fits_iff (k : IntKind) (n : Nat) : fits k n = true ↔ n < 2 ^ mK k := by
  cases k <;> simp only [fits, Nat.ble_eq, mK] <;> omega
theorem mK_le (k : IntKind) : mK k ≤ k.bits := by cases k <;> decide
theorem ofInt_toNat {k : IntKind} {x : Nat} (h : fits k x = true) : (BitVec.ofInt k.bits (Int.ofNat x)).toNat = x := by
  have h1 := (fits_iff k x).1 h
  have h2 : x < 2 ^ k.bits := Nat.lt_of_lt_of_le h1 (Nat.pow_le_pow_right (by omega) (mK_le k))
  simp [Int.ofNat_eq_natCast]
  exact Nat.mod_eq_of_lt h2
theorem andNot_eq (n x y : Nat) (hx : x < 2 ^ n) (hy : y < 2 ^ n) : x &&& (2 ^ n - 1 - y) = x ^^^ (x &&& y) := by
  apply Nat.eq_of_testBit_eq
  intro i
  simp only [Nat.testBit_and, Nat.testBit_xor]
  by_cases hi : i < n
  · have : (2 ^ n - 1 - y).testBit i = !y.testBit i := by
      rw [show 2 ^ n - 1 - y = 2 ^ n - (y + 1) by omega, Nat.testBit_two_pow_sub_succ hy]
      simp [hi]
    rw [this]
    cases x.testBit i <;> cases y.testBit i <;> rfl
  · have : x.testBit i = false := Nat.testBit_lt_two_pow (Nat.lt_of_lt_of_le hx (Nat.pow_le_pow_right (by omega) (by omega)))
    simp [this]
theorem bitsN_eq {op : BinOp} {k : IntKind} {x y n : Nat} (hx : fits k x = true) (hy : fits k y = true) (h : bitsN op k x y = some n) :
    Op.intBits op k (.ofNat x) (.ofNat y) = pure (.int k (.ofNat n)) := by
  have ex := ofInt_toNat hx
  have ey := ofInt_toNat hy
  have lx := (fits_iff k x).1 hx
  have ly := (fits_iff k y).1 hy
  have fin : ∀ z : Nat, z < 2 ^ mK k → (pure (.int k (k.wrap (z : Int))) : Sem Value) = pure (.int k (.ofNat z)) := fun z hz => by
    rw [show ((z : Nat) : Int) = Int.ofNat z from rfl, wrap_of_fits ((fits_iff k z).2 hz)]
  cases op <;> simp only [bitsN] at h <;> first | (cases h; done) | skip
  · obtain rfl : x &&& y = n := by simpa using h
    simp only [Op.intBits, BitVec.toNat_and, ex, ey]
    exact fin _ (Nat.and_lt_two_pow _ ly)
  · obtain rfl : x ||| y = n := by simpa using h
    simp only [Op.intBits, BitVec.toNat_or, ex, ey]
    exact fin _ (Nat.or_lt_two_pow lx ly)
  · obtain rfl : x ^^^ y = n := by simpa using h
    simp only [Op.intBits, BitVec.toNat_xor, ex, ey]
    exact fin _ (Nat.xor_lt_two_pow lx ly)
  · obtain rfl : x ^^^ (x &&& y) = n := by simpa using h
    have hb : ∀ z : Nat, z < 2 ^ mK k → z < 2 ^ k.bits := fun z hz => Nat.lt_of_lt_of_le hz (Nat.pow_le_pow_right (by omega) (mK_le k))
    simp only [Op.intBits, BitVec.toNat_and, BitVec.toNat_not, ex, ey]
    rw [andNot_eq k.bits x y (hb x lx) (hb y ly)]
    exact fin _ (Nat.xor_lt_two_pow lx (Nat.and_lt_two_pow _ ly))

section
variable {P : Program} {N0 : Nat} {w0 : World} {tm : T AVal} {h : H} {nx : Nat} {o : Oper} {k : AVal → H → Nat → Bool}

theorem intOpK_true {op : BinOp} {kd : IntKind} {a b : Int} {k' : AVal → Bool} (hop : op ≠ .shl ∧ op ≠ .shr) (hk : intOpK F op kd a b k' = true) :
    ∃ v, k' v = true ∧ ∀ E t w, ∃ cv, Rel E v cv ∧ (binOp op t (.int kd a) (.int kd b)).run P w = .ok cv w := by
  cases op with
  | shl => exact absurd rfl hop.1
  | shr => exact absurd rfl hop.2
  | add => simp only [intOpK, intK_eq, wrapFast_eq, addI_eq] at hk; exact ⟨_, hk, fun E t w => ⟨_, rfl, by rw [binOp_add]; rfl⟩⟩
  | sub => simp only [intOpK, intK_eq, wrapFast_eq, subI_eq] at hk; exact ⟨_, hk, fun E t w => ⟨_, rfl, by rw [binOp_sub]; rfl⟩⟩
  | mul => simp only [intOpK, intK_eq, wrapFast_eq, mulI_eq] at hk; exact ⟨_, hk, fun E t w => ⟨_, rfl, by rw [binOp_mul]; rfl⟩⟩
  | lss => simp only [intOpK, ltI_eq] at hk; exact ⟨_, hk, fun E t w => ⟨_, rfl, by rw [binOp_lss]; rfl⟩⟩
  | gtr => simp only [intOpK, ltI_eq] at hk; exact ⟨_, hk, fun E t w => ⟨_, rfl, by rw [binOp_gtr]; rfl⟩⟩
  | leq =>
    simp only [intOpK, ltI_eq] at hk
    refine ⟨_, hk, fun E t w => ⟨_, rfl, ?_⟩⟩
    rw [binOp_leq]
    have : decide (a ≤ b) = !decide (b < a) := by rw [Bool.eq_iff_iff]; simp
    rw [this]; rfl
  | geq =>
    simp only [intOpK, ltI_eq] at hk
    refine ⟨_, hk, fun E t w => ⟨_, rfl, ?_⟩⟩
    rw [binOp_geq]
    have : decide (a ≥ b) = !decide (a < b) := by rw [Bool.eq_iff_iff]; simp
    rw [this]; rfl
  | eql => simp only [intOpK, eqI_eq] at hk; exact ⟨_, hk, fun E t w => ⟨_, rfl, by rw [binOp_eql]; rfl⟩⟩
  | neq => simp only [intOpK, eqI_eq] at hk; exact ⟨_, hk, fun E t w => ⟨_, rfl, by rw [binOp_neq]; rfl⟩⟩
  | quo =>
    simp only [intOpK] at hk
    split at hk
    · rename_i x y
      cases hy : Nat.beq y 0 with
      | true => simp [hy, F] at hk
      | false =>
      rw [hy] at hk
      replace hk := cond_true (show (bif fits kd x then _ else F _) = true from hk)
      obtain ⟨hf, hk⟩ := hk
      rw [forceN_eq] at hk
      refine ⟨_, hk, fun E t w => ⟨_, rfl, ?_⟩⟩
      have hy0 : y ≠ 0 := fun c => by rw [c] at hy; cases hy
      have hd : (Int.ofNat x).tdiv (Int.ofNat y) = Int.ofNat (x / y) := rfl
      have hlt : fits kd (x / y) = true := (fits_iff _ _).2 (Nat.lt_of_le_of_lt (Nat.div_le_self x y) ((fits_iff _ _).1 hf))
      rw [binOp_quo, Op.intDiv, if_neg (by simp; omega)]
      simp only [hd, wrap_of_fits hlt]; rfl
    · exact (F_false hk).elim
  | rem =>
    simp only [intOpK] at hk
    split at hk
    · rename_i x y
      cases hy : Nat.beq y 0 with
      | true => simp [hy, F] at hk
      | false =>
      rw [hy] at hk
      replace hk : forceN (Nat.mod x y) (fun n => k' (.int kd (.ofNat n))) = true := hk
      rw [forceN_eq] at hk
      refine ⟨_, hk, fun E t w => ⟨_, rfl, ?_⟩⟩
      have hy0 : y ≠ 0 := fun c => by rw [c] at hy; cases hy
      rw [binOp_rem, Op.intDiv, if_neg (by simp; omega)]
      rfl
    · exact (F_false hk).elim
  | and | or | xor | andNot =>
    simp only [intOpK] at hk
    split at hk
    · rename_i x y
      replace hk := cond_true hk
      obtain ⟨hf, hk⟩ := hk
      rw [Bool.and_eq_true] at hf
      split at hk
      · rename_i n hn
        rw [forceN_eq] at hk
        refine ⟨_, hk, fun E t w => ⟨_, rfl, ?_⟩⟩
        have := bitsN_eq hf.1 hf.2 hn
        simp only [binOp, ne_eq, not_true_eq_false, if_false, this]; rfl
      · exact (F_false hk).elim
    · exact (F_false hk).elim

theorem shiftK_true {op : BinOp} {kd ky : IntKind} {a b : Int} {k' : AVal → Bool} (hop : op = .shl ∨ op = .shr) (hk : shiftK F op kd a b k' = true) :
    ∃ v, k' v = true ∧ ∀ E t w, ∃ cv, Rel E v cv ∧ (binOp op t (.int kd a) (.int ky b)).run P w = .ok cv w := by
  unfold shiftK at hk
  split at hk
  · rename_i x y
    replace hk := cond_true hk
    obtain ⟨hb, hk⟩ := hk
    have hy := Nat.le_of_ble_eq_true hb
    have hmin : min (Int.ofNat y).toNat kd.bits = y := by simp; omega
    have hneg : ¬ (Int.ofNat y) < 0 := by simp
    rcases hop with rfl | rfl
    · simp only [intK_eq, wrapFast_eq] at hk
      refine ⟨_, hk, fun E t w => ⟨_, rfl, ?_⟩⟩
      rw [binOp_shl, Op.shift, if_neg hneg]
      simp only [hmin]
      have : (Int.ofNat x) * 2 ^ y = Int.ofNat (Nat.mul x (Nat.pow 2 y)) := by
        show (x : Int) * 2 ^ y = ((x * 2 ^ y : Nat) : Int)
        push_cast; rfl
      rw [this]; rfl
    · simp only [forceN_eq] at hk
      refine ⟨_, hk, fun E t w => ⟨_, rfl, ?_⟩⟩
      rw [binOp_shr, Op.shift, if_neg hneg]
      simp only [hmin]
      have : (Int.ofNat x).fdiv (2 ^ y) = Int.ofNat (Nat.div x (Nat.pow 2 y)) := by
        show Int.fdiv (x : Int) (2 ^ y) = ((x / 2 ^ y : Nat) : Int)
        rw [Int.fdiv_eq_ediv_of_nonneg _ (show (0 : Int) ≤ 2 ^ y by exact_mod_cast Nat.zero_le (2 ^ y))]
        norm_cast
      rw [this]; rfl
  · exact (F_false hk).elim
end
end Go.Ev
/-! The operations are sound, part 6: texts, equality, binary operations. -/
namespace Go.Ev
open Go.RowKit (Below)

theorem eqL_iff : ∀ (a b : List Nat), eqL a b = true ↔ a = b
  | [], [] => by simp [eqL]
  | [], b :: y => by simp [eqL]
  | a :: x, [] => by simp [eqL]
  | a :: x, b :: y => by
    simp only [eqL]
    cases h : Nat.beq a b with
    | true => have : a = b := by simpa using h
              subst this; simpa using eqL_iff x y
    | false =>
      have : a ≠ b := fun c => by subst c; simp at h
      simp [this]
theorem appL_eq : ∀ (a b : List Nat), appL a b = a ++ b
  | [], _ => rfl
  | a :: x, y => by simp [appL, appL_eq x y]
theorem u8_inj : ∀ {a b : List UInt8}, a.map UInt8.toNat = b.map UInt8.toNat → a = b
  | [], [], _ => rfl
  | [], _ :: _, h => by simp at h
  | _ :: _, [], h => by simp at h
  | a :: x, b :: y, h => by
    simp only [List.map_cons, List.cons.injEq] at h
    rw [UInt8.toNat_inj.1 h.1, u8_inj h.2]
theorem eqL_bytes (a b : List UInt8) : eqL (a.map UInt8.toNat) (b.map UInt8.toNat) = (a == b) := by
  rw [Bool.eq_iff_iff, eqL_iff]
  simp only [beq_iff_eq]
  exact ⟨u8_inj, fun e => by rw [e]⟩
theorem ltL_bytes : ∀ (a b : List UInt8), ltL (a.map UInt8.toNat) (b.map UInt8.toNat) = Op.bytesLess a b
  | _, [] => by cases ‹List UInt8› <;> rfl
  | [], _ :: _ => rfl
  | a :: x, b :: y => by
    simp only [List.map_cons, ltL, Op.bytesLess]
    rw [ltL_bytes x y]
    cases h : Nat.ble (Nat.succ a.toNat) b.toNat with
    | true =>
      have : a < b := by rw [UInt8.lt_iff_toNat_lt]; exact Nat.le_of_ble_eq_true h
      simp [this]
    | false =>
      have h1 : ¬ a < b := fun c => by
        rw [UInt8.lt_iff_toNat_lt] at c
        rw [Nat.ble_eq_true_of_le c] at h; cases h
      cases h2 : Nat.beq a.toNat b.toNat with
      | true =>
        have : a = b := UInt8.toNat_inj.1 (by simpa using h2)
        simp [this]
      | false =>
        have : a ≠ b := fun c => by subst c; simp at h2
        simp [h1, this]
theorem bytesLess_total : ∀ (a b : List UInt8), (!Op.bytesLess b a) = (Op.bytesLess a b || a == b)
  | [], [] => rfl
  | [], b :: y => by simp [Op.bytesLess]
  | a :: x, [] => by simp [Op.bytesLess]
  | a :: x, b :: y => by
    simp only [Op.bytesLess]
    have ih := bytesLess_total x y
    by_cases h1 : a < b
    · have h2 : ¬ b < a := by rw [UInt8.lt_iff_toNat_lt] at *; omega
      have h3 : b ≠ a := fun c => by subst c; rw [UInt8.lt_iff_toNat_lt] at h1; omega
      simp [h1, h2, h3]
    · by_cases h2 : b < a
      · have h3 : a ≠ b := fun c => by subst c; rw [UInt8.lt_iff_toNat_lt] at h2; omega
        simp [h1, h2, h3]
      · have h3 : a = b := by
          apply UInt8.toNat_inj.1
          rw [UInt8.lt_iff_toNat_lt] at h1 h2; omega
        subst h3
        simp [h1, ih]
theorem size_toList (s : ByteArray) : s.data.toList.length = s.size := by simp

theorem RelL.drop {E : Env} : ∀ (n : Nat) {l : List AVal} {v : List Value}, RelL E l v → RelL E (l.drop n) (v.drop n)
  | 0, _, _, r => by simpa using r
  | _ + 1, [], _, r => by rw [r]; rfl
  | n + 1, _ :: _, _, ⟨_, _, _, s, e⟩ => by subst e; simpa using RelL.drop n s
theorem RelL.take {E : Env} : ∀ (n : Nat) {l : List AVal} {v : List Value}, RelL E l v → RelL E (l.take n) (v.take n)
  | 0, _, _, _ => by simp [RelL]
  | _ + 1, [], _, r => by rw [r]; rfl
  | n + 1, _ :: _, _, ⟨x, _, a, s, e⟩ => by subst e; exact ⟨x, _, a, RelL.take n s, rfl⟩

section
variable {P : Program} {N0 : Nat} {w0 : World} {tm : T AVal} {h : H} {nx : Nat} {o : Oper} {k : AVal → H → Nat → Bool}

/-- a value of a type, by its cells -/
def Shape (P : Program) (t : TypeId) (X : List Value) (V : Value) : Prop :=
  match P.underlying t with
  | some (.struct _) => V = .agg X.toArray
  | some (.array _ _) => V = .agg X.toArray
  | some _ => X = [V]
  | none => False

theorem underlying_info {t : TypeId} {u : TypeDesc} (h : P.underlying t = some u) : ∃ i, P.info? t = some i := by
  cases e : P.info? t with
  | some i => exact ⟨i, rfl⟩
  | none => simp [Program.underlying, e] at h

theorem eqT_lone {n : Nat} {t : TypeId} {x y : List AVal} {r : Bool} (hr : eqT P n t x y = some r) :
    ∃ u, P.underlying t = some u ∧ ((∃ fs, u = .struct fs) ∨ (∃ m e, u = .array m e) ∨ x.length = 1 ∧ y.length = 1) := by
  cases n with
  | zero => simp [eqT] at hr
  | succ n =>
    unfold eqT at hr
    cases e : P.underlying t with
    | none => rw [e] at hr; cases hr
    | some u =>
      rw [e] at hr
      refine ⟨u, rfl, ?_⟩
      cases u with
      | struct fs => exact .inl ⟨_, rfl⟩
      | array m e => exact .inr (.inl ⟨_, _, rfl⟩)
      | bool | int | string =>
        simp only at hr
        split at hr
        · exact .inr (.inr ⟨rfl, rfl⟩)
        · cases hr
      | _ => cases hr

theorem part_shape {t : TypeId} {u : TypeDesc} {X : List Value} {off : Nat} (hu : P.underlying t = some u)
    (hs : (∃ fs, u = .struct fs) ∨ (∃ m e, u = .array m e) ∨ ((X.drop off).take (sizeP P t)).length = 1) (w : World) :
    ∃ V, (part t X.toArray off).run P w = .ok V w ∧ Shape P t ((X.drop off).take (sizeP P t)) V := by
  obtain ⟨i, hi⟩ := underlying_info hu
  have hsz := run_sizeOf' (w := w) hi
  have hz : sizeP P t = i.size := by simp [sizeP, hi, forceN_eq]
  have one : (((X.drop off).take (sizeP P t)).length = 1 → ∃ V, X[off]? = some V ∧ (X.drop off).take (sizeP P t) = [V]) := fun hl => by
    obtain ⟨V, hV⟩ := List.length_eq_one_iff.1 hl
    refine ⟨V, ?_, hV⟩
    have := congrArg (·[0]?) hV
    simp only [List.getElem?_cons_zero] at this
    rw [List.getElem?_take] at this
    split at this
    · simpa using this
    · cases this
  have agg : ((∃ fs, u = .struct fs) ∨ (∃ m e, u = .array m e)) → (part t X.toArray off).run P w = .ok (.agg ((X.drop off).take (sizeP P t)).toArray) w := fun hu' => by
    have : (isAgg t).run P w = .ok true w := by
      rcases hu' with ⟨fs, rfl⟩ | ⟨m, e, rfl⟩ <;> simp [isAgg, run_underlying hu]
    simp only [part, Sem.run_bind, this, Result.andThen_ok, if_true, hsz, Sem.run_pure]
    congr 2
    rw [← Array.toList_inj]
    simp [List.extract, hz]
  unfold Shape
  rw [hu]
  cases u with
  | struct fs => exact ⟨_, agg (.inl ⟨_, rfl⟩), rfl⟩
  | array m e => exact ⟨_, agg (.inr ⟨_, _, rfl⟩), rfl⟩
  | _ =>
    simp only [reduceCtorEq, exists_false, false_or] at hs
    obtain ⟨V, h1, h2⟩ := one hs
    refine ⟨V, ?_, h2⟩
    simp [part, isAgg, run_underlying hu, h1]

theorem eqFields_sound {n d : Nat} {E : Env} {x y : List AVal} {X Y : List Value} (hx : RelL E x X) (hy : RelL E y Y)
    (ih : ∀ (t : TypeId) (x y : List AVal) (X Y : List Value) (V W : Value) (r : Bool), eqT P n t x y = some r → RelL E x X → RelL E y Y → Shape P t X V → Shape P t Y W →
      ∀ w, (Op.equalIn d t V W).run P w = .ok r w) (w : World) :
    ∀ (fs : List Field) (r : Bool), eqT.eqFs (eqT P n) (fun t => sizeP P t) x y fs = some r → (Op.eqFields d X.toArray Y.toArray fs).run P w = .ok r w
  | [], r, hr => by simp only [eqT.eqFs, Option.some.injEq] at hr; subst hr; rfl
  | f :: fs, r, hr => by
    rw [eqT.eqFs] at hr
    rw [Op.eqFields]
    cases hn : f.name == "_" with
    | true =>
      rw [hn] at hr
      have : ¬ f.name ≠ "_" := by simpa using hn
      rw [if_neg this]
      exact eqFields_sound hx hy ih w fs r hr
    | false =>
      rw [hn] at hr
      have : f.name ≠ "_" := by simpa using hn
      rw [if_pos this]
      simp only [cond_false] at hr
      have go : ∀ b, eqT P n f.type ((x.drop f.offset).take (sizeP P f.type)) ((y.drop f.offset).take (sizeP P f.type)) = some b →
          (do let a ← part f.type X.toArray f.offset
              let c ← part f.type Y.toArray f.offset
              let r ← Op.equalIn d f.type a c
              if (!r) = true then pure false else Op.eqFields d X.toArray Y.toArray fs : Sem Bool).run P w =
            (if (!b) = true then (pure false : Sem Bool) else Op.eqFields d X.toArray Y.toArray fs).run P w := fun b hb => by
        obtain ⟨u, hu, hl⟩ := eqT_lone hb
        have hx' := (hx.drop f.offset).take (sizeP P f.type)
        have hy' := (hy.drop f.offset).take (sizeP P f.type)
        obtain ⟨V, v1, v2⟩ := part_shape (X := X) (off := f.offset) hu (hl.imp_right (Or.imp_right fun c => hx'.length.trans c.1)) w
        obtain ⟨W, w1, w2⟩ := part_shape (X := Y) (off := f.offset) hu (hl.imp_right (Or.imp_right fun c => hy'.length.trans c.2)) w
        simp only [Sem.run_bind, v1, Result.andThen_ok, w1, ih _ _ _ _ _ _ _ _ hb hx' hy' v2 w2 w]
      split at hr
      · rename_i hb
        rw [go true hb]
        exact eqFields_sound hx hy ih w fs r hr
      · rename_i hb
        cases r with
        | true => exact (hb hr).elim
        | false => rw [go false hr]; rfl

theorem eqElems_sound {n d : Nat} {e : TypeId} {E : Env} {x y : List AVal} {X Y : List Value} (hx : RelL E x X) (hy : RelL E y Y)
    (ih : ∀ (t : TypeId) (x y : List AVal) (X Y : List Value) (V W : Value) (r : Bool), eqT P n t x y = some r → RelL E x X → RelL E y Y → Shape P t X V → Shape P t Y W →
      ∀ w, (Op.equalIn d t V W).run P w = .ok r w) (w : World) :
    ∀ (m i : Nat) (r : Bool), eqT.eqEs (eqT P n e) (sizeP P e) x y m i = some r →
      (forIn (List.range' i m 1) ((none, ()) : Option Bool × Unit) (fun i (_ : Option Bool × Unit) => do
        let a ← part e X.toArray (i * sizeP P e)
        let c ← part e Y.toArray (i * sizeP P e)
        let r ← Op.equalIn d e a c
        if (!r) = true then pure (ForInStep.done (some false, ())) else pure (ForInStep.yield (none, ())) : _ → _ → Sem _)).run P w = .ok (if r then none else some false, ()) w
  | 0, i, r, hr => by simp only [eqT.eqEs, Option.some.injEq] at hr; subst hr; rfl
  | m + 1, i, r, hr => by
    rw [eqT.eqEs] at hr
    rw [List.range'_succ, List.forIn_cons]
    have go : ∀ b, eqT P n e ((x.drop (i * sizeP P e)).take (sizeP P e)) ((y.drop (i * sizeP P e)).take (sizeP P e)) = some b →
        ∃ V W, (part e X.toArray (i * sizeP P e)).run P w = .ok V w ∧ (part e Y.toArray (i * sizeP P e)).run P w = .ok W w ∧ (Op.equalIn d e V W).run P w = .ok b w := fun b hb => by
      obtain ⟨u, hu, hl⟩ := eqT_lone hb
      have hx' := (hx.drop (i * sizeP P e)).take (sizeP P e)
      have hy' := (hy.drop (i * sizeP P e)).take (sizeP P e)
      obtain ⟨V, v1, v2⟩ := part_shape (X := X) (off := i * sizeP P e) hu (hl.imp_right (Or.imp_right fun c => hx'.length.trans c.1)) w
      obtain ⟨W, w1, w2⟩ := part_shape (X := Y) (off := i * sizeP P e) hu (hl.imp_right (Or.imp_right fun c => hy'.length.trans c.2)) w
      exact ⟨V, W, v1, w1, ih _ _ _ _ _ _ _ _ hb hx' hy' v2 w2 w⟩
    split at hr
    · rename_i hb
      obtain ⟨V, W, v1, w1, e1⟩ := go true hb
      simp only [Sem.run_bind, v1, Result.andThen_ok, w1, e1, Bool.not_true, Bool.false_eq_true, if_false, Sem.run_pure]
      exact eqElems_sound hx hy ih w m (i + 1) r hr
    · rename_i hb
      cases r with
      | true => exact (hb hr).elim
      | false =>
        obtain ⟨V, W, v1, w1, e1⟩ := go false hr
        simp only [Sem.run_bind, v1, Result.andThen_ok, w1, e1, Bool.not_false, if_true, Sem.run_pure]
        rfl

theorem sizeP_or {e : TypeId} {m n : Nat} {x y : List AVal} {r : Bool} (hr : eqT.eqEs (eqT P n e) (sizeP P e) x y m 0 = some r) : (∃ i, P.info? e = some i) ∨ m = 0 := by
  cases m with
  | zero => exact .inr rfl
  | succ m =>
    rw [eqT.eqEs] at hr
    split at hr
    · rename_i hb
      obtain ⟨u, hu, _⟩ := eqT_lone hb
      exact .inl (underlying_info hu)
    · obtain ⟨u, hu, _⟩ := eqT_lone hr
      exact .inl (underlying_info hu)

theorem eqT_sound {E : Env} : ∀ (n d : Nat), n ≤ d → ∀ (t : TypeId) (x y : List AVal) (X Y : List Value) (V W : Value) (r : Bool), eqT P n t x y = some r →
    RelL E x X → RelL E y Y → Shape P t X V → Shape P t Y W → ∀ w, (Op.equalIn d t V W).run P w = .ok r w
  | 0, _, _, _, _, _, _, _, _, _, _, hr, _, _, _, _, _ => by simp [eqT] at hr
  | n + 1, 0, hd, _, _, _, _, _, _, _, _, _, _, _, _, _, _ => by omega
  | n + 1, d + 1, hd, t, x, y, X, Y, V, W, r, hr, hx, hy, sx, sy, w => by
    have ih := eqT_sound (E := E) n d (by omega)
    unfold eqT at hr
    cases hu : P.underlying t with
    | none => rw [hu] at hr; cases hr
    | some u =>
      rw [hu] at hr
      unfold Shape at sx sy
      rw [hu] at sx sy
      cases u with
      | struct fs =>
        simp only at hr sx sy
        subst sx; subst sy
        cases hp : P.stoodInHeld t with
        | true => rw [hp] at hr; cases hr
        | false =>
          rw [hp] at hr
          have hf : P.fieldsOf t = fs := by simp [Program.fieldsOf, hu]
          rw [run_equalIn_struct w d t _ _ (by rw [hf]; exact hu) hp, hf]
          exact eqFields_sound hx hy ih w _ _ hr
      | array m e =>
        simp only at hr sx sy
        subst sx; subst sy
        cases hm : Nat.beq m 0 with
        | true => rw [hm] at hr; cases hr
        | false =>
        rw [hm] at hr
        obtain ⟨i, hi⟩ : ∃ i, P.info? e = some i := (sizeP_or (P := P) (e := e) (m := m) hr).resolve_right fun c => by subst c; cases hm
        simp only [Op.equalIn, Sem.run_bind, run_underlying hu, Result.andThen_ok]
        have hz : sizeP P e = i.size := by simp [sizeP, hi, forceN_eq]
        have := eqElems_sound hx hy ih w m 0 r hr
        rw [hz] at this
        simp only [run_sizeOf' hi, Result.andThen_ok, Std.Legacy.Range.forIn_eq_forIn_range', Std.Legacy.Range.size, Nat.sub_zero, Nat.add_sub_cancel, Nat.div_one, this]
        cases r <;> rfl
      | bool =>
        simp only at hr sx sy
        split at hr
        · cases hr
          subst sx; subst sy
          obtain ⟨_, _, h1, rfl, e1⟩ := hx
          obtain ⟨_, _, h2, rfl, e2⟩ := hy
          cases e1; cases e2; cases h1; cases h2
          simp [Op.equalIn, run_underlying hu]
        · cases hr
      | int kd =>
        simp only at hr sx sy
        split at hr
        · rename_i k a k' b
          cases hk : beqK k k' with
          | false => rw [hk] at hr; cases hr
          | true =>
            rw [hk] at hr
            have := beqK_eq hk
            cases hr
            subst sx; subst sy; subst this
            obtain ⟨_, _, h1, rfl, e1⟩ := hx
            obtain ⟨_, _, h2, rfl, e2⟩ := hy
            cases e1; cases e2; cases h1; cases h2
            simp [Op.equalIn, run_underlying hu, eqI_eq]
        · cases hr
      | string =>
        simp only at hr sx sy
        split at hr
        · cases hr
          subst sx; subst sy
          obtain ⟨_, _, ⟨s, h1, g1⟩, rfl, e1⟩ := hx
          obtain ⟨_, _, ⟨s', h2, g2⟩, rfl, e2⟩ := hy
          cases e1; cases e2; cases h1; cases h2
          subst g1; subst g2
          rw [eqL_bytes]
          simp only [Op.equalIn, Sem.run_bind, run_underlying hu, Result.andThen_ok, Sem.run_pure]
          congr 1
          obtain ⟨⟨s⟩⟩ := s
          obtain ⟨⟨s'⟩⟩ := s'
          show ((⟨s⟩ : Array UInt8) == ⟨s'⟩) = _
          simp
        · cases hr
      | _ => cases hr
end
end Go.Ev
/-! The operations are sound, part 7: binary and unary operations. -/
namespace Go.Ev
open Go.RowKit (Below)
section
variable {P : Program} {N0 : Nat} {w0 : World} {tm : T AVal} {h : H} {nx : Nat} {o : Oper} {k : AVal → H → Nat → Bool}

theorem tag_cases {t : TypeId} : (Nat.beq (tagOf P t) 1 = true → P.underlying t = some .bool) ∧ (Nat.beq (tagOf P t) 2 = true → ∃ e, P.underlying t = some (.pointer e)) ∧
    (Nat.beq (tagOf P t) 3 = true → ∃ e, P.underlying t = some (.slice e)) ∧ (Nat.beq (tagOf P t) 4 = true → ∃ a e, P.underlying t = some (.map a e)) ∧
    (Nat.beq (tagOf P t) 5 = true → ∃ a b c, P.underlying t = some (.func a b c)) ∧ (Nat.beq (tagOf P t) 6 = true → ∃ m, P.underlying t = some (.interface m)) := by
  unfold tagOf
  cases P.underlying t with
  | none => simp
  | some u => cases u <;> simp

/-- what a comparison says: for every two values that the abstract ones stand for, the guard passes and == answers r -/
def EqOk (P : Program) (op : BinOp) (t : TypeId) (x y : Operand) (a b : AVal) (r : Bool) : Prop :=
  ∀ (E : Env) (X Y : Value) (w : World), Rel E a X → Rel E b Y →
    (eqGuard op t x y X Y).run P w = .ok () w ∧ (Op.equal t X Y).run P w = .ok r w ∧
    (binOp .eql t X Y = do pure (.bool (← Op.equal t X Y))) ∧ (binOp .neq t X Y = do pure (.bool (!(← Op.equal t X Y))))

theorem const_nil {x : Operand} (h : isConstNil x = true) : x = .const .nilIface := by
  unfold isConstNil at h
  split at h
  · rfl
  · cases h
theorem guard_nil {op : BinOp} {t : TypeId} {x y : Operand} (h : isConstNil x = true ∨ isConstNil y = true) (w : World) : (eqGuard op t x y .nilIface .nilIface).run P w = .ok () w := by
  rcases h with h | h
  · rw [const_nil h]; cases op <;> simp [eqGuard]
  · rw [const_nil h]; cases op <;> cases x <;> simp [eqGuard]

theorem equal_ok {t : TypeId} {X Y : Value} {r : Bool} {w : World} (h : ∀ d, (Op.equalIn (d + 1) t X Y).run P w = .ok r w) : (Op.equal t X Y).run P w = .ok r w := h 9999

theorem eqK_true {op : BinOp} {t : TypeId} {x y : Operand} {a b : AVal} {k : Bool → Bool} (hk : eqK P F t (isConstNil x) (isConstNil y) a b k = true) :
    ∃ r, k r = true ∧ EqOk P op t x y a b r := by
  obtain ⟨t1, t2, t3, t4, t5, t6⟩ := tag_cases (P := P) (t := t)
  unfold eqK at hk
  split at hk
  · obtain ⟨h1, hk⟩ := cond_true hk
    refine ⟨_, hk, fun E X Y w hx hy => ?_⟩
    cases hx; cases hy
    have hu := t1 h1
    exact ⟨by cases op <;> simp [eqGuard], equal_ok fun d => by simp [Op.equalIn, run_underlying hu], rfl, rfl⟩
  · obtain ⟨h1, hk⟩ := cond_true hk
    refine ⟨_, hk, fun E X Y w hx hy => ?_⟩
    obtain ⟨_, hu⟩ := t2 h1
    cases hx
    cases hy
    exact ⟨by cases op <;> simp [eqGuard], equal_ok fun d => by simp [Op.equalIn, run_underlying hu], rfl, rfl⟩
  · obtain ⟨h1, hk⟩ := cond_true hk
    refine ⟨_, hk, fun E X Y w hx hy => ?_⟩
    obtain ⟨_, hu⟩ := t2 h1
    cases hx
    obtain ⟨_, _, rfl⟩ := hy
    exact ⟨by cases op <;> simp [eqGuard], equal_ok fun d => by simp [Op.equalIn, run_underlying hu], rfl, rfl⟩
  · obtain ⟨h1, hk⟩ := cond_true hk
    refine ⟨_, hk, fun E X Y w hx hy => ?_⟩
    obtain ⟨_, hu⟩ := t2 h1
    obtain ⟨_, _, rfl⟩ := hx
    cases hy
    exact ⟨by cases op <;> simp [eqGuard], equal_ok fun d => by simp [Op.equalIn, run_underlying hu], rfl, rfl⟩
  · rename_i i1 o1 i2 o2
    replace hk := cond_true hk
    obtain ⟨h1, hk⟩ := hk
    have h1 : i1 = i2 := Nat.eq_of_beq_eq_true h1
    subst h1
    cases hz : Nat.beq (ptrSz P t) 0 with
    | true => rw [hz] at hk; simp [F] at hk
    | false =>
    rw [hz] at hk
    refine ⟨_, hk, fun E X Y w hx hy => ?_⟩
    obtain ⟨i, e1, rfl⟩ := hx
    obtain ⟨j, e2, rfl⟩ := hy
    rw [e1] at e2
    cases e2
    unfold ptrSz at hz
    split at hz
    · rename_i e hu
      have hne : sizeP P e ≠ 0 := fun c => by rw [c] at hz; cases hz
      obtain ⟨ti, g1, g2⟩ := sizeP_info hne
      refine ⟨by cases op <;> simp [eqGuard], equal_ok fun d => ?_, rfl, rfl⟩
      simp only [Op.equalIn, Sem.run_bind, run_underlying hu, Result.andThen_ok, run_sizeOf' g1, g2, hne, ne_eq, not_false_eq_true, if_true, sameAddr, beq_self_eq_true, Sem.run_pure]
      congr 1
      rw [Bool.eq_iff_iff]
      simp
    · cases hz
  · obtain ⟨h1, hk⟩ := cond_true hk
    refine ⟨_, hk, fun E X Y w hx hy => ?_⟩
    obtain ⟨_, hu⟩ := t3 h1
    cases hx
    cases hy
    exact ⟨by cases op <;> simp [eqGuard], equal_ok fun d => by simp [Op.equalIn, run_underlying hu], rfl, rfl⟩
  · obtain ⟨h1, hk⟩ := cond_true hk
    refine ⟨_, hk, fun E X Y w hx hy => ?_⟩
    obtain ⟨_, hu⟩ := t3 h1
    cases hx
    obtain ⟨_, _, _, _, _, _, rfl⟩ := hy
    exact ⟨by cases op <;> simp [eqGuard], equal_ok fun d => by simp [Op.equalIn, run_underlying hu], rfl, rfl⟩
  · obtain ⟨h1, hk⟩ := cond_true hk
    refine ⟨_, hk, fun E X Y w hx hy => ?_⟩
    obtain ⟨_, hu⟩ := t3 h1
    obtain ⟨_, _, _, _, _, _, rfl⟩ := hx
    cases hy
    exact ⟨by cases op <;> simp [eqGuard], equal_ok fun d => by simp [Op.equalIn, run_underlying hu], rfl, rfl⟩
  · obtain ⟨h1, hk⟩ := cond_true hk
    refine ⟨_, hk, fun E X Y w hx hy => ?_⟩
    obtain ⟨_, _, hu⟩ := t4 h1
    cases hx
    cases hy
    exact ⟨by cases op <;> simp [eqGuard], equal_ok fun d => by simp [Op.equalIn, run_underlying hu], rfl, rfl⟩
  · obtain ⟨h1, hk⟩ := cond_true hk
    refine ⟨_, hk, fun E X Y w hx hy => ?_⟩
    obtain ⟨_, _, hu⟩ := t4 h1
    cases hx
    obtain ⟨_, _, rfl⟩ := hy
    exact ⟨by cases op <;> simp [eqGuard], equal_ok fun d => by simp [Op.equalIn, run_underlying hu], rfl, rfl⟩
  · obtain ⟨h1, hk⟩ := cond_true hk
    refine ⟨_, hk, fun E X Y w hx hy => ?_⟩
    obtain ⟨_, _, hu⟩ := t4 h1
    obtain ⟨_, _, rfl⟩ := hx
    cases hy
    exact ⟨by cases op <;> simp [eqGuard], equal_ok fun d => by simp [Op.equalIn, run_underlying hu], rfl, rfl⟩
  · obtain ⟨h1, hk⟩ := cond_true hk
    refine ⟨_, hk, fun E X Y w hx hy => ?_⟩
    obtain ⟨_, _, _, hu⟩ := t5 h1
    cases hx
    cases hy
    exact ⟨by cases op <;> simp [eqGuard], equal_ok fun d => by simp [Op.equalIn, run_underlying hu], rfl, rfl⟩
  · obtain ⟨h1, hk⟩ := cond_true hk
    refine ⟨_, hk, fun E X Y w hx hy => ?_⟩
    obtain ⟨_, _, _, hu⟩ := t5 h1
    cases hx
    obtain ⟨_, _, _, _, _, _, rfl⟩ := hy
    exact ⟨by cases op <;> simp [eqGuard], equal_ok fun d => by simp [Op.equalIn, run_underlying hu], rfl, rfl⟩
  · obtain ⟨h1, hk⟩ := cond_true hk
    refine ⟨_, hk, fun E X Y w hx hy => ?_⟩
    obtain ⟨_, _, _, hu⟩ := t5 h1
    obtain ⟨_, _, _, _, _, _, rfl⟩ := hx
    cases hy
    exact ⟨by cases op <;> simp [eqGuard], equal_ok fun d => by simp [Op.equalIn, run_underlying hu], rfl, rfl⟩
  · obtain ⟨h1, hk⟩ := cond_true hk
    simp only [Bool.and_eq_true, Bool.or_eq_true] at h1
    refine ⟨_, hk, fun E X Y w hx hy => ?_⟩
    obtain ⟨_, hu⟩ := t6 h1.1
    cases hx; cases hy
    exact ⟨guard_nil h1.2 w, equal_ok fun d => by simp [Op.equalIn, run_underlying hu], rfl, rfl⟩
  · obtain ⟨h1, hk⟩ := cond_true hk
    refine ⟨_, hk, fun E X Y w hx hy => ?_⟩
    obtain ⟨_, hu⟩ := t6 h1
    cases hx
    obtain ⟨_, _, rfl⟩ := hy
    exact ⟨by cases op <;> simp [eqGuard], equal_ok fun d => by simp [Op.equalIn, run_underlying hu], rfl, rfl⟩
  · obtain ⟨h1, hk⟩ := cond_true hk
    refine ⟨_, hk, fun E X Y w hx hy => ?_⟩
    obtain ⟨_, hu⟩ := t6 h1
    obtain ⟨_, _, rfl⟩ := hx
    cases hy
    exact ⟨by cases op <;> simp [eqGuard], equal_ok fun d => by simp [Op.equalIn, run_underlying hu], rfl, rfl⟩
  · rename_i a b
    cases hg : P.eqGuardType P.depth t with
    | true => rw [hg] at hk; simp [F] at hk
    | false =>
    replace hk : (a.lenK 0 fun n => a.colK 0 n [] fun l => b.lenK 0 fun m => b.colK 0 m [] fun l' => match eqT P 20 t l l' with
        | some r => (match P.underlying t with
          | some (.struct _) => k r
          | some (.array _ _) => k r
          | _ => F "==: type")
        | none => F "==: cells") = true := by rw [hg] at hk; exact hk
    rw [T.lenK_eq, T.colK_eq, T.lenK_eq, T.colK_eq] at hk
    split at hk
    · rename_i r he
      have main : (∃ fs, P.underlying t = some (.struct fs)) ∨ (∃ m e, P.underlying t = some (.array m e)) → EqOk P op t x y (.agg a) (.agg b) r := fun hu E X Y w hx hy => by
        obtain ⟨xs, rx, rfl⟩ := hx
        obtain ⟨ys, ry, rfl⟩ := hy
        refine ⟨run_eqGuard_agg w op t x y _ _ hg, ?_, rfl, rfl⟩
        have cx : a.col 0 (0 + a.len) [] = a.toList := by rw [T.col_eq _ rx.wf.1, T.len_eq _ rx.wf.1]; simp
        have cy : b.col 0 (0 + b.len) [] = b.toList := by rw [T.col_eq _ ry.wf.1, T.len_eq _ ry.wf.1]; simp
        rw [cx, cy] at he
        refine eqT_sound (E := E) 20 10000 (by omega) t _ _ xs ys _ _ r he rx.toList.1 ry.toList.1 ?_ ?_ w
        · rcases hu with ⟨fs, hu⟩ | ⟨m, e, hu⟩ <;> simp [Shape, hu]
        · rcases hu with ⟨fs, hu⟩ | ⟨m, e, hu⟩ <;> simp [Shape, hu]
      split at hk
      · exact ⟨r, hk, main (.inl ⟨_, ‹_›⟩)⟩
      · exact ⟨r, hk, main (.inr ⟨_, _, ‹_›⟩)⟩
      · exact (F_false hk).elim
    · exact (F_false hk).elim
  · exact (F_false hk).elim
end
end Go.Ev
/-! The operations are sound, part 8: binary operations. -/
namespace Go.Ev
open Go.RowKit (Below)
section
variable {P : Program} {N0 : Nat} {w0 : World} {tm : T AVal} {h : H} {nx : Nat} {o : Oper} {k : AVal → H → Nat → Bool}

def BinOk (P : Program) (op : BinOp) (t : TypeId) (x y : Operand) (a b v : AVal) : Prop :=
  ∀ (E : Env) (X Y : Value) (w : World), Rel E a X → Rel E b Y →
    ∃ cv, Rel E v cv ∧ (do eqGuard op t x y X Y; binOp op t X Y : Sem Value).run P w = .ok cv w

theorem guard_int {op : BinOp} {t : TypeId} {x y : Operand} {k k' : IntKind} {a b : Int} (w : World) : (eqGuard op t x y (.int k a) (.int k' b)).run P w = .ok () w := by
  cases op <;> simp [eqGuard]
theorem guard_str {op : BinOp} {t : TypeId} {x y : Operand} {a b : ByteArray} (w : World) : (eqGuard op t x y (.string a) (.string b)).run P w = .ok () w := by
  cases op <;> simp [eqGuard]
theorem binOp_str (op : BinOp) (t : TypeId) (a b : ByteArray) : binOp op t (.string a) (.string b) = Op.stringOp op a b := by
  cases op <;> rfl
theorem lengthK_eq' {α β : Type} (l : List α) (n : Nat) (k : Nat → β) : lengthK l n k = k (n + l.length) := lengthK_eq l n k

theorem bin_str {op : BinOp} {t : TypeId} {x y : Operand} {a b : List Nat} {v : AVal}
    (hs : ∀ s s' : ByteArray, s.data.toList.map UInt8.toNat = a → s'.data.toList.map UInt8.toNat = b → ∃ cv, (∀ E, Rel E v cv) ∧ ∀ w, (Op.stringOp op s s').run P w = .ok cv w) :
    BinOk P op t x y (.str a) (.str b) v := fun E X Y w hx hy => by
  obtain ⟨s, rfl, h1⟩ := hx
  obtain ⟨s', rfl, h2⟩ := hy
  obtain ⟨cv, h3, h4⟩ := hs s s' h1 h2
  exact ⟨cv, h3 E, by rw [Sem.run_bind, guard_str, Result.andThen_ok, binOp_str]; exact h4 w⟩

theorem toL (s : ByteArray) : s.toList = s.data.toList := ByteArray.toList_eq s

theorem binK_true {op : BinOp} {t : TypeId} {x y : Operand} {a b : AVal} {k : AVal → Bool} (hk : binK P F op t (isConstNil x) (isConstNil y) a b k = true) :
    ∃ v, k v = true ∧ BinOk P op t x y a b v := by
  unfold binK at hk
  split at hk
  · rename_i ka n kb m
    have fin : ∀ v, (∀ E t w, ∃ cv, Rel E v cv ∧ (binOp op t (.int ka n) (.int kb m)).run P w = .ok cv w) → BinOk P op t x y (.int ka n) (.int kb m) v := fun v hv E X Y w hx hy => by
      cases hx; cases hy
      obtain ⟨cv, h1, h2⟩ := hv E t w
      exact ⟨cv, h1, by rw [Sem.run_bind, guard_int, Result.andThen_ok]; exact h2⟩
    split at hk
    · obtain ⟨v, hv, h2⟩ := shiftK_true (.inl rfl) hk; exact ⟨v, hv, fin v h2⟩
    · obtain ⟨v, hv, h2⟩ := shiftK_true (.inr rfl) hk; exact ⟨v, hv, fin v h2⟩
    · rename_i n1 n2
      replace hk := cond_true hk
      obtain ⟨hb, hk⟩ := hk
      have := beqK_eq hb
      subst this
      obtain ⟨v, hv, h2⟩ := intOpK_true ⟨n1, n2⟩ hk
      exact ⟨v, hv, fin v h2⟩
  · rename_i l l'
    split at hk
    · rw [lengthK_eq'] at hk
      replace hk := cond_true hk
      obtain ⟨hb, hk⟩ := hk
      refine ⟨_, hk, bin_str fun s s' h1 h2 => ⟨.string (s ++ s'), fun E => ⟨_, rfl, by rw [appL_eq, ← h1, ← h2]; simp⟩, fun w => ?_⟩⟩
      have hb := Nat.le_of_ble_eq_true hb
      rw [appL_eq, ← h1, ← h2] at hb
      simp only [List.length_append, List.length_map, size_toList] at hb
      have hb' : ¬ (((s.size + s'.size : Nat) : Int) > IntKind.i64.max) := by
        simp only [IntKind.max, IntKind.bits]
        omega
      simp only [Op.stringOp]
      rw [if_neg hb']
      rfl
    · refine ⟨_, hk, bin_str fun s s' h1 h2 => ⟨_, fun E => rfl, fun w => ?_⟩⟩
      subst h1; subst h2
      simp only [Op.stringOp, Sem.run_pure, toL, eqL_bytes]
    · refine ⟨_, hk, bin_str fun s s' h1 h2 => ⟨_, fun E => rfl, fun w => ?_⟩⟩
      subst h1; subst h2
      simp only [Op.stringOp, Sem.run_pure, toL, eqL_bytes]
    · refine ⟨_, hk, bin_str fun s s' h1 h2 => ⟨_, fun E => rfl, fun w => ?_⟩⟩
      subst h1; subst h2
      simp only [Op.stringOp, Sem.run_pure, toL, ltL_bytes]
    · refine ⟨_, hk, bin_str fun s s' h1 h2 => ⟨_, fun E => rfl, fun w => ?_⟩⟩
      subst h1; subst h2
      simp only [Op.stringOp, Sem.run_pure, toL, ltL_bytes, bytesLess_total]
    · refine ⟨_, hk, bin_str fun s s' h1 h2 => ⟨_, fun E => rfl, fun w => ?_⟩⟩
      subst h1; subst h2
      simp only [Op.stringOp, Sem.run_pure, toL, ltL_bytes, ← bytesLess_total, Bool.not_not]
    · refine ⟨_, hk, bin_str fun s s' h1 h2 => ⟨_, fun E => rfl, fun w => ?_⟩⟩
      subst h1; subst h2
      simp only [Op.stringOp, Sem.run_pure, toL, ltL_bytes]
    · exact (F_false hk).elim
  · split at hk
    · obtain ⟨r, hr, he⟩ := eqK_true (op := .eql) hk
      refine ⟨_, hr, fun E X Y w hx hy => ⟨_, rfl, ?_⟩⟩
      obtain ⟨g, e, b1, b2⟩ := he E X Y w hx hy
      rw [Sem.run_bind, g, Result.andThen_ok, b1]
      simp only [Sem.run_bind, e, Result.andThen_ok, Sem.run_pure]
    · obtain ⟨r, hr, he⟩ := eqK_true (op := .neq) hk
      refine ⟨_, hr, fun E X Y w hx hy => ⟨_, rfl, ?_⟩⟩
      obtain ⟨g, e, b1, b2⟩ := he E X Y w hx hy
      rw [Sem.run_bind, g, Result.andThen_ok, b2]
      simp only [Sem.run_bind, e, Result.andThen_ok, Sem.run_pure]
    · exact (F_false hk).elim

theorem sound_binOp {op : BinOp} {t : TypeId} {x y : Operand} {ck : _} (ho : o.op = .binOp op t x y ck) (hk : opK P tm F h nx (.binOp op t x y ck) o.type k = true) : OpGoal P N0 w0 tm h nx o k := by
  simp only [opK] at hk
  replace hk := evK_true hk
  obtain ⟨a, hk, ha⟩ := hk
  replace hk := evK_true hk
  obtain ⟨b, hk, hb⟩ := hk
  replace hk := binK_true hk
  obtain ⟨v, hk, hv⟩ := hk
  refine ⟨_, _, _, hk, OpOk.pure fun E tmps w r hw => ?_⟩
  obtain ⟨cv, h1, h2⟩ := hv E _ _ w (ha E tmps hw.globs r) (hb E tmps hw.globs r)
  refine ⟨cv, h1, ?_⟩
  simp only [execOp, ho]
  rw [Sem.run_bind] at h2
  simp only [Sem.run_bind, h2]
  rfl

theorem unK_true {op : UnOp} {a : AVal} {k : AVal → Bool} (hk : unK F op a k = true) :
    ∃ v, k v = true ∧ ∀ E X w, Rel E a X → ∃ cv, Rel E v cv ∧ (Op.unary op X).run P w = .ok cv w := by
  unfold unK at hk
  split at hk
  · exact ⟨_, hk, fun E X w hx => by cases hx; exact ⟨_, rfl, rfl⟩⟩
  · rename_i kd n
    rw [intK_eq, wrapFast_eq, subI_eq] at hk
    exact ⟨_, hk, fun E X w hx => by cases hx; exact ⟨_, rfl, rfl⟩⟩
  · exact (F_false hk).elim

theorem sound_unOp {op : UnOp} {t : _} {x : Operand} (ho : o.op = .unOp op t x) (hk : opK P tm F h nx (.unOp op t x) o.type k = true) : OpGoal P N0 w0 tm h nx o k := by
  simp only [opK] at hk
  replace hk := evK_true hk
  obtain ⟨a, hk, ha⟩ := hk
  replace hk := unK_true (P := P) hk
  obtain ⟨v, hk, hv⟩ := hk
  refine ⟨_, _, _, hk, OpOk.pure fun E tmps w r hw => ?_⟩
  obtain ⟨cv, h1, h2⟩ := hv E _ w (ha E tmps hw.globs r)
  refine ⟨cv, h1, ?_⟩
  simp only [execOp, ho, Sem.run_bind, h2]
  rfl
end
end Go.Ev
