/- Floats in the walk, whole: each operation gives 'flR' (its bits; of an invalid one, a not-a-number off the tape) and the world a draw or none later. What is the same up to the bits of not-a-numbers stays so. -/
import Derived.WalkKit
import Derived.Deep.Draws
import Derived.Laws.FloatArith
import Derived.WalkLawsBesides
namespace Go.Proofs.YtljkgemkolmihaaDoor
open Go.RowKit

/-- x is a not-a-number. -/
def isN (k : FloatKind) (x : Nat) : Bool := (k.decode x).isNaN

/-- what an arithmetic operation gives -/
def flR (op : BinOp) (k : FloatKind) (x y : Nat) (w : World) : Nat :=
  match floatBits op k x y with
  | some r => r
  | none => (Question.nanBits k x y).cut (w.tape w.drawn (Question.nanBits k x y))
/-- and how many draws it takes -/
def flN (op : BinOp) (k : FloatKind) (x y : Nat) : Nat := if (floatBits op k x y).isSome then 0 else 1

def isArith : BinOp → Bool
  | .add | .sub | .mul | .quo => true
  | _ => false

section
variable {P : Program} (w : World)
theorem run_fl (op : BinOp) (ho : isArith op = true) (t : TypeId) (k : FloatKind) (x y : Nat) :
    (binOp op t (.float k x) (.float k y)).run P w = .ok (.float k (flR op k x y w)) (w.drewN (flN op k x y)) := by
  cases h : floatBits op k x y with
  | some r => rw [run_float_arith w op t k x y r h]; simp [flR, flN, h, World.drewN_zero]
  | none =>
    unfold floatBits at h
    cases op <;> simp [isArith] at ho <;> simp only at h
    all_goals simp [binOp, Op.floatArith, h, flR, flN, floatBits, choose, Sem.run, Question.forced, World.drewN]
@[go_sem] theorem run_fl_add (t : TypeId) (k : FloatKind) (x y : Nat) : (binOp .add t (.float k x) (.float k y)).run P w = .ok (.float k (flR .add k x y w)) (w.drewN (flN .add k x y)) := run_fl w _ rfl t k x y
@[go_sem] theorem run_fl_sub (t : TypeId) (k : FloatKind) (x y : Nat) : (binOp .sub t (.float k x) (.float k y)).run P w = .ok (.float k (flR .sub k x y w)) (w.drewN (flN .sub k x y)) := run_fl w _ rfl t k x y
@[go_sem] theorem run_fl_mul (t : TypeId) (k : FloatKind) (x y : Nat) : (binOp .mul t (.float k x) (.float k y)).run P w = .ok (.float k (flR .mul k x y w)) (w.drewN (flN .mul k x y)) := run_fl w _ rfl t k x y
@[go_sem] theorem run_fl_quo (t : TypeId) (k : FloatKind) (x y : Nat) : (binOp .quo t (.float k x) (.float k y)).run P w = .ok (.float k (flR .quo k x y w)) (w.drewN (flN .quo k x y)) := run_fl w _ rfl t k x y

/-- float64(x) of a float32 -/
def wiR (x : Nat) (w : World) : Nat :=
  match floatToFloatBits .f32 x .f64 with
  | some r => r
  | none => if isN .f32 x then (Question.nanConv .f64 x).cut (w.tape w.drawn (Question.nanConv .f64 x)) else (Question.floatToFloat x).cut (w.tape w.drawn (Question.floatToFloat x))
def wiN (x : Nat) : Nat := if (floatToFloatBits .f32 x .f64).isSome then 0 else 1
/-- float32(x) of a float64 -/
def naR (x : Nat) (w : World) : Nat :=
  match floatToFloatBits .f64 x .f32 with
  | some r => r
  | none => if isN .f64 x then (Question.nanConv .f32 x).cut (w.tape w.drawn (Question.nanConv .f32 x)) else (Question.floatToFloat x).cut (w.tape w.drawn (Question.floatToFloat x))
def naN (x : Nat) : Nat := if (floatToFloatBits .f64 x .f32).isSome then 0 else 1

theorem run_wi (src dst : TypeId) (x : Nat) (hs : (P.underlying src).isSome = true) (hd : P.underlying dst = some (.float .f64)) :
    (convert src dst (.float .f32 x)).run P w = .ok (.float .f64 (wiR x w)) (w.drewN (wiN x)) := by
  cases h : floatToFloatBits .f32 x .f64 with
  | some r => rw [run_convert_float_float w src dst .f32 .f64 x r hs hd h]; simp [wiR, wiN, h, World.drewN_zero]
  | none =>
    obtain ⟨u, hs'⟩ := Option.isSome_iff_exists.1 hs
    have h0 := h
    unfold floatToFloatBits at h
    simp only [reduceCtorEq, if_false] at h
    split at h
    · rename_i a b he
      cases u <;> simp [convert, run_underlying hs', run_underlying hd, Conv.floatToFloat, he, wiR, wiN, h0, isN, Ieee.Datum.isNaN, choose, Sem.run, Question.forced, World.drewN]
    · cases h
    · rename_i s m e he
      split at h
      · rename_i hi
        cases u <;> simp [convert, run_underlying hs', run_underlying hd, Conv.floatToFloat, he, hi, wiR, wiN, h0, isN, Ieee.Datum.isNaN, choose, Sem.run, Question.forced, World.drewN]
      · cases h
theorem run_na (src dst : TypeId) (x : Nat) (hs : (P.underlying src).isSome = true) (hd : P.underlying dst = some (.float .f32)) :
    (convert src dst (.float .f64 x)).run P w = .ok (.float .f32 (naR x w)) (w.drewN (naN x)) := by
  cases h : floatToFloatBits .f64 x .f32 with
  | some r => rw [run_convert_float_float w src dst .f64 .f32 x r hs hd h]; simp [naR, naN, h, World.drewN_zero]
  | none =>
    obtain ⟨u, hs'⟩ := Option.isSome_iff_exists.1 hs
    have h0 := h
    unfold floatToFloatBits at h
    simp only [reduceCtorEq, if_false] at h
    split at h
    · rename_i a b he
      cases u <;> simp [convert, run_underlying hs', run_underlying hd, Conv.floatToFloat, he, naR, naN, h0, isN, Ieee.Datum.isNaN, choose, Sem.run, Question.forced, World.drewN]
    · cases h
    · rename_i s m e he
      split at h
      · rename_i hi
        cases u <;> simp [convert, run_underlying hs', run_underlying hd, Conv.floatToFloat, he, hi, naR, naN, h0, isN, Ieee.Datum.isNaN, choose, Sem.run, Question.forced, World.drewN]
      · cases h
/-- float32(x) of a float32, float64(x) of a float64: x -/
theorem run_same_float (src dst : TypeId) (k : FloatKind) (x : Nat) (hs : (P.underlying src).isSome = true) (hd : P.underlying dst = some (.float k)) :
    (convert src dst (.float k x)).run P w = .ok (.float k x) w := run_convert_float_float w src dst k k x x hs hd (by simp [floatToFloatBits])
end

attribute [go_sem] run_wi run_na run_same_float

/-! ### order -/
theorem order_nan_left {k : FloatKind} {x y : Nat} (h : isN k x = true) : k.format.order x y = none := by
  simp only [isN, FloatKind.decode] at h
  unfold Ieee.Format.order
  cases hx : k.format.read x <;> simp_all [Ieee.Datum.isNaN, Ieee.Datum.order]
theorem order_nan_right {k : FloatKind} {x y : Nat} (h : isN k y = true) : k.format.order x y = none := by
  simp only [isN, FloatKind.decode] at h
  unfold Ieee.Format.order
  cases hx : k.format.read x <;> cases hy : k.format.read y <;> simp_all [Ieee.Datum.isNaN, Ieee.Datum.order]
theorem order_self {k : FloatKind} {x : Nat} (h : isN k x = false) : k.format.order x x = some .eq := by
  simp only [isN, FloatKind.decode] at h
  unfold Ieee.Format.order
  cases hx : k.format.read x with
  | nan a b => simp_all [Ieee.Datum.isNaN]
  | infinity s => simp [Ieee.Datum.order]
  | number s m e => simp [Ieee.Datum.order]
theorem order_self_eq (k : FloatKind) (x : Nat) : (k.format.order x x == some .eq) = !isN k x := by
  cases h : isN k x
  · rw [order_self h]; rfl
  · rw [order_nan_left h]; rfl
theorem order_self_ne (k : FloatKind) (x : Nat) : (k.format.order x x != some .eq) = isN k x := by
  simp [bne, order_self_eq]

/-- The same number, up to the bits of a not-a-number. -/
def FEq (k : FloatKind) (x y : Nat) : Prop := x = y ∨ (isN k x = true ∧ isN k y = true)
theorem FEq.refl (k : FloatKind) (x : Nat) : FEq k x x := Or.inl rfl
theorem FEq.symm {k : FloatKind} {x y : Nat} (h : FEq k x y) : FEq k y x := by
  rcases h with h | ⟨a, b⟩
  · exact Or.inl h.symm
  · exact Or.inr ⟨b, a⟩
theorem FEq.trans {k : FloatKind} {x y z : Nat} (h : FEq k x y) (g : FEq k y z) : FEq k x z := by
  rcases h with rfl | ⟨a, b⟩
  · exact g
  · rcases g with rfl | ⟨c, d⟩
    · exact Or.inr ⟨a, b⟩
    · exact Or.inr ⟨a, d⟩
theorem FEq.nan {k : FloatKind} {x y : Nat} (h : FEq k x y) : isN k x = isN k y := by
  rcases h with rfl | ⟨a, b⟩
  · rfl
  · rw [a, b]
theorem FEq.order {k : FloatKind} {x y x' y' : Nat} (h : FEq k x x') (g : FEq k y y') : k.format.order x y = k.format.order x' y' := by
  rcases h with rfl | ⟨a, b⟩
  · rcases g with rfl | ⟨c, d⟩
    · rfl
    · rw [order_nan_right c, order_nan_right d]
  · rw [order_nan_left a, order_nan_left b]

theorem floatBits_nan {op : BinOp} {k : FloatKind} {x y : Nat} (h : isN k x = true ∨ isN k y = true) : floatBits op k x y = none := by
  simp only [isN, FloatKind.decode] at h
  unfold floatBits
  cases op <;> simp only [Ieee.Format.add, Ieee.Format.sub, Ieee.Format.mul, Ieee.Format.div]
  all_goals
    cases hx : k.format.read x <;> cases hy : k.format.read y <;> simp_all [Ieee.Datum.isNaN, Ieee.Datum.sum, Ieee.Datum.product, Ieee.Datum.quotient, Ieee.Datum.opposite]

theorem isN_iff (k : FloatKind) (x : Nat) : isN k x = decide (k.format.infRung < x % k.format.signWeight) := by
  have hb : k.format.binade ≤ k.format.infRung := by cases k <;> decide
  simp only [isN, FloatKind.decode, Ieee.Format.read]
  by_cases h1 : x % k.format.signWeight < k.format.binade
  · rw [if_pos h1]; simp [Ieee.Datum.isNaN]; omega
  · rw [if_neg h1]
    by_cases h2 : x % k.format.signWeight < k.format.infRung
    · rw [if_pos h2]; simp [Ieee.Datum.isNaN]; omega
    · rw [if_neg h2]
      by_cases h3 : x % k.format.signWeight = k.format.infRung
      · rw [if_pos h3]; simp [Ieee.Datum.isNaN]; omega
      · rw [if_neg h3]; simp [Ieee.Datum.isNaN]; omega
theorem isN32 (x : Nat) : isN .f32 x = decide (2139095040 < x % 2147483648) := isN_iff .f32 x
theorem isN64 (x : Nat) : isN .f64 x = decide (9218868437227405312 < x % 9223372036854775808) := isN_iff .f64 x

theorem cut32 (t : Nat) : isN .f32 ((t % 2) * 2 ^ 31 + 0x7f800000 + 1 + (t / 2) % (2 ^ 23 - 1)) = true := by
  rw [isN32]; simp only [decide_eq_true_eq]
  have h2 : t / 2 % (2 ^ 23 - 1) < 2 ^ 23 - 1 := Nat.mod_lt _ (by decide)
  generalize t / 2 % (2 ^ 23 - 1) = q at *
  omega
theorem cut64 (t : Nat) : isN .f64 ((t % 2) * 2 ^ 63 + 0x7ff0000000000000 + 1 + (t / 2) % (2 ^ 52 - 1)) = true := by
  rw [isN64]; simp only [decide_eq_true_eq]
  have h2 : t / 2 % (2 ^ 52 - 1) < 2 ^ 52 - 1 := Nat.mod_lt _ (by decide)
  generalize t / 2 % (2 ^ 52 - 1) = q at *
  omega
theorem cut_nanBits (k : FloatKind) (x y t : Nat) : isN k ((Question.nanBits k x y).cut t) = true := by
  cases k
  · exact cut32 t
  · exact cut64 t
theorem cut_nanConv (k : FloatKind) (x t : Nat) : isN k ((Question.nanConv k x).cut t) = true := by
  cases k
  · exact cut32 t
  · exact cut64 t

/-- A written number is no not-a-number. -/
theorem isN_word (k : FloatKind) (s : Bool) (r : Nat) (h : r ≤ k.format.infRung) : isN k (k.format.word s r) = false := by
  have h1 : k.format.infRung < k.format.signWeight := k.format.infRung_lt
  rw [isN_iff]
  simp only [decide_eq_false_iff_not, Nat.not_lt]
  unfold Ieee.Format.word
  split
  · rw [Nat.add_mod, Nat.mod_self, Nat.zero_add, Nat.mod_mod, Nat.mod_eq_of_lt (by omega)]; exact h
  · rw [Nat.mod_eq_of_lt (by omega)]; exact h
theorem isN_nearest (k : FloatKind) (s : Bool) (m : Nat) (e : Int) : isN k (k.format.nearest s m e) = false := by
  unfold Ieee.Format.nearest
  dsimp only
  split
  · exact isN_word k s 0 (Nat.zero_le _)
  · exact isN_word k s _ (Nat.min_le_right ..)
theorem isN_floatOfInt (k : FloatKind) (n : Int) : isN k (floatOfInt k n) = false := isN_nearest k _ _ _

/-- Sums, differences, products and quotients of the same numbers are the same. -/
theorem FEq.flR {op : BinOp} {k : FloatKind} {x y x' y' : Nat} (h : FEq k x x') (g : FEq k y y') (w w' : World) : FEq k (flR op k x y w) (flR op k x' y' w') := by
  have key : floatBits op k x y = floatBits op k x' y' := by
    rcases h with rfl | ⟨a, b⟩
    · rcases g with rfl | ⟨c, d⟩
      · rfl
      · rw [floatBits_nan (Or.inr c), floatBits_nan (Or.inr d)]
    · rw [floatBits_nan (Or.inl a), floatBits_nan (Or.inl b)]
  unfold YtljkgemkolmihaaDoor.flR
  rw [key]
  cases floatBits op k x' y' with
  | some r => exact Or.inl rfl
  | none => exact Or.inr ⟨cut_nanBits .., cut_nanBits ..⟩

theorem wi_nan {x : Nat} (w : World) (h : isN .f32 x = true) : isN .f64 (wiR x w) = true := by
  have : floatToFloatBits .f32 x .f64 = none := by
    simp only [isN] at h
    unfold floatToFloatBits
    cases hx : FloatKind.f32.decode x <;> simp_all [Ieee.Datum.isNaN]
  unfold wiR
  rw [this, h]
  exact cut_nanConv .f64 x _

theorem cut_zero (s : Bool) (n : Nat) : Ieee.Toward.even.cut s n 0 = n := by
  simp [Ieee.Toward.cut, Nat.mod_one]

/-- the numbers that a single word may stand for -/
theorem read32_bound (x : Nat) {s : Bool} {m : Nat} {e : Int} (h : FloatKind.f32.decode x = .number s m e) : m < 16777216 ∧ -149 ≤ e ∧ e ≤ 104 := by
  have hl : Ieee.single.leastPlace = -149 := by decide
  have hm : x % 2147483648 < 2147483648 := Nat.mod_lt _ (by decide)
  have h : Ieee.single.read x = .number s m e := h
  unfold Ieee.Format.read at h
  have e1 : Ieee.single.signWeight = 2147483648 := by decide
  have e2 : Ieee.single.binade = 8388608 := by decide
  have e3 : Ieee.single.infRung = 2139095040 := by decide
  simp only [e1, e2, e3, hl] at h
  split at h
  · cases h; omega
  · split at h
    · cases h; omega
    · split at h <;> cases h

theorem nearest64_ok (s : Bool) (m : Nat) (e : Int) (hm : m < 16777216) (h1 : -149 ≤ e) (h2 : e ≤ 104) :
    (FloatKind.f64.decode (FloatKind.f64.encode (.number s m e))).isInfinity = false := by
  have e1 : Ieee.double.signWeight = 9223372036854775808 := by decide
  have e2 : Ieee.double.binade = 4503599627370496 := by decide
  have e3 : Ieee.double.infRung = 9218868437227405312 := by decide
  have hl : Ieee.double.leastPlace = -1074 := by decide
  have key : ∃ r, r < 9218868437227405312 ∧ FloatKind.f64.encode (.number s m e) = Ieee.double.word s r := by
    show ∃ r, r < 9218868437227405312 ∧ Ieee.double.nearest s m e = Ieee.double.word s r
    unfold Ieee.Format.nearest
    simp only [e2, e3, hl]
    by_cases h0 : m = 0
    · rw [if_pos h0]; exact ⟨0, by decide, rfl⟩
    · rw [if_neg h0]
      have hlog : m.log2 < 24 := (Nat.log2_lt h0).2 hm
      have hf : (Ieee.double.fractionBits : Int) = 52 := rfl
      rw [hf]
      have hlast : max (e + (m.log2 : Int) - 52) (-1074) = e + (m.log2 : Int) - 52 := by omega
      rw [hlast]
      have hd : (e + (m.log2 : Int) - 52 - e).toNat = 0 := by omega
      rw [hd, cut_zero]
      have hk : m <<< (e - (e + (m.log2 : Int) - 52)).toNat < 9007199254740992 := by
        have ht : (e - (e + (m.log2 : Int) - 52)).toNat = 52 - m.log2 := by omega
        rw [ht, Nat.shiftLeft_eq]
        have h3 : m < 2 ^ (m.log2 + 1) := Nat.lt_log2_self
        calc m * 2 ^ (52 - m.log2) < 2 ^ (m.log2 + 1) * 2 ^ (52 - m.log2) := Nat.mul_lt_mul_of_pos_right h3 (Nat.two_pow_pos _)
          _ = 2 ^ 53 := by rw [← Nat.pow_add]; congr 1; omega
          _ = 9007199254740992 := by decide
      have hq : (e + (m.log2 : Int) - 52 - -1074).toNat ≤ 1149 := by omega
      generalize (e + (m.log2 : Int) - 52 - -1074).toNat = q at *
      generalize m <<< (e - (e + (m.log2 : Int) - 52)).toNat = r at *
      refine ⟨min (q * 4503599627370496 + r) 9218868437227405312, ?_, by with_reducible rfl⟩
      have hb : q * 4503599627370496 + r < 9218868437227405312 := by omega
      rw [Nat.min_eq_left (Nat.le_of_lt hb)]
      exact hb
  obtain ⟨r, hr, he⟩ := key
  rw [he]
  show (Ieee.double.read (Ieee.double.word s r)).isInfinity = false
  unfold Ieee.Format.read
  simp only [e1, e2, e3, hl]
  have hw : Ieee.double.word s r % 9223372036854775808 = r := by
    unfold Ieee.Format.word
    rw [e1]
    have hr' : r < 9223372036854775808 := Nat.lt_trans hr (by decide)
    cases s
    · simp only [Bool.false_eq_true, if_false]; exact Nat.mod_eq_of_lt hr'
    · simp only [if_true]; rw [Nat.add_mod_left]; exact Nat.mod_eq_of_lt hr'
  simp only [hw, hr, if_true]
  generalize (4503599627370496 : Nat) = bb
  by_cases h : r < bb
  · rw [if_pos h]; rfl
  · rw [if_neg h]; rfl

/-- A single word that is no not-a-number has its own double word. -/
theorem wi_some {x : Nat} (h : isN .f32 x = false) : ∃ r, floatToFloatBits .f32 x .f64 = some r := by
  unfold floatToFloatBits
  simp only [reduceCtorEq, if_false]
  simp only [isN] at h
  cases hx : FloatKind.f32.decode x with
  | nan a b => rw [hx] at h; simp [Ieee.Datum.isNaN] at h
  | infinity a => exact ⟨_, rfl⟩
  | number s m e =>
    obtain ⟨a, b, c⟩ := read32_bound x hx
    simp only
    rw [nearest64_ok s m e a b c]
    exact ⟨_, rfl⟩
theorem encode_notN (k : FloatKind) (d : Ieee.Datum) (h : d.isNaN = false) : isN k (k.encode d) = false := by
  cases d with
  | nan a b => simp [Ieee.Datum.isNaN] at h
  | infinity s => exact isN_word k s _ (Nat.le_refl _)
  | number s m e => exact isN_nearest k s m e
theorem wi_notN {x : Nat} (w : World) (h : isN .f32 x = false) : isN .f64 (wiR x w) = false := by
  obtain ⟨r, hr⟩ := wi_some h
  unfold wiR
  rw [hr]
  unfold floatToFloatBits at hr
  simp only [reduceCtorEq, if_false] at hr
  split at hr
  · cases hr
  · cases hr; exact encode_notN .f64 _ rfl
  · split at hr
    · cases hr
    · cases hr; exact encode_notN .f64 _ rfl
theorem wi_isN (x : Nat) (w : World) : isN .f64 (wiR x w) = isN .f32 x := by
  cases h : isN .f32 x
  · exact wi_notN w h
  · exact wi_nan w h
theorem FEq.wi {x y : Nat} (h : FEq .f32 x y) (w w' : World) : FEq .f64 (wiR x w) (wiR y w') := by
  rcases h with rfl | ⟨a, b⟩
  · cases h : isN .f32 x
    · obtain ⟨r, hr⟩ := wi_some h
      unfold wiR
      rw [hr]
      exact Or.inl rfl
    · exact Or.inr ⟨wi_nan w h, wi_nan w' h⟩
  · exact Or.inr ⟨wi_nan w a, wi_nan w' b⟩
end Go.Proofs.YtljkgemkolmihaaDoor
