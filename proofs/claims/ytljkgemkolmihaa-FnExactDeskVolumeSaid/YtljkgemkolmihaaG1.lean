/- Canonical results of operations on floats; lists that are the same up to the bits of not-a-numbers; lists told by their indexes. -/
import Derived.Test.YtljkgemkolmihaaFloat
namespace Go.Proofs.Ytljkgemkolmihaa
open Go.RowKit

def nanC : FloatKind → Nat
  | .f32 => 2143289344
  | .f64 => 9221120237041090560
theorem isN_nanC (k : FloatKind) : isN k (nanC k) = true := by
  cases k
  · rw [isN32]; decide
  · rw [isN64]; decide
/-- what an operation gives, its not-a-number the usual one -/
def opC (op : BinOp) (k : FloatKind) (x y : Nat) : Nat := (floatBits op k x y).getD (nanC k)
theorem flR_opC (op : BinOp) (k : FloatKind) (x y : Nat) (w : World) : FEq k (flR op k x y w) (opC op k x y) := by
  unfold flR opC
  cases floatBits op k x y with
  | some r => exact Or.inl rfl
  | none => exact Or.inr ⟨cut_nanBits .., isN_nanC k⟩
theorem FEq.opC {op : BinOp} {k : FloatKind} {x y x' y' : Nat} (h : FEq k x x') (g : FEq k y y') : opC op k x y = opC op k x' y' := by
  have key : floatBits op k x y = floatBits op k x' y' := by
    rcases h with rfl | ⟨a, b⟩
    · rcases g with rfl | ⟨c, d⟩
      · rfl
      · rw [floatBits_nan (Or.inr c), floatBits_nan (Or.inr d)]
    · rw [floatBits_nan (Or.inl a), floatBits_nan (Or.inl b)]
  unfold Ytljkgemkolmihaa.opC
  rw [key]
theorem flR_of {op : BinOp} {k : FloatKind} {x y x' y' : Nat} (h : FEq k x x') (g : FEq k y y') (w : World) : FEq k (flR op k x y w) (opC op k x' y') := by
  rw [← FEq.opC h g]; exact flR_opC op k x y w

/-- two lists of single numbers that are the same -/
def FLs (xs ys : List Nat) : Prop := xs.length = ys.length ∧ ∀ i (h1 : i < xs.length) (h2 : i < ys.length), FEq .f32 xs[i] ys[i]
theorem FLs.refl (xs : List Nat) : FLs xs xs := ⟨rfl, fun _ _ _ => FEq.refl _ _⟩
theorem FLs.symm {xs ys : List Nat} (h : FLs xs ys) : FLs ys xs := ⟨h.1.symm, fun i h1 h2 => (h.2 i h2 h1).symm⟩
theorem FLs.trans {xs ys zs : List Nat} (h : FLs xs ys) (g : FLs ys zs) : FLs xs zs :=
  ⟨h.1.trans g.1, fun i h1 h2 => (h.2 i h1 (h.1 ▸ h1)).trans (g.2 i (h.1 ▸ h1) h2)⟩
theorem FLs.snoc {xs ys : List Nat} (h : FLs xs ys) {x y : Nat} (g : FEq .f32 x y) : FLs (xs ++ [x]) (ys ++ [y]) := by
  refine ⟨by simp [h.1], fun i h1 h2 => ?_⟩
  have hl := h.1
  simp only [List.length_append, List.length_singleton] at h1 h2
  by_cases hi : i < xs.length
  · rw [List.getElem_append_left hi, List.getElem_append_left (by omega)]; exact h.2 i hi (by omega)
  · have e : i = xs.length := by omega
    subst e
    rw [List.getElem_append_right (Nat.le_refl _), List.getElem_append_right (by omega)]
    simpa using g
theorem FLs.getD {xs ys : List Nat} (h : FLs xs ys) (i : Nat) : FEq .f32 (xs.getD i 0) (ys.getD i 0) := by
  have hl := h.1
  by_cases hi : i < xs.length
  · have hj : i < ys.length := by omega
    rw [List.getD_eq_getElem?_getD, List.getD_eq_getElem?_getD, List.getElem?_eq_getElem hi, List.getElem?_eq_getElem hj]
    exact h.2 i hi hj
  · simp only [List.getD_eq_getElem?_getD]
    rw [List.getElem?_eq_none (by omega), List.getElem?_eq_none (by omega)]
    exact FEq.refl _ _

/-- the list of F 0, F 1, .. -/
def lin (n : Nat) (F : Nat → Nat) : List Nat := (List.range n).map F
theorem lin_zero (F : Nat → Nat) : lin 0 F = [] := rfl
theorem lin_succ (n : Nat) (F : Nat → Nat) : lin (n + 1) F = lin n F ++ [F n] := by simp [lin, List.range_succ]
theorem lin_length (n : Nat) (F : Nat → Nat) : (lin n F).length = n := by simp [lin]
theorem lin_get (n : Nat) (F : Nat → Nat) (i : Nat) (h : i < (lin n F).length) : (lin n F)[i] = F i := by simp [lin]
theorem lin_getD (n : Nat) (F : Nat → Nat) (i : Nat) (h : i < n) : (lin n F).getD i 0 = F i := by simp [lin, List.getD_eq_getElem?_getD, h]
theorem lin_congr {n : Nat} {F G : Nat → Nat} (h : ∀ i, i < n → F i = G i) : lin n F = lin n G := by
  apply List.map_congr_left
  intro i hi
  exact h i (List.mem_range.1 hi)
theorem FLs.push {xs : List Nat} {n : Nat} {F : Nat → Nat} (h : FLs xs (lin n F)) {x : Nat} (g : FEq .f32 x (F n)) : FLs (xs ++ [x]) (lin (n + 1) F) := by
  rw [lin_succ]; exact h.snoc g
theorem FLs.len {xs : List Nat} {n : Nat} {F : Nat → Nat} (h : FLs xs (lin n F)) : xs.length = n := by rw [h.1, lin_length]
end Go.Proofs.Ytljkgemkolmihaa
