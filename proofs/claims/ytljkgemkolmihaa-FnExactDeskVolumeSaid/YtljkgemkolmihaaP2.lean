/- Lists of pictures as they lie in memory: what is read, what is stored. -/
import Derived.Test.YtljkgemkolmihaaP1
namespace Go.Proofs.Ytljkgemkolmihaa
open Go.RowKit

theorem flat_length {α : Type} (f : α → List Value) (k : Nat) (hk : ∀ x, (f x).length = k) (xs : List α) : (xs.flatMap f).length = xs.length * k := by
  induction xs with
  | nil => simp
  | cons x xs ih => simp only [List.flatMap_cons, List.length_append, hk, ih, List.length_cons]; rw [Nat.add_mul]; omega
theorem flat_get {α : Type} (f : α → List Value) (k : Nat) (hk : ∀ x, (f x).length = k) (xs : List α) (j t : Nat) (hj : j < xs.length) (ht : t < k) : (xs.flatMap f)[j * k + t]? = (f xs[j])[t]? := by
  induction xs generalizing j with
  | nil => simp at hj
  | cons x xs ih =>
    simp only [List.flatMap_cons]
    cases j with
    | zero => rw [List.getElem?_append_left (by rw [hk]; omega)]; simp
    | succ j =>
      rw [List.getElem?_append_right (by rw [hk, Nat.add_mul]; omega), hk]
      have e : (j + 1) * k + t - k = j * k + t := by rw [Nat.add_mul]; omega
      rw [e, ih j (by simpa using hj)]; simp
theorem flat_set {α : Type} (f : α → List Value) (k : Nat) (hk : ∀ x, (f x).length = k) (xs : List α) (j : Nat) (y : α) (hj : j < xs.length) (i : Nat) : ((xs.set j y).flatMap f)[i]? = if j * k ≤ i ∧ i < j * k + k then (f y)[i - j * k]? else (xs.flatMap f)[i]? := by
  induction xs generalizing j i with
  | nil => simp at hj
  | cons x xs ih =>
    cases j with
    | zero =>
      simp only [List.set_cons_zero, List.flatMap_cons, Nat.zero_mul, Nat.zero_le, Nat.zero_add, true_and, Nat.sub_zero]
      by_cases h : i < k
      · rw [if_pos h, List.getElem?_append_left (by rw [hk]; exact h)]
      · rw [if_neg h, List.getElem?_append_right (by rw [hk]; omega), List.getElem?_append_right (by rw [hk]; omega), hk, hk]
    | succ j =>
      simp only [List.set_cons_succ, List.flatMap_cons]
      by_cases h : i < k
      · rw [List.getElem?_append_left (by rw [hk]; exact h), if_neg (by rw [Nat.add_mul]; omega), List.getElem?_append_left (by rw [hk]; exact h)]
      · rw [List.getElem?_append_right (by rw [hk]; omega), hk, ih j (by simpa using hj)]
        by_cases h2 : j * k ≤ i - k ∧ i - k < j * k + k
        · rw [if_pos h2, if_pos (by rw [Nat.add_mul]; omega)]
          congr 1; rw [Nat.add_mul]; omega
        · rw [if_neg h2, if_neg (by rw [Nat.add_mul]; omega), List.getElem?_append_right (by rw [hk]; omega), hk]

/-- a picture as it lies in memory -/
structure PV where
  W : Int
  H : Int
  a : Option Addr
  c : Nat
  xs : List Nat
def PV.cells (p : PV) : List Value := [.int .i64 p.W, .int .i64 p.H, .slice p.a p.xs.length p.c]
theorem PV.cells_length (p : PV) : p.cells.length = 3 := rfl

/-- the cells of one picture of a row of them -/
theorem pic_cells {w : World} {b o : Nat} {ps : List PV} (h : ∀ i (h : i < (ps.flatMap PV.cells).length), w.cell? ⟨b, o + i, none⟩ = some (ps.flatMap PV.cells)[i]) (j : Nat) (hj : j < ps.length) :
    w.cell? ⟨b, o + j * 3, none⟩ = some (.int .i64 ps[j].W) ∧ w.cell? ⟨b, o + j * 3 + 1, none⟩ = some (.int .i64 ps[j].H) ∧ w.cell? ⟨b, o + j * 3 + 2, none⟩ = some (.slice ps[j].a ps[j].xs.length ps[j].c) := by
  have hl := flat_length PV.cells 3 PV.cells_length ps
  have key : ∀ t, (ht : t < 3) → w.cell? ⟨b, o + (j * 3 + t), none⟩ = ps[j].cells[t]? := fun t ht => by
    rw [h (j * 3 + t) (by omega), ← flat_get PV.cells 3 PV.cells_length ps j t hj ht, List.getElem?_eq_getElem]
  exact ⟨by simpa [PV.cells] using key 0 (by omega), by simpa [PV.cells, Nat.add_assoc] using key 1 (by omega), by simpa [PV.cells, Nat.add_assoc] using key 2 (by omega)⟩

/-- a row of pictures of which each one's numbers are read too -/
def Pics (S : Nat → Prop) (w : World) (a : Option Addr) (ps : List PV) : Prop :=
  Rd S w a (ps.flatMap PV.cells) ∧ ∀ p ∈ ps, Rd S w p.a (p.xs.map fl)
theorem Pics.keep {S T : Nat → Prop} {w w' : World} {a : Option Addr} {ps : List PV} (h : Pics S w a ps) (ho : Only T w w') (hd : ∀ k, S k → ¬ T k) : Pics S w' a ps :=
  ⟨h.1.keep ho hd, fun p hp => (h.2 p hp).keep ho hd⟩
theorem Pics.below {B : Nat} {w w' : World} {a : Option Addr} {ps : List PV} (h : Pics (· < B) w a ps) (hb : Below B w w') : Pics (· < B) w' a ps :=
  h.keep (Only.below hb) (fun k hk hn => by omega)
/-- what stands at place j -/
theorem Pics.at {S : Nat → Prop} {w : World} {a : Option Addr} {ps : List PV} (h : Pics S w a ps) (j : Nat) (hj : j < ps.length) : ∃ b o, a = some ⟨b, o, none⟩ ∧ S b ∧
    w.cell? ⟨b, o + j * 3, none⟩ = some (.int .i64 ps[j].W) ∧ w.cell? ⟨b, o + j * 3 + 1, none⟩ = some (.int .i64 ps[j].H) ∧ w.cell? ⟨b, o + j * 3 + 2, none⟩ = some (.slice ps[j].a ps[j].xs.length ps[j].c) := by
  rcases h.1 with h0 | ⟨b, o, e, hs, h0⟩
  · exfalso
    have := congrArg List.length h0
    rw [flat_length PV.cells 3 PV.cells_length, List.length_nil] at this; omega
  · exact ⟨b, o, e, hs, pic_cells h0 j hj⟩
end Go.Proofs.Ytljkgemkolmihaa
