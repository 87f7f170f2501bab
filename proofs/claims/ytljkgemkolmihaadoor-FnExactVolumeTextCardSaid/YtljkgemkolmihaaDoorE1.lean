/- Recovering a journal, on lists. -/
import Derived.Test.YtljkgemkolmihaaDoorD6
import Derived.Lib.IndexBytes
namespace Go.Proofs.YtljkgemkolmihaaDoor
open Go.RowKit

/-- the line that a piece tells, if its check number is right -/
def stepOk (n : Int) (p : List UInt8) : Option (List UInt8) :=
  if Lib.indexByte p 32 < 0 then none
  else if p.take (Lib.indexByte p 32).toNat = Lib.itoa (chkF n (p.drop ((Lib.indexByte p 32).toNat + 1))) then some (p.drop ((Lib.indexByte p 32).toNat + 1)) else none
/-- the lines that are recovered of some pieces -/
def recv : Int → List (List UInt8) → List (List UInt8)
  | _, [] => []
  | n, p :: ps => match stepOk n p with
    | none => []
    | some line => line :: recv (chkF n line) ps
/-- the lengths of k pieces, one more each -/
def lenTo (L : List (List UInt8)) : Nat → Nat
  | 0 => 0
  | k + 1 => lenTo L k + ((L.getD k []).length + 1)
theorem lenTo_succ (L : List (List UInt8)) (k : Nat) (h : k < L.length) : lenTo L (k + 1) = lenTo L k + (L[k].length + 1) := by
  rw [lenTo]; simp [List.getD_eq_getElem?_getD, h]
/-- the state behind j pieces -/
structure RecTo (L : List (List UInt8)) (j : Nat) (c : Int) (R : List (List UInt8)) : Prop where
  jl : j ≤ L.length
  len : R.length = j
  eq : recv 0 L = R ++ recv c (L.drop j)
  c0 : 0 ≤ c
  c1 : c ≤ 65002
theorem RecTo.start (L : List (List UInt8)) : RecTo L 0 0 [] := ⟨Nat.zero_le _, rfl, by simp, by decide, by decide⟩
theorem RecTo.step {L : List (List UInt8)} {j : Nat} {c : Int} {R : List (List UInt8)} (h : RecTo L j c R) (hj : j < L.length) {line : List UInt8} (hs : stepOk c L[j] = some line) : RecTo L (j + 1) (chkF c line) (R ++ [line]) := by
  have hb := chkF_bound line c h.c0 h.c1
  refine ⟨hj, by simp [h.len], ?_, hb.1, hb.2⟩
  rw [h.eq, List.drop_eq_getElem_cons hj, recv, hs]
  simp
theorem RecTo.stop {L : List (List UInt8)} {j : Nat} {c : Int} {R : List (List UInt8)} (h : RecTo L j c R) (hj : j < L.length) (hs : stepOk c L[j] = none) : recv 0 L = R := by
  rw [h.eq, List.drop_eq_getElem_cons hj, recv, hs]; simp
theorem RecTo.done {L : List (List UInt8)} {c : Int} {R : List (List UInt8)} (h : RecTo L L.length c R) : recv 0 L = R := by
  rw [h.eq, List.drop_length, recv]; simp

theorem stepOk_none {n : Int} {p : List UInt8} (h : Lib.indexByte p 32 < 0) : stepOk n p = none := by unfold stepOk; rw [if_pos h]
/-- a piece with a mark: what stands ahead of it and behind it -/
theorem piece_split {p : List UInt8} {i : Nat} (h : Lib.indexByte p 32 = i) : i < p.length ∧ p = p.take i ++ 32 :: p.drop (i + 1) ∧ (∀ k (hk : k < p.length), k < i → p[k] ≠ 32) := by
  obtain ⟨h1, h2⟩ := Lib.indexByte_some h
  obtain ⟨h3, h4⟩ := List.getElem?_eq_some_iff.1 h1
  refine ⟨h3, ?_, fun k hk hki e => h2 k hki (by rw [List.getElem?_eq_getElem hk, e])⟩
  conv => lhs; rw [← List.take_append_drop i p]
  rw [List.drop_eq_getElem_cons h3, h4]
theorem stepOk_at {n : Int} {p : List UInt8} {i : Nat} (h : Lib.indexByte p 32 = i) : stepOk n p = if p.take i = Lib.itoa (chkF n (p.drop (i + 1))) then some (p.drop (i + 1)) else none := by
  unfold stepOk
  have e : (Lib.indexByte p 32).toNat = i := by omega
  rw [if_neg (by omega), e]
/-- the program's test is the reference's -/
theorem whole_eq {p a : List UInt8} {i : Nat} (h : Lib.indexByte p 32 = i) : a ++ 32 :: p.drop (i + 1) = p ↔ p.take i = a := by
  obtain ⟨_, h2, _⟩ := piece_split h
  constructor
  · intro e
    have : a ++ 32 :: p.drop (i + 1) = p.take i ++ 32 :: p.drop (i + 1) := by rw [e]; exact h2
    exact (List.append_cancel_right this).symm
  · intro e
    rw [← e]; exact h2.symm
theorem cut_at {p : List UInt8} {i : Nat} (h : Lib.indexByte p 32 = i) : Lib.cut p [32] = (p.take i, p.drop (i + 1), true) := by
  unfold Lib.cut
  rw [Lib.index_one, h]
  simp
theorem cut_none {p : List UInt8} (h : Lib.indexByte p 32 < 0) : Lib.cut p [32] = (p, [], false) := by
  unfold Lib.cut
  rw [Lib.index_one, if_neg (by omega)]

/-- where j pieces end, the text goes on -/
theorem drop_lenTo (l : List UInt8) (j : Nat) (hj : j ≤ (linesL l).length) : l.drop (lenTo (linesL l) j) = ((linesL l).drop j).flatMap (fun q => q ++ [10]) ++ restL l := by
  induction j with
  | zero => simp only [lenTo, List.drop_zero]; exact (lines_glue l).symm
  | succ j ih =>
    have h := ih (by omega)
    rw [lenTo_succ _ j hj, ← List.drop_drop, h, List.drop_eq_getElem_cons hj]
    simp only [List.flatMap_cons, List.append_assoc]
    rw [← List.append_assoc, List.drop_left' (by simp)]
theorem lenTo_le (l : List UInt8) (j : Nat) (hj : j ≤ (linesL l).length) : lenTo (linesL l) j ≤ l.length := by
  by_cases h : lenTo (linesL l) j ≤ l.length
  · exact h
  · exfalso
    have h2 := lines_glue l
    have h3 : l.length = ((linesL l).flatMap fun q => q ++ [10]).length + (restL l).length := by conv => lhs; rw [← h2]; rw [List.length_append]
    have h4 : ∀ (P : List (List UInt8)) (k : Nat), k ≤ P.length → lenTo P k ≤ (P.flatMap fun q => q ++ [10]).length := by
      intro P k hk
      have h5 : ∀ (P : List (List UInt8)) (k : Nat), k ≤ P.length → lenTo P k = ((P.take k).flatMap fun q => q ++ [10]).length := by
        intro P k
        induction k with
        | zero => intro _; simp [lenTo]
        | succ k ih =>
          intro hk
          rw [lenTo_succ _ k hk, ih (by omega), List.take_succ_eq_append_getElem hk]
          simp only [List.flatMap_append, List.length_append, List.flatMap_cons, List.flatMap_nil, List.append_nil]
          simp
      rw [h5 P k hk]
      conv => rhs; rw [← List.take_append_drop k P]
      rw [List.flatMap_append, List.length_append]; omega
    have := h4 (linesL l) j hj
    omega
theorem at_piece (l : List UInt8) (j : Nat) (hj : j < (linesL l).length) : l.drop (lenTo (linesL l) j) = (linesL l)[j] ++ 10 :: l.drop (lenTo (linesL l) (j + 1)) := by
  rw [drop_lenTo l j (by omega), drop_lenTo l (j + 1) hj]
  conv => lhs; rw [List.drop_eq_getElem_cons hj]
  rw [List.flatMap_cons]
  simp only [List.append_assoc, List.singleton_append, List.cons_append, List.nil_append]
theorem piece_noMark (l : List UInt8) (j : Nat) (hj : j < (linesL l).length) : ∀ x ∈ (linesL l)[j], x ≠ 10 := by
  intro x hx
  refine cutL_noMark 10 l ((linesL l)[j]) ?_ x hx
  rw [linesL_split]
  simp [List.getElem_mem hj]
theorem indexByte_app (p r : List UInt8) (c : UInt8) (hp : ∀ x ∈ p, x ≠ c) : Lib.indexByte (p ++ c :: r) c = p.length := by
  induction p with
  | nil => simp [Lib.indexByte]
  | cons x xs ih =>
    have h1 := ih (fun y hy => hp y (by simp [hy]))
    have hx : x ≠ c := hp x (by simp)
    have hx2 : (x == c) = false := by simpa using hx
    simp only [List.cons_append, Lib.indexByte, hx2, h1]
    have h3 : ((xs.length : Int) == -1) = false := by rw [beq_eq_false_iff_ne]; omega
    simp [h3]
theorem indexByte_no (p : List UInt8) (c : UInt8) (hp : ∀ x ∈ p, x ≠ c) : Lib.indexByte p c = -1 := by
  induction p with
  | nil => rfl
  | cons x xs ih =>
    have h1 := ih (fun y hy => hp y (by simp [hy]))
    have hx : x ≠ c := hp x (by simp)
    have hx2 : (x == c) = false := by simpa using hx
    simp only [Lib.indexByte, hx2, h1]
    simp
end Go.Proofs.YtljkgemkolmihaaDoor
