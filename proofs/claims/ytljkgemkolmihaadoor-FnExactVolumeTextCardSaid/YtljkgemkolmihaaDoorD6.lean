/- Journals: what both make of lines; the program's JournalOf. -/
import Derived.Test.YtljkgemkolmihaaDoorD5
namespace Go.Proofs.YtljkgemkolmihaaDoor
open Go.RowKit

/-- the check number behind k lines -/
def chkTo (L : List (List UInt8)) (k : Nat) : Int := (L.take k).foldl chkF 0
theorem chkTo_succ (L : List (List UInt8)) (k : Nat) (h : k < L.length) : chkTo L (k + 1) = chkF (chkTo L k) L[k] := by
  unfold chkTo
  rw [List.take_succ_eq_append_getElem h, List.foldl_append]; rfl
theorem chkTo_bound (L : List (List UInt8)) (k : Nat) : 0 ≤ chkTo L k ∧ chkTo L k ≤ 65002 := by
  unfold chkTo
  have key : ∀ (P : List (List UInt8)) (n : Int), 0 ≤ n → n ≤ 65002 → 0 ≤ P.foldl chkF n ∧ P.foldl chkF n ≤ 65002 := by
    intro P
    induction P with
    | nil => intro n h0 h1; exact ⟨h0, h1⟩
    | cons p P ih => intro n h0 h1; have := chkF_bound p n h0 h1; exact ih _ this.1 this.2
  exact key _ 0 (by decide) (by decide)
def entry (n : Int) (l : List UInt8) : List UInt8 := Lib.itoa n ++ 32 :: (l ++ [10])
/-- the journal of k lines -/
def jrnTo (L : List (List UInt8)) : Nat → List UInt8
  | 0 => []
  | k + 1 => jrnTo L k ++ entry (chkTo L (k + 1)) (L.getD k [])
theorem jrnTo_succ (L : List (List UInt8)) (k : Nat) (h : k < L.length) : jrnTo L (k + 1) = jrnTo L k ++ entry (chkF (chkTo L k) L[k]) L[k] := by
  rw [jrnTo, chkTo_succ L k h]
  simp [List.getD_eq_getElem?_getD, h]
theorem decDigits_pos (u : Nat) : 1 ≤ (Lib.decDigits u).length := by rw [Lib.decDigits_length]; exact Lib.nDigits_pos u
theorem itoa_pos (n : Int) : 1 ≤ (Lib.itoa n).length := by
  rw [itoa_of]; split
  · simp
  · exact decDigits_pos _
theorem entry_len (n : Int) (l : List UInt8) : l.length + 3 ≤ (entry n l).length := by
  have := itoa_pos n
  simp [entry]; omega
theorem entry_le (n : Int) (h0 : 0 ≤ n) (h1 : n ≤ 65002) (l : List UInt8) : (entry n l).length ≤ l.length + 23 := by
  have := Lib.itoa_length_le n (by omega) (by omega)
  simp [entry]; omega
theorem jrnTo_mono (L : List (List UInt8)) (j k : Nat) (h : j ≤ k) : (jrnTo L j).length ≤ (jrnTo L k).length := by
  induction k with
  | zero => have : j = 0 := by omega
            subst this; exact Nat.le_refl _
  | succ k ih =>
    by_cases e : j = k + 1
    · subst e; exact Nat.le_refl _
    · have := ih (by omega)
      rw [jrnTo, List.length_append]; omega
def jrn (L : List (List UInt8)) : List UInt8 := jrnTo L L.length
/-- a line that cannot be told -/
def nlB (l : List UInt8) : Bool := decide (0 ≤ Lib.indexByte l 10)
theorem nlB_at {l : List UInt8} (k : Nat) (h : k < l.length) (hc : l[k] = 10) : nlB l = true := by
  unfold nlB
  rw [decide_eq_true_iff]
  rcases Int.lt_or_le (Lib.indexByte l 10) 0 with h1 | h1
  · have hg := Lib.indexByte_ge l 10
    have := Lib.indexByte_none (l := l) (c := 10) (by omega) k
    rw [List.getElem?_eq_getElem h, hc] at this
    exact absurd rfl this
  · exact h1
theorem nlB_no {l : List UInt8} (h : ∀ k (hk : k < l.length), l[k] ≠ 10) : nlB l = false := by
  unfold nlB
  rw [decide_eq_false_iff_not]
  intro h1
  obtain ⟨o, ho⟩ : ∃ o : Nat, Lib.indexByte l 10 = o := ⟨(Lib.indexByte l 10).toNat, by omega⟩
  obtain ⟨h2, _⟩ := Lib.indexByte_some ho
  obtain ⟨h3, h4⟩ := List.getElem?_eq_some_iff.1 h2
  exact h o h3 h4
def jOk (L : List (List UInt8)) : Bool := L.all (fun l => !nlB l) && decide ((jrn L).length ≤ 12000)
/-- what JournalOf returns -/
def jV (L : List (List UInt8)) : Value := if jOk L = true then .tuple #[.string (bs (jrn L)), .bool true] else .tuple #[.string (bs []), .bool false]
theorem jV_nl {L : List (List UInt8)} (k : Nat) (h : k < L.length) (hn : nlB L[k] = true) : jV L = .tuple #[.string (bs []), .bool false] := by
  unfold jV
  rw [if_neg]
  intro hj
  unfold jOk at hj
  rw [Bool.and_eq_true] at hj
  have := List.all_eq_true.1 hj.1 _ (List.getElem_mem h)
  rw [hn] at this
  simp at this
theorem jV_long {L : List (List UInt8)} (k : Nat) (h : k ≤ L.length) (hn : 12000 < (jrnTo L k).length) : jV L = .tuple #[.string (bs []), .bool false] := by
  unfold jV
  rw [if_neg]
  intro hj
  unfold jOk at hj
  rw [Bool.and_eq_true] at hj
  have h2 := of_decide_eq_true hj.2
  have := jrnTo_mono L k L.length h
  unfold jrn at h2
  omega
theorem jV_line {L : List (List UInt8)} (k : Nat) (h : k < L.length) (hn : 12000 < L[k].length) : jV L = .tuple #[.string (bs []), .bool false] := by
  refine jV_long (k + 1) h ?_
  rw [jrnTo_succ L k h, List.length_append]
  have := entry_len (chkF (chkTo L k) L[k]) L[k]
  omega
theorem jV_yes {L : List (List UInt8)} (h : L.all (fun l => !nlB l) = true) (hn : (jrn L).length ≤ 12000) : jV L = .tuple #[.string (bs (jrn L)), .bool true] := by
  unfold jV
  rw [if_pos]
  unfold jOk
  rw [h]; simpa using hn
theorem all_snoc {L : List (List UInt8)} {k : Nat} (h : k < L.length) (ha : (L.take k).all (fun l => !nlB l) = true) (hk : nlB L[k] = false) : (L.take (k + 1)).all (fun l => !nlB l) = true := by
  rw [List.take_succ_eq_append_getElem h, List.all_append, ha]; simp [hk]

theorem contains_is {b : Bool} (l : List UInt8) (h : Hid (nlB l = b)) (w : World) :
    Calls Tryd.prog 31 #[.string (bs l), .string ⟨#[10]⟩] w fun e w' => e = .returned (.bool b) ∧ w' = w := by
  have := Tryd.strings_Contains_one (bs l) 10 w
  rw [bs_data] at this
  rw [← h.out]
  exact this

/-- what stands while a journal is being made: the builder with the bytes l -/
structure JB (w : World) (l : List UInt8) (x : World) : Prop where
  bld : Lib.IsBuilder 61 5 w.heap.size w.heap.size (Lib.byteCells l) x
  below : Below w.heap.size w x
  size : w.heap.size < x.heap.size
theorem JB.next {w : World} {l : List UInt8} {x y : World} (h : JB w l x) (hb : Below x.heap.size x y) : JB w l y :=
  ⟨IsBuilder.next h.bld hb, h.below.trans (hb.mono (by have := h.size; omega)), by have := h.size; have := hb.size; omega⟩
theorem strCells_bs (m : List UInt8) : Lib.strCells (bs m) = Lib.byteCells m := by
  unfold Lib.strCells Lib.byteCells
  simp [bs]
theorem JB.write {w : World} {l m : List UInt8} {x y : World} (h : JB w l x)
    (hb : Lib.BuilderAt 61 5 w.heap.size w.heap.size (.pointer (some ⟨w.heap.size, 0, none⟩)) (Lib.byteCells l ++ Lib.strCells (bs m)) y ∧ Below w.heap.size x y) : JB w (l ++ m) y := by
  obtain ⟨h1, h2⟩ := hb
  refine ⟨Or.inr ?_, h.below.trans h2, by have := h.size; have := h2.size; omega⟩
  rw [strCells_bs, ← Lib.byteCells_append] at h1
  exact h1
theorem byteCells_length (l : List UInt8) : (Lib.byteCells l).length = l.length := by simp [Lib.byteCells]
end Go.Proofs.YtljkgemkolmihaaDoor
