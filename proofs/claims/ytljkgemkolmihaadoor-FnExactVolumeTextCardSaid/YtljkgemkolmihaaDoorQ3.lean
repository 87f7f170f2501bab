/- Lines of a text, counted: the program's and the reference's; the law on CountOutputs. -/
import Derived.Test.YtljkgemkolmihaaDoorQ2
import Derived.Test.YtljkgemkolmihaaDoorShelf
import Derived.Deep.Draws
import Derived.IntWalk
namespace Go.Proofs.YtljkgemkolmihaaDoor
open Go.RowKit

/-- the lines of a text, and what stands behind the last -/
def linesL (l : List UInt8) : List (List UInt8) := (cutL 10 l).dropLast
def restL (l : List UInt8) : List UInt8 := (cutL 10 l).getLastD []
theorem linesL_split (l : List UInt8) : cutL 10 l = linesL l ++ [restL l] := by
  unfold linesL restL
  have h := cutL_ne 10 l
  rw [List.getLastD_eq_getLast?, List.getLast?_eq_some_getLast h, Option.getD_some]
  exact (List.dropLast_concat_getLast h).symm
theorem linesL_length (l : List UInt8) : (cutL 10 l).length = (linesL l).length + 1 := by rw [linesL_split]; simp
theorem linesL_take (l : List UInt8) : linesL l = (cutL 10 l).take (linesL l).length := by
  conv => rhs; rw [linesL_split]
  simp

/-- what the reference's l08Lines hands back -/
def SLines (l : List UInt8) (w : World) (e : Ending) (w' : World) : Prop :=
  ∃ a c, e = .returned (.tuple #[.slice a (linesL l).length c, .string (bs (restL l))]) ∧ Wr (fun b => w.heap.size ≤ b ∧ b < w'.heap.size) w' a ((linesL l).map sv) ∧ Below w.heap.size w w'

theorem Below.drewN' (B : Nat) (w : World) (n : Nat) : Below B w (w.drewN n) := ⟨rfl, rfl, rfl, Nat.le_refl _, fun _ _ => rfl⟩
theorem Wr.take {S : Nat → Prop} {w : World} {a : Option Addr} {xs ys : List Value} (h : Wr S w a (xs ++ ys)) : Wr S w a xs := by
  rcases h with h | ⟨b, o, e, hS, h⟩
  · exact Or.inl (by simp at h; exact h.1)
  · exact Or.inr ⟨b, o, e, hS, fun i hi => by have := h i (by simp; omega); rwa [List.getElem_append_left hi] at this⟩

set_option maxRecDepth 100000 in
set_option maxHeartbeats 1000000 in
theorem sLines_any (s : ByteArray) (hs : s.size ≤ 1073741824) (w : World) :
    Calls Tryd.prog 28 #[.string s] w (SLines s.data.toList w) := by
  have hz : (cutL 10 s.data.toList).length ≤ 1073741825 := by
    have := cutL_length_le 10 s.data.toList
    have : s.data.toList.length = s.size := by rw [Array.length_toList]; rfl
    omega
  have hl := linesL_length s.data.toList
  have Hl := Lib.hid hl
  clear hl
  go_enter Tryd.func28, Tryd.ntmps28
  go_wp2_with fail
  refine (sCut_any s hs 10 10 rfl w).mono ?_
  rintro e w1 ⟨a, c, rfl, hcap, hw, hb⟩
  have Hb := Lib.hid hb
  have Hw := Lib.hid hw
  clear hb
  rw [linesL_split, List.map_append] at hw
  have hW1 := Lib.hid hw.take
  rcases hw with hw | ⟨b, o, rfl, hS, hw⟩
  · simp at hw
  have hlast : w1.cell? ⟨b, o + (linesL s.data.toList).length, none⟩ = some (.string (bs (restL s.data.toList))) := by
    rw [(hw (linesL s.data.toList).length (by simp)).1]
    simp [sv]
  clear hw
  obtain ⟨n, hn⟩ : ∃ n, n = (linesL s.data.toList).length := ⟨_, rfl⟩
  rw [← hn] at hlast Hl
  have Hn := Lib.hid hn
  clear hn
  have hn2 : n + 1 ≤ 1073741825 := by have := Hl.out; omega
  have hN : (cutL 10 s.data.toList).length = n + 1 := Hl.out
  rw [hN] at hcap ⊢
  have hwr : IntKind.i64.wrap (((n + 1 : Nat) : Int) - 1) = (n : Int) := by rw [IntWalk.i64_in _ (by omega)]; omega
  have hlt : n < n + 1 := by omega
  have hle : n ≤ c := by omega
  clear hz hN
  go_wp2_with fail
  go_quiet (fail)
  go_wp2_with fail
  go_ret2
  refine ⟨some ⟨b, o, none⟩, c, by rw [← Hn.out]; rfl, ?_, ?_⟩
  · exact hW1.out
  · exact Hb.out.trans (Below.drewN' _ _ _)

/-- the lines as the program has them -/
def okLines (l : List UInt8) : Bool := decide (restL l = [])
/-- what the program's linesOf hands back -/
def ILines (l : List UInt8) (w : World) (e : Ending) (w' : World) : Prop :=
  (okLines l = false ∧ e = .returned (.tuple #[.slice none 0 0, .bool false]) ∧ Below w.heap.size w w') ∨
  (okLines l = true ∧ ∃ a c, e = .returned (.tuple #[.slice a (linesL l).length c, .bool true]) ∧ Rd (fun b => w.heap.size ≤ b ∧ b < w'.heap.size) w' a ((linesL l).map sv) ∧ Below w.heap.size w w')
theorem restL_nil : restL [] = [] := rfl
theorem glue_last (c : UInt8) (P : List (List UInt8)) (p : List UInt8) : glue c (P ++ [p]) = (P.flatMap fun q => q ++ [c]) ++ p := by
  induction P with
  | nil => simp [glue]
  | cons q P ih =>
    cases P with
    | nil => simp [glue]
    | cons r R => simp only [List.cons_append, glue] at ih ⊢; rw [ih]; simp
theorem lines_glue (l : List UInt8) : ((linesL l).flatMap fun q => q ++ [10]) ++ restL l = l := by
  rw [← glue_last, ← linesL_split, glue_cutL]
theorem rest_noMark (l : List UInt8) : ∀ x ∈ restL l, x ≠ 10 := by
  intro x hx
  exact cutL_noMark 10 l (restL l) (by rw [linesL_split]; simp) x hx
theorem rest_suffix (l : List UInt8) (h : l ≠ []) : Lib.hasSuffix l [10] = okLines l := by
  unfold okLines
  by_cases hr : restL l = []
  · rw [hr, decide_eq_true rfl]
    have hg := lines_glue l
    rw [hr, List.append_nil] at hg
    have hne : linesL l ≠ [] := fun e => by rw [e] at hg; exact h hg.symm
    obtain ⟨P, p, hP⟩ : ∃ P p, linesL l = P ++ [p] := ⟨_, _, (List.dropLast_concat_getLast hne).symm⟩
    rw [hP] at hg
    rw [← hg]
    unfold Lib.hasSuffix
    rw [List.isSuffixOf_iff_suffix]
    exact ⟨P.flatMap (fun q => q ++ [10]) ++ p, by simp⟩
  · rw [decide_eq_false hr]
    have hg := lines_glue l
    obtain ⟨P, p, hP⟩ : ∃ P p, restL l = P ++ [p] := ⟨_, _, (List.dropLast_concat_getLast hr).symm⟩
    have hp := rest_noMark l p (by rw [hP]; simp)
    rw [← hg, hP, Bool.eq_false_iff]
    intro hh
    unfold Lib.hasSuffix at hh
    obtain ⟨t, ht⟩ := List.isSuffixOf_iff_suffix.1 hh
    have := congrArg List.getLast? ht
    rw [← List.append_assoc] at this
    simp at this
    exact hp this.symm
set_option maxRecDepth 100000 in
set_option maxHeartbeats 2000000 in
theorem linesOf_any (s : ByteArray) (hs : s.size ≤ 1073741824) (m : Int) (w : World) (hm : w.cell? ⟨0, 0, none⟩ = some (.int .i64 m)) :
    Calls Tryd.prog 29 #[.string s] w (ILines s.data.toList w) := by
  have hsplit := Tryd.strings_Split s ⟨#[10]⟩ m w (by omega) hm (Nat.le_refl 1)
  rw [splitB_cut, countB_cut, linesL_length] at hsplit
  have hz : (linesL s.data.toList).length ≤ 1073741824 := by
    have := cutL_length_le 10 s.data.toList
    have : s.data.toList.length = s.size := by rw [Array.length_toList]; rfl
    have := linesL_length s.data.toList
    omega
  have hsp := linesL_split s.data.toList
  have Hsp := Lib.hid hsp
  clear hsp
  have fin : ∀ (w1 : World), w1 = w.alloc (.cells ((((cutL 10 s.data.toList).map bs).map Value.string).toArray) 9) → Wr (fun b => w.heap.size ≤ b ∧ b < w1.heap.size) w1 (some ⟨w.heap.size, 0, none⟩) ((linesL s.data.toList).map sv) := by
    rintro w1 rfl
    rw [Hsp.out]
    refine Wr.take (ys := [sv (restL s.data.toList)]) ?_
    refine Or.inr ⟨w.heap.size, 0, rfl, by simp, fun i hi => ⟨?_, ?_⟩⟩
    · simp at hi
      simp [go_sem, sv, List.getElem_append, hi]
    · simp [go_sem]
  have Fin := Lib.hid fin
  have Hsplit := Lib.hid hsplit
  clear fin hsplit
  obtain ⟨n, hn⟩ : ∃ n, n = (linesL s.data.toList).length := ⟨_, rfl⟩
  by_cases h0 : s.data.toList = []
  · obtain rfl : s = ⟨#[]⟩ := by rw [← bs_of s, h0]; rfl
    clear h0
    have Hn := Lib.hid hn
    have Hm := Lib.hid hm
    rw [← hn] at hz Hsplit
    clear hn hm
    go_enter Tryd.func29, Tryd.ntmps29
    go_wp2_with (go_at_call 54; refine Hsplit.out.mono ?_; rintro e w' ⟨rfl, hw1⟩; have Hw1 := Lib.hid hw1; clear hw1)
    go_ret2
    exact Or.inr ⟨rfl, some ⟨w.heap.size, 0, none⟩, n + 1, by rw [← Hn.out]; rfl, (Fin.out _ Hw1.out).rd, by rw [Hw1.out]; exact (Below.refl _ _).alloc (Nat.le_refl _) _⟩
  · have hsuf := rest_suffix s.data.toList h0
    have he1 : ¬ s.toList = [] := by rw [bytes_toList]; exact h0
    have he2 : s.toList.isEmpty = false := by rw [bytes_toList]; simpa using h0
    have hs2 : s.size ≤ 9223372036854775807 := by omega
    have Hn := Lib.hid hn
    have Hm := Lib.hid hm
    clear hn hm
    cases hok : okLines s.data.toList
    · rw [hok] at hsuf
      have Hsuf : Hid (Lib.hasSuffix s.data.toList (⟨#[10]⟩ : ByteArray).data.toList = false) := Lib.hid hsuf
      have Hok := Lib.hid hok
      clear hok hsuf h0
      go_enter Tryd.func29, Tryd.ntmps29
      go_wp2_with (go_at_call 53; refine (Tryd.strings_HasSuffix _ _ _ hs2).mono ?_; rw [Hsuf.out]; rintro e w' ⟨rfl, hw0⟩; obtain rfl := hw0.symm)
      go_ret2
      exact Or.inl ⟨Hok.out, rfl, Below.refl _ _⟩
    · rw [hok] at hsuf
      have Hsuf : Hid (Lib.hasSuffix s.data.toList (⟨#[10]⟩ : ByteArray).data.toList = true) := Lib.hid hsuf
      have Hok := Lib.hid hok
      clear hok hsuf h0
      rw [← Hn.out] at hz Hsplit
      go_enter Tryd.func29, Tryd.ntmps29
      go_wp2_with (first
        | (go_at_call 53; refine (Tryd.strings_HasSuffix _ _ _ hs2).mono ?_; rw [Hsuf.out]; rintro e w' ⟨rfl, hw0⟩; obtain rfl := hw0.symm)
        | (go_at_call 54; refine Hsplit.out.mono ?_; rintro e w' ⟨rfl, hw1⟩; have Hw1 := Lib.hid hw1; clear hw1))
      go_ret2
      exact Or.inr ⟨Hok.out, some ⟨w.heap.size, 0, none⟩, n + 1, by rw [← Hn.out]; rfl, (Fin.out _ Hw1.out).rd, by rw [Hw1.out]; exact (Below.refl _ _).alloc (Nat.le_refl _) _⟩

/-! counting -/
/-- a line that tells that something went wrong -/
def badLine (p : List UInt8) : Bool := decide (p = [110, 111] ∨ p = [119, 104, 97, 116])
def badMany (L : List (List UInt8)) : Nat := (L.filter badLine).length
theorem badMany_succ (L : List (List UInt8)) (k : Nat) (h : k < L.length) : badMany (L.take (k + 1)) = badMany (L.take k) + if badLine L[k] then 1 else 0 := by
  unfold badMany
  rw [List.take_succ_eq_append_getElem h, List.filter_append, List.length_append]
  congr 1
  simp only [List.filter_cons, List.filter_nil]
  split <;> rfl
theorem badMany_le (L : List (List UInt8)) (k : Nat) : badMany (L.take k) ≤ k := by
  unfold badMany
  have := List.length_filter_le badLine (L.take k)
  have := List.length_take_le k L
  omega
end Go.Proofs.YtljkgemkolmihaaDoor
