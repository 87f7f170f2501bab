/- The laws' helpers on lists of single-precision numbers: marking, holding, equality. -/
import Derived.Test.YtljkgemkolmihaaProg
import Derived.Test.YtljkgemkolmihaaMem
import Derived.Test.YtljkgemkolmihaaFloat
import Derived.WalkLawsBesides
import Derived.WalkSpells
import Derived.OwnWalk
import Derived.Lib.Hide
import Derived.Deep.QuietTactic
import Derived.BigQuiet
import Derived.Outline
namespace Go.Proofs.Ytljkgemkolmihaa
open Go.RowKit

/-- n marks from k on -/
def marks (k : Int) (n : Nat) : List Nat := (List.range n).map fun (i : Nat) => floatOfInt .f32 (k + (i : Int))
theorem marks_length (k : Int) (n : Nat) : (marks k n).length = n := by simp [marks]
theorem marks_get (k : Int) (n i : Nat) (h : i < (marks k n).length) : (marks k n)[i] = floatOfInt .f32 (k + i) := by simp [marks]
/-- the list of which j numbers are marked -/
def marked (k : Int) (xs : List Nat) (j : Nat) : List Nat := marks k j ++ xs.drop j
theorem marked_length (k : Int) (xs : List Nat) (j : Nat) (h : j ≤ xs.length) : (marked k xs j).length = xs.length := by simp [marked, marks_length]; omega
theorem marked_set (k : Int) (xs : List Nat) (j : Nat) (h : j < xs.length) : ((marked k xs j).map fl).set j (fl (floatOfInt .f32 (k + j))) = (marked k xs (j + 1)).map fl := by
  apply List.ext_getElem
  · simp [marked_length _ _ _ (Nat.le_of_lt h), marked_length _ _ (j+1) h]
  · intro i h1 h2
    simp only [List.getElem_set, List.getElem_map]
    split
    · rename_i e; subst e
      simp only [marked, List.getElem_append, marks_length]
      rw [dif_pos (by omega), marks_get]
    · rename_i e
      congr 1
      simp only [marked, List.getElem_append, marks_length, marks_get, List.getElem_drop]
      by_cases h5 : i < j
      · simp [h5, show i < j + 1 by omega]
      · simp only [h5, show ¬ i < j + 1 by omega, dif_neg, not_false_eq_true]
        congr 1; omega

/-- A store into a row that may be written. -/
theorem Wr.set {S : Nat → Prop} {w : World} {b o : Nat} {xs : List Value} (h : ∀ i (h : i < xs.length), w.cell? ⟨b, o + i, none⟩ = some xs[i] ∧ w.frozen? ⟨b, o + i, none⟩ = false) (hS : S b) (j : Nat) (u : Value) :
    Wr S (w.setCell ⟨b, o + j, none⟩ u) (some ⟨b, o, none⟩) (xs.set j u) := by
  refine Or.inr ⟨b, o, rfl, hS, fun i hi => ?_⟩
  have hi' : i < xs.length := by simpa using hi
  obtain ⟨h1, h2⟩ := h i hi'
  refine ⟨?_, ?_⟩
  · by_cases e : j = i
    · subst e
      rw [World.cell?_setCell_same (h := h1)]; simp
    · rw [World.cell?_setCell_other]
      · rw [h1]; simp [e]
      · simp
  · rw [World.frozen?_setCell]; exact h2

set_option maxHeartbeats 400000 in
theorem markF (S : Nat → Prop) (a : Option Addr) (c : Nat) (xs : List Nat) (k : Int) (w : World) (hn : xs.length ≤ 1048576) (hk0 : 0 ≤ k) (hk1 : k ≤ 1125899906842624) (h : Wr S w a (xs.map fl)) :
    Calls Try.prog 42 #[.slice a xs.length c, .int .i64 k] w fun e w' => e = .returned (.int .i64 (k + xs.length)) ∧ Wr S w' a ((marks k xs.length).map fl) ∧ Only S w w' := by
  rcases h with h | ⟨b, o, rfl, hSb, h⟩
  · simp at h; subst h
    go_enter Try.func42, Try.ntmps42
    go_wp2
    refine wp_loop_rounds 1 ?_; rw [rounds_succ]
    go_wp2
    go_ret
    exact ⟨by simp, by simp [marks]; exact Wr.nil, Only.refl _ _⟩
  go_enter Try.func42, Try.ntmps42
  go_wp2
  go_loopw [1, 5] (fun q i wr => ∃ j : Nat, j ≤ xs.length ∧ i = .int .i64 j ∧ q = .int .i64 (k + j) ∧ Wr S wr (some ⟨b, o, none⟩) ((marked k xs j).map fl) ∧ Only S w wr) (fun _ i _ => xs.length - (intOf i).toNat)
  case atStart => exact ⟨0, Nat.zero_le _, rfl, by simp, Or.inr ⟨b, o, rfl, hSb, by simpa [marked, marks] using h⟩, Only.refl _ _⟩
  case round =>
    obtain ⟨j, hj, rfl, rfl, hw, ho⟩ := hrel
    by_cases hlt : j < xs.length
    · rcases hw with hw | ⟨b', o', e, _, hw⟩
      · exfalso
        have := congrArg List.length hw
        rw [List.length_map, marked_length _ _ _ hj, List.length_nil] at this; omega
      simp only [Option.some.injEq, Addr.mk.injEq, and_true] at e
      obtain ⟨rfl, rfl⟩ := e
      have hl : j < ((marked k xs j).map fl).length := by simpa [marked_length _ _ _ hj] using hlt
      obtain ⟨hc, hf⟩ := hw j hl
      obtain ⟨v0, hc'⟩ : ∃ v0, wr.cell? ⟨b, o + j, none⟩ = some (.float .f32 v0) := ⟨_, by rw [hc]; simp; rfl⟩
      have Hs := Lib.hid (Wr.set hw hSb j (fl (floatOfInt .f32 (k + j))))
      rw [marked_set k xs j hlt] at Hs
      clear hc hw hl h
      go_wp2
      go_roundw
      case rel => exact ⟨j + 1, by omega, by go_num, by go_num, Hs.out, ho.setCell hSb _⟩
      case measure => simp [intOf]; omega
    · go_wp2
      go_ret
      have e : j = xs.length := by omega
      subst e
      exact ⟨rfl, by simpa [marked] using hw, ho⟩

set_option maxHeartbeats 400000 in
theorem heldF (S : Nat → Prop) (a : Option Addr) (c n : Nat) (k : Int) (w : World) (hn : n ≤ 1048576) (hk0 : 0 ≤ k) (hk1 : k ≤ 1125899906842624) (h : Rd S w a ((marks k n).map fl)) :
    Calls Try.prog 56 #[.slice a n c, .int .i64 k] w fun e w' => e = .returned (.int .i64 (k + n)) ∧ w' = w := by
  have hd : ∀ j : Nat, (FloatKind.f32.format.order (floatOfInt .f32 (k + j)) (floatOfInt .f32 (k + j)) != some .eq) = false := fun j => by
    rw [order_self_ne]; exact isN_floatOfInt _ _
  go_enter Try.func56, Try.ntmps56
  go_wp2
  go_loop [1, 5] (fun q i => ∃ j : Nat, j ≤ n ∧ i = .int .i64 j ∧ q = .int .i64 (k + j)) (fun _ i => n - (intOf i).toNat)
  case atStart => exact ⟨0, Nat.zero_le _, rfl, by simp⟩
  case round =>
    obtain ⟨j, hj, rfl, rfl⟩ := hrel
    by_cases hlt : j < n
    · rcases h with h | ⟨b, o, rfl, hSb, h⟩
      · exfalso
        have := congrArg List.length h
        simp [marks_length] at this; omega
      have hc : w.cell? ⟨b, o + j, none⟩ = some (.float .f32 (floatOfInt .f32 (k + j))) := by
        rw [h j (by simpa [marks_length] using hlt)]; simp [marks_get]
      have hdj := hd j
      clear h hd
      go_wp2
      go_round
      case rel => exact ⟨j + 1, by omega, by go_num, by go_num⟩
      case measure => simp [intOf]; omega
    · clear hd
      go_wp2
      go_ret
      have e : j = n := by omega
      subst e
      exact ⟨rfl, rfl⟩
end Go.Proofs.Ytljkgemkolmihaa
