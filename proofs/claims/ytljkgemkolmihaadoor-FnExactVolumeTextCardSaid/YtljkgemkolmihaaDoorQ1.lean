/- Texts that are cut at a byte: lists of bytes, and the shelf's word for strings.Split. -/
import Derived.Lib.SplitLaws
import Derived.Lib.Hide
namespace Go.Proofs.YtljkgemkolmihaaDoor
open Go.Lib

/-- the parts of a list between marks -/
def cutL (c : UInt8) : List UInt8 → List (List UInt8)
  | [] => [[]]
  | x :: xs => if x = c then [] :: cutL c xs else (x :: (cutL c xs).headD []) :: (cutL c xs).tail
theorem cutL_ne (c : UInt8) (l : List UInt8) : cutL c l ≠ [] := by
  cases l with
  | nil => simp [cutL]
  | cons x xs => unfold cutL; split <;> simp
theorem cutL_eq (c : UInt8) (l : List UInt8) : cutL c (c :: l) = [] :: cutL c l := by simp [cutL]
theorem cutL_skip (c : UInt8) (p l : List UInt8) (hp : ∀ x ∈ p, x ≠ c) : cutL c (p ++ c :: l) = p :: cutL c l := by
  induction p with
  | nil => simp [cutL]
  | cons x xs ih =>
    have hx : x ≠ c := hp x (by simp)
    have := ih (fun y hy => hp y (by simp [hy]))
    simp only [List.cons_append, cutL, if_neg hx, this, List.headD_cons, List.tail_cons]
theorem cutL_last (c : UInt8) (p : List UInt8) (hp : ∀ x ∈ p, x ≠ c) : cutL c p = [p] := by
  induction p with
  | nil => simp [cutL]
  | cons x xs ih =>
    have hx : x ≠ c := hp x (by simp)
    have := ih (fun y hy => hp y (by simp [hy]))
    simp only [cutL, if_neg hx, this, List.headD_cons, List.tail_cons]
theorem cutL_noMark (c : UInt8) (l : List UInt8) : ∀ p ∈ cutL c l, ∀ x ∈ p, x ≠ c := by
  induction l with
  | nil => simp [cutL]
  | cons y ys ih =>
    have hh : ∀ x ∈ (cutL c ys).headD [], x ≠ c := by
      cases hq : cutL c ys with
      | nil => simp
      | cons a t => simp only [List.headD_cons]; exact ih a (by rw [hq]; simp)
    intro p hp
    unfold cutL at hp
    split at hp
    · rw [List.mem_cons] at hp
      rcases hp with rfl | hp
      · simp
      · exact ih p hp
    · rename_i hne
      rw [List.mem_cons] at hp
      rcases hp with rfl | hp
      · intro x hx
        rw [List.mem_cons] at hx
        rcases hx with rfl | hx
        · exact hne
        · exact hh x hx
      · exact ih p (List.mem_of_mem_tail hp)
/-- with its mark behind each part but the last: the whole list -/
def glue (c : UInt8) : List (List UInt8) → List UInt8
  | [] => []
  | [p] => p
  | p :: q :: r => p ++ c :: glue c (q :: r)
theorem glue_cutL (c : UInt8) (l : List UInt8) : glue c (cutL c l) = l := by
  induction l with
  | nil => rfl
  | cons x xs ih =>
    unfold cutL
    split
    · rename_i h
      subst h
      cases hq : cutL x xs with
      | nil => exact absurd hq (cutL_ne _ _)
      | cons a t => rw [← hq]; simp only [hq, glue, List.nil_append]; rw [← hq, ih]
    · cases hq : cutL c xs with
      | nil => exact absurd hq (cutL_ne _ _)
      | cons a t =>
        rw [hq] at ih
        cases t with
        | nil => simp only [glue] at ih; simp [glue, ih]
        | cons b t => simp only [glue] at ih; simp [glue, ih]
theorem cutL_length_le (c : UInt8) (l : List UInt8) : (cutL c l).length ≤ l.length + 1 := by
  induction l with
  | nil => simp [cutL]
  | cons x xs ih =>
    unfold cutL
    split
    · simp; omega
    · simp; omega
theorem cutL_part_le (c : UInt8) (l : List UInt8) : ∀ p ∈ cutL c l, p.length ≤ l.length := by
  induction l with
  | nil => simp [cutL]
  | cons x xs ih =>
    intro p hp
    unfold cutL at hp
    split at hp
    · rw [List.mem_cons] at hp
      rcases hp with rfl | hp
      · simp
      · have := ih p hp; simp; omega
    · rw [List.mem_cons] at hp
      rcases hp with rfl | hp
      · cases hq : cutL c xs with
        | nil => exact absurd hq (cutL_ne _ _)
        | cons a t => have := ih a (by rw [hq]; simp); simp; omega
      · have := ih p (List.mem_of_mem_tail hp); simp; omega

theorem splitK_cutL (c : UInt8) (s : List UInt8) : splitK [c] 0 (count s [c]) s = cutL c s := by
  induction s with
  | nil => simp [count_one, splitK, cutL]
  | cons x xs ih =>
    by_cases hx : x = c
    · subst hx
      rw [count_cons_eq, Nat.add_comm, cutL_eq, ← ih]
      have hi : index (x :: xs) [x] = 0 := by unfold index; simp
      conv => lhs; rw [splitK, hi]
      simp
    · rw [count_cons_ne x c xs hx]
      have hi : index (x :: xs) [c] = if index xs [c] == -1 then -1 else index xs [c] + 1 := by
        conv => lhs; unfold index
        have : ([c].isPrefixOf (x :: xs)) = false := by simp [List.isPrefixOf]; exact fun h => absurd h.symm hx
        rw [this]; simp
      have hg := index_ge xs [c]
      unfold cutL
      rw [if_neg hx, ← ih]
      cases hk : count xs [c] with
      | zero => simp [splitK]
      | succ k =>
        have hne : index xs [c] ≠ -1 := fun e => by have := count_miss (sub := [c]) e; omega
        have h1 : (index xs [c] == -1) = false := by simpa using hne
        rw [h1] at hi
        simp only [Bool.false_eq_true, if_false] at hi
        have h2 : (index (x :: xs) [c] == -1) = false := by rw [hi, beq_eq_false_iff_ne]; omega
        unfold splitK
        rw [h1, h2, hi]
        simp only [Bool.false_eq_true, if_false, List.headD_cons, List.tail_cons, Nat.add_zero]
        have e : (index xs [c] + 1).toNat = (index xs [c]).toNat + 1 := by omega
        rw [e]
        simp

/-- a text with these bytes -/
def bs (l : List UInt8) : ByteArray := ⟨l.toArray⟩
theorem bs_data (l : List UInt8) : (bs l).data.toList = l := by simp [bs]
theorem bs_of (s : ByteArray) : bs s.data.toList = s := by cases s; simp [bs]
theorem bs_size (l : List UInt8) : (bs l).size = l.length := by simp [bs, ByteArray.size]
theorem bs_inj {a b : List UInt8} (h : bs a = bs b) : a = b := by rw [← bs_data a, h, bs_data]
theorem bs_extract (s : ByteArray) (a b : Nat) : s.extract a b = bs ((s.data.toList.drop a).take (b - a)) := by
  rw [← bs_of (s.extract a b), extract_data]
theorem splitB_cut (c : UInt8) (s : ByteArray) : splitB ⟨#[c]⟩ 0 (countB s ⟨#[c]⟩) s = (cutL c s.data.toList).map bs := by
  have h := splitB_data ⟨#[c]⟩ 0 (countB s ⟨#[c]⟩) s
  have h2 : splitK [c] 0 (countB s ⟨#[c]⟩) s.data.toList = cutL c s.data.toList := splitK_cutL c s.data.toList
  have h3 : (splitB ⟨#[c]⟩ 0 (countB s ⟨#[c]⟩) s).map (·.data.toList) = cutL c s.data.toList := by rw [h]; exact h2
  rw [← h3, List.map_map]
  conv => lhs; rw [← List.map_id (splitB ⟨#[c]⟩ 0 (countB s ⟨#[c]⟩) s)]
  apply List.map_congr_left
  intro a _
  exact (bs_of a).symm
theorem countB_cut (c : UInt8) (s : ByteArray) : countB s ⟨#[c]⟩ + 1 = (cutL c s.data.toList).length := by
  rw [← List.length_map (f := bs), ← splitB_cut, splitB_all ⟨#[c]⟩ (Nat.le_refl 1) 0 _ s rfl]

/-- What the reference's loop has behind i bytes: parts P, the next one from f on. -/
structure CutTo (c : UInt8) (l : List UInt8) (i f : Nat) (P : List (List UInt8)) : Prop where
  fi : f ≤ i
  il : i ≤ l.length
  no : ∀ x ∈ (l.drop f).take (i - f), x ≠ c
  eq : cutL c l = P ++ cutL c (l.drop f)
theorem CutTo.start (c : UInt8) (l : List UInt8) : CutTo c l 0 0 [] := ⟨Nat.le_refl _, Nat.zero_le _, by simp, by simp⟩
theorem CutTo.skip {c : UInt8} {l : List UInt8} {i f : Nat} {P : List (List UInt8)} (h : CutTo c l i f P) (hi : i < l.length) (hc : l[i] ≠ c) : CutTo c l (i + 1) f P := by
  have hf := h.fi
  refine ⟨by omega, hi, fun x hx => ?_, h.eq⟩
  have e : i + 1 - f = (i - f) + 1 := by omega
  have hl : i - f < (l.drop f).length := by simp; omega
  rw [e, List.take_succ_eq_append_getElem hl, List.mem_append, List.mem_singleton] at hx
  rcases hx with hx | rfl
  · exact h.no x hx
  · simp only [List.getElem_drop]
    have : f + (i - f) = i := by omega
    simp only [this]; exact hc
theorem CutTo.hit {c : UInt8} {l : List UInt8} {i f : Nat} {P : List (List UInt8)} (h : CutTo c l i f P) (hi : i < l.length) (hc : l[i] = c) : CutTo c l (i + 1) (i + 1) (P ++ [(l.drop f).take (i - f)]) := by
  have hf := h.fi
  refine ⟨Nat.le_refl _, hi, by simp, ?_⟩
  rw [h.eq, List.append_assoc]
  congr 1
  have e : l.drop f = (l.drop f).take (i - f) ++ c :: l.drop (i + 1) := by
    conv => lhs; rw [← List.take_append_drop (i - f) (l.drop f)]
    congr 1
    rw [List.drop_drop, show f + (i - f) = i by omega, List.drop_eq_getElem_cons hi, hc]
  conv => lhs; rw [e]
  rw [cutL_skip c _ _ h.no]
  rfl
theorem CutTo.done {c : UInt8} {l : List UInt8} {f : Nat} {P : List (List UInt8)} (h : CutTo c l l.length f P) : P ++ [(l.drop f).take (l.length - f)] = cutL c l := by
  have h2 := h.no
  rw [List.take_of_length_le (by simp)] at h2 ⊢
  rw [h.eq, cutL_last c _ h2]
/-! a text's own word for its bytes -/
theorem bytes_loop (s : ByteArray) (i : Nat) (r : List UInt8) : ByteArray.toList.loop s i r = r.reverse ++ s.data.toList.drop i := by
  unfold ByteArray.toList.loop
  split
  · rename_i h
    rw [bytes_loop s (i+1) (s.get! i :: r)]
    have h' : i < s.data.toList.length := by rw [Array.length_toList]; first | exact h | exact Nat.le_of_not_lt h
    rw [List.drop_eq_getElem_cons h']
    have : s.get! i = s.data.toList[i] := by
      show s.data[i]! = _
      simp at h'
      simp [h']
    rw [this]; simp
  · rename_i h
    have h' : s.data.toList.length ≤ i := by rw [Array.length_toList]; first | exact h | exact Nat.le_of_not_lt h
    rw [List.drop_eq_nil_of_le h']; simp
termination_by s.size - i
theorem bytes_toList (s : ByteArray) : s.toList = s.data.toList := by
  unfold ByteArray.toList
  rw [bytes_loop]; simp
theorem bytes_empty (s : ByteArray) : s.toList.isEmpty = s.data.toList.isEmpty := by rw [bytes_toList]
end Go.Proofs.YtljkgemkolmihaaDoor
