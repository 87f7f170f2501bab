/- The laws' helpers on lists of single-precision numbers: size, copy, marks. -/
import Derived.Test.YtljkgemkolmihaaDoorProg
import Derived.Test.YtljkgemkolmihaaDoorMem
import Derived.WalkLawsBesides
import Derived.WalkSpells
import Derived.OwnWalk
import Derived.Lib.Hide
import Derived.Outline
namespace Go.Proofs.YtljkgemkolmihaaDoor
open Go.RowKit

theorem szF (a : Option Addr) (n c : Nat) (l : Int) (w : World) (hn : n ≤ maxLen) (hl : l ≤ 1048576) (hl0 : 0 ≤ l) :
    Calls Tryd.prog 41 #[.slice a n c, .int .i64 l] w fun e w' => e = .returned (.int .i64 (if l - n < 0 then -1 else l - n)) ∧ w' = w := by
  unfold maxLen at hn
  go_enter Tryd.func41, Tryd.ntmps41
  go_wp2
  all_goals (go_ret; simp [*])

/-- the list of which k numbers have been copied -/
def copied (xs : List Nat) (k : Nat) : List Nat := xs.take k ++ List.replicate (xs.length - k) 0
theorem copied_zero (xs : List Nat) : (copied xs 0).map fl = (madeCells #[Value.float .f32 0] xs.length).toList := by
  simp [copied, toList_madeCells_one]
theorem copied_all (xs : List Nat) : copied xs xs.length = xs := by simp [copied]
theorem copied_length (xs : List Nat) (k : Nat) : (copied xs k).length = xs.length := by simp [copied]; omega
theorem copied_set (xs : List Nat) (k : Nat) (h : k < xs.length) : ((copied xs k).map fl).set k (fl xs[k]) = (copied xs (k + 1)).map fl := by
  apply List.ext_getElem
  · simp [copied_length]
  · intro i h1 h2
    simp only [List.getElem_set, List.getElem_map]
    split
    · rename_i e; subst e
      simp only [copied, List.getElem_append, List.length_take, List.getElem_take]
      rw [dif_pos (by omega)]
    · rename_i e
      congr 1
      simp only [copied, List.getElem_append, List.length_take, List.getElem_take, List.getElem_replicate]
      have h3 : min k xs.length = k := by omega
      have h4 : min (k + 1) xs.length = k + 1 := by omega
      simp only [h3, h4]
      by_cases h5 : i < k
      · simp [h5, show i < k + 1 by omega]
      · simp [h5, show ¬ i < k + 1 by omega]

theorem infoF : (Tryd.prog.info? 103).map (fun i => (i.zero, i.size, i.bytes)) = some (some (.float .f32 0), 1, 4) := by kernel_rfl

set_option maxHeartbeats 400000 in
theorem toF (S : Nat → Prop) (a : Option Addr) (c : Nat) (xs : List Nat) (w : World) (hn : xs.length ≤ 1048576) (h : Rd S w a (xs.map fl)) (hS : ∀ k, S k → k < w.heap.size) :
    Calls Tryd.prog 44 #[.slice a xs.length c] w fun e w' => e = .returned (.slice (some ⟨w.heap.size, 0, none⟩) xs.length xs.length) ∧
      Wr (· = w.heap.size) w' (some ⟨w.heap.size, 0, none⟩) (xs.map fl) ∧ Below w.heap.size w w' := by
  obtain ⟨i0, hi, hz0, hz1, hz2⟩ := info_parts infoF
  go_enter Tryd.func44, Tryd.ntmps44
  go_wp2_with (at_make; refine wpList_make_full _ rfl _ _ 34 rfl w.heap.size 103 i0 (.float .f32 0) 1 Tryd.underlying34 hi hz0 hz1 _ _ _ _ xs.length rfl rfl rfl rfl ?b2 ?b3 (Nat.le_refl _) ?_)
  case b2 => rw [hz2]; omega
  case b3 => unfold maxLen; omega
  intro w0 hown0 hgrow0
  go_wp2
  go_loopw [4] (fun i wr => ∃ k : Nat, k ≤ xs.length ∧ i = .int .i64 k ∧ wr.ownsRow w.heap.size 103 1 (.slice (some ⟨w.heap.size, 0, none⟩) xs.length xs.length) xs.length ((copied xs k).map fl) ∧ Below w.heap.size w wr) (fun i _ => xs.length - (intOf i).toNat)
  case atStart => exact ⟨0, Nat.zero_le _, rfl, by rw [copied_zero]; exact hown0, (Below.refl _ _).grown hgrow0 (Nat.le_refl _) (fun k h => by cases h)⟩
  case round =>
    obtain ⟨k, hk, rfl, hown, hb⟩ := hrel
    by_cases hlt : k < xs.length
    · rcases h with h | ⟨b, o, rfl, hSb, h⟩
      · simp at h; subst h; simp at hlt
      have hc : wr.cell? ⟨b, o + k, none⟩ = some (.float .f32 xs[k]) := by
        have := h k (by simpa using hlt)
        rw [hb.cell (p := ⟨b, o + k, none⟩) (hS b hSb), this]; simp
      obtain ⟨v0, hd⟩ : ∃ v0, wr.cell? ⟨w.heap.size, k, none⟩ = some (.float .f32 v0) := by
        rw [hown.cellAt k (by omega)]; simp [copied_length, hlt]
      have hf := hown.frozenAt k
      have hst := hown.stored k (fl xs[k])
      rw [copied_set xs k hlt] at hst
      have Hst := Lib.hid hst
      clear hst h
      go_wp2
      go_roundw
      case rel => exact ⟨k + 1, by omega, by go_num, Hst.out.1, hb.grown Hst.out.2 hb.size (fun j hj => by cases hj; exact Nat.le_refl _)⟩
      case measure => simp [intOf]; omega
    · go_wp2
      go_ret
      have e : k = xs.length := by omega
      subst e
      rw [copied_all] at hown
      exact ⟨rfl, Wr.ofOwns hown, hb⟩
end Go.Proofs.YtljkgemkolmihaaDoor
