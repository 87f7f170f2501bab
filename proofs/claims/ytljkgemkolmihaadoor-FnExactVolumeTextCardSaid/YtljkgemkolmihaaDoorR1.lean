/- From readings to the walks' words: lists of texts; the two variables of the library. -/
import Derived.Test.YtljkgemkolmihaaDoorD5
import Derived.Test.YtljkgemkolmihaaDoorR0
import Derived.Carry
import Derived.ChangeOld
import Derived.OpenShut
import Derived.Lay
import Derived.ProofKit
import Derived.LaidMore
import Derived.SliceStrings
import Derived.Lib.LaidTab
import Derived.Stop.LaidErr
import Derived.ChangeMaps5
namespace Go.Proofs.YtljkgemkolmihaaDoor
open Go.ChangeShapes Go.WideShapes Go.ChangeAt Go.RowKit

section
variable {H : Type} {enc : TypeId × Value → H} {P : Program} {w : World}
theorem rd_of (a : Addr) (xs : List Value) (h : ∀ i (h : i < xs.length), w.cell? (a.add i) = some xs[i]) : Rd (· < w.heap.size) w (some a) xs := by
  by_cases hx : xs = []
  · exact Or.inl hx
  · have hp : 0 < xs.length := by cases xs <;> simp_all
    have h0 := h 0 hp
    obtain ⟨b, o, s⟩ := a
    have hs : s = none := by simpa [Addr.add] using World.cell?_spot h0
    subst hs
    have key : ∀ i (h : i < xs.length), w.cell? ⟨b, o + i, none⟩ = some xs[i] := fun i hi => by
      rw [← h i hi]
      unfold Addr.add
      split
      · rename_i h0; subst h0; rfl
      · rfl
    exact Or.inr ⟨b, o, rfl, lt_of_cell (key 0 hp), key⟩
theorem open_strL {r : Reach} {b0 : Nat} {t e : TypeId} {v : Value} {d : DataW H} {ps : List MemPlace} (ht : P.underlying t = some (.slice e)) (he : P.underlying e = some .string) (hc : P.cellsOf e = 1) (hv : Value.okWide P w r b0 t v)
    (h : DataW.Trod enc P w 0 (fun _ => true) true t v d ps) :
    ∃ a c, ∃ L : List (List UInt8), v = .slice a L.length c ∧ L.length ≤ maxLen ∧ (∀ p ∈ L, p.length ≤ maxLen) ∧ Rd (· < w.heap.size) w a (L.map sv) := by
  obtain ⟨a0, len, cap, rfl⟩ := okWide_slice ht hv
  obtain ⟨fuel, hf⟩ := h
  have hcs : (Value.slice a0 len cap).cells.toList = [.slice a0 len cap] := rfl
  rcases open_strings ht he hc hf with ⟨e0, _⟩ | ⟨a, l, c, ss, e0, _, hl, hcm, hss, _, hcell, hsz⟩
  · simp [Value.cells] at e0
    obtain ⟨rfl, rfl, rfl⟩ := e0
    exact ⟨none, 0, [], rfl, Nat.zero_le _, by simp, Rd.nil⟩
  · simp [Value.cells] at e0
    obtain ⟨rfl, rfl, rfl⟩ := e0
    simp only [if_true] at hss
    refine ⟨some a, cap, (ss.take len).map (fun s => s.data.toList), by simp; omega, by simp; omega, ?_, ?_⟩
    · intro p hp
      obtain ⟨s, hs, rfl⟩ := List.mem_map.1 hp
      have := hsz s (List.mem_of_mem_take hs)
      rw [Array.length_toList]; exact this
    · refine rd_of a _ fun i hi => ?_
      have hi2 : i < ss.length := by simp at hi; omega
      rw [hcell i hi2]
      simp [sv, bs_of, List.getD_eq_getElem?_getD, hi2]
end
def laidT : List (String × DataW Unit) := [("math/bits.deBruijn32tab", Rows.laid_math_bits_deBruijn32tab), ("math/bits.deBruijn64tab", Rows.laid_math_bits_deBruijn64tab), ("internal/strconv.uint64pow10", Rows.laid_internal_strconv_uint64pow10)]
theorem metT (os : Os) (args : Array Value) : laidMetH Tryd.prog laidT ((World.laidAll Tryd.prog os laidT).forCall (fun _ _ => 0) ⟨#[], args, []⟩).memory := by
  rw [MakeChecks.laidMetH_plain _ _ _ (by kernel_rfl)]
  exact laidMet_laidAll args (by kernel_rfl) (by kernel_rfl)
theorem lid_of {W : World} (h : laidMetH Tryd.prog laidT W) (hsh : W.ShapedOpen Tryd.prog) : Lid W := by
  refine ⟨Tryd.laysM146.s1_3 W hsh, ?_⟩
  rw [MakeChecks.laidMetH_plain _ _ _ (by kernel_rfl)] at h
  have h3 := h.tail.tail
  exact Lib.tabIs_of_head (g := 1) (t := 148) (e := 108) (n := 20) (by kernel_rfl) (by kernel_rfl) (by kernel_rfl) (by kernel_rfl) (by kernel_rfl) (by kernel_rfl) h3
end Go.Proofs.YtljkgemkolmihaaDoor
