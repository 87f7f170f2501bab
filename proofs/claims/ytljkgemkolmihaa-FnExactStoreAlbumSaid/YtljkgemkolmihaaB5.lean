/- The program's file of a picture. -/
import Derived.Test.YtljkgemkolmihaaB4
import Derived.Deep.RegionHeld3
import Derived.Deep.DeepMust
namespace Go.Proofs.Ytljkgemkolmihaa
open Go.RowKit

theorem ba_append (a b : List UInt8) : (⟨a.toArray⟩ : ByteArray) ++ ⟨b.toArray⟩ = ⟨(a ++ b).toArray⟩ := by
  apply ByteArray.ext
  rw [ByteArray.data_append]
  simp

def headL (W H : Int) : List UInt8 := [69, 89, 69, 49] ++ bytesL W 1 ++ bytesL H 1
def numsL (xs : List Nat) : List UInt8 := xs.flatMap fun x => bytesL (bitsOf x) 4
def picL (W H : Int) (xs : List Nat) : List UInt8 := headL W H ++ numsL xs
theorem head_eq (W H : Int) : (⟨#[69, 89, 69, 49]⟩ : ByteArray) ++ ⟨(bytesL W 1).toArray⟩ ++ ⟨(bytesL H 1).toArray⟩ = ⟨(headL W H).toArray⟩ := by
  have e : (⟨#[69, 89, 69, 49]⟩ : ByteArray) = ⟨([69, 89, 69, 49] : List UInt8).toArray⟩ := rfl
  rw [e, ba_append, ba_append]
  rfl
theorem hroom (W H : Int) : (Lib.byteCells []).length + (⟨(headL W H).toArray⟩ : ByteArray).size ≤ 1125899906 := by
  rw [show (⟨(headL W H).toArray⟩ : ByteArray).size = (headL W H).length from rfl]
  simp [headL, bytesL_length, Lib.byteCells]
theorem numsL_length (xs : List Nat) : (numsL xs).length = 4 * xs.length := by
  induction xs with
  | nil => rfl
  | cons x xs ih => simp only [numsL, List.flatMap_cons, List.length_append, bytesL_length, List.length_cons] at ih ⊢; omega
theorem headL_length (W H : Int) : (headL W H).length = 6 := by simp [headL, bytesL_length]
theorem numsL_take (xs : List Nat) (j : Nat) (h : j < xs.length) : numsL (xs.take (j + 1)) = numsL (xs.take j) ++ bytesL (bitsOf xs[j]) 4 := by
  unfold numsL
  rw [← List.take_append_getElem h, List.flatMap_append]
  simp

theorem BuilderAt.next {T e : TypeId} {B b : Nat} {p : Value} {bs : List Value} {w w' : World} (h : Lib.BuilderAt T e B b p bs w) (hb : Below w.heap.size w w') : Lib.BuilderAt T e B b p bs w' := by
  have hlt := Lib.BuilderAt.lt h
  obtain ⟨hB, v, hk, hown, hne⟩ := h
  exact ⟨hB, v, (hb.block b hlt).trans hk, hown.kept (row := none) ⟨hb.os, hb.tape, hb.output, hb.size, fun k hk _ => hb.block k hk⟩ (by by_cases h0 : v.ownBlock = none; exact Or.inl h0; exact Or.inr h0), hne⟩
theorem IsBuilder.next {T e : TypeId} {B b : Nat} {bs : List Value} {w w' : World} (h : Lib.IsBuilder T e B b bs w) (hb : Below w.heap.size w w') : Lib.IsBuilder T e B b bs w' := by
  rcases h with h | h
  · exact Or.inl (BuilderAt.next h hb)
  · exact Or.inr (BuilderAt.next h hb)

/-- what stands while a picture is being stored: the picture's box, the builder with the bytes l -/
structure StB (w : World) (W H : Int) (v : Value) (l : List UInt8) (x : World) : Prop where
  cells : x.cell? ⟨w.heap.size, 0, none⟩ = some (.int .i64 W) ∧ x.cell? ⟨w.heap.size, 1, none⟩ = some (.int .i64 H) ∧ x.cell? ⟨w.heap.size, 2, none⟩ = some v
  bld : Lib.IsBuilder 104 5 (w.heap.size + 1) (w.heap.size + 1) (Lib.byteCells l) x
  below : Below w.heap.size w x
  size : w.heap.size + 1 < x.heap.size
theorem StB.next {w : World} {W H : Int} {v : Value} {l : List UInt8} {x y : World} (h : StB w W H v l x) (hb : Below x.heap.size x y) : StB w W H v l y := by
  have hz := h.size
  obtain ⟨c, _⟩ := bcell hb
  refine ⟨?_, IsBuilder.next h.bld hb, h.below.trans (hb.mono (by omega)), by have := hb.size; omega⟩
  rw [c _ _ (by omega), c _ _ (by omega), c _ _ (by omega)]
  exact h.cells
theorem StB.drew {w : World} {W H : Int} {v : Value} {l : List UInt8} {x : World} (h : StB w W H v l x) : StB w W H v l x.drew := h.next ((Below.refl _ _).drew)
theorem StB.write {w : World} {W H : Int} {v : Value} {l m : List UInt8} {x y : World} (h : StB w W H v l x)
    (hb : Lib.BuilderAt 104 5 (w.heap.size + 1) (w.heap.size + 1) (.pointer (some ⟨w.heap.size + 1, 0, none⟩)) (Lib.byteCells l ++ Lib.strCells ⟨m.toArray⟩) y ∧ Below (w.heap.size + 1) x y) : StB w W H v (l ++ m) y := by
  have hz := h.size
  obtain ⟨h1, h2⟩ := hb
  refine ⟨?_, Or.inr ?_, h.below.trans (h2.mono (by omega)), by have := h2.size; omega⟩
  · rw [h2.cell (p := ⟨w.heap.size, 0, none⟩) (by simp), h2.cell (p := ⟨w.heap.size, 1, none⟩) (by simp), h2.cell (p := ⟨w.heap.size, 2, none⟩) (by simp)]
    exact h.cells
  · rw [Lib.byteCells_append]
    simpa [Lib.strCells_eq] using h1

theorem bytesOf1 (n : Int) (w : World) : Calls Try.prog 47 #[.int .i64 n, .int .i64 1] w (IsText (bytesL n 1) w) := bytesOf_any n 1 (by decide) w
theorem bytesOf2 (n : Int) (w : World) : Calls Try.prog 47 #[.int .i64 n, .int .i64 2] w (IsText (bytesL n 2) w) := bytesOf_any n 2 (by decide) w
theorem bytesOf4 (n : Int) (w : World) : Calls Try.prog 47 #[.int .i64 n, .int .i64 4] w (IsText (bytesL n 4) w) := bytesOf_any n 4 (by decide) w

set_option maxRecDepth 100000 in
set_option maxHeartbeats 4000000 in
theorem stored_any (W H : Int) (a : Option Addr) (c : Nat) (xs : List Nat) (w : World) (hn : xs.length ≤ 1048576) (hok : ∀ x ∈ xs, okF x) (h : Rd (· < w.heap.size) w a (xs.map fl)) :
    Calls Try.prog 45 #[.agg #[.int .i64 W, .int .i64 H, .slice a xs.length c]] w (IsText (picL W H xs) w) := by
  have Hok := Lib.hid hok
  have Hr := Lib.hid h
  clear hok h
  have S0 : Hid (StB w W H (.slice a xs.length c) [] ((w.alloc (.cells #[.int .i64 W, .int .i64 H, .slice a xs.length c] 36)).alloc (.cells #[.pointer none, .slice none 0 0] 104))) := Lib.hid ⟨by simp [go_sem], by simpa [Lib.byteCells] using Lib.fresh_isBuilder 104 5 (w.alloc (.cells #[.int .i64 W, .int .i64 H, .slice a xs.length c] 36)), ((Below.refl _ _).alloc (Nat.le_refl _) _).alloc (by simp) _, by simp⟩
  have l1 := bytesL_length W 1
  have l2 := bytesL_length H 1
  go_enter Try.func45, Try.ntmps45
  go_wp2_with fail
  go_region_held3 (fun w' => w'.cell? ⟨w.heap.size, 0, none⟩ = some (.int .i64 W) ∧ w'.cell? ⟨w.heap.size, 1, none⟩ = some (.int .i64 H) ∧ w'.cell? ⟨w.heap.size, 2, none⟩ = some (.slice a xs.length c))
    (first | exact S3.out.cells | exact S2.out.cells | exact S1.out.cells | exact S0.out.drew.cells | go_keep)
    ((first
      | (go_at_call 47
         refine (bytesOf1 _ _).mono ?_
         rintro e y ⟨rfl, hb⟩
         first
           | have S2 := Lib.hid (S1.out.next hb)
           | have S1 := Lib.hid (S0.out.drew.next hb)
         clear hb)
      | (go_at_call 64
         rw [head_eq W H]
         refine (write_any _ _ _ ⟨(headL W H).toArray⟩ _ S2.out.bld (hroom W H) (by have := S2.out.size; omega)).mono ?_
         rintro e x3 ⟨rfl, hb3⟩
         have S3 := Lib.hid (S2.out.write hb3)
         clear hb3)))
  rw [List.nil_append] at S3
  clear S0 S1 S2
  obtain ⟨k0, k1, k2⟩ := S3.out.cells
  go_wp2_with fail
  go_loopw [19] (fun i wr => ∃ j : Nat, j ≤ xs.length ∧ i = .int .i64 j ∧ StB w W H (.slice a xs.length c) (headL W H ++ numsL (xs.take j)) wr) (fun i _ => xs.length - (intOf i).toNat)
  case atStart => exact ⟨0, Nat.zero_le _, rfl, by simpa [numsL] using S3.out⟩
  case round =>
    obtain ⟨j, hj, rfl, hS⟩ := hrel
    have S4 := Lib.hid hS
    clear hS S3 k0 k1 k2
    by_cases hlt : j < xs.length
    · have hi1 : (j : Int) < (xs.length : Int) := by omega
      have hi0 : (0 : Int) ≤ (j : Int) := by omega
      rcases Hr.out with hx | ⟨b, o, rfl, hb, hx⟩
      · rw [List.map_eq_nil_iff] at hx; rw [hx] at hlt; cases hlt
      have c0 : wr.cell? ⟨b, o + j, none⟩ = some (fl xs[j]) := by
        rw [S4.out.below.cell (p := ⟨b, o + j, none⟩) hb]
        exact (hx j (by simpa using hlt)).trans (by rw [List.getElem_map])
      clear hx
      go_wp2_with (first
        | (go_at_call 65
           refine (bitsOf_any xs[j] (Hok.out _ (List.getElem_mem _)) _).mono ?_
           rintro e y ⟨rfl, rfl⟩)
        | (go_at_call 47
           refine (bytesOf4 _ _).mono ?_
           rintro e y5 ⟨rfl, hb5⟩
           have S5 := Lib.hid (S4.out.next hb5)
           clear hb5)
        | (go_at_call 64
           refine (write_any _ _ _ _ _ S5.out.bld (by rw [Lib.byteCells_length, List.length_append, headL_length, numsL_length, List.length_take, show (⟨(bytesL (bitsOf xs[j]) 4).toArray⟩ : ByteArray).size = (bytesL (bitsOf xs[j]) 4).length from rfl, bytesL_length]; omega) (by have := S5.out.size; omega)).mono ?_
           rintro e x6 ⟨rfl, hb6⟩
           have S6 := Lib.hid (S5.out.write hb6)
           clear hb6))
      refine ⟨⟨j + 1, by omega, by simp, ?_⟩, by simp [intOf]; omega⟩
      rw [numsL_take xs j hlt, ← List.append_assoc]
      exact S6.out
    · have : j = xs.length := by omega
      have hi1 : ¬ (j : Int) < (xs.length : Int) := by omega
      go_wp2_with (go_at_call 66
                   refine (Try.Builder_String_any _ _ _ _ S4.out.bld (by have := S4.out.size; omega)).mono ?_
                   rintro e y7 ⟨rfl, hb7⟩)
      go_ret
      exact ⟨rfl, S4.out.below.trans (hb7.mono (by omega))⟩
end Go.Proofs.Ytljkgemkolmihaa
