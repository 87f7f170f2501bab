/- Bytes of numbers; the builder's writing. -/
import Derived.Test.YtljkgemkolmihaaF2
import Derived.Lib.Builder
import Derived.Lib.AppendStr
import Derived.Lib.UnsafeStr
import Derived.Laws.IdiomStrings
import Derived.Shelf.Bytes.SlSmallAll
namespace Go.Proofs.Ytljkgemkolmihaa
open Go.RowKit

theorem infoB : (Try.prog.info? 5).map (fun i => (i.zero, i.size, i.bytes)) = some (some (.int .u8 0), 1, 1) := by kernel_rfl

/-- a number's lowest byte -/
def byteOf (n : Int) : UInt8 := (n % 256).toNat.toUInt8
theorem byteOf_nat (n : Int) : ((byteOf n).toNat : Int) = n % 256 := by
  unfold byteOf
  have h1 := Int.emod_nonneg n (show (256 : Int) ≠ 0 by decide)
  have h2 := Int.emod_lt_of_pos n (show (0 : Int) < 256 by decide)
  rw [show (n % 256).toNat.toUInt8.toNat = (n % 256).toNat % 256 by simp]
  omega
/-- k bytes of a number, the lowest first -/
def bytesL (n : Int) (k : Nat) : List UInt8 := (List.range k).map fun j => byteOf (n / 256 ^ j)
theorem bytesL_length (n : Int) (k : Nat) : (bytesL n k).length = k := by simp [bytesL]
theorem bytesL_succ (n : Int) (k : Nat) : bytesL n (k + 1) = bytesL n k ++ [byteOf (n / 256 ^ k)] := by simp [bytesL, List.range_succ]

/-- what a call hands back that is a text -/
def IsText (l : List UInt8) (w : World) (e : Ending) (w' : World) : Prop := e = .returned (.string ⟨l.toArray⟩) ∧ Below w.heap.size w w'

theorem ownsRow_alloc {w : World} {B : Nat} {e : TypeId} {n : Nat} {v : Value} {xs : List Value} (h : w.ownsRow B e 1 v n xs) (o : Obj) : (w.alloc o).ownsRow B e 1 v n xs :=
  h.kept (row := none) ⟨rfl, rfl, rfl, by simp, fun k hk _ => Below.heap_alloc _ _ _ hk⟩ (by by_cases h0 : v.ownBlock = none; exact Or.inl h0; exact Or.inr h0)
theorem cell_one (w : World) (v : Value) (t : TypeId) : ∀ j u, [v][j]? = some u → (w.alloc (.cells #[v] t)).cell? ((⟨w.heap.size, 0, none⟩ : Addr).add j) = some u := by
  intro j u h
  match j with
  | 0 => simp at h; subst h; simp [Addr.add, go_sem]
  | _ + 1 => simp at h

theorem byteCells_one (l : List UInt8) : ∀ u ∈ Lib.byteCells l, u.oneCell' = true := by
  intro u hu
  obtain ⟨x, _, rfl⟩ := List.mem_map.1 hu
  rfl

theorem run_str {P : Program} (w : World) (src dst e : TypeId) (B : Nat) (v : Value) (l : List UInt8) (hs : P.underlying src = some (.slice e)) (he : P.underlying e = some (.int .u8)) (hd : P.underlying dst = some .string)
    (h : w.ownsRow B e 1 v l.length (Lib.byteCells l)) : (convert src dst v).run P w = .ok (.string ⟨l.toArray⟩) w := by
  obtain ⟨a, c, rfl, hw⟩ := Wr.ofOwns' h
  rcases hw with hw | ⟨b, o, rfl, _, hw⟩
  · have : l = [] := by simpa [Lib.byteCells] using hw
    subst this
    exact Go.Proofs.run_convert_bytes_zero w src e hs he _ _ dst hd
  · refine run_convert_bytes_back w src dst e ⟨b, o, none⟩ c l hs he hd fun j hj => ?_
    have := (hw j (by simpa [Lib.byteCells] using hj)).1
    unfold Addr.add
    split
    · rename_i h0; subst h0; simpa [Lib.byteCells] using this
    · simpa [Lib.byteCells] using this

set_option maxRecDepth 100000 in
set_option maxHeartbeats 1000000 in
theorem bytesOf_any (n : Int) (m : Nat) (hm : m ≤ 8) (w : World) :
    Calls Try.prog 47 #[.int .i64 n, .int .i64 m] w (IsText (bytesL n m) w) := by
  obtain ⟨i0, hi, hz0, hz1, hz2⟩ := info_parts infoB
  go_enter Try.func47, Try.ntmps47
  go_wp2_with fail
  go_loopw [0, 5, 8] (fun q v i wr => ∃ j : Nat, j ≤ m ∧ i = .int .i64 j ∧ q = .int .i64 (n / 256 ^ j) ∧ wr.ownsRow w.heap.size 5 1 v j (Lib.byteCells (bytesL n j)) ∧ Below w.heap.size w wr) (fun _ _ i _ => m - (intOf i).toNat)
  case atStart => exact ⟨0, Nat.zero_le _, rfl, by simp, by simpa [bytesL, Lib.byteCells] using (World.ownsRow_made (e := 5) (size := 1) (base := w.heap.size) w #[] 0 (by simp) (by decide) (by simp)), (Below.refl _ _).alloc (Nat.le_refl _) _⟩
  case round =>
    obtain ⟨j, hj, rfl, rfl, hw, ho⟩ := hrel
    have hz := ho.size
    obtain ⟨q, hq⟩ : ∃ q, q = n / 256 ^ j := ⟨_, rfl⟩
    rw [← hq]
    have Hq := Lib.hid hq
    have Hw := Lib.hid hw
    have Ho := Lib.hid ho
    clear hq hw ho
    by_cases hlt : j < m
    · have hi1 : (j : Int) < (m : Int) := by omega
      go_wp2_with (at_builtin; go_loud (refine wpList_append_own _ rfl (.tmp 10) (.tmp 13) 102 rfl w.heap.size 5 i0 (.int .u8 0) 1 1 Try.underlying102 hi hz0 hz1 hz2 rfl (by decide) _ j (Lib.byteCells (bytesL n j)) rfl ?c0 ⟨wr.heap.size, 0, none⟩ 1 1 [.int .u8 (q % 256)] rfl rfl ?c1 ?c2 ?c3 ?c4 ?c5 ?_))
      case c0 => exact ownsRow_alloc Hw.out _
      case c1 => exact cell_one _ _ _
      case c2 => intro u hu; simp at hu; subst hu; rfl
      case c3 => unfold maxLen; omega
      case c4 => omega
      case c5 => simp; omega
      intro v' w1 hown1 hgrow _
      have Hown := Lib.hid hown1
      clear hown1
      go_wp2
      refine ⟨⟨j + 1, by omega, by simp, ?_, ?_, (Ho.out.alloc (by omega) _).grown hgrow (by simp; omega) (fun k hk => (Hw.out.lt k hk).1)⟩, by simp [intOf]; omega⟩
      · rw [Hq.out, Int.pow_succ, Int.ediv_ediv_of_nonneg (Int.pow_nonneg (by decide))]
      · rw [bytesL_succ, Lib.byteCells_append]
        have e1 : Lib.byteCells [byteOf (n / 256 ^ j)] = [.int .u8 (q % 256)] := by simp [Lib.byteCells, byteOf_nat, Hq.out]
        rw [e1]
        exact Hown.out
    · have : j = m := by omega
      subst this
      have hi1 : ¬ (j : Int) < (j : Int) := by omega
      have hcv := run_str wr 102 9 5 w.heap.size u5 (bytesL n j) Try.underlying102 Try.underlying5 Try.underlying9 (by rw [bytesL_length]; exact Hw.out)
      go_wp2_with fail
      go_ret
      exact ⟨rfl, Ho.out⟩
end Go.Proofs.Ytljkgemkolmihaa
