/- The reference's file of a picture. -/
import Derived.Test.YtljkgemkolmihaaB7a
namespace Go.Proofs.Ytljkgemkolmihaa
open Go.RowKit

set_option maxRecDepth 100000 in
set_option maxHeartbeats 4000000 in
theorem sstore_any (B b o : Nat) (W H : Int) (a : Option Addr) (c : Nat) (xs : List Nat) (w : World) (hn : xs.length ≤ 256) (hok : ∀ x ∈ xs, okF x) (h : Rd (· < B) w a (xs.map fl)) (hB : B ≤ w.heap.size) (hbw : b < w.heap.size)
    (c0 : w.cell? ⟨b, o, none⟩ = some (.int .i64 W)) (c1 : w.cell? ⟨b, o + 1, none⟩ = some (.int .i64 H)) (c2 : w.cell? ⟨b, o + 2, none⟩ = some (.slice a xs.length c)) :
    Calls Try.prog 79 #[.pointer (some ⟨b, o, none⟩)] w (IsText (picL W H xs) w) := by
  obtain ⟨i0, hi, hz0, hz1, hz2⟩ := info_parts infoB
  have Hok := Lib.hid hok
  have Hr := Lib.hid h
  have hne : b ≠ w.heap.size := by omega
  have hne' : w.heap.size ≠ b := by omega
  clear hok h
  have kc := fun (w : World) (C : Array Value) (n c : Nat) => Lib.run_convert_bytes_const (P := Try.prog) w 102 5 C n c Try.underlying102 Try.underlying5
  go_enter Try.func79, Try.ntmps79
  go_wp2_with fail
  go_region_held3 (fun w' => w'.cell? ⟨b, o, none⟩ = some (.int .i64 W) ∧ w'.cell? ⟨b, o + 1, none⟩ = some (.int .i64 H) ∧ w'.cell? ⟨b, o + 2, none⟩ = some (.slice a xs.length c))
    (first | exact keep3 hbw c0 c1 c2 hB1 | exact keep3 hbw c0 c1 c2 ((((((Below.refl _ _).alloc (Nat.le_refl _) _).drew.alloc (by simp) _).alloc (by simp; omega) _).drew)) | exact keep3 hbw c0 c1 c2 ((((Below.refl _ _).alloc (Nat.le_refl _) _).drew.alloc (by simp) _)) | exact keep3 hbw c0 c1 c2 (((Below.refl _ _).alloc (Nat.le_refl _) _).drew))
    ((refine step_append_full (by rfl) (.tmp 8) (.tmp 19) 102 (by rfl) w.heap.size 5 i0 (.int .u8 0) 1 Try.underlying102 hi hz0 hz1 hz2 rfl ⟨w.heap.size, 0, none⟩ 4 [.int .u8 69, .int .u8 89, .int .u8 69, .int .u8 49] (by rfl) rfl ?hold ⟨w.heap.size + 1, 0, none⟩ 2 2 [.int .u8 (IntKind.u8.wrap W), .int .u8 (IntKind.u8.wrap H)] (by rfl) rfl ?hnews (by decide) (by decide) (by decide) ?hbase ?_
      case hold => exact fun j u h => Lib.cell?_alloc_marked _ (cell_row [.int .u8 69, .int .u8 89, .int .u8 69, .int .u8 49] _ _ _ rfl j u h)
      case hnews => exact fun j u h => cell_row [.int .u8 (IntKind.u8.wrap W), .int .u8 (IntKind.u8.wrap H)] _ _ _ (by simp) j u h
      case hbase => simp; omega
      intro v' w1 hown1 hgrow
      have hB1 : Below w.heap.size w w1 := by first | exact (((Below.refl _ _).alloc (Nat.le_refl _) _).drew.alloc (by simp) _).grown hgrow (by simp; omega) (fun k hk => by cases hk) | exact (((Below.refl _ _).alloc (Nat.le_refl _) _).alloc (by simp) _).drew.grown hgrow (by simp; omega) (fun k hk => by cases hk) | exact (((Below.refl _ _).alloc (Nat.le_refl _) _).alloc (by simp) _).grown hgrow (by simp; omega) (fun k hk => by cases hk)
      have Hown1 := Lib.hid hown1
      clear hown1 hgrow))
  have B1 := Lib.hid hB1
  have hzz := hB1.size
  have R1 : Hid (w1.ownsRow w.heap.size 5 1 v' (6 + 4 * 0) (Lib.byteCells (headL W H ++ numsL (xs.take 0)))) := Lib.hid (by
    have := Hown1.out
    rw [wrapB, wrapB] at this
    simpa [headL, bytesL, numsL, Lib.byteCells] using this)
  clear hB1 Hown1
  simp only [IntKind.wrap_u8]
  go_wp2_with fail
  go_loopw [4, 3] (fun i v wr => ∃ j : Nat, j ≤ xs.length ∧ i = .int .i64 j ∧ wr.ownsRow w.heap.size 5 1 v (6 + 4 * j) (Lib.byteCells (headL W H ++ numsL (xs.take j))) ∧ Below w.heap.size w wr) (fun i _ _ => xs.length - (intOf i).toNat)
  case atStart => exact ⟨0, Nat.zero_le _, rfl, R1.out, B1.out⟩
  case round =>
    obtain ⟨j, hj, rfl, hrow, hb⟩ := hrel
    have hzr := hb.size
    have B2 := Lib.hid hb
    have R2 := Lib.hid hrow
    obtain ⟨d0, d1, d2⟩ := keep3 hbw c0 c1 c2 hb
    clear hrow hb B1 R1 c0 c1 c2
    by_cases hlt : j < xs.length
    · have hi1 : (j : Int) < (xs.length : Int) := by omega
      have hi0 : (0 : Int) ≤ (j : Int) := by omega
      rcases Hr.out with hx | ⟨b5, o5, rfl, hb5, hx⟩
      · rw [List.map_eq_nil_iff] at hx; rw [hx] at hlt; cases hlt
      have e0 : wr.cell? ⟨b5, o5 + j, none⟩ = some (fl xs[j]) := by
        rw [B2.out.cell (p := ⟨b5, o5 + j, none⟩) (by simp; omega)]
        exact (hx j (by simpa using hlt)).trans (by rw [List.getElem_map])
      clear hx
      obtain ⟨hq0, hq1⟩ := bitsOf_bound (Hok.out _ (List.getElem_mem hlt))
      go_wp2_with (first
        | (go_at_call 89
           refine (sbits_any xs[j] (Hok.out _ (List.getElem_mem _)) _).mono ?_
           rintro e y ⟨rfl, rfl⟩)
        | (at_builtin
           go_must (refine wpList_append_own _ rfl (.tmp 38) (.tmp 54) 102 rfl w.heap.size 5 i0 (.int .u8 0) 1 1 Try.underlying102 hi hz0 hz1 hz2 rfl (by decide) _ (6 + 4 * j) _ rfl (ownsRow_alloc R2.out _) ⟨y.heap.size, 0, none⟩ 4 4 [.int .u8 (bits .and .i64 (bitsOf xs[j]) 255 % 256), .int .u8 (bits .and .i64 (bitsOf xs[j] / 256) 255 % 256), .int .u8 (bits .and .i64 (bitsOf xs[j] / 65536) 255 % 256), .int .u8 (bits .and .i64 (bitsOf xs[j] / 16777216) 255 % 256)] rfl rfl (fun k u h => cell_row _ _ _ _ rfl k u h) ?c2 ?c3 ?c4 ?c5 ?_)
           case c2 => intro u hu; rw [bytes4 hq0 hq1] at hu; exact byteCells_one _ u hu
           case c3 => unfold maxLen; omega
           case c4 => omega
           case c5 => simp; omega
           intro v2 w2 hown2 hgrow2 _
           have R3 := Lib.hid hown2
           have B3 := Lib.hid ((B2.out.alloc (by omega) _).grown hgrow2 (by simp; omega) (fun k hk => (R2.out.lt k hk).1))
           clear hown2 hgrow2))
      go_roundw
      case rel =>
        refine ⟨j + 1, by omega, by go_num, ?_, B3.out⟩
        rw [numsL_take xs j hlt, ← List.append_assoc, Lib.byteCells_append, ← bytes4 hq0 hq1]
        exact R3.out
      case measure => simp [intOf]; omega
    · have : j = xs.length := by omega
      have hi1 : ¬ (j : Int) < (xs.length : Int) := by omega
      have hcv := run_str wr 102 9 5 w.heap.size u3 (headL W H ++ numsL (xs.take j)) Try.underlying102 Try.underlying5 Try.underlying9 (by rw [List.length_append, headL_length, numsL_length, List.length_take, Nat.min_eq_left hj]; exact R2.out)
      rw [this, List.take_length] at hcv
      go_wp2_with fail
      go_ret
      exact ⟨rfl, B2.out⟩
end Go.Proofs.Ytljkgemkolmihaa
