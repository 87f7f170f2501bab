/- The reference's bytes of an album. -/
import Derived.Test.YtljkgemkolmihaaB7
namespace Go.Proofs.Ytljkgemkolmihaa
open Go.RowKit

set_option maxRecDepth 100000 in
set_option maxHeartbeats 4000000 in
theorem sframe_any (out : List UInt8) (hout : out.length ≤ 8256) (B b o : Nat) (W H : Int) (a : Option Addr) (c : Nat) (xs : List Nat) (w : World) (hn : xs.length ≤ 256) (hok : ∀ x ∈ xs, okF x) (h : Rd (· < B) w a (xs.map fl)) (hB : B ≤ w.heap.size) (hbw : b < w.heap.size)
    (c0 : w.cell? ⟨b, o, none⟩ = some (.int .i64 W)) (c1 : w.cell? ⟨b, o + 1, none⟩ = some (.int .i64 H)) (c2 : w.cell? ⟨b, o + 2, none⟩ = some (.slice a xs.length c)) :
    Calls Try.prog 63 #[.string ⟨out.toArray⟩, .pointer (some ⟨b, o, none⟩)] w (IsText (picL W H xs ++ bytesL (chk (out ++ picL W H xs)) 2) w) := by
  have Hok := Lib.hid hok
  have Hr := Lib.hid h
  have hp1 : (picL W H xs).length ≤ 1030 := by rw [picL_length]; omega
  have hs1 : ¬ 9223372036854775807 < out.length + (picL W H xs).length := by omega
  have hs2 : ¬ 9223372036854775807 < (picL W H xs).length + 2 := by omega
  have hp3 : ∀ n, (bytesL n 2).length = 2 := fun n => bytesL_length n 2
  obtain ⟨hq0, hq1⟩ := chk_bound (out ++ picL W H xs)
  generalize hq : chk (out ++ picL W H xs) = q at hq0 hq1 ⊢
  have Hq := Lib.hid hq
  have hcv : ∀ y : World, (convert 102 9 (.slice (some ⟨y.heap.size, 0, none⟩) 2 2)).run Try.prog (y.alloc (.cells #[.int .u8 (bits .and .i64 q 255 % 256), .int .u8 (bits .and .i64 (q / 256) 255 % 256)] 5)) = .ok (.string ⟨(bytesL q 2).toArray⟩) (y.alloc (.cells #[.int .u8 (bits .and .i64 q 255 % 256), .int .u8 (bits .and .i64 (q / 256) 255 % 256)] 5)) := fun y =>
    run_str _ 102 9 5 y.heap.size _ (bytesL q 2) Try.underlying102 Try.underlying5 Try.underlying9 (by
      rw [← bytes2 hq0 (by omega), bytesL_length]
      exact World.ownsRow_lit (e := 5) (size := 1) (base := y.heap.size) y #[.int .u8 (bits .and .i64 q 255 % 256), .int .u8 (bits .and .i64 (q / 256) 255 % 256)] 2 (Nat.le_refl _) (by decide) rfl)
  clear hok h hq
  go_enter Try.func63, Try.ntmps63
  go_wp2_with (first
    | (go_at_call 79
       go_must (refine (sstore_any B b o W H a c xs _ hn Hok.out Hr.out hB hbw c0 c1 c2).mono ?_)
       rintro e y1 ⟨rfl, hb1⟩)
    | (go_at_call 80
       rw [ba_append]
       go_must (refine (scheck_any _ (by rw [List.length_append]; omega) _).mono ?_)
       rw [Hq.out]
       rintro e y2 ⟨rfl, rfl⟩))
  go_ret
  refine ⟨?_, hb1.alloc hb1.size _⟩
  rw [← ba_append]
  rfl

set_option maxRecDepth 100000 in
set_option maxHeartbeats 4000000 in
theorem sbytes_any (pb : Nat) (a : Option Addr) (c : Nat) (ps : List PV) (w : World) (hn : ps.length ≤ 8) (hm : ∀ p ∈ ps, p.xs.length ≤ 256) (hok : ∀ p ∈ ps, ∀ x ∈ p.xs, okF x) (h : Pics (· < w.heap.size) w a ps) (hpb : pb < w.heap.size)
    (hp : w.cell? ⟨pb, 0, none⟩ = some (.slice a ps.length c)) :
    Calls Try.prog 44 #[.pointer (some ⟨pb, 0, none⟩)] w (IsText (albL ps) w) := by
  have Hm := Lib.hid hm
  have Hok := Lib.hid hok
  have H0 := Lib.hid h
  clear hm hok h
  go_enter Try.func44, Try.ntmps44
  go_wp2_with fail
  go_loopw [4, 3] (fun i q wr => ∃ j : Nat, j ≤ ps.length ∧ i = .int .i64 j ∧ q = .string ⟨(albL (ps.take j)).toArray⟩ ∧ Below w.heap.size w wr) (fun i _ _ => ps.length - (intOf i).toNat)
  case atStart => exact ⟨0, Nat.zero_le _, rfl, by simp [albL], Below.refl _ _⟩
  case round =>
    obtain ⟨j, hj, rfl, rfl, hb⟩ := hrel
    have hzr := hb.size
    have B2 := Lib.hid hb
    have hll := albL_length ps Hm.out j hj
    have d0 : wr.cell? ⟨pb, 0, none⟩ = some (.slice a ps.length c) := by rw [hb.cell (p := ⟨pb, 0, none⟩) hpb]; exact hp
    obtain ⟨l, hl⟩ : ∃ l, l = albL (ps.take j) := ⟨_, rfl⟩
    rw [← hl] at hll ⊢
    have Hl := Lib.hid hl
    clear hb hl hp
    by_cases hlt : j < ps.length
    · have hi1 : (j : Int) < (ps.length : Int) := by omega
      have hi0 : (0 : Int) ≤ (j : Int) := by omega
      obtain ⟨b1, o1, rfl, hS1, h10, h11, h12⟩ := (H0.out.below B2.out).at j hlt
      have hpl := Hm.out _ (List.getElem_mem hlt)
      have Hr := Lib.hid ((H0.out.2 _ (List.getElem_mem hlt)).below B2.out)
      have Ho := Lib.hid (Hok.out _ (List.getElem_mem hlt))
      have Ht := Lib.hid (albL_take ps j hlt)
      generalize ps[j] = p at h10 h11 h12 hpl Hr Ho Ht
      obtain ⟨W, H, a', c', xs⟩ := p
      simp only at h10 h11 h12 hpl Hr Ho Ht
      have hp1 : (picL W H xs).length ≤ 1030 := by rw [picL_length]; omega
      have hp2 : l.length ≤ 8256 := by omega
      have hp3 : ∀ n, (bytesL n 2).length = 2 := fun n => bytesL_length n 2
      have hs1 : ¬ 9223372036854775807 < l.length + ((picL W H xs).length + 2) := by omega
      go_wp2_with (go_at_call 63
                   go_must (refine (sframe_any l hp2 w.heap.size b1 (o1 + j * 3) W H a' c' xs _ (by omega) Ho.out Hr.out hzr (by omega) h10 h11 h12).mono ?_)
                   rintro e y1 ⟨rfl, hb1⟩)
      go_roundw
      case rel =>
        refine ⟨j + 1, by omega, by go_num, ?_, B2.out.trans (hb1.mono hzr)⟩
        rw [ba_append, Ht.out, ← Hl.out]
        simp [frameL]
      case measure => simp [intOf]; omega
    · have : j = ps.length := by omega
      have hi1 : ¬ (j : Int) < (ps.length : Int) := by omega
      obtain rfl : l = albL ps := by rw [Hl.out, this, List.take_length]
      go_wp2_with fail
      go_ret
      exact ⟨rfl, B2.out⟩
end Go.Proofs.Ytljkgemkolmihaa
