/- The reference's volume of squares of two pictures. -/
import Derived.Test.YtljkgemkolmihaaW7
import Derived.RegionTactic
import Derived.ChangeAlike
namespace Go.Proofs.Ytljkgemkolmihaa
open Go.RowKit

theorem Below.drewN' (B : Nat) (w : World) (n : Nat) : Below B w (w.drewN n) := ⟨rfl, rfl, rfl, Nat.le_refl _, fun _ _ => rfl⟩
theorem BoxO.below {w w' : World} {b o : Nat} {p : PV} (h : BoxO w b o p) (hb : Below w.heap.size w w') : BoxO w' b o p := by
  obtain ⟨h0, h1, h2⟩ := h
  have hlt := lt_of_cell h0
  obtain ⟨cB, _⟩ := bcell hb
  exact ⟨by rw [cB _ _ hlt]; exact h0, by rw [cB _ _ hlt]; exact h1, by rw [cB _ _ hlt]; exact h2⟩

set_option maxRecDepth 100000 in
set_option maxHeartbeats 8000000 in
theorem scompare_any (b o b' o' : Nat) (W H D : Nat) (a1 a2 : Option Addr) (c1 c2 : Nat) (xs ys : List Nat) (w : World) (hW : W ≤ 24) (hH : H ≤ 24) (hD : D ≤ 8) (ok1 : picB W H xs.length = true) (ok2 : picB W H ys.length = true)
    (h1 : BoxO w b o ⟨W, H, a1, c1, xs⟩) (h2 : BoxO w b' o' ⟨W, H, a2, c2, ys⟩) (r1 : Rd (· < w.heap.size) w a1 (xs.map fl)) (r2 : Rd (· < w.heap.size) w a2 (ys.map fl)) :
    Calls Try.prog 70 #[.pointer (some ⟨b, o, none⟩), .pointer (some ⟨b', o', none⟩), .int .i64 D, .bool true] w (FreshV W H D (at3 W D (sqC W H xs ys)) w) := by
  obtain ⟨i0, hi, hz0, hz1, hz2⟩ := info_parts infoF
  have hbl : b < w.heap.size := lt_of_cell h1.1
  have e0 : w.cell? ⟨b, o, none⟩ = some (.int .i64 W) := h1.1
  have e1 : w.cell? ⟨b, o + 1, none⟩ = some (.int .i64 H) := h1.2.1
  have hne : b ≠ w.heap.size := by omega
  have hne1 : b ≠ w.heap.size + 1 := by omega
  have V0 : Hid (VR w W H D (at3 W D (sqC W H xs ys)) 0 (((w.alloc (.cells #[.int .i64 0, .int .i64 0, .int .i64 0, .slice none 0 0] 52)).alloc (.cells #[.int .i64 W, .int .i64 H, .int .i64 D, .slice none 0 0] 52)).drew)) := Lib.hid (by
    refine ⟨.slice none 0 0, [], FLs.refl _, ?_, ?_, World.ownsRow_nil _ _ _ _, (((Below.refl _ _).alloc (Nat.le_refl _) _).alloc (by simp) _).drew, by simp⟩
    · exact blk_alloc (heap_alloc_new _ _) _
    · have := heap_alloc_new (w.alloc (.cells #[.int .i64 0, .int .i64 0, .int .i64 0, .slice none 0 0] 52)) (.cells #[.int .i64 W, .int .i64 H, .int .i64 D, .slice none 0 0] 52)
      show ((w.alloc (.cells #[.int .i64 0, .int .i64 0, .int .i64 0, .slice none 0 0] 52)).alloc (.cells #[.int .i64 W, .int .i64 H, .int .i64 D, .slice none 0 0] 52)).heap[w.heap.size + 1]? = _
      simpa using this)
  have B1 := Lib.hid h1
  have B2 := Lib.hid h2
  have R1 := Lib.hid r1
  have R2 := Lib.hid r2
  clear h1 h2 r1 r2
  go_enter Try.func70, Try.ntmps70
  go_wp2_with fail
  go_region
  go_wp2_with fail
  clear e0 e1
  go_loopw [10, 11, 12, 13] (fun i _ _ _ wr => ∃ y : Nat, y ≤ H ∧ i = .int .i64 y ∧ VR w W H D (at3 W D (sqC W H xs ys)) (y * W * D) wr) (fun i _ _ _ _ => H - (intOf i).toNat)
  case atStart => exact ⟨0, Nat.zero_le _, rfl, by simpa using V0.out⟩
  case round =>
    obtain ⟨y, hy, rfl, hvr⟩ := hrel
    have Hv := Lib.hid hvr
    have kH : wr.cell? ⟨b, o + 1, none⟩ = some (.int .i64 H) := by
      obtain ⟨v, zs, _, _, _, _, hbel, _⟩ := hvr
      exact (B1.out.below hbel).2.1
    clear hvr V0
    by_cases hyl : y < H
    · go_wp2_with fail
      obtain ⟨wo, hwo⟩ : ∃ wo : World, wo = wr := ⟨_, rfl⟩
      subst hwo
      clear kH
      go_loopw [11, 12, 13] (fun i _ _ wi => ∃ x : Nat, x ≤ W ∧ i = .int .i64 x ∧ VR w W H D (at3 W D (sqC W H xs ys)) ((y * W + x) * D) wi) (fun i _ _ _ => W - (intOf i).toNat)
      case atStart => exact ⟨0, Nat.zero_le _, rfl, by simpa using Hv.out⟩
      case round =>
        obtain ⟨x, hx, rfl, hvr⟩ := hrel
        have Hv2 := Lib.hid hvr
        have kW : wr.cell? ⟨b, o, none⟩ = some (.int .i64 W) := by
          obtain ⟨v, zs, _, _, _, _, hbel, _⟩ := hvr
          exact (B1.out.below hbel).1
        clear hvr Hv
        by_cases hxl : x < W
        · go_wp2_with fail
          obtain ⟨wo, hwo⟩ : ∃ wo : World, wo = wr := ⟨_, rfl⟩
          subst hwo
          clear kW
          go_loopw [12, 13] (fun i _ wi => ∃ d : Nat, d ≤ D ∧ i = .int .i64 d ∧ VR w W H D (at3 W D (sqC W H xs ys)) ((y * W + x) * D + d) wi) (fun i _ _ => D - (intOf i).toNat)
          case atStart => exact ⟨0, Nat.zero_le _, rfl, by simpa using Hv2.out⟩
          case round =>
            obtain ⟨d, hd, rfl, hvr⟩ := hrel
            have Hv3 := Lib.hid hvr
            clear hvr Hv2
            by_cases hdl : d < D
            · obtain ⟨v, zs, hfl, hb0, hb1, hown, hbel, hsz⟩ := Hv3.out
              have hidx := idx_le hW hH hD hx hyl hd
              have hlen := hfl.len
              have hxs : zs.length ≤ 4808 := by omega
              have hvne : v.ownBlock ≠ some (w.heap.size + 1) := fun e => by have := (hown.lt _ e).1; omega
              have hvne0 : v.ownBlock ≠ some w.heap.size := fun e => by have := (hown.lt _ e).1; omega
              have hat := at3_idx (sqC W H xs ys) (y := y) hxl hdl
              have Hat := Lib.hid hat
              have Hfl := Lib.hid hfl
              have Hb0 := Lib.hid hb0
              have Hb1 := Lib.hid hb1
              have Hown := Lib.hid hown
              have Hbel := Lib.hid hbel
              have Hvne := Lib.hid hvne
              have Hvne0 := Lib.hid hvne0
              clear hfl hb0 hb1 hown hbel hlen hvne hvne0 hidx Hv3 hat
              have K1 := Lib.hid (B1.out.below Hbel.out)
              have K2 := Lib.hid (B2.out.below Hbel.out)
              have S1 := Lib.hid ((R1.out.below Hbel.out).mono (T := (· < wr.heap.size)) (fun k hk => by omega))
              have S2 := Lib.hid ((R2.out.below Hbel.out).mono (T := (· < wr.heap.size)) (fun k hk => by omega))
              go_wp2_with fail
              refine (sAt_any _ b o W H a1 c1 xs x y wr ok1 (by omega) (by omega) K1.out.1 K1.out.2.1 K1.out.2.2 S1.out).mono ?_
              rintro e w1 ⟨rfl, hw1⟩
              have B1' := Lib.hid (hw1.below (B := wr.heap.size))
              have K2' := Lib.hid (K2.out.below B1'.out)
              have S2' := Lib.hid (S2.out.below B1'.out)
              clear hw1
              go_wp2_with fail
              refine (sAt_any _ b' o' W H a2 c2 ys ((x : Int) - d) y w1 ok2 (by omega) (by omega) K2'.out.1 K2'.out.2.1 K2'.out.2.2 S2'.out).mono ?_
              rintro e w2 ⟨rfl, hw2⟩
              have Hc := Lib.hid (B1'.out.trans (hw2.below (B := wr.heap.size)))
              clear hw2
              have q1 : Hid (w2.heap[w.heap.size + 1]? = some (.cells #[.int .i64 W, .int .i64 H, .int .i64 D, v] 52 (0, 0))) := Lib.hid (blk_keep Hc.out Hb1.out (by omega))
              have q0 : Hid (w2.heap[w.heap.size]? = some (.cells #[.int .i64 0, .int .i64 0, .int .i64 0, .slice none 0 0] 52 (0, 0))) := Lib.hid (blk_keep Hc.out Hb0.out (by omega))
              have Hown2 := Lib.hid (ownsRow_below Hown.out Hc.out)
              have k1 : w2.cell? ⟨w.heap.size + 1, 3, none⟩ = some v := by rw [cell_blk q1.out]; rfl
              have hzw := Hc.out.size
              have hfe := flR_of (flR_opC .sub .f32 (gAt W H xs x y) (gAt W H ys ((x : Int) - d) y) w2) (flR_opC .sub .f32 (gAt W H xs x y) (gAt W H ys ((x : Int) - d) y) w2) (op := .mul) (w2.drewN (flN .sub .f32 (gAt W H xs x y) (gAt W H ys ((x : Int) - d) y)))
              have Hfe := Lib.hid hfe
              clear hfe
              go_wp2_with (at_builtin; go_loud (refine wpList_append_own _ rfl (.tmp 58) (.tmp 62) 25 rfl (w.heap.size + 2) 95 i0 (.float .f32 0) 1 4 Try.underlying25 hi hz0 hz1 hz2 rfl (by decide) v zs.length (zs.map fl) rfl ?c0 ⟨w2.heap.size, 0, none⟩ 1 1 [.float .f32 (flR .mul .f32 (flR .sub .f32 (gAt W H xs x y) (gAt W H ys ((x : Int) - d) y) w2) (flR .sub .f32 (gAt W H xs x y) (gAt W H ys ((x : Int) - d) y) w2) (w2.drewN (flN .sub .f32 (gAt W H xs x y) (gAt W H ys ((x : Int) - d) y))))] rfl rfl ?cc1 ?cc2 ?cc3 ?cc4 ?cc5 ?_))
              case c0 => exact World.ownsRow.alloc (w := w2.drewN _) Hown2.out _
              case cc1 => exact World.news_of_block (cs := #[.float .f32 _]) (t := 95) (fr := (0, 0)) (heap_alloc_new _ _)
              case cc2 => intro u hu; simp at hu; subst hu; rfl
              case cc3 => unfold maxLen; omega
              case cc4 => omega
              case cc5 => simp; omega
              intro v' w3 hr3 hgrow3 _
              obtain ⟨g', cap, rfl⟩ : ∃ g' cap, v' = .slice g' (zs.length + 1) cap := by
                rcases hr3.2 with ⟨_, h0⟩ | ⟨g', cap, cur, hv, _⟩
                · exact absurd h0 (by omega)
                · exact ⟨_, _, hv⟩
              have hq3 := blk_grown hgrow3 (blk_alloc (w := w2.drewN _) q1.out _) Hvne.out
              have hq30 := blk_grown hgrow3 (blk_alloc (w := w2.drewN _) q0.out _) Hvne0.out
              have k4 : w3.cell? ⟨w.heap.size + 1, 3, none⟩ = some v := by rw [cell_blk hq3]; rfl
              have f4 : w3.frozen? ⟨w.heap.size + 1, 3, none⟩ = false := frozen_blk hq3 3
              have Hq3 := Lib.hid hq3
              have Hq30 := Lib.hid hq30
              have Hr3 := Lib.hid hr3
              have Hg3 := Lib.hid hgrow3
              clear hq3 hq30 hr3 hgrow3
              go_wp2
              refine ⟨⟨d + 1, by omega, by go_num, .slice g' (zs.length + 1) cap, zs ++ [_], Hfl.out.push (by rw [Hat.out]; exact Hfe.out), blk_other Hq30.out (by omega) _ _, by have := blk_set Hq3.out 3 (.slice g' (zs.length + 1) cap); simpa using this, ?_, ?_, ?_⟩, by simp [intOf]; omega⟩
              · have := ownsRow_setCell_below (a := ⟨w.heap.size + 1, 3, none⟩) Hr3.out (by simp) (.slice g' (zs.length + 1) cap)
                simpa using this
              · have hq4 := Hown2.out
                exact (((Hbel.out.trans (Hc.out.mono (by omega))).trans (((Below.drewN' _ _ _).alloc (by simp; omega) _).grown Hg3.out (by simp; omega) (fun k hk => by have := (hq4.lt k hk).1; omega))).setCell (by simp) _)
              · have := Hg3.out.size
                simp only [World.size_alloc] at this
                have h2 : (w2.drewN (flN .sub .f32 (gAt W H xs x y) (gAt W H ys ((x : Int) - d) y) + flN .mul .f32 (flR .sub .f32 (gAt W H xs x y) (gAt W H ys ((x : Int) - d) y) w2) (flR .sub .f32 (gAt W H xs x y) (gAt W H ys ((x : Int) - d) y) w2))).heap.size = w2.heap.size := rfl
                simp [World.setCell]; omega
            · obtain rfl : d = D := by omega
              go_wp2_with fail
              exact ⟨⟨x + 1, by omega, by go_num, by rw [← Nat.add_assoc, Nat.succ_mul]; exact Hv3.out⟩, by simp [intOf]; omega⟩
        · obtain rfl : x = W := by omega
          go_wp2_with fail
          exact ⟨⟨y + 1, by omega, by go_num, by rw [Nat.succ_mul]; exact Hv2.out⟩, by simp [intOf]; omega⟩
    · obtain rfl : y = H := by omega
      obtain ⟨v, zs, hfl, hb0, hb1, hown, hbel, hsz⟩ := Hv.out
      obtain ⟨a, c, rfl, hw⟩ := Wr.ofOwns' hown
      have k0 : wr.cell? ⟨w.heap.size + 1, 0, none⟩ = some (.int .i64 W) := by rw [cell_blk hb1]; rfl
      have k1 : wr.cell? ⟨w.heap.size + 1, 1, none⟩ = some (.int .i64 y) := by rw [cell_blk hb1]; rfl
      have k2 : wr.cell? ⟨w.heap.size + 1, 2, none⟩ = some (.int .i64 D) := by rw [cell_blk hb1]; rfl
      have k3 : wr.cell? ⟨w.heap.size + 1, 3, none⟩ = some (.slice a zs.length c) := by rw [cell_blk hb1]; rfl
      have r0 : wr.cell? ⟨w.heap.size, 0, none⟩ = some (.int .i64 0) := by rw [cell_blk hb0]; rfl
      have r1 : wr.cell? ⟨w.heap.size, 1, none⟩ = some (.int .i64 0) := by rw [cell_blk hb0]; rfl
      have r2 : wr.cell? ⟨w.heap.size, 2, none⟩ = some (.int .i64 0) := by rw [cell_blk hb0]; rfl
      have r3 : wr.cell? ⟨w.heap.size, 3, none⟩ = some (.slice none 0 0) := by rw [cell_blk hb0]; rfl
      have f0 : wr.frozen? ⟨w.heap.size, 0, none⟩ = false := frozen_blk hb0 0
      have f1 : wr.frozen? ⟨w.heap.size, 1, none⟩ = false := frozen_blk hb0 1
      have f2 : wr.frozen? ⟨w.heap.size, 2, none⟩ = false := frozen_blk hb0 2
      have f3 : wr.frozen? ⟨w.heap.size, 3, none⟩ = false := frozen_blk hb0 3
      have Hfl := Lib.hid hfl
      have Hw := Lib.hid hw
      have Hbel := Lib.hid hbel
      clear hfl hb0 hb1 hown hw hbel Hv
      go_wp2_with fail
      refine bodyPost_ret (v := .agg #[.int .i64 W, .int .i64 y, .int .i64 D, .slice a zs.length c]) (by simp [results, Try.results70, go_sem, r0, r1, r2, r3]) rfl ⟨a, c, zs, rfl, Hfl.out, ?_, ?_⟩
      · have h2 := (((Hw.out.setCell (p := ⟨w.heap.size, 0, none⟩) (by simp <;> omega) (.int .i64 W)).setCell (p := ⟨w.heap.size, 1, none⟩) (by simp <;> omega) (.int .i64 y)).setCell (p := ⟨w.heap.size, 2, none⟩) (by simp <;> omega) (.int .i64 D)).setCell (p := ⟨w.heap.size, 3, none⟩) (by simp <;> omega) (.slice a zs.length c)
        exact h2.mono (fun k hk => by simp [World.setCell] at hk ⊢; omega)
      · exact ((((Hbel.out.setCell (p := ⟨w.heap.size, 0, none⟩) (by simp) _).setCell (p := ⟨w.heap.size, 1, none⟩) (by simp) _).setCell (p := ⟨w.heap.size, 2, none⟩) (by simp) _).setCell (p := ⟨w.heap.size, 3, none⟩) (by simp) _)
end Go.Proofs.Ytljkgemkolmihaa
