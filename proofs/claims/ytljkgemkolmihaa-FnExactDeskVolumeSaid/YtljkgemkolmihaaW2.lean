/- A volume whose costs are told by a function value. -/
import Derived.Test.YtljkgemkolmihaaW1
import Derived.Test.YtljkgemkolmihaaC2
import Derived.Shelf.Abstract
namespace Go.Proofs.Ytljkgemkolmihaa
open Go.RowKit

/-- a call gives a single number that is f -/
def IsF (f : Nat) (w : World) (e : Ending) (w' : World) : Prop := ∃ r, e = .returned (.float .f32 r) ∧ FEq .f32 r f ∧ Below w.heap.size w w'
/-- what is asked of a function value: at each cell and disparity it gives F of the place -/
def Gives3 (g : Nat) (lb : Array Value) (W H D : Nat) (F : Nat → Nat) (w : World) : Prop :=
  ∀ (x y d : Nat) (w1 : World), x < W → y < H → d < D → Below w.heap.size w w1 → Calls Try.prog g (#[.int .i64 x, .int .i64 y, .int .i64 d] ++ lb) w1 (IsF (F ((y * W + x) * D + d)) w1)
/-- what is handed back -/
def FreshV (W H D : Nat) (F : Nat → Nat) (w : World) (e : Ending) (w' : World) : Prop :=
  ∃ a c xs, e = .returned (.agg #[.int .i64 W, .int .i64 H, .int .i64 D, .slice a xs.length c]) ∧ FLs xs (lin (H * W * D) F) ∧ Wr (fun b => w.heap.size ≤ b ∧ b < w'.heap.size) w' a (xs.map fl) ∧ Below w.heap.size w w'


/-- the state while n costs have been told -/
def VR (w : World) (W H D : Nat) (F : Nat → Nat) (n : Nat) (x : World) : Prop :=
  ∃ v xs, FLs xs (lin n F) ∧ x.heap[w.heap.size]? = some (.cells #[.int .i64 0, .int .i64 0, .int .i64 0, .slice none 0 0] 52 (0, 0)) ∧
    x.heap[w.heap.size + 1]? = some (.cells #[.int .i64 W, .int .i64 H, .int .i64 D, v] 52 (0, 0)) ∧ x.ownsRow (w.heap.size + 2) 95 1 v xs.length (xs.map fl) ∧ Below w.heap.size w x ∧ w.heap.size + 2 ≤ x.heap.size
theorem idx_le {W H D x y d : Nat} (hW : W ≤ 24) (hH : H ≤ 24) (hD : D ≤ 8) (hx : x ≤ W) (hy : y < H) (hd : d ≤ D) : (y * W + x) * D + d ≤ 4808 := by
  have h1 : y * W ≤ 23 * 24 := Nat.mul_le_mul (by omega) hW
  have h2 : (y * W + x) * D ≤ 576 * 8 := Nat.mul_le_mul (by omega) hD
  omega
theorem blk_keep {B q : Nat} {w w' : World} {o : Obj} (hb : Below B w w') (hq : w.heap[q]? = some o) (hlt : q < B) : w'.heap[q]? = some o := by
  rw [hb.block q hlt]; exact hq
theorem blk_alloc {w : World} {q : Nat} {p : Obj} (hq : w.heap[q]? = some p) (o : Obj) : (w.alloc o).heap[q]? = some p := by
  have hlt : q < w.heap.size := by
    rcases Nat.lt_or_ge q w.heap.size with h' | h'
    · exact h'
    · simp [Array.getElem?_eq_none h'] at hq
  rw [Below.heap_alloc _ _ _ hlt]; exact hq
theorem blk_grown {w w' : World} {q : Nat} {v : Value} {o : Obj} (hg : w.grownBy w' v.ownBlock) (hq : w.heap[q]? = some o) (hne : v.ownBlock ≠ some q) : w'.heap[q]? = some o := by
  have hlt : q < w.heap.size := by
    rcases Nat.lt_or_ge q w.heap.size with h' | h'
    · exact h'
    · simp [Array.getElem?_eq_none h'] at hq
  rw [hg.block q hlt (fun e => hne e.symm)]; exact hq
theorem cell_blk {w : World} {b : Nat} {cs : Array Value} {T : TypeId} {fr : Nat × Nat} (hb : w.heap[b]? = some (.cells cs T fr)) (j : Nat) : w.cell? ⟨b, j, none⟩ = cs[j]? := by
  simp [World.cell?, hb]
theorem frozen_blk {w : World} {b : Nat} {cs : Array Value} {T : TypeId} (hb : w.heap[b]? = some (.cells cs T (0, 0))) (j : Nat) : w.frozen? ⟨b, j, none⟩ = false := by
  simp [World.frozen?, hb]
theorem blk_set {w : World} {b : Nat} {cs : Array Value} {T : TypeId} {fr : Nat × Nat} (hb : w.heap[b]? = some (.cells cs T fr)) (j : Nat) (u : Value) : (w.setCell ⟨b, j, none⟩ u).heap[b]? = some (.cells (cs.setIfInBounds j u) T fr) := by
  simp [World.setCell, Array.getElem?_modify, hb]
theorem blk_other {w : World} {b q : Nat} {o : Obj} (hb : w.heap[q]? = some o) (hne : b ≠ q) (j : Nat) (u : Value) : (w.setCell ⟨b, j, none⟩ u).heap[q]? = some o := by
  rw [Below.heap_setCell _ _ _ _ (fun e => hne (by simpa using e.symm))]; exact hb

set_option maxRecDepth 100000 in
set_option maxHeartbeats 4000000 in
theorem volumeOf_any (g : Nat) (lb : Array Value) (eg : ∀ args w, (callFunc g args).run Try.prog w = .ok (.enter g args) w) (W H D : Nat) (F : Nat → Nat) (hW : W ≤ 24) (hH : H ≤ 24) (hD : D ≤ 8) (w : World) (hg : Gives3 g lb W H D F w) :
    Calls Try.prog 87 #[.int .i64 W, .int .i64 H, .int .i64 D, .func (.func g) #[] lb] w (FreshV W H D F w) := by
  obtain ⟨i0, hi, hz0, hz1, hz2⟩ := info_parts infoF
  have Hg := Lib.hid hg
  have V0 : Hid (VR w W H D F 0 ((w.alloc (.cells #[.int .i64 0, .int .i64 0, .int .i64 0, .slice none 0 0] 52)).alloc (.cells #[.int .i64 W, .int .i64 H, .int .i64 D, .slice none 0 0] 52))) := Lib.hid (by
    refine ⟨.slice none 0 0, [], FLs.refl _, ?_, ?_, World.ownsRow_nil _ _ _ _, ((Below.refl _ _).alloc (Nat.le_refl _) _).alloc (by simp) _, by simp⟩
    · exact blk_alloc (heap_alloc_new _ _) _
    · have := heap_alloc_new (w.alloc (.cells #[.int .i64 0, .int .i64 0, .int .i64 0, .slice none 0 0] 52)) (.cells #[.int .i64 W, .int .i64 H, .int .i64 D, .slice none 0 0] 52)
      simpa using this)
  clear hg
  go_enter Try.func87, Try.ntmps87
  go_wp2_with fail
  go_loopw [10, 11, 12, 18, 21, 22, 25, 26] (fun _ _ _ i _ _ _ _ wr => ∃ y : Nat, y ≤ H ∧ i = .int .i64 y ∧ VR w W H D F (y * W * D) wr) (fun _ _ _ i _ _ _ _ _ => H - (intOf i).toNat)
  case atStart => exact ⟨0, Nat.zero_le _, rfl, by simpa using V0.out⟩
  case round =>
    obtain ⟨y, hy, rfl, hvr⟩ := hrel
    have Hv := Lib.hid hvr
    clear hvr V0
    by_cases hyl : y < H
    · go_wp2_with fail
      obtain ⟨wo, hwo⟩ : ∃ wo : World, wo = wr := ⟨_, rfl⟩
      subst hwo
      go_loopw [11, 12, 22, 25, 26] (fun _ _ i _ _ wi => ∃ x : Nat, x ≤ W ∧ i = .int .i64 x ∧ VR w W H D F ((y * W + x) * D) wi) (fun _ _ i _ _ _ => W - (intOf i).toNat)
      case atStart => exact ⟨0, Nat.zero_le _, rfl, by simpa using Hv.out⟩
      case round =>
        obtain ⟨x, hx, rfl, hvr⟩ := hrel
        have Hv2 := Lib.hid hvr
        clear hvr Hv
        by_cases hxl : x < W
        · go_wp2_with fail
          obtain ⟨wo, hwo⟩ : ∃ wo : World, wo = wr := ⟨_, rfl⟩
          subst hwo
          go_loopw [12, 26] (fun _ i wi => ∃ d : Nat, d ≤ D ∧ i = .int .i64 d ∧ VR w W H D F ((y * W + x) * D + d) wi) (fun _ i _ => D - (intOf i).toNat)
          case atStart => exact ⟨0, Nat.zero_le _, rfl, by simpa using Hv2.out⟩
          case round =>
            obtain ⟨d, hd, rfl, hvr⟩ := hrel
            have Hv3 := Lib.hid hvr
            clear hvr Hv2
            by_cases hdl : d < D
            · obtain ⟨v, xs, hfl, hb0, hb1, hown, hbel, hsz⟩ := Hv3.out
              have hidx := idx_le hW hH hD hx hyl hd
              have hlen := hfl.len
              have k3 : wr.cell? ⟨w.heap.size + 1, 3, none⟩ = some v := by rw [cell_blk hb1]; rfl
              have k3d : wr.drew.cell? ⟨w.heap.size + 1, 3, none⟩ = some v := k3
              have hvne : v.ownBlock ≠ some (w.heap.size + 1) := fun e => by have := (hown.lt _ e).1; omega
              have hvne0 : v.ownBlock ≠ some w.heap.size := fun e => by have := (hown.lt _ e).1; omega
              have hxs : xs.length ≤ 4808 := by omega
              have Hfl := Lib.hid hfl
              have Hb0 := Lib.hid hb0
              have Hb1 := Lib.hid hb1
              have Hown := Lib.hid hown
              have Hbel := Lib.hid hbel
              have Hvne := Lib.hid hvne
              have Hvne0 := Lib.hid hvne0
              clear hfl hb0 hb1 hown hbel hlen hvne hvne0 hidx Hv3
              go_wp2_with fail
              go_region_law (first
                | (refine step_append_lies _ (by rfl) (.tmp 30) (.tmp 36) 25 (by rfl) (w.heap.size + 2) 95 i0 (.float .f32 0) 1 4 Try.underlying25 hi hz0 hz1 hz2 rfl (by omega) v xs.length (xs.map fl) (by rfl) ((ownsRow_below (w := wr.drew) Hown.out Hc1.out).alloc _) ⟨w1.heap.size, 0, none⟩ 1 1 [.float .f32 r] (by rfl) (by rfl) (World.news_of_block (cs := #[.float .f32 r]) (t := 95) (fr := (0, 0)) (heap_alloc_new w1 _)) (by simp [Value.oneCell']) (by omega) (by unfold maxLen; omega) (by omega) (by simp; omega) (w1.heap.size + 1) (by simp) ?_
                   intro g' cap w3 hr3 hgrow3 hat3 hlt3
                   have hq3 := blk_grown hgrow3 (blk_alloc q1.out _) Hvne.out
                   have hq30 := blk_grown hgrow3 (blk_alloc q0.out _) Hvne0.out
                   have k4 : w3.cell? ⟨w.heap.size + 1, 3, none⟩ = some v := by rw [cell_blk hq3]; rfl
                   have f4 : w3.frozen? ⟨w.heap.size + 1, 3, none⟩ = false := frozen_blk hq3 3
                   have Hq3 := Lib.hid hq3
                   have Hq30 := Lib.hid hq30
                   have Hr3 := Lib.hid hr3
                   have Hg3 := Lib.hid hgrow3
                   clear hq3 hq30 hr3 hgrow3)
                | (go_simp
                   go_at_fn g
                   refine (Hg.out x y d wr.drew hxl hyl hdl Hbel.out.drew).mono ?_
                   rintro e w1 ⟨r, rfl, hr, hc1⟩
                   have hz1 := hc1.size
                   have hzw : wr.heap.size ≤ w1.heap.size := hz1
                   have q1 : Hid (w1.heap[w.heap.size + 1]? = some (.cells #[.int .i64 W, .int .i64 H, .int .i64 D, v] 52 (0, 0))) := Lib.hid (blk_keep hc1 Hb1.out (by simp; omega))
                   have q0 : Hid (w1.heap[w.heap.size]? = some (.cells #[.int .i64 0, .int .i64 0, .int .i64 0, .slice none 0 0] 52 (0, 0))) := Lib.hid (blk_keep hc1 Hb0.out (by simp; omega))
                   have k1 : w1.cell? ⟨w.heap.size + 1, 3, none⟩ = some v := by rw [cell_blk q1.out]; rfl
                   have f1 : w1.frozen? ⟨w.heap.size + 1, 3, none⟩ = false := frozen_blk q1.out 3
                   have k1a : ∀ o : Obj, (w1.alloc o).cell? ⟨w.heap.size + 1, 3, none⟩ = some v := fun o => by rw [cell_blk (blk_alloc q1.out o)]; rfl
                   have Hc1 := Lib.hid hc1
                   have Hr := Lib.hid hr
                   clear hc1 hr hz1))
              all_goals go_wp2_with fail
              all_goals
                refine ⟨⟨d + 1, by omega, by go_num, .slice (some ⟨g', 0, none⟩) (xs.length + 1) cap, xs ++ [r], Hfl.out.push Hr.out, blk_other Hq30.out (by omega) _ _, by have := blk_set Hq3.out 3 (.slice (some ⟨g', 0, none⟩) (xs.length + 1) cap); simpa using this, ?_, ?_, ?_⟩, by simp [intOf]; omega⟩
                · have := ownsRow_setCell_below (a := ⟨w.heap.size + 1, 3, none⟩) Hr3.out (by simp) (.slice (some ⟨g', 0, none⟩) (xs.length + 1) cap)
                  simpa using this
                · have hq4 := (ownsRow_below (w := wr.drew) Hown.out Hc1.out)
                  exact (((Hbel.out.drew.trans (Hc1.out.mono (by simp; omega))).alloc (by omega) _).grown Hg3.out (by simp; omega) (fun k hk => by have := (hq4.lt k hk).1; omega)).setCell (by simp) _
                · have := Hg3.out.size
                  simp only [World.size_alloc] at this
                  simp [World.setCell]; omega
            · obtain rfl : d = D := by omega
              go_wp2_with fail
              exact ⟨⟨x + 1, by omega, by go_num, by rw [← Nat.add_assoc, Nat.succ_mul]; exact Hv3.out⟩, by simp [intOf]; omega⟩
        · obtain rfl : x = W := by omega
          go_wp2_with fail
          exact ⟨⟨y + 1, by omega, by go_num, by rw [Nat.succ_mul]; exact Hv2.out⟩, by simp [intOf]; omega⟩
    · obtain rfl : y = H := by omega
      obtain ⟨v, xs, hfl, hb0, hb1, hown, hbel, hsz⟩ := Hv.out
      obtain ⟨a, c, rfl, hw⟩ := Wr.ofOwns' hown
      have k0 : wr.cell? ⟨w.heap.size + 1, 0, none⟩ = some (.int .i64 W) := by rw [cell_blk hb1]; rfl
      have k1 : wr.cell? ⟨w.heap.size + 1, 1, none⟩ = some (.int .i64 y) := by rw [cell_blk hb1]; rfl
      have k2 : wr.cell? ⟨w.heap.size + 1, 2, none⟩ = some (.int .i64 D) := by rw [cell_blk hb1]; rfl
      have k3 : wr.cell? ⟨w.heap.size + 1, 3, none⟩ = some (.slice a xs.length c) := by rw [cell_blk hb1]; rfl
      have r0 : wr.cell? ⟨w.heap.size, 0, none⟩ = some (.int .i64 0) := by rw [cell_blk hb0]; rfl
      have r1 : wr.cell? ⟨w.heap.size, 1, none⟩ = some (.int .i64 0) := by rw [cell_blk hb0]; rfl
      have r2 : wr.cell? ⟨w.heap.size, 2, none⟩ = some (.int .i64 0) := by rw [cell_blk hb0]; rfl
      have r3 : wr.cell? ⟨w.heap.size, 3, none⟩ = some (.slice none 0 0) := by rw [cell_blk hb0]; rfl
      have f0 : wr.frozen? ⟨w.heap.size, 0, none⟩ = false := frozen_blk hb0 0
      have f1 : wr.frozen? ⟨w.heap.size, 1, none⟩ = false := frozen_blk hb0 1
      have f2 : wr.frozen? ⟨w.heap.size, 2, none⟩ = false := frozen_blk hb0 2
      have f3 : wr.frozen? ⟨w.heap.size, 3, none⟩ = false := frozen_blk hb0 3
      have Hfl := Lib.hid hfl
      have Hw := Lib.hid hw
      have Hbel := Lib.hid hbel
      clear hfl hb0 hb1 hown hw hbel Hv
      go_wp2_with fail
      refine bodyPost_ret (v := .agg #[.int .i64 W, .int .i64 y, .int .i64 D, .slice a xs.length c]) (by simp [results, Try.results87, go_sem, r0, r1, r2, r3]) rfl ⟨a, c, xs, rfl, Hfl.out, ?_, ?_⟩
      · have h2 := (((Hw.out.setCell (p := ⟨w.heap.size, 0, none⟩) (by simp <;> omega) (.int .i64 W)).setCell (p := ⟨w.heap.size, 1, none⟩) (by simp <;> omega) (.int .i64 y)).setCell (p := ⟨w.heap.size, 2, none⟩) (by simp <;> omega) (.int .i64 D)).setCell (p := ⟨w.heap.size, 3, none⟩) (by simp <;> omega) (.slice a xs.length c)
        exact h2.mono (fun k hk => by simp [World.setCell] at hk ⊢; omega)
      · exact ((((Hbel.out.setCell (p := ⟨w.heap.size, 0, none⟩) (by simp) _).setCell (p := ⟨w.heap.size, 1, none⟩) (by simp) _).setCell (p := ⟨w.heap.size, 2, none⟩) (by simp) _).setCell (p := ⟨w.heap.size, 3, none⟩) (by simp) _)
end Go.Proofs.Ytljkgemkolmihaa
