/- The reference's copy of an album's pictures. -/
import Derived.Test.YtljkgemkolmihaaS1
namespace Go.Proofs.Ytljkgemkolmihaa
open Go.RowKit

/-- the loop's relation: q is the block of the album that is built -/
def GrowS (ps : List PV) (W0 : World) (lo q : Nat) (i : Value) (wr : World) : Prop :=
  ∃ (j : Nat) (ds : List PV) (v : Value), j ≤ ps.length ∧ i = .int .i64 j ∧ Copies ps ds j ∧ Alb lo wr v ds ∧ (v.ownBlock ≠ some q ∧ ∀ d ∈ ds, d.xs ≠ [] → d.blk ≠ q) ∧ wr.heap[q]? = some (.cells #[v] 32 (0, 0)) ∧ q < wr.heap.size ∧ Below lo W0 wr

set_option maxRecDepth 100000 in
set_option maxHeartbeats 3200000 in
theorem sSome_any (B : Nat) (pb : Nat) (a : Option Addr) (c : Nat) (ps : List PV) (w : World) (hn : ps.length ≤ 1048576) (hm : ∀ p ∈ ps, p.xs.length ≤ 1048576) (hnil : ∀ p ∈ ps, p.a ≠ none) (h : Pics (· < B) w a ps) (hB : B ≤ w.heap.size)
    (hp : w.cell? ⟨pb, 0, none⟩ = some (.slice a ps.length c)) :
    Calls Try.prog 32 #[.pointer (some ⟨pb, 0, none⟩), .int .i64 0, .int .i64 ps.length] w (FreshA ps w) := by
  obtain ⟨i0, hi, hz0, hz1, hz2⟩ := info_parts infoPI
  have hpl : pb < w.heap.size := lt_of_cell hp
  have Hm := Lib.hid hm
  have Hnil := Lib.hid hnil
  clear hm hnil
  go_enter Try.func32, Try.ntmps32
  go_wp2_with fail
  obtain ⟨W0, hW0⟩ : ∃ W0, W0 = ((w.alloc (.cells #[.slice none 0 0] 32)).alloc (.cells #[] 36)).alloc (.cells #[.slice (some ⟨w.heap.size + 1, 0, none⟩) 0 0] 32) := ⟨_, rfl⟩
  rw [← hW0]
  have hs0 : W0.heap.size = w.heap.size + 3 := by subst hW0; simp
  have hq0 : W0.heap[w.heap.size + 1 + 1]? = some (.cells #[.slice (some ⟨w.heap.size + 1, 0, none⟩) 0 0] 32 (0, 0)) := by
    subst hW0
    have := heap_alloc_new ((w.alloc (.cells #[.slice none 0 0] 32)).alloc (.cells #[] 36)) (.cells #[.slice (some ⟨w.heap.size + 1, 0, none⟩) 0 0] 32)
    simpa using this
  have ha0 : Alb (w.heap.size + 1) W0 (.slice (some ⟨w.heap.size + 1, 0, none⟩) 0 0) [] := by
    subst hW0
    refine ⟨World.ownsRow.alloc ?_ _, by simp, by simp, by simp⟩
    simpa using (World.ownsRow_made (e := 36) (size := 3) (base := w.heap.size + 1) (w.alloc (.cells #[.slice none 0 0] 32)) #[] 0 (by simp) (by decide) (by simp))
  have h0 : Pics (· < B) W0 a ps := by subst hW0; exact h.keep ((((Only.refl (fun _ => False) w).alloc _).alloc _).alloc _) (fun _ _ h => h)
  have hb0 : Below w.heap.size w W0 := by subst hW0; exact (((Below.refl _ _).alloc (Nat.le_refl _) _).alloc (by simp) _).alloc (by simp; omega) _
  have hx0 : ∀ wx, Below (w.heap.size + 1) W0 wx → wx.cell? ⟨w.heap.size, 0, none⟩ = some (.slice none 0 0) ∧ wx.frozen? ⟨w.heap.size, 0, none⟩ = false ∧ wx.cell? ⟨pb, 0, none⟩ = some (.slice a ps.length c) := by
    intro wx hx
    obtain ⟨c1, c2⟩ := belowAt hx
    rw [c1 _ _ (by omega), c2 _ _ (by omega), c1 _ _ (by omega), (belowAt hb0).1 _ _ hpl]
    refine ⟨?_, ?_, hp⟩ <;> (subst hW0; simp [go_sem])
  have Hs0 := Lib.hid hs0
  have Hq0 := Lib.hid hq0
  have Ha0 := Lib.hid ha0
  have Hx0 := Lib.hid hx0
  clear hW0 hs0 hq0 ha0 hx0 h hp
  go_loopw [8] (fun i wr => GrowS ps W0 (w.heap.size + 1) (w.heap.size + 1 + 1) i wr) (fun i _ => ps.length - (intOf i).toNat)
  case atStart => exact ⟨0, [], _, Nat.zero_le _, rfl, ⟨rfl, fun i h1 _ => by simp at h1⟩, Ha0.out, ⟨by simp [Value.ownBlock], by simp⟩, Hq0.out, by rw [Hs0.out]; omega, Below.refl _ _⟩
  case round =>
    obtain ⟨j, ds, v, hj, rfl, hcp, halb, hfar, hq, hqs, hb⟩ := hrel
    obtain ⟨x0, x1, x2⟩ := Hx0.out wr hb
    by_cases hlt : j < ps.length
    · have hA := h0.keep (Only.below hb) (fun k hk hn => by omega)
      obtain ⟨b, o, rfl, hSb, h10, h11, h12⟩ := hA.at j hlt
      have hrd := hA.2 _ (List.getElem_mem hlt)
      have hxl := Hm.out _ (List.getElem_mem hlt)
      have hnl := Hnil.out _ (List.getElem_mem hlt)
      have hcc := cell_of_one hq
      have hcf := free_of_one hq
      have Hq := Lib.hid hq
      have HS := Lib.hid (fun p hp => hcp.snoc hlt p hp)
      have hdl := hcp.1
      have hown := halb.row
      have Halb := Lib.hid halb
      have Hfar := Lib.hid hfar
      clear h0 hA hq hcp halb hfar
      generalize ps[j] = p at *
      obtain ⟨W, H, a', c', xs⟩ := p
      simp only at h10 h11 h12 hxl hrd hnl
      cases a' with
      | none => exact (hnl rfl).elim
      | some ad =>
      clear hnl
      subst hdl
      have hown1 : Hid (∀ w1 o', Below wr.heap.size wr.drew w1 → (w1.alloc o').ownsRow (w.heap.size + 1) 36 3 v ds.length (ds.flatMap PV.cells)) :=
        fun w1 o' hb1 => (ownsRow_below (w := wr.drew) hown hb1).alloc _
      have hrd2 : Hid (Rd (· < B) wr.drew (some ad) (xs.map fl)) := hrd.ofHeap rfl
      clear hown hrd
      have hbr : b < wr.drew.heap.size := by have := hb.size; simp only [World.size_drew]; omega
      go_wp2_with fail
      go_region_law (first
        | (refine step_append_lies _ (by rfl) (.tmp 20) (.tmp 28) 30 (by rfl) (w.heap.size + 1) 36 i0 (.agg #[.int .i64 0, .int .i64 0, .slice none 0 0]) 3 40 Try.underlying30 hi hz0 hz1 hz2 rfl (by omega) v ds.length (ds.flatMap PV.cells) (by rfl) (hown1.out _ _ hb1) ⟨w1.heap.size, 0, none⟩ 1 1 [.int .i64 W, .int .i64 H, .slice a2 xs.length c2] (by rfl) (by rfl) (World.news_of_block (cs := #[.int .i64 W, .int .i64 H, .slice a2 xs.length c2]) (t := 36) (fr := (0, 0)) (heap_alloc_new w1 _)) (by simp [Value.oneCell']) (by omega) (by unfold maxLen; omega) (by omega) (by simp; omega) (w1.heap.size + 1) (by simp) ?_
           intro g cap w3 hr3 hgrow3 hat3 hlt3
           have hq3 := one_grown hgrow3 (one_alloc hq1.out _) Hfar.out.1
           have k3 := cell_of_one hq3
           have f3 := free_of_one hq3
           have Hq3 := Lib.hid hq3
           clear hq3)
        | (go_simp
           go_at_call 33
           refine (sOwn_any B b _ W H ad c' xs _ hxl hrd2.out (by have := hb.size; simp only [World.size_drew]; omega) hbr h10 h11 h12).mono ?_
           rintro e w1 ⟨a2, c2, rfl, hw1, hb1⟩
           simp only [World.size_drew] at hb1 hw1
           have hq1 : Hid (w1.heap[w.heap.size + 1 + 1]? = some (.cells #[v] 32 (0, 0))) := one_below hb1 Hq.out (by omega)
           have k1 := cell_of_one hq1.out
           have f1 := free_of_one hq1.out
           have k1a := fun o => cell_of_one (one_alloc hq1.out o)
           have hs1 := hb1.size
           simp only [World.size_drew] at hs1))
      all_goals go_wp2
      all_goals
        go_roundw
        case rel =>
          have hnew := Alb.push (p := ⟨W, H, a2, c2, xs⟩) (T := fun _ => False) (w := wr) Halb.out ((((Only.refl _ _).drew).trans (Only.ofBelow hb1 (by simp [World.size_drew]))).alloc (.cells #[.int .i64 W, .int .i64 H, .slice a2 xs.length c2] 36)) (fun _ h => h.elim) ((hw1.alloc _).mono (fun k hk => by simp only [World.size_alloc]; omega)) (by omega) hgrow3 hat3 (by simp) hr3
          have hgne : g ≠ w.heap.size + 1 + 1 := by
            intro e
            rcases hat3 with hat3 | hat3
            · exact Hfar.out.1 (by rw [hat3, e])
            · omega
          have hfar2 : ∀ d ∈ ds ++ [(⟨W, H, a2, c2, xs⟩ : PV)], d.xs ≠ [] → d.blk ≠ w.heap.size + 1 + 1 := fun d hd hx => by
            rw [List.mem_append, List.mem_singleton] at hd
            rcases hd with hd | rfl
            · exact Hfar.out.2 d hd hx
            · have := hw1.own_of.2 hx; omega
          refine ⟨ds.length + 1, ds ++ [⟨W, H, a2, c2, xs⟩], _, by omega, by go_num, HS.out _ ⟨rfl, rfl, rfl⟩, hnew.setCell' (by simp [Value.ownBlock]; exact hgne) hfar2 _, ⟨by simp [Value.ownBlock]; exact hgne, hfar2⟩, one_setCell Hq3.out, ?_, ?_⟩
          · have := hgrow3.size
            simp only [World.size_alloc] at this
            simp; omega
          · have hq4 := hown1.out _ (.cells #[.int .i64 W, .int .i64 H, .slice a2 xs.length c2] 36) hb1
            refine ((((hb.drew).trans (hb1.mono (by omega))).alloc (by omega) (.cells #[.int .i64 W, .int .i64 H, .slice a2 xs.length c2] 36)).grown hgrow3 (by simp; omega) (fun k hk => (hq4.lt k hk).1)).setCell (by simp) _
        case measure => simp [intOf]; omega
    · obtain ⟨va, vc, rfl⟩ := halb.shape
      have hcc := cell_of_one hq
      have Hq := Lib.hid hq
      have Halb := Lib.hid halb
      have hjl : j = ps.length := by omega
      have Hj := Lib.hid hjl
      clear h0 hq halb hjl hfar
      go_wp2
      refine bodyPost_ret (v := .agg #[.slice va ds.length vc]) (by simp [results, Try.results32, go_sem, x0]) rfl ⟨.slice va ds.length vc, ds, rfl, Hj.out ▸ hcp, ?_, ?_⟩
      · exact (Halb.out.setCell (by simp) _).low (by omega)
      · exact (hb0.trans (hb.mono (by omega))).setCell (Nat.le_refl _) _
end Go.Proofs.Ytljkgemkolmihaa
