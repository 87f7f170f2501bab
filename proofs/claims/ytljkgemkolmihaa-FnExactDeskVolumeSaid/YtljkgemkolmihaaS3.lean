/- The reference's AddPicture. -/
import Derived.Test.YtljkgemkolmihaaS2
namespace Go.Proofs.Ytljkgemkolmihaa
open Go.RowKit

theorem addB_eq (ps : List PV) (p : PV) : addB ps p = (albB ps && p.ok && !decide (ps.length = 8)) := by
  simp only [addB, albB, List.length_append, List.all_append, List.length_singleton, List.all_cons, List.all_nil, Bool.and_true]
  have key : (decide (ps.length ≤ 8) && decide (ps.length + 1 ≤ 8)) = (decide (ps.length ≤ 8) && !decide (ps.length = 8)) := by
    by_cases h8 : ps.length = 8 <;> by_cases hl : ps.length ≤ 8 <;> by_cases hm : ps.length + 1 ≤ 8 <;> simp [h8, hl, hm] <;> omega
  cases h1 : ps.all PV.ok <;> cases h2 : p.ok <;> simp only [Bool.and_true, Bool.and_false, Bool.false_and, Bool.true_and]
  exact key

theorem sAlbum_is {b : Bool} (B : Nat) (pb : Nat) (a : Option Addr) (c : Nat) (ps : List PV) (w : World) (hn : ps.length ≤ 1048576) (hm : ∀ p ∈ ps, p.xs.length ≤ 1048576) (h : Pics (· < B) w a ps) (hp : w.cell? ⟨pb, 0, none⟩ = some (.slice a ps.length c)) (hb : albB ps = b) :
    Calls Try.prog 30 #[.pointer (some ⟨pb, 0, none⟩)] w fun e w' => e = .returned (.bool b) ∧ Drew w w' := by
  subst hb
  exact sAlbum_any B pb a c ps w hn (fun p hp => Nat.le_trans (hm p hp) (by decide)) h hp
theorem sis_is {v : Bool} (b o : Nat) (W H : Int) (a : Option Addr) (n c : Nat) (hn : n ≤ 1048576) (w : World) (c0 : w.cell? ⟨b, o, none⟩ = some (.int .i64 W)) (c1 : w.cell? ⟨b, o + 1, none⟩ = some (.int .i64 H)) (c2 : w.cell? ⟨b, o + 2, none⟩ = some (.slice a n c)) (hv : picB W H n = v) :
    Calls Try.prog 31 #[.pointer (some ⟨b, o, none⟩)] w fun e w' => e = .returned (.bool v) ∧ Drew w w' := by
  subst hv
  exact sis_any _ W H a n c (Nat.le_trans hn (by decide)) w b o rfl c0 c1 c2

set_option maxRecDepth 100000 in
set_option maxHeartbeats 3200000 in
theorem sAddPicture_any (B : Nat) (a : Option Addr) (c : Nat) (ps : List PV) (W H : Int) (ad : Addr) (pc : Nat) (xs : List Nat) (w : World) (hn : ps.length ≤ 1048576) (hm : ∀ p ∈ ps, p.xs.length ≤ 1048576) (hnil : ∀ p ∈ ps, p.a ≠ none) (h : Pics (· < B) w a ps) (hB : B ≤ w.heap.size)
    (hxl : xs.length ≤ 1048576) (hp : Rd (· < B) w (some ad) (xs.map fl)) :
    Calls Try.prog 8 #[.agg #[.slice a ps.length c], .agg #[.int .i64 W, .int .i64 H, .slice (some ad) xs.length pc]] w (FreshAdd ps ⟨W, H, some ad, pc, xs⟩ w) := by
  obtain ⟨i0, hi, hz0, hz1, hz2⟩ := info_parts infoPI
  have Hm := Lib.hid hm
  have Hnil := Lib.hid hnil
  have Hadd := Lib.hid (addB_eq ps ⟨W, H, some ad, pc, xs⟩)
  clear hm hnil
  go_enter Try.func8, Try.ntmps8
  go_wp2_with fail
  obtain ⟨W3, hW3⟩ : ∃ W3, W3 = ((w.alloc (.cells #[.slice a ps.length c] 32)).alloc (.cells #[.int .i64 W, .int .i64 H, .slice (some ad) xs.length pc] 36)).alloc (.cells #[.slice none 0 0] 32) := ⟨_, rfl⟩
  rw [← hW3]
  have hs3 : W3.heap.size = w.heap.size + 3 := by subst hW3; simp
  have h3 : Pics (· < B) W3 a ps := by subst hW3; exact h.keep ((((Only.refl (fun _ => False) w).alloc _).alloc _).alloc _) (fun _ _ h => h)
  have hp3 : Rd (· < B) W3 (some ad) (xs.map fl) := by subst hW3; exact ((hp.alloc _).alloc _).alloc _
  have hb3 : Below w.heap.size w W3 := by subst hW3; exact (((Below.refl _ _).alloc (Nat.le_refl _) _).alloc (by simp) _).alloc (by simp; omega) _
  have hc3 : ∀ wx, Below (w.heap.size + 3) W3 wx → wx.cell? ⟨w.heap.size, 0, none⟩ = some (.slice a ps.length c) ∧ wx.cell? ⟨w.heap.size + 1, 0, none⟩ = some (.int .i64 W) ∧ wx.cell? ⟨w.heap.size + 1, 1, none⟩ = some (.int .i64 H) ∧ wx.cell? ⟨w.heap.size + 1, 2, none⟩ = some (.slice (some ad) xs.length pc) ∧ wx.cell? ⟨w.heap.size + 1 + 1, 0, none⟩ = some (.slice none 0 0) ∧ wx.frozen? ⟨w.heap.size + 1 + 1, 0, none⟩ = false := by
    intro wx hx
    obtain ⟨c1, c2⟩ := belowAt hx
    rw [c1 _ _ (by omega), c1 _ _ (by omega), c1 _ _ (by omega), c1 _ _ (by omega), c1 _ _ (by omega), c2 _ _ (by omega)]
    subst hW3
    simp [go_sem]
  have Hs3 := Lib.hid hs3
  have Hc3 := Lib.hid hc3
  clear hW3 hs3 h hp hc3
  obtain ⟨k0, k1, k2, k3, k4, k5⟩ := Hc3.out W3 (Below.refl _ _)
  have hzero : ∀ (wx : World), Below (w.heap.size + 3) W3 wx → addB ps ⟨W, H, some ad, pc, xs⟩ = false → FreshAdd ps ⟨W, H, some ad, pc, xs⟩ w (.returned (.tuple #[.agg #[.slice none 0 0], .bool false])) (wx.setCell ⟨w.heap.size + 1 + 1, 0, none⟩ (.slice none 0 0)) := by
    intro wx hx ha
    refine ⟨.slice none 0 0, [], by rw [ha], ?_, Alb.nil _ _, (hb3.trans (hx.mono (by omega))).setCell (by simp; omega) _⟩
    unfold addL; rw [ha]; exact ⟨rfl, fun i h1 _ => by simp at h1⟩
  have Hzero := Lib.hid hzero
  clear hzero
  cases hv : albB ps
  · have hadd : addB ps ⟨W, H, some ad, pc, xs⟩ = false := by rw [Hadd.out, hv]; rfl
    have Hv := Lib.hid hv
    have Hf := Lib.hid hadd
    clear hv hadd
    refine (sAlbum_is B _ a c ps W3 hn Hm.out h3 k0 Hv.out).mono ?_
    rintro e w4 ⟨rfl, hd4⟩
    have hb4 := Lib.hid (hd4.below (B := w.heap.size + 3))
    obtain ⟨k40, k41, k42, k43, k44, k45⟩ := Hc3.out w4 hb4.out
    clear hd4 h3 k0 k1 k2 k3 k4 k5
    go_wp2
    exact bodyPost_ret (v := .tuple #[.agg #[.slice none 0 0], .bool false]) (by simp [results, Try.results8, go_sem, k44]) rfl (Hzero.out w4 hb4.out Hf.out)
  · cases hk : picB W H xs.length
    · have hadd : addB ps ⟨W, H, some ad, pc, xs⟩ = false := by rw [Hadd.out, hv, PV.ok]; simp [hk]
      have Hv := Lib.hid hv
      have Hk := Lib.hid hk
      have Hf := Lib.hid hadd
      clear hv hadd hk
      refine (sAlbum_is B _ a c ps W3 hn Hm.out h3 k0 Hv.out).mono ?_
      rintro e w4 ⟨rfl, hd4⟩
      have hb4 := Lib.hid (hd4.below (B := w.heap.size + 3))
      obtain ⟨k40, k41, k42, k43, k44, k45⟩ := Hc3.out w4 hb4.out
      clear hd4 h3 k0 k1 k2 k3 k4 k5
      go_wp2_with fail
      refine (sis_is _ 0 W H (some ad) xs.length pc hxl w4 k41 k42 k43 Hk.out).mono ?_
      rintro e w5 ⟨rfl, hd5⟩
      have hb5 := Lib.hid (hb4.out.trans (hd5.below (B := w.heap.size + 3)))
      obtain ⟨k50, k51, k52, k53, k54, k55⟩ := Hc3.out w5 hb5.out
      clear hd5 k40 k41 k42 k43 k44 k45
      go_wp2
      exact bodyPost_ret (v := .tuple #[.agg #[.slice none 0 0], .bool false]) (by simp [results, Try.results8, go_sem, k54]) rfl (Hzero.out w5 hb5.out Hf.out)
    · have Hv := Lib.hid hv
      have Hk := Lib.hid hk
      clear hv hk
      refine (sAlbum_is B _ a c ps W3 hn Hm.out h3 k0 Hv.out).mono ?_
      rintro e w4 ⟨rfl, hd4⟩
      have hb4 := Lib.hid (hd4.below (B := w.heap.size + 3))
      obtain ⟨k40, k41, k42, k43, k44, k45⟩ := Hc3.out w4 hb4.out
      clear hd4 k0 k1 k2 k3 k4 k5
      go_wp2_with fail
      refine (sis_is _ 0 W H (some ad) xs.length pc hxl w4 k41 k42 k43 Hk.out).mono ?_
      rintro e w5 ⟨rfl, hd5⟩
      have hb5 := Lib.hid (hb4.out.trans (hd5.below (B := w.heap.size + 3)))
      obtain ⟨k50, k51, k52, k53, k54, k55⟩ := Hc3.out w5 hb5.out
      clear hd5 k40 k41 k42 k43 k44 k45
      by_cases h8 : ps.length = 8
      · have hadd : addB ps ⟨W, H, some ad, pc, xs⟩ = false := by rw [Hadd.out]; simp [h8]
        have Hf := Lib.hid hadd
        have h8b : ((ps.length : Int) == 8) = true := by simp [h8]
        clear hadd h8 h3
        go_wp2
        exact bodyPost_ret (v := .tuple #[.agg #[.slice none 0 0], .bool false]) (by simp [results, Try.results8, go_sem, k54]) rfl (Hzero.out w5 hb5.out Hf.out)
      · have hadd : addB ps ⟨W, H, some ad, pc, xs⟩ = true := by rw [Hadd.out, Hv.out, PV.ok, Hk.out]; simp [h8]
        have Hf := Lib.hid hadd
        have h8b : ((ps.length : Int) == 8) = false := by simp; omega
        clear hadd h8
        go_wp2_with fail
        refine (sSome_any B _ a c ps w5 hn Hm.out Hnil.out (h3.keep (Only.below hb5.out) (fun k hk hn => by omega)) (by have := hb5.out.size; rw [Hs3.out] at this; omega) k50).mono ?_
        rintro e w1 ⟨v, ds, rfl, hcp, halb, hb1⟩
        have hs5 := hb5.out.size
        rw [Hs3.out] at hs5
        have hlo := Lib.hid (halb.low (lo' := w.heap.size + 3) hs5)
        obtain ⟨va, vc, rfl⟩ := halb.shape
        have hs1 := hb1.size
        have hbx := Lib.hid (hb5.out.trans (hb1.mono hs5))
        obtain ⟨k10, k11, k12, k13, k14, k15⟩ := Hc3.out w1 hbx.out
        have hown1 : Hid (∀ w2 o', Below (w1.heap.size + 1) ((w1.alloc (.cells #[.slice va ds.length vc] 32)).drew) w2 → (w2.alloc o').ownsRow (w.heap.size + 3) 36 3 (.slice va ds.length vc) ds.length (ds.flatMap PV.cells)) :=
          fun w2 o' hb2 => (ownsRow_below (w := (w1.alloc (.cells #[.slice va ds.length vc] 32)).drew) (hlo.out.row.alloc _) (by simpa using hb2)).alloc _
        have hrd2 : Hid (Rd (· < B) (w1.alloc (.cells #[.slice va ds.length vc] 32)).drew (some ad) (xs.map fl)) := ((hp3.keep (Only.below hbx.out) (fun k hk hn => by omega)).alloc _).ofHeap rfl
        have hvne : Hid ((Value.slice va ds.length vc).ownBlock ≠ some w1.heap.size) := fun e => by have := (halb.row.lt _ e).2; omega
        have hdl := hcp.1
        have hdn : ds.length ≤ 1048576 := by omega
        have Hcp := Lib.hid hcp
        have Hdl := Lib.hid hdl
        have q0 : w.heap.size < w1.heap.size := by omega
        have q1 : w.heap.size + 1 < w1.heap.size := by omega
        have q2 : w.heap.size + 1 + 1 < w1.heap.size := by omega
        clear halb hp3 hcp hdl k50 k51 k52 k53 k54 k55 h3
        go_wp2_with fail
        go_region_law (first
          | (refine step_append_lies _ (by rfl) (.tmp 25) (.tmp 27) 30 (by rfl) (w.heap.size + 3) 36 i0 (.agg #[.int .i64 0, .int .i64 0, .slice none 0 0]) 3 40 Try.underlying30 hi hz0 hz1 hz2 rfl (by omega) (.slice va ds.length vc) ds.length (ds.flatMap PV.cells) (by rfl) (hown1.out _ _ hb2) ⟨w2.heap.size, 0, none⟩ 1 1 [.int .i64 W, .int .i64 H, .slice a2 xs.length c2] (by rfl) (by rfl) (World.news_of_block (cs := #[.int .i64 W, .int .i64 H, .slice a2 xs.length c2]) (t := 36) (fr := (0, 0)) (heap_alloc_new w2 _)) (by simp [Value.oneCell']) (by omega) (by unfold maxLen; omega) (by omega) (by simp; omega) (w2.heap.size + 1) (by simp) ?_
             intro g cap w3 hr3 hgrow3 hat3 hlt3
             have hq3 := one_grown hgrow3 (one_alloc hq2.out _) hvne.out
             have k3 := cell_of_one hq3
             have f3 := free_of_one hq3
             have Hq3 := Lib.hid hq3
             clear hq3)
          | (go_simp
             go_at_call 33
             refine (sOwn_any B _ 0 W H ad pc xs _ hxl hrd2.out (by simp; omega) (by simp [World.size_drew]; omega) (by simpa [go_sem, q1] using k11) (by simpa [go_sem, q1] using k12) (by simpa [go_sem, q1] using k13)).mono ?_
             rintro e w2 ⟨a2, c2, rfl, hw2, hb2⟩
             simp only [World.size_drew, World.size_alloc] at hb2 hw2
             have hq2 : Hid (w2.heap[w1.heap.size]? = some (.cells #[.slice va ds.length vc] 32 (0, 0))) := one_below hb2 (heap_alloc_new w1 _) (by omega)
             have k2 := cell_of_one hq2.out
             have f2 := free_of_one hq2.out
             have k2a := fun o => cell_of_one (one_alloc hq2.out o)
             have hs2 := hb2.size
             simp only [World.size_drew, World.size_alloc] at hs2))
        all_goals
          have hnew := Alb.push (p := ⟨W, H, a2, c2, xs⟩) (T := fun _ => False) (w := w1) hlo.out (((((Only.refl _ _).alloc _).drew).trans (Only.ofBelow hb2 (by simp))).alloc (.cells #[.int .i64 W, .int .i64 H, .slice a2 xs.length c2] 36)) (fun _ h => h.elim) ((hw2.alloc _).mono (fun k hk => by simp only [World.size_alloc]; omega)) (by omega) hgrow3 hat3 (by simp) hr3
          have hgne : g ≠ w1.heap.size := by
            intro e
            rcases hat3 with hat3 | hat3
            · exact hvne.out (by rw [hat3, e])
            · omega
          have hnew2 := hnew.setCell' (p := ⟨w1.heap.size, 0, none⟩) (by simp [Value.ownBlock]; exact hgne) (fun d hd hx => by
            rw [List.mem_append, List.mem_singleton] at hd
            rcases hd with hd | rfl
            · have := (hlo.out.numsIn d hd hx).2.1; exact Nat.ne_of_lt this
            · have := hw2.own_of.2 hx; simp only; omega) (.slice (some ⟨g, 0, none⟩) (ds.length + 1) cap)
          have hq4 := hown1.out _ (.cells #[.int .i64 W, .int .i64 H, .slice a2 xs.length c2] 36) hb2
          have hb4 : Below (w.heap.size + 3) W3 (w3.setCell ⟨w1.heap.size, 0, none⟩ (.slice (some ⟨g, 0, none⟩) (ds.length + 1) cap)) :=
            (((((hbx.out.alloc (by omega) _).drew).trans (hb2.mono (by omega))).alloc (by omega) (.cells #[.int .i64 W, .int .i64 H, .slice a2 xs.length c2] 36)).grown hgrow3 (by simp; omega) (fun k hk => (hq4.lt k hk).1)).setCell (by simp; omega) _
          have hq5 := one_setCell (u := .slice (some ⟨g, 0, none⟩) (ds.length + 1) cap) Hq3.out
          have hcp2 := Hcp.out.both ⟨W, H, some ad, pc, xs⟩ ⟨W, H, a2, c2, xs⟩ ⟨rfl, rfl, rfl⟩
          obtain ⟨w4', hw4⟩ : ∃ w4', w4' = w3.setCell ⟨w1.heap.size, 0, none⟩ (.slice (some ⟨g, 0, none⟩) (ds.length + 1) cap) := ⟨_, rfl⟩
          rw [← hw4] at hnew2 hb4 hq5 ⊢
          have Hnew := Lib.hid hnew2
          have Hcp2 := Lib.hid hcp2
          have Hb4 := Lib.hid hb4
          have e5 := cell_of_one hq5
          obtain ⟨k40, k41, k42, k43, k44, k45⟩ := Hc3.out w4' hb4
          clear hw4 hnew hnew2 hcp2 hq5 hb4 hq4 hgne hgrow3 hat3 hr3 hw2 hb2 k3 f3 k2 f2 k2a hs2 hlt3 k10 k11 k12 k13 k14 k15 hown1 hrd2 hq2 Hq3 hvne hlo
          go_wp2
          refine bodyPost_ret (v := .tuple #[.agg #[.slice (some ⟨g, 0, none⟩) (ds.length + 1) cap], .bool true]) (by simp [results, Try.results8, go_sem, k44]) rfl ⟨.slice (some ⟨g, 0, none⟩) (ds.length + 1) cap, ds ++ [⟨W, H, a2, c2, xs⟩], by rw [Hf.out], ?_, ?_, ?_⟩
          · unfold addL; rw [Hf.out]; exact Hcp2.out
          · exact (Hnew.out.setCell (by simp) _).low (by omega)
          · exact (hb3.trans (Hb4.out.mono (by omega))).setCell (by simp; omega) _
end Go.Proofs.Ytljkgemkolmihaa
