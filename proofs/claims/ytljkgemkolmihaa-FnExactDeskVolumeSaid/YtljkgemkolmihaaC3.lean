/- The program's copy of an album's pictures. -/
import Derived.Test.YtljkgemkolmihaaC2
namespace Go.Proofs.Ytljkgemkolmihaa
open Go.RowKit

/-- what a copy of an album's pictures leaves -/
def FreshA (ps : List PV) (w : World) (e : Ending) (w' : World) : Prop :=
  ∃ v ds, e = .returned (.agg #[v]) ∧ Copies ps ds ps.length ∧ Alb w.heap.size w' v ds ∧ Below w.heap.size w w'

/-- the loop's relation: q is the block of the album that is built -/
def Grow (ps : List PV) (W0 : World) (q : Nat) (i : Value) (wr : World) : Prop :=
  ∃ (j : Nat) (ds : List PV) (v : Value), j ≤ ps.length ∧ i = .int .i64 j ∧ Copies ps ds j ∧ Alb (q + 1) wr v ds ∧ wr.heap[q]? = some (.cells #[v] 32 (0, 0)) ∧ q < wr.heap.size ∧ Below q W0 wr

set_option maxHeartbeats 3200000 in
theorem cloneAlbum_any (B : Nat) (a : Option Addr) (c : Nat) (ps : List PV) (w : World) (hn : ps.length ≤ 1048576) (hm : ∀ p ∈ ps, p.xs.length ≤ 1048576) (hnil : ∀ p ∈ ps, p.a = none → p.xs = []) (h : Pics (· < B) w a ps) (hB : B ≤ w.heap.size) :
    Calls Try.prog 36 #[.slice a ps.length c] w (FreshA ps w) := by
  obtain ⟨i0, hi, hz0, hz1, hz2⟩ := info_parts infoPI
  have Hm := Lib.hid hm
  have Hnil := Lib.hid hnil
  clear hm hnil
  go_enter Try.func36, Try.ntmps36
  go_wp2_with fail
  obtain ⟨W0, hW0⟩ : ∃ W0, W0 = (w.alloc (.cells #[.slice none 0 0] 32)).alloc (.cells #[.slice none 0 0] 32) := ⟨_, rfl⟩
  rw [← hW0]
  have hs0 : W0.heap.size = w.heap.size + 2 := by subst hW0; simp
  have hq0 : W0.heap[w.heap.size + 1]? = some (.cells #[.slice none 0 0] 32 (0, 0)) := by
    subst hW0; have := heap_alloc_new (w.alloc (.cells #[.slice none 0 0] 32)) (.cells #[.slice none 0 0] 32); simpa using this
  have h0 := h.keep (((Only.refl (fun _ => False) w).alloc (.cells #[.slice none 0 0] 32)).alloc (.cells #[.slice none 0 0] 32)) (fun _ _ h => h)
  rw [← hW0] at h0
  have HW0 := Lib.hid hW0
  have Hs0 := Lib.hid hs0
  have Hq0 := Lib.hid hq0
  clear hW0 hs0 hq0 h
  go_loopw [9] (fun i wr => Grow ps W0 (w.heap.size + 1) i wr) (fun i _ => ps.length - (intOf i).toNat)
  case atStart => exact ⟨0, [], _, Nat.zero_le _, rfl, ⟨rfl, fun i h1 _ => by simp at h1⟩, Alb.nil _ _, Hq0.out, by rw [Hs0.out]; omega, Below.refl _ _⟩
  case round =>
    obtain ⟨j, ds, v, hj, rfl, hcp, halb, hq, hqs, hb⟩ := hrel
    by_cases hlt : j < ps.length
    · have hA := h0.keep (Only.below hb) (fun k hk hn => by omega)
      obtain ⟨b, o, rfl, hSb, h10, h11, h12⟩ := hA.at j hlt
      have hrd := hA.2 _ (List.getElem_mem hlt)
      have hxl := Hm.out _ (List.getElem_mem hlt)
      have hnl := Lib.hid (Hnil.out _ (List.getElem_mem hlt))
      have hcc := cell_of_one hq
      have hcf := free_of_one hq
      have Hq := Lib.hid hq
      have HS := Lib.hid (fun p hp => hcp.snoc hlt p hp)
      have hdl := hcp.1
      have hown := halb.row
      have Halb := Lib.hid halb
      clear h0 hA hq hcp halb
      generalize ps[j] = p at *
      obtain ⟨W, H, a', c', xs⟩ := p
      simp only at h10 h11 h12 hxl hrd
      subst hdl
      have hown1 : Hid (∀ w1 o', Below (wr.heap.size + 1) ((wr.alloc (.cells #[.int .i64 W, .int .i64 H, .slice a' xs.length c'] 36)).drew) w1 → (w1.alloc o').ownsRow (w.heap.size + 1 + 1) 36 3 v ds.length (ds.flatMap PV.cells)) :=
        fun w1 o' hb1 => (ownsRow_below (w := (wr.alloc (.cells #[.int .i64 W, .int .i64 H, .slice a' xs.length c'] 36)).drew) (hown.alloc _) (by simpa using hb1)).alloc _
      have hrd2 : Hid (Rd (· < B) (wr.alloc (.cells #[.int .i64 W, .int .i64 H, .slice a' xs.length c'] 36)).drew a' (xs.map fl)) := (hrd.alloc _).ofHeap rfl
      have hvne : v.ownBlock ≠ some (w.heap.size + 1) := fun e => by have := (hown.lt _ e).1; omega
      have Hvne := Lib.hid hvne
      clear hown hrd hvne
      go_wp2_with fail
      go_region_law (first
        | (refine step_append_lies _ (by rfl) (.tmp 14) (.tmp 17) 30 (by rfl) (w.heap.size + 1 + 1) 36 i0 (.agg #[.int .i64 0, .int .i64 0, .slice none 0 0]) 3 40 Try.underlying30 hi hz0 hz1 hz2 rfl (by omega) v ds.length (ds.flatMap PV.cells) (by rfl) (hown1.out _ _ hb1) ⟨w1.heap.size, 0, none⟩ 1 1 [.int .i64 W, .int .i64 H, .slice a2 xs.length c2] (by rfl) (by rfl) (World.news_of_block (cs := #[.int .i64 W, .int .i64 H, .slice a2 xs.length c2]) (t := 36) (fr := (0, 0)) (heap_alloc_new w1 _)) (by simp [Value.oneCell']) (by omega) (by unfold maxLen; omega) (by omega) (by simp; omega) (w1.heap.size + 1) (by simp) ?_
           intro g cap w3 hr3 hgrow3 hat3 hlt3
           have hq3 := one_grown hgrow3 (one_alloc hq1.out _) Hvne.out
           have k3 := cell_of_one hq3
           have f3 := free_of_one hq3
           have Hq3 := Lib.hid hq3
           clear hq3)
        | (go_simp
           go_at_call 37
           refine (cloneP B W H a' c' xs _ hxl hrd2.out (by simp; omega) hnl.out).mono ?_
           rintro e w1 ⟨a2, c2, rfl, hw1, hb1⟩
           simp only [World.size_drew, World.size_alloc] at hb1 hw1
           have hq1 : Hid (w1.heap[w.heap.size + 1]? = some (.cells #[v] 32 (0, 0))) := one_below hb1 (one_alloc Hq.out _) (by omega)
           have k1 := cell_of_one hq1.out
           have f1 := free_of_one hq1.out
           have k1a := fun o => cell_of_one (one_alloc hq1.out o)
           have hs1 := hb1.size
           simp only [World.size_drew, World.size_alloc] at hs1))
      all_goals go_wp2
      all_goals
        go_roundw
        case rel =>
          have hnew := Alb.push (p := ⟨W, H, a2, c2, xs⟩) (T := fun _ => False) (w := wr) Halb.out (((((Only.refl _ _).alloc _).drew).trans (Only.ofBelow hb1 (by simp [World.size_drew]))).alloc (.cells #[.int .i64 W, .int .i64 H, .slice a2 xs.length c2] 36)) (fun _ h => h.elim) ((hw1.alloc _).mono (fun k hk => by simp only [World.size_alloc]; omega)) (by omega) hgrow3 hat3 (by simp) hr3
          refine ⟨ds.length + 1, ds ++ [⟨W, H, a2, c2, xs⟩], _, by omega, by go_num, HS.out _ ⟨rfl, rfl, rfl⟩, hnew.setCell (by simp) _, one_setCell Hq3.out, ?_, ?_⟩
          · have := hgrow3.size
            simp only [World.size_alloc] at this
            simp; omega
          · have hq4 := hown1.out _ (.cells #[.int .i64 W, .int .i64 H, .slice a2 xs.length c2] 36) hb1
            refine (((((hb.alloc (by omega) _).drew).trans (hb1.mono (by omega))).alloc (by omega) (.cells #[.int .i64 W, .int .i64 H, .slice a2 xs.length c2] 36)).grown hgrow3 (by simp; omega) (fun k hk => by have := (hq4.lt k hk).1; omega)).setCell (Nat.le_refl _) _
        case measure => simp [intOf]; omega
    · obtain ⟨va, vc, rfl⟩ := halb.shape
      have hcc := cell_of_one hq
      have hr0 : wr.cell? ⟨w.heap.size, 0, none⟩ = some (.slice none 0 0) := by
        rw [hb.cell (by simp)]; rw [HW0.out]; simp
      have hf0 : wr.frozen? ⟨w.heap.size, 0, none⟩ = false := by
        rw [hb.frozen (by simp)]; rw [HW0.out]; simp
      have Hq := Lib.hid hq
      have Halb := Lib.hid halb
      have hjl : j = ps.length := by omega
      have Hj := Lib.hid hjl
      clear h0 hq halb hjl
      go_wp2
      refine bodyPost_ret (v := .agg #[.slice va ds.length vc]) (by simp [results, Try.results36, go_sem, hr0]) rfl ⟨.slice va ds.length vc, ds, rfl, Hj.out ▸ hcp, ?_, ?_⟩
      · exact (Halb.out.setCell (by simp; omega) _).low (by omega)
      · have hb2 : Below w.heap.size w wr := by
          have e := HW0.out
          rw [e] at hb
          exact (((Below.refl w.heap.size w).alloc (Nat.le_refl _) _).alloc (by simp) _).trans (hb.mono (by omega))
        exact hb2.setCell (Nat.le_refl _) _
end Go.Proofs.Ytljkgemkolmihaa
