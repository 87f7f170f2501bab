/- The program's AddPicture. -/
import Derived.Test.YtljkgemkolmihaaC3
import Derived.Test.YtljkgemkolmihaaV2
namespace Go.Proofs.Ytljkgemkolmihaa
open Go.RowKit

theorem belowAt {B : Nat} {w w' : World} (h : Below B w w') : (∀ b o, b < B → w'.cell? ⟨b, o, none⟩ = w.cell? ⟨b, o, none⟩) ∧ (∀ b o, b < B → w'.frozen? ⟨b, o, none⟩ = w.frozen? ⟨b, o, none⟩) :=
  ⟨fun b o hb => h.cell (p := ⟨b, o, none⟩) hb, fun b o hb => h.frozen (p := ⟨b, o, none⟩) hb⟩

theorem Copies.okAll {ps ds : List PV} (h : Copies ps ds ps.length) : ds.map PV.ok = ps.map PV.ok := by
  obtain ⟨hl, h⟩ := h
  apply List.ext_getElem
  · simp [hl]
  · intro i h1 h2
    have := h i (by simpa using h1) (by simpa using h2)
    simp only [List.getElem_map, PV.ok, this.1, this.2.1, this.2.2]
theorem albB_map (ps : List PV) : albB ps = (decide ((ps.map PV.ok).length ≤ 8) && (ps.map PV.ok).all id) := by
  simp [albB, List.all_map]
theorem Copies.albB {ps ds : List PV} (h : Copies ps ds ps.length) : albB ds = albB ps := by
  rw [albB_map, albB_map, h.okAll]
theorem Alb.pics {lo : Nat} {w : World} {a : Option Addr} {n c : Nat} {ds : List PV} (h : Alb lo w (.slice a n c) ds) : Pics (· < w.heap.size) w a ds := by
  obtain ⟨a', c', gb, hv, ho⟩ := h.own
  cases hv
  exact ⟨ho.pics.1.mono (fun k hk => hk.2), fun p hp => (ho.pics.2 p hp).mono (fun k hk => hk.2)⟩
theorem Pics.mono {S T : Nat → Prop} {w : World} {a : Option Addr} {ps : List PV} (h : Pics S w a ps) (hs : ∀ k, S k → T k) : Pics T w a ps :=
  ⟨h.1.mono hs, fun p hp => (h.2 p hp).mono hs⟩
theorem Pics.ofHeap {S : Nat → Prop} {w w' : World} {a : Option Addr} {ps : List PV} (h : Pics S w a ps) (hh : w'.heap = w.heap) : Pics S w' a ps :=
  ⟨h.1.ofHeap hh, fun p hp => (h.2 p hp).ofHeap hh⟩
/-- ValidAlbum with its answer known -/
theorem validAlbum_is {b : Bool} (a : Option Addr) (c : Nat) (ps : List PV) (n : Nat) (hl : ps.length = n) (w : World) (hn : ps.length ≤ 1048576) (hm : ∀ p ∈ ps, p.xs.length ≤ 1048576) (h : Pics (· < w.heap.size) w a ps) (hb : albB ps = b) :
    Calls Try.prog 38 #[.agg #[.slice a n c]] w fun e w' => e = .returned (.bool b) ∧ Below w.heap.size w w' := by
  subst hb hl
  exact validAlbum_any w.heap.size a c ps w hn (fun p hp => Nat.le_trans (hm p hp) (by decide)) h (Nat.le_refl _)

theorem Alb.setCell' {lo : Nat} {w : World} {v : Value} {ds : List PV} (h : Alb lo w v ds) {p : Addr} (hr : v.ownBlock ≠ some p.block) (hd : ∀ d ∈ ds, d.xs ≠ [] → d.blk ≠ p.block) (u : Value) : Alb lo (w.setCell p u) v ds := by
  refine ⟨ownsRow_setCell_other h.row hr u, fun d hdd => (h.nums d hdd).setCell (fun hh => hd d hdd hh.2 hh.1.symm) u, fun d hdd hx => ?_, h.apart⟩
  have := h.numsIn d hdd hx
  simpa using this
theorem Alb.below {lo : Nat} {w w' : World} {v : Value} {ds : List PV} (h : Alb lo w v ds) (hb : Below w.heap.size w w') : Alb lo w' v ds := by
  have hs := hb.size
  refine ⟨ownsRow_below h.row hb, fun d hd => (h.nums d hd).keep (Only.ofBelow hb (Nat.le_refl _)) (fun _ _ h => h), fun d hd hx => ?_, h.apart⟩
  have := h.numsIn d hd hx
  exact ⟨this.1, by omega, this.2.2⟩

theorem Copies.both {ps ds : List PV} (h : Copies ps ds ps.length) (p q : PV) (hq : q.W = p.W ∧ q.H = p.H ∧ q.xs = p.xs) : Copies (ps ++ [p]) (ds ++ [q]) (ps ++ [p]).length := by
  obtain ⟨hl, h⟩ := h
  refine ⟨by simp [hl], fun i h1 h2 => ?_⟩
  by_cases e : i < ds.length
  · simp only [List.getElem_append, dif_pos e, dif_pos (hl ▸ e)]
    exact h i e (hl ▸ e)
  · have h3 : i = ds.length := by simp at h1; omega
    have h4 : ¬ i < ps.length := by omega
    simp only [List.getElem_append, dif_neg e, dif_neg h4, List.getElem_singleton]
    exact hq

/-- what adding a picture to an album gives: the list, and whether it can be -/
def addB (ps : List PV) (p : PV) : Bool := albB ps && albB (ps ++ [p])
def addL (ps : List PV) (p : PV) : List PV := if addB ps p then ps ++ [p] else []
def FreshAdd (ps : List PV) (p : PV) (w : World) (e : Ending) (w' : World) : Prop :=
  ∃ v ds, e = .returned (.tuple #[.agg #[v], .bool (addB ps p)]) ∧ Copies (addL ps p) ds (addL ps p).length ∧ Alb w.heap.size w' v ds ∧ Below w.heap.size w w'

set_option maxHeartbeats 3200000 in
theorem addPicture_any (B : Nat) (a : Option Addr) (c : Nat) (ps : List PV) (W H : Int) (pa : Option Addr) (pc : Nat) (xs : List Nat) (w : World) (hn : ps.length ≤ 1048576) (hm : ∀ p ∈ ps, p.xs.length ≤ 1048576) (hnil : ∀ p ∈ ps, p.a = none → p.xs = []) (h : Pics (· < B) w a ps) (hB : B ≤ w.heap.size)
    (hxl : xs.length ≤ 1048576) (hp : Rd (· < B) w pa (xs.map fl)) (hpnil : pa = none → xs = []) :
    Calls Try.prog 11 #[.agg #[.slice a ps.length c], .agg #[.int .i64 W, .int .i64 H, .slice pa xs.length pc]] w (FreshAdd ps ⟨W, H, pa, pc, xs⟩ w) := by
  obtain ⟨i0, hi, hz0, hz1, hz2⟩ := info_parts infoPI
  have Hm := Lib.hid hm
  have Hnil := Lib.hid hnil
  have Hpnil := Lib.hid hpnil
  clear hm hnil hpnil
  go_enter Try.func11, Try.ntmps11
  go_wp2_with fail
  obtain ⟨W3, hW3⟩ : ∃ W3, W3 = ((w.alloc (.cells #[.slice a ps.length c] 32)).alloc (.cells #[.int .i64 W, .int .i64 H, .slice pa xs.length pc] 36)).alloc (.cells #[.slice none 0 0] 32) := ⟨_, rfl⟩
  rw [← hW3]
  have hs3 : W3.heap.size = w.heap.size + 3 := by subst hW3; simp
  have h3 : Pics (· < B) W3 a ps := by subst hW3; exact h.keep ((((Only.refl (fun _ => False) w).alloc _).alloc _).alloc _) (fun _ _ h => h)
  have hp3 : Rd (· < B) W3 pa (xs.map fl) := by subst hW3; exact ((hp.alloc _).alloc _).alloc _
  have hb3 : Below w.heap.size w W3 := by subst hW3; exact (((Below.refl _ _).alloc (Nat.le_refl _) _).alloc (by simp) _).alloc (by simp; omega) _
  have hc3 : ∀ wx, Below (w.heap.size + 3) W3 wx → wx.cell? ⟨w.heap.size, 0, none⟩ = some (.slice a ps.length c) ∧ wx.cell? ⟨w.heap.size + 1, 0, none⟩ = some (.int .i64 W) ∧ wx.cell? ⟨w.heap.size + 1, 1, none⟩ = some (.int .i64 H) ∧ wx.cell? ⟨w.heap.size + 1, 2, none⟩ = some (.slice pa xs.length pc) ∧ wx.cell? ⟨w.heap.size + 1 + 1, 0, none⟩ = some (.slice none 0 0) ∧ wx.frozen? ⟨w.heap.size + 1 + 1, 0, none⟩ = false := by
    intro wx hx
    obtain ⟨c1, c2⟩ := belowAt hx
    rw [c1 _ _ (by omega), c1 _ _ (by omega), c1 _ _ (by omega), c1 _ _ (by omega), c1 _ _ (by omega), c2 _ _ (by omega)]
    subst hW3
    simp [go_sem]
  have Hs3 := Lib.hid hs3
  have Hc3 := Lib.hid hc3
  clear hW3 hs3 h hp hc3
  refine (cloneAlbum_any B a c ps _ hn Hm.out Hnil.out h3 (by rw [Hs3.out]; omega)).mono ?_
  rintro e w1 ⟨v, ds, rfl, hcp, halb, hb1⟩
  rw [Hs3.out] at halb hb1
  obtain ⟨va, vc, rfl⟩ := halb.shape
  have hs1 := hb1.size
  rw [Hs3.out] at hs1
  have hcc : w1.heap.size = w1.heap.size := rfl
  have hown1 : Hid (∀ w2 o', Below (w1.heap.size + 1) ((w1.alloc (.cells #[.slice va ds.length vc] 32)).drew) w2 → (w2.alloc o').ownsRow (w.heap.size + 3) 36 3 (.slice va ds.length vc) ds.length (ds.flatMap PV.cells)) :=
    fun w2 o' hb2 => (ownsRow_below (w := (w1.alloc (.cells #[.slice va ds.length vc] 32)).drew) (halb.row.alloc _) (by simpa using hb2)).alloc _
  have hrd2 : Hid (Rd (· < B) (w1.alloc (.cells #[.slice va ds.length vc] 32)).drew pa (xs.map fl)) := ((hp3.keep (Only.below hb1) (fun k hk hn => by omega)).alloc _).ofHeap rfl
  have hvne : Hid ((Value.slice va ds.length vc).ownBlock ≠ some w1.heap.size) := fun e => by have := (halb.row.lt _ e).2; omega
  have Halb := Lib.hid halb
  have hdl := hcp.1
  have hdn : ds.length ≤ 1048576 := by omega
  have Hcp := Lib.hid hcp
  have Hdl := Lib.hid hdl
  obtain ⟨k10, k11, k12, k13, k14, k15⟩ := Hc3.out w1 hb1
  clear halb hp3 hcc hcp hdl
  have hB3 : B ≤ w1.heap.size := by omega
  have q0 : w.heap.size < w1.heap.size := by omega
  have q1 : w.heap.size + 1 < w1.heap.size := by omega
  have q2 : w.heap.size + 1 + 1 < w1.heap.size := by omega
  go_wp2_with fail
  go_region_law (first
    | (refine step_append_lies _ (by rfl) (.tmp 11) (.tmp 14) 30 (by rfl) (w.heap.size + 3) 36 i0 (.agg #[.int .i64 0, .int .i64 0, .slice none 0 0]) 3 40 Try.underlying30 hi hz0 hz1 hz2 rfl (by omega) (.slice va ds.length vc) ds.length (ds.flatMap PV.cells) (by rfl) (hown1.out _ _ hb2) ⟨w2.heap.size, 0, none⟩ 1 1 [.int .i64 W, .int .i64 H, .slice a2 xs.length c2] (by rfl) (by rfl) (World.news_of_block (cs := #[.int .i64 W, .int .i64 H, .slice a2 xs.length c2]) (t := 36) (fr := (0, 0)) (heap_alloc_new w2 _)) (by simp [Value.oneCell']) (by omega) (by unfold maxLen; omega) (by omega) (by simp; omega) (w2.heap.size + 1) (by simp) ?_
       intro g cap w3 hr3 hgrow3 hat3 hlt3
       have hq3 := one_grown hgrow3 (one_alloc hq2.out _) hvne.out
       have k3 := cell_of_one hq3
       have f3 := free_of_one hq3
       have Hq3 := Lib.hid hq3
       clear hq3)
    | (go_simp
       go_at_call 37
       refine (cloneP B W H pa pc xs _ hxl hrd2.out (by simp; omega) Hpnil.out).mono ?_
       rintro e w2 ⟨a2, c2, rfl, hw2, hb2⟩
       simp only [World.size_drew, World.size_alloc] at hb2 hw2
       have hq2 : Hid (w2.heap[w1.heap.size]? = some (.cells #[.slice va ds.length vc] 32 (0, 0))) := one_below hb2 (heap_alloc_new w1 _) (by omega)
       have k2 := cell_of_one hq2.out
       have f2 := free_of_one hq2.out
       have k2a := fun o => cell_of_one (one_alloc hq2.out o)
       have hs2 := hb2.size
       simp only [World.size_drew, World.size_alloc] at hs2))
  all_goals
    have hnew := Alb.push (p := ⟨W, H, a2, c2, xs⟩) (T := fun _ => False) (w := w1) Halb.out (((((Only.refl _ _).alloc _).drew).trans (Only.ofBelow hb2 (by simp))).alloc (.cells #[.int .i64 W, .int .i64 H, .slice a2 xs.length c2] 36)) (fun _ h => h.elim) ((hw2.alloc _).mono (fun k hk => by simp only [World.size_alloc]; omega)) (by omega) hgrow3 hat3 (by simp) hr3
    have hgne : g ≠ w1.heap.size := by
      intro e
      rcases hat3 with hat3 | hat3
      · exact hvne.out (by rw [hat3, e])
      · omega
    have hnew2 := hnew.setCell' (p := ⟨w1.heap.size, 0, none⟩) (by simp [Value.ownBlock]; exact hgne) (fun d hd hx => by
      rw [List.mem_append, List.mem_singleton] at hd
      rcases hd with hd | rfl
      · have := (Halb.out.numsIn d hd hx).2.1; exact Nat.ne_of_lt this
      · have := hw2.own_of.2 hx; simp only; omega) (.slice (some ⟨g, 0, none⟩) (ds.length + 1) cap)
    have hq4 := hown1.out _ (.cells #[.int .i64 W, .int .i64 H, .slice a2 xs.length c2] 36) hb2
    have hb4 : Below (w.heap.size + 3) W3 (w3.setCell ⟨w1.heap.size, 0, none⟩ (.slice (some ⟨g, 0, none⟩) (ds.length + 1) cap)) :=
      (((((hb1.alloc (by omega) _).drew).trans (hb2.mono (by omega))).alloc (by omega) (.cells #[.int .i64 W, .int .i64 H, .slice a2 xs.length c2] 36)).grown hgrow3 (by simp; omega) (fun k hk => (hq4.lt k hk).1)).setCell (by simp; omega) _
    have hq5 := one_setCell (u := .slice (some ⟨g, 0, none⟩) (ds.length + 1) cap) Hq3.out
    have hcp2 := Hcp.out.both ⟨W, H, pa, pc, xs⟩ ⟨W, H, a2, c2, xs⟩ ⟨rfl, rfl, rfl⟩
    have hs4 : w1.heap.size < (w3.setCell ⟨w1.heap.size, 0, none⟩ (.slice (some ⟨g, 0, none⟩) (ds.length + 1) cap)).heap.size := lt_of_block hq5
    obtain ⟨w4, hw4⟩ : ∃ w4, w4 = w3.setCell ⟨w1.heap.size, 0, none⟩ (.slice (some ⟨g, 0, none⟩) (ds.length + 1) cap) := ⟨_, rfl⟩
    rw [← hw4] at hnew2 hb4 hq5 hs4 ⊢
    have h4 : Pics (· < w4.heap.size) w4 a ps := (h3.keep (Only.below hb4) (fun k hk hn => by omega)).mono (fun k hk => by omega)
    have Hnew := Lib.hid hnew2
    have Hcp2 := Lib.hid hcp2
    have Hq5 := Lib.hid hq5
    have Hb4 := Lib.hid hb4
    have e5 := cell_of_one hq5
    obtain ⟨k40, k41, k42, k43, k44, k45⟩ := Hc3.out w4 hb4
    clear hw4 hnew hnew2 hcp2 hq5 hb4 hq4 hgne hgrow3 hat3 hr3 hw2 hb2 k3 f3 k2 f2 k2a hs2 hlt3 k10 k11 k12 k13 k14 k15 hown1 hrd2 hq2 Hq3 hvne
    cases hv : albB ps
    · have hadd : addB ps ⟨W, H, pa, pc, xs⟩ = false := by simp [addB, hv]
      have Hv := Lib.hid hv
      have Hadd := Lib.hid hadd
      clear hv hadd
      go_wp2_with fail
      refine (validAlbum_is a c ps ps.length rfl w4 hn Hm.out h4 Hv.out).mono ?_
      rintro e w5 ⟨rfl, hb5⟩
      obtain ⟨c5, f5⟩ := belowAt hb5
      have k54 : w5.cell? ⟨w.heap.size + 1 + 1, 0, none⟩ = some (.slice none 0 0) := by rw [c5 _ _ (by omega)]; exact k44
      have k55 : w5.frozen? ⟨w.heap.size + 1 + 1, 0, none⟩ = false := by rw [f5 _ _ (by omega)]; exact k45
      clear c5 f5 h4
      go_wp2
      refine bodyPost_ret (v := .tuple #[.agg #[.slice none 0 0], .bool false]) (by simp [results, Try.results11, go_sem, k54]) rfl ⟨.slice none 0 0, [], by rw [Hadd.out], ?_, Alb.nil _ _, ?_⟩
      · unfold addL; rw [Hadd.out]; exact ⟨rfl, fun i h1 _ => by simp at h1⟩
      · exact ((hb3.trans (Hb4.out.mono (by omega))).trans (hb5.mono (by omega))).setCell (by simp; omega) _
    · have hv2 : albB (ds ++ [⟨W, H, a2, c2, xs⟩]) = addB ps ⟨W, H, pa, pc, xs⟩ := by
        rw [Hcp2.out.albB]; simp [addB, hv]
      have Hv := Lib.hid hv
      have Hv2 := Lib.hid hv2
      clear hv hv2
      have hm2 : ∀ p ∈ ds ++ [(⟨W, H, a2, c2, xs⟩ : PV)], p.xs.length ≤ 1048576 := by
        intro p hp
        rw [List.mem_append, List.mem_singleton] at hp
        rcases hp with hp | rfl
        · obtain ⟨i, hi, rfl⟩ := List.getElem_of_mem hp
          rw [(Hcp.out.2 i hi (by have := Hdl.out; omega)).2.2]
          exact Hm.out _ (List.getElem_mem _)
        · exact hxl
      have Hm2 := Lib.hid hm2
      have h8 : ps.length ≤ 8 := by have := Hv.out; simp only [albB, Bool.and_eq_true, decide_eq_true_eq] at this; exact this.1
      clear hm2
      go_wp2_with fail
      refine (validAlbum_is a c ps ps.length rfl w4 hn Hm.out h4 Hv.out).mono ?_
      rintro e w5 ⟨rfl, hb5⟩
      obtain ⟨c5, f5⟩ := belowAt hb5
      have k54 : w5.cell? ⟨w.heap.size + 1 + 1, 0, none⟩ = some (.slice none 0 0) := by rw [c5 _ _ (by omega)]; exact k44
      have k55 : w5.frozen? ⟨w.heap.size + 1 + 1, 0, none⟩ = false := by rw [f5 _ _ (by omega)]; exact k45
      have k56 : w5.cell? ⟨w1.heap.size, 0, none⟩ = some (.slice (some ⟨g, 0, none⟩) (ds.length + 1) cap) := by rw [c5 _ _ (by omega)]; exact e5
      have hs5 := hb5.size
      have Hn5 := Lib.hid (Hnew.out.below hb5)
      clear c5 f5 h4
      go_wp2_with fail
      refine (validAlbum_is (some ⟨g, 0, none⟩) cap (ds ++ [⟨W, H, a2, c2, xs⟩]) (ds.length + 1) (by simp) w5 (by simp; have := Hdl.out; omega) Hm2.out Hn5.out.pics Hv2.out).mono ?_
      rintro e w6 ⟨rfl, hb6⟩
      obtain ⟨c6, f6⟩ := belowAt hb6
      have k64 : w6.cell? ⟨w.heap.size + 1 + 1, 0, none⟩ = some (.slice none 0 0) := by rw [c6 _ _ (by omega)]; exact k54
      have k65 : w6.frozen? ⟨w.heap.size + 1 + 1, 0, none⟩ = false := by rw [f6 _ _ (by omega)]; exact k55
      have k66 : w6.cell? ⟨w1.heap.size, 0, none⟩ = some (.slice (some ⟨g, 0, none⟩) (ds.length + 1) cap) := by rw [c6 _ _ (by omega)]; exact k56
      have Hn6 := Lib.hid (Hn5.out.below hb6)
      have Hb6 := Lib.hid ((((hb3.trans (Hb4.out.mono (by omega))).trans (hb5.mono (by omega))).trans (hb6.mono (by omega))))
      clear c6 f6
      cases hadd : addB ps ⟨W, H, pa, pc, xs⟩
      · have Hadd := Lib.hid hadd
        go_wp2
        refine bodyPost_ret (v := .tuple #[.agg #[.slice none 0 0], .bool false]) (by simp [results, Try.results11, go_sem, k64]) rfl ⟨.slice none 0 0, [], by rw [Hadd.out], ?_, Alb.nil _ _, ?_⟩
        · unfold addL; rw [Hadd.out]; exact ⟨rfl, fun i h1 _ => by simp at h1⟩
        · exact Hb6.out.setCell (by simp; omega) _
      · have Hadd := Lib.hid hadd
        go_wp2
        refine bodyPost_ret (v := .tuple #[.agg #[.slice (some ⟨g, 0, none⟩) (ds.length + 1) cap], .bool true]) (by simp [results, Try.results11, go_sem, k64]) rfl ⟨.slice (some ⟨g, 0, none⟩) (ds.length + 1) cap, ds ++ [⟨W, H, a2, c2, xs⟩], by rw [Hadd.out], ?_, ?_, ?_⟩
        · unfold addL; rw [Hadd.out]; exact Hcp2.out
        · exact (Hn6.out.setCell (by simp) _).low (by omega)
        · exact Hb6.out.setCell (by simp; omega) _
end Go.Proofs.Ytljkgemkolmihaa
