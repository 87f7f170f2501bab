/- The laws' helpers on lists of pictures: copies, marks. -/
import Derived.Test.YtljkgemkolmihaaP5
namespace Go.Proofs.Ytljkgemkolmihaa
open Go.RowKit

theorem infoPI : (Try.prog.info? 36).map (fun i => (i.zero, i.size, i.bytes)) = some (some (.agg #[.int .i64 0, .int .i64 0, .slice none 0 0]), 3, 40) := by kernel_rfl

/-- copies of the pictures of which j are made -/
def Copies (ps ds : List PV) (j : Nat) : Prop := ds.length = j ∧ ∀ i (h1 : i < ds.length) (h2 : i < ps.length), ds[i].W = ps[i].W ∧ ds[i].H = ps[i].H ∧ ds[i].xs = ps[i].xs
theorem Copies.snoc {ps ds : List PV} {j : Nat} (h : Copies ps ds j) (hj : j < ps.length) (p : PV) (hp : p.W = ps[j].W ∧ p.H = ps[j].H ∧ p.xs = ps[j].xs) : Copies ps (ds ++ [p]) (j + 1) := by
  obtain ⟨rfl, h⟩ := h
  refine ⟨by simp, fun i h1 h2 => ?_⟩
  by_cases e : i < ds.length
  · simp only [List.getElem_append, dif_pos e]; exact h i e h2
  · have : i = ds.length := by simp at h1; omega
    subst this
    simp only [List.getElem_append, Nat.lt_irrefl, dif_neg, not_false_eq_true, Nat.sub_self, List.getElem_cons_zero]
    exact hp

set_option maxHeartbeats 800000 in
theorem toPS (B : Nat) (a : Option Addr) (c : Nat) (ps : List PV) (w : World) (hn : ps.length ≤ 1048576) (hm : ∀ p ∈ ps, p.xs.length ≤ 1048576) (h : Pics (· < B) w a ps) (hB : B ≤ w.heap.size) :
    Calls Try.prog 34 #[.slice a ps.length c] w fun e w' => ∃ ds, (Copies ps ds ps.length ∧ ∀ d ∈ ds, d.a ≠ none) ∧ e = .returned (.slice (some ⟨w.heap.size, 0, none⟩) ps.length ps.length) ∧
      Own w.heap.size w'.heap.size w.heap.size w' (some ⟨w.heap.size, 0, none⟩) ds ∧ Below w.heap.size w w' := by
  obtain ⟨i0, hi, hz0, hz1, hz2⟩ := info_parts infoPI
  go_enter Try.func34, Try.ntmps34
  go_wp2_with (at_make; refine wpList_make_full _ rfl _ _ 30 rfl w.heap.size 36 i0 (.agg #[.int .i64 0, .int .i64 0, .slice none 0 0]) 3 Try.underlying30 hi hz0 hz1 _ _ _ _ ps.length rfl rfl rfl rfl ?b2 ?b3 (Nat.le_refl _) ?_)
  case b2 => rw [hz2]; omega
  case b3 => unfold maxLen; omega
  intro w0 hown0 hgrow0
  have hsz : w.heap.size < w0.heap.size := (hown0.lt _ rfl).2
  have H0 := Lib.hid (own_zeros hown0)
  clear hown0
  go_wp2
  go_loopw [4] (fun i wr => ∃ (j : Nat) (ds : List PV), j ≤ ps.length ∧ i = .int .i64 j ∧ (Copies ps ds j ∧ ∀ d ∈ ds, d.a ≠ none) ∧ Own w.heap.size wr.heap.size w.heap.size wr (some ⟨w.heap.size, 0, none⟩) (ds ++ List.replicate (ps.length - j) zeroPV) ∧ w.heap.size < wr.heap.size ∧ Below w.heap.size w wr) (fun i _ => ps.length - (intOf i).toNat)
  case atStart => exact ⟨0, [], Nat.zero_le _, rfl, ⟨⟨rfl, fun i h1 _ => by simp at h1⟩, by simp⟩, by simpa using H0.out.grow hsz, hsz, (Below.refl _ _).grown hgrow0 (Nat.le_refl _) (fun k h => by cases h)⟩
  case round =>
    obtain ⟨j, ds, hj, rfl, ⟨hcp, hsm⟩, hown, hsr, hb⟩ := hrel
    by_cases hlt : j < ps.length
    · have hA := (h.keep (Only.below hb) (fun k hk hn => by omega))
      obtain ⟨b, o, rfl, hSb, h0, h1, h2⟩ := hA.at j hlt
      have hxl : ps[j].xs.length ≤ 1048576 := hm _ (List.getElem_mem hlt)
      have hrd := hA.2 _ (List.getElem_mem hlt)
      have Hcp := Lib.hid hcp
      have hdl := hcp.1
      have erep : List.replicate (ps.length - j) zeroPV = zeroPV :: List.replicate (ps.length - (j + 1)) zeroPV := by
        rw [show ps.length - j = (ps.length - (j + 1)) + 1 by omega]; rfl
      rw [erep] at hown
      clear erep
      have Hs := fun p hp => Hcp.out.snoc hlt p hp
      have HS := Lib.hid Hs
      have HSM := Lib.hid (fun (p : PV) (hp : p.a ≠ none) => (show ∀ d ∈ ds ++ [p], d.a ≠ none from fun d hd => by
        rw [List.mem_append, List.mem_singleton] at hd
        rcases hd with hd | rfl
        · exact hsm d hd
        · exact hp))
      clear h hm hA hcp Hs hsm
      generalize ps[j] = p at *
      obtain ⟨W, H, a', c', xs⟩ := p
      simp only at h0 h1 h2 hxl hrd
      subst hdl
      have h3 := hown.at3.2
      simp only [Nat.zero_add] at h3
      obtain ⟨u0, k0, f0⟩ : ∃ u0, wr.cell? ⟨w.heap.size, ds.length * 3, none⟩ = some u0 ∧ wr.frozen? ⟨w.heap.size, ds.length * 3, none⟩ = false := ⟨_, (h3 0 (by omega)).1, (h3 0 (by omega)).2⟩
      obtain ⟨u1, k1, f1⟩ : ∃ u0, wr.cell? ⟨w.heap.size, ds.length * 3 + 1, none⟩ = some u0 ∧ wr.frozen? ⟨w.heap.size, ds.length * 3 + 1, none⟩ = false := ⟨_, (h3 1 (by omega)).1, (h3 1 (by omega)).2⟩
      obtain ⟨u2, k2, f2⟩ : ∃ u0, wr.cell? ⟨w.heap.size, ds.length * 3 + 2, none⟩ = some u0 ∧ wr.frozen? ⟨w.heap.size, ds.length * 3 + 2, none⟩ = false := ⟨_, (h3 2 (by omega)).1, (h3 2 (by omega)).2⟩
      clear h3
      have Hown := Lib.hid hown
      clear hown
      go_wp2_with fail
      refine (toP W H (· < B) a' c' xs _ hxl hrd (fun k hk => by have := hb.size; omega)).mono ?_
      rintro e w1 ⟨g, hg, rfl, hw1, hb1⟩
      have m0 : w1.cell? ⟨w.heap.size, ds.length * 3, none⟩ = some u0 := by rw [hb1.cell (by exact hsr)]; exact k0
      have m1 : w1.cell? ⟨w.heap.size, ds.length * 3 + 1, none⟩ = some u1 := by rw [hb1.cell (by exact hsr)]; exact k1
      have m2 : w1.cell? ⟨w.heap.size, ds.length * 3 + 2, none⟩ = some u2 := by rw [hb1.cell (by exact hsr)]; exact k2
      have n0 : w1.frozen? ⟨w.heap.size, ds.length * 3, none⟩ = false := by rw [hb1.frozen (by exact hsr)]; exact f0
      have n1 : w1.frozen? ⟨w.heap.size, ds.length * 3 + 1, none⟩ = false := by rw [hb1.frozen (by exact hsr)]; exact f1
      have n2 : w1.frozen? ⟨w.heap.size, ds.length * 3 + 2, none⟩ = false := by rw [hb1.frozen (by exact hsr)]; exact f2
      go_wp2
      go_roundw
      case rel =>
        have hB1 := hb.trans (hb1.mono hb.size)
        have hgl : xs ≠ [] → g < w1.heap.size := fun hx => by
          rcases hw1 with hw1 | ⟨b', o', e, hg', hw1⟩
          · simp at hw1; exact (hx hw1).elim
          · subst hg'
            have := hw1 0 (by simp only [List.length_map]; exact List.length_pos_iff.2 hx)
            exact lt_of_cell this.1
        have hput := Own.put (p := ⟨W, H, some ⟨g, 0, none⟩, xs.length, xs⟩) (Hown.out.keep (Only.below hb1) (fun k _ h2 h3 => by omega)) rfl hb1.size (by
          by_cases hx : xs = []
          · subst hx; exact Wr.nil
          · exact hw1.mono (fun k hk => ⟨hk, hx⟩)) (fun hx => ⟨hg, hgl hx⟩) (Nat.le_of_lt hsr)
        rw [Nat.zero_add] at hput
        refine ⟨ds.length + 1, ds ++ [⟨W, H, some ⟨g, 0, none⟩, xs.length, xs⟩], by omega, by go_num, ⟨HS.out _ ⟨rfl, rfl, rfl⟩, HSM.out _ (by simp)⟩, ?_, ?_, set3_below hB1 (Nat.le_refl _) _ ⟨W, H, some ⟨g, 0, none⟩, xs.length, xs⟩⟩
        · rw [List.append_assoc]
          have := set3_size w1 w.heap.size (ds.length * 3) ⟨W, H, some ⟨g, 0, none⟩, xs.length, xs⟩
          exact hput.grow (Nat.le_of_eq this.symm)
        · have := set3_size w1 w.heap.size (ds.length * 3) ⟨W, H, some ⟨g, 0, none⟩, xs.length, xs⟩
          have h4 := hb1.size
          exact Nat.lt_of_lt_of_eq (by omega) this.symm
      case measure => simp [intOf]; omega
    · clear h hm
      go_wp2
      go_ret
      have e : j = ps.length := by omega
      subst e
      simp only [Nat.sub_self, List.replicate_zero, List.append_nil] at hown
      exact ⟨ds, ⟨hcp, hsm⟩, rfl, hown, hb⟩
theorem mark_facts (k : Int) (ds : List PV) (j : Nat) (hlt : j < ds.length) (hm : ∀ p ∈ ds, p.xs.length ≤ 1048576) (hk1 : mkOf k ds ≤ 1125899906842624) :
    mkOf k (ds.take (j + 1)) = mkOf k (ds.take j) + 1 + 1 + ds[j].xs.length ∧
    msOf k (ds.take (j + 1)) = msOf k (ds.take j) ++ [⟨mkOf k (ds.take j), mkOf k (ds.take j) + 1, ds[j].a, ds[j].c, marks (mkOf k (ds.take j) + 1 + 1) ds[j].xs.length⟩] ∧
    (msOf k (ds.take j)).length = j ∧ k ≤ mkOf k (ds.take j) ∧ mkOf k (ds.take j) + 1 + 1 + (ds[j].xs.length : Int) ≤ 1125899906842624 := by
  have hkk := mkOf_le k (ds.take j) (fun d hd => hm d (List.mem_of_mem_take hd))
  have hall : mkOf k ds = mkOf (mkOf k (ds.take j)) (ds.drop j) := by rw [← mkOf_append, List.take_append_drop]
  rw [List.drop_eq_getElem_cons hlt] at hall
  have hbig := mkOf_le (mkOf k (ds.take j) + 1 + 1 + ds[j].xs.length) (ds.drop (j + 1)) (fun d hd => hm d (List.mem_of_mem_drop hd))
  have hup : mkOf k (ds.take j) + 1 + 1 + ds[j].xs.length ≤ mkOf k ds := by rw [hall]; exact hbig.1
  refine ⟨?_, ?_, ?_, hkk.1, by omega⟩
  · rw [List.take_succ_eq_append_getElem hlt, mkOf_append]; rfl
  · rw [List.take_succ_eq_append_getElem hlt, msOf_append]; rfl
  · rw [msOf_length, List.length_take]; omega

theorem take_drop_cons {α : Type} (ds : List α) (j : Nat) (h : j < ds.length) : ds.drop j = ds[j] :: ds.drop (j + 1) := by
  rw [List.drop_eq_getElem_cons h]

set_option maxHeartbeats 800000 in
theorem markPS (lo hi gb : Nat) (a : Option Addr) (c : Nat) (ds : List PV) (k : Int) (w : World) (hn : ds.length ≤ 1048576) (hm : ∀ p ∈ ds, p.xs.length ≤ 1048576) (hk0 : 0 ≤ k) (hk1 : mkOf k ds ≤ 1125899906842624) (h : Own lo hi gb w a ds) :
    Calls Try.prog 41 #[.slice a ds.length c, .int .i64 k] w fun e w' => e = .returned (.int .i64 (mkOf k ds)) ∧ Own lo hi gb w' a (msOf k ds) ∧ Only (fun b => lo ≤ b ∧ b < hi) w w' := by
  go_enter Try.func41, Try.ntmps41
  go_wp2
  go_loopw [1, 5] (fun q i wr => ∃ (j : Nat), j ≤ ds.length ∧ i = .int .i64 j ∧ q = .int .i64 (mkOf k (ds.take j)) ∧ Own lo hi gb wr a (msOf k (ds.take j) ++ ds.drop j) ∧ Only (fun b => lo ≤ b ∧ b < hi) w wr) (fun _ i _ => ds.length - (intOf i).toNat)
  case atStart => exact ⟨0, Nat.zero_le _, rfl, rfl, by simpa [msOf] using h, Only.refl _ _⟩
  case round =>
    obtain ⟨j, hj, rfl, rfl, hown, ho⟩ := hrel
    by_cases hlt : j < ds.length
    · obtain ⟨htk, hms, hlen, hcap, hkb⟩ := mark_facts k ds j hlt hm hk1
      rw [take_drop_cons ds j hlt] at hown
      have hxl : ds[j].xs.length ≤ 1048576 := hm _ (List.getElem_mem hlt)
      have hne : msOf k (ds.take j) ++ ds[j] :: ds.drop (j + 1) ≠ [] := List.append_ne_nil_of_right_ne_nil _ (List.cons_ne_nil _ _)
      have hin := hown.rowIn hne
      have hmem : ds[j] ∈ msOf k (ds.take j) ++ ds[j] :: ds.drop (j + 1) := List.mem_append_right _ List.mem_cons_self
      have hnm := hown.nums ds[j] hmem
      have hni := hown.numsIn ds[j] hmem
      have hst := fun w3 ys (b o : Nat) => Own.step (lo := lo) (hi := hi) (gb := gb) (w := wr) (w3 := w3) (b := b) (o := o) (A := msOf k (ds.take j)) (B := ds.drop (j + 1)) (d := ds[j]) (k := mkOf k (ds.take j)) (k' := mkOf k (ds.take j) + 1) (ys := ys)
      have hrow := hown.row
      rcases hrow with hrow | ⟨b, o, rfl, hb, _⟩
      · exfalso
        have := congrArg List.length hrow
        rw [flat_length PV.cells 3 PV.cells_length] at this; simp at this; omega
      have hst := fun w3 ys => hst w3 ys b o hown hb
      have h3 := hown.at3.2
      rw [hlen] at h3 hst
      have k0 := h3 0 (by omega)
      have k1 := h3 1 (by omega)
      have k2 := h3 2 (by omega)
      have Htk := Lib.hid htk
      have Hms := Lib.hid hms
      have Hst := Lib.hid hst
      have Hin := Lib.hid hin
      have Hni := Lib.hid hni
      have Hb := Lib.hid hb
      have Hk1 := Lib.hid hk1
      generalize mkOf k (ds.take j) = kj at *
      generalize ds[j] = p at *
      clear h hm hmem hown htk hms hlen hne hin hni hst hb h3 hk1
      obtain ⟨W, H, a', c', xs⟩ := p
      simp only [PV.cells, List.getElem?_cons_zero, List.getElem?_cons_succ, Nat.add_zero] at k0 k1 k2 hxl hkb
      obtain ⟨c0, f0⟩ := k0
      obtain ⟨c1, f1⟩ := k1
      obtain ⟨c2, f2⟩ := k2
      have hno : ¬ PV.own ⟨W, H, a', c', xs⟩ b := fun hq => (Hni.out hq.2).2.2 (hq.1.symm.trans Hb.out)
      go_wp2_with fail
      refine (markF (PV.own ⟨W, H, a', c', xs⟩) a' c' xs _ _ hxl (by omega) (by omega) ((hnm.setCell hno _).setCell hno _)).mono ?_
      rintro e w1 ⟨rfl, hw1, ho1⟩
      go_wp2
      go_roundw
      case rel =>
        have hstep := Hst.out w1 _ hw1 (by rw [marks_length]) ho1
        refine ⟨j + 1, by omega, by go_num, by rw [Htk.out], ?_, (((ho.setCell (by have := Hin.out; have := Hb.out; simp; omega) _).setCell (by have := Hin.out; have := Hb.out; simp; omega) _).trans (ho1.mono ?_))⟩
        · rw [Hms.out, List.append_assoc]; exact hstep
        · intro q _ hq
          have := Hni.out hq.2
          obtain ⟨rfl, _⟩ := hq
          exact ⟨this.1, this.2.1⟩
      case measure => simp [intOf]; omega
    · clear hm hk1
      go_wp2
      go_ret
      have e : j = ds.length := by omega
      subst e
      simp only [List.take_length, List.drop_length, List.append_nil] at hown
      exact ⟨by simp, hown, ho⟩
theorem heldPS (B : Nat) (a : Option Addr) (c : Nat) (ds : List PV) (k : Int) (w : World) (hn : ds.length ≤ 1048576) (hm : ∀ p ∈ ds, p.xs.length ≤ 1048576) (hk0 : 0 ≤ k) (hk1 : mkOf k ds ≤ 1125899906842624) (h : Pics (· < B) w a (msOf k ds)) :
    Calls Try.prog 43 #[.slice a ds.length c, .int .i64 k] w fun e w' => e = .returned (.int .i64 (mkOf k ds)) ∧ w' = w := by
  go_enter Try.func43, Try.ntmps43
  go_wp2
  go_loop [1, 5] (fun q i => ∃ (j : Nat), j ≤ ds.length ∧ i = .int .i64 j ∧ q = .int .i64 (mkOf k (ds.take j))) (fun _ i => ds.length - (intOf i).toNat)
  case atStart => exact ⟨0, Nat.zero_le _, rfl, rfl⟩
  case round =>
    obtain ⟨j, hj, rfl, rfl⟩ := hrel
    by_cases hlt : j < ds.length
    · obtain ⟨htk, hms, hlen, hcap, hkb⟩ := mark_facts k ds j hlt hm hk1
      have hxl : ds[j].xs.length ≤ 1048576 := hm _ (List.getElem_mem hlt)
      have hlt' : j < (msOf k ds).length := by rw [msOf_length]; exact hlt
      obtain ⟨b, o, rfl, hSb, h0, h1, h2⟩ := h.at j hlt'
      have hr := h.2 _ (List.getElem_mem hlt')
      have hat : (msOf k ds)[j] = ⟨mkOf k (ds.take j), mkOf k (ds.take j) + 1, ds[j].a, ds[j].c, marks (mkOf k (ds.take j) + 1 + 1) ds[j].xs.length⟩ := by
        have e : msOf k ds = msOf k (ds.take (j + 1)) ++ msOf (mkOf k (ds.take (j + 1))) (ds.drop (j + 1)) := by rw [← msOf_append, List.take_append_drop]
        have e2 : (msOf k ds)[j]? = some ⟨mkOf k (ds.take j), mkOf k (ds.take j) + 1, ds[j].a, ds[j].c, marks (mkOf k (ds.take j) + 1 + 1) ds[j].xs.length⟩ := by
          rw [e, hms, List.append_assoc, List.getElem?_append_right (by omega), hlen]; simp
        rw [List.getElem?_eq_getElem hlt'] at e2
        exact Option.some.inj e2
      rw [hat] at h0 h1 h2 hr
      simp only [marks_length] at h0 h1 h2 hr
      have Htk := Lib.hid htk
      clear h hm hk1 htk hms hlen hat hlt'
      generalize mkOf k (ds.take j) = kj at *
      generalize ds[j] = p at *
      obtain ⟨W, H, a', c', xs⟩ := p
      simp only at h2 hr hxl hkb
      have e0 : ((kj : Int) != kj) = false := by simp
      have e1 : ((kj + 1 : Int) != kj + 1) = false := by simp
      go_wp2_with (go_at_call 56; refine (heldF (· < B) _ _ _ _ _ hxl (by omega) (by omega) hr).mono ?_; rintro e w1 ⟨rfl, rfl⟩)
      go_round
      case rel => exact ⟨j + 1, by omega, by go_num, by rw [Htk.out]⟩
      case measure => simp [intOf]; omega
    · clear h hm hk1
      go_wp2
      go_ret
      have e : j = ds.length := by omega
      subst e
      exact ⟨by simp, rfl⟩
end Go.Proofs.Ytljkgemkolmihaa
