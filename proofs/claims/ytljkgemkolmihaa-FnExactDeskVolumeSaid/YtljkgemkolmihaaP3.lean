/- The laws' helpers on lists of pictures: sizes, equality. -/
import Derived.Test.YtljkgemkolmihaaP2
namespace Go.Proofs.Ytljkgemkolmihaa
open Go.RowKit

set_option maxHeartbeats 400000 in
theorem szPS (B : Nat) (a : Option Addr) (c : Nat) (ps : List PV) (l : Int) (w : World) (hn : ps.length ≤ maxLen) (hm : ∀ p ∈ ps, p.xs.length ≤ maxLen) (hl : l ≤ 1048576) (hl0 : 0 ≤ l) (h : Pics (· < B) w a ps) (hB : B ≤ w.heap.size) :
    Calls Try.prog 28 #[.slice a ps.length c, .int .i64 l] w fun e w' => ∃ r : Int, e = .returned (.int .i64 r) ∧ -1 ≤ r ∧ r ≤ l ∧ (0 ≤ r → ps.length ≤ l ∧ ∀ p ∈ ps, (p.xs.length : Int) ≤ l) ∧ Below B w w' := by
  unfold maxLen at hn
  by_cases hneg : l - (ps.length : Int) < 0
  · go_enter Try.func28, Try.ntmps28
    go_wp2
    go_ret
    exact ⟨-1, rfl, by omega, by omega, fun h => by omega, Below.refl _ _⟩
  · go_enter Try.func28, Try.ntmps28
    go_wp2
    go_loopw [1, 5] (fun q i wr => ∃ (j : Nat) (r : Int), j ≤ ps.length ∧ i = .int .i64 j ∧ q = .int .i64 r ∧ 0 ≤ r ∧ r ≤ l - ps.length ∧ (∀ p ∈ ps.take j, (p.xs.length : Int) ≤ l) ∧ Below B w wr) (fun _ i _ => ps.length - (intOf i).toNat)
    case atStart => exact ⟨0, l - ps.length, Nat.zero_le _, rfl, rfl, by omega, by omega, by simp, Below.refl _ _⟩
    case round =>
      obtain ⟨j, r, hj, rfl, rfl, hr0, hr1, hp, hb⟩ := hrel
      by_cases hlt : j < ps.length
      · obtain ⟨b, o, rfl, hSb, h0, h1, h2⟩ := (h.below hb).at j hlt
        have hxl : ps[j].xs.length ≤ maxLen := hm _ (List.getElem_mem hlt)
        have Hp := Lib.hid hp
        have Ht : ∀ q : PV, q ∈ ps.take (j + 1) → q ∈ ps.take j ∨ q = ps[j] := fun q hq => by
          rw [List.take_succ_eq_append_getElem hlt] at hq; simpa only [List.mem_append, List.mem_singleton] using hq
        have HT := Lib.hid Ht
        clear h hm hp Ht
        generalize hpj : ps[j] = p at *
        have Hpj := Lib.hid hpj
        clear hpj
        obtain ⟨W, H, a', c', xs⟩ := p
        simp only at h0 h1 h2 hxl
        by_cases hx : r - (xs.length : Int) < 0
        · go_wp2_with (go_at_call 7; refine (szP _ _ _ _ _ _ _ hxl (by omega) hr0).mono ?_; rintro e w1 ⟨rfl, hb1⟩)
          go_ret
          exact ⟨-1, rfl, by omega, by omega, fun h => by omega, hb.trans (hb1.mono (by have := hb.size; omega))⟩
        · go_wp2_with (go_at_call 7; refine (szP _ _ _ _ _ _ _ hxl (by omega) hr0).mono ?_; rintro e w1 ⟨rfl, hb1⟩)
          go_roundw
          case rel =>
            refine ⟨j + 1, r - xs.length, by omega, by go_num, by rw [if_neg (by omega)], by omega, by omega, ?_, hb.trans (hb1.mono (by have := hb.size; omega))⟩
            intro q hq
            rcases HT.out q hq with hq | rfl
            · exact Hp.out q hq
            · simp only; omega
          case measure => simp [intOf]; omega
      · clear h hm
        go_wp2
        go_ret
        have e : j = ps.length := by omega
        subst e
        rw [List.take_length] at hp
        exact ⟨r, rfl, by omega, by omega, fun _ => ⟨by omega, hp⟩, hb⟩
/-- the same data: sizes equal, numbers the same -/
def PEq (p q : PV) : Prop := p.W = q.W ∧ p.H = q.H ∧ p.xs.length = q.xs.length ∧ ∀ i (h1 : i < p.xs.length) (h2 : i < q.xs.length), FEq .f32 p.xs[i] q.xs[i]
theorem PEq.refl (p : PV) : PEq p p := ⟨rfl, rfl, rfl, fun _ _ _ => FEq.refl _ _⟩

set_option maxHeartbeats 400000 in
theorem eqPS (B : Nat) (a b : Option Addr) (c d : Nat) (ps qs : List PV) (w : World) (hn : ps.length ≤ 1048576) (hm : ∀ p ∈ ps, p.xs.length ≤ 1048576) (hl : ps.length = qs.length) (he : ∀ i (h1 : i < ps.length) (h2 : i < qs.length), PEq ps[i] qs[i])
    (ha : Pics (· < B) w a ps) (hb : Pics (· < B) w b qs) (hB : B ≤ w.heap.size) :
    Calls Try.prog 39 #[.slice a ps.length c, .slice b qs.length d] w fun e w' => e = .returned (.bool true) ∧ Below B w w' := by
  rw [← hl]
  have Hl := Lib.hid hl
  clear hl
  go_enter Try.func39, Try.ntmps39
  go_wp2
  go_loopw [5] (fun i wr => ∃ (j : Nat), j ≤ ps.length ∧ i = .int .i64 j ∧ Below B w wr) (fun i _ => ps.length - (intOf i).toNat)
  case atStart => exact ⟨0, Nat.zero_le _, rfl, Below.refl _ _⟩
  case round =>
    obtain ⟨j, hj, rfl, hbl⟩ := hrel
    by_cases hlt : j < ps.length
    · have hlt2 : j < qs.length := Hl.out ▸ hlt
      have hxl : ps[j].xs.length ≤ 1048576 := hm _ (List.getElem_mem hlt)
      have hA := ha.below hbl
      have hBb := hb.below hbl
      obtain ⟨b1, o1, rfl, hS1, h10, h11, h12⟩ := hA.at j hlt
      obtain ⟨b2, o2, rfl, hS2, h20, h21, h22⟩ := hBb.at j hlt2
      have hr1 := hA.2 _ (List.getElem_mem hlt)
      have hr2 := hBb.2 _ (List.getElem_mem hlt2)
      have hpq := Lib.hid (he j hlt hlt2)
      generalize ps[j] = p at *
      generalize qs[j] = q at *
      obtain ⟨W1, H1, a1, c1, xs⟩ := p
      obtain ⟨W2, H2, a2, c2, ys⟩ := q
      simp only at h10 h11 h12 h20 h21 h22 hr1 hr2 hxl
      have hr1d : Rd (· < B) wr.drew a1 (xs.map fl) := hr1
      have hr2d : Rd (· < B) wr.drew a2 (ys.map fl) := hr2
      clear ha hb he hm hA hBb hr1 hr2
      go_wp2_with fail
      go_region_with (go_at_call 13; refine (eqP _ _ _ _ (· < B) (· < B) _ _ _ _ _ _ _ hpq.out.1 hpq.out.2.1 hxl hpq.out.2.2.1 hpq.out.2.2.2 hr1d hr2d).mono ?_; rintro e w1 ⟨rfl, hb1⟩)
      all_goals go_wp2
      all_goals
        go_roundw
        case rel => exact ⟨j + 1, by omega, by go_num, hbl.drew.trans (hb1.mono (by have := hbl.size; simp; omega))⟩
        case measure => simp [intOf]; omega
    · clear ha hb he hm
      go_wp2
      go_ret
      exact ⟨rfl, hbl⟩
end Go.Proofs.Ytljkgemkolmihaa
