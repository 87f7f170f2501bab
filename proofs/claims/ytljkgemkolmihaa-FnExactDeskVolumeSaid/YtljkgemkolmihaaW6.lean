/- Right desks; the program's DeskVolume. -/
import Derived.Test.YtljkgemkolmihaaW5
namespace Go.Proofs.Ytljkgemkolmihaa
open Go.RowKit

def pvB (l r : PV) : Bool := pairB l.W l.H l.xs.length r.W r.H r.xs.length
def deskB (l r m : PV) : Bool := pvB l r && (picB m.W m.H m.xs.length && (decide (m.W = l.W) && decide (m.H = l.H)))

set_option maxRecDepth 100000 in
set_option maxHeartbeats 4000000 in
theorem validDesk_any (l r m : PV) (w : World) (h1 : l.xs.length ≤ maxLen) (h2 : r.xs.length ≤ maxLen) (h3 : m.xs.length ≤ maxLen) :
    Calls Try.prog 52 #[deskV l r m] w fun e w' => e = .returned (.bool (deskB l r m)) ∧ Below w.heap.size w w' := by
  obtain ⟨W1, H1, a1, c1, x1⟩ := l
  obtain ⟨W2, H2, a2, c2, x2⟩ := r
  obtain ⟨W3, H3, a3, c3, x3⟩ := m
  simp only at h1 h2 h3
  obtain ⟨x0, hx0⟩ : ∃ x0, x0 = w.alloc (.cells #[.int .i64 W1, .int .i64 H1, .slice a1 x1.length c1, .int .i64 W2, .int .i64 H2, .slice a2 x2.length c2, .int .i64 W3, .int .i64 H3, .slice a3 x3.length c3] 57) := ⟨_, rfl⟩
  have D0 : Hid (DeskAt x0 w.heap.size ⟨W1, H1, a1, c1, x1⟩ ⟨W2, H2, a2, c2, x2⟩ ⟨W3, H3, a3, c3, x3⟩) := Lib.hid (by rw [hx0]; simp [DeskAt, go_sem])
  have HB0 : Hid (Below w.heap.size w x0) := Lib.hid (by rw [hx0]; exact (Below.refl _ _).alloc (Nat.le_refl _) _)
  have Hs0 : Hid (x0.heap.size = w.heap.size + 1) := Lib.hid (by rw [hx0]; simp)
  simp only [deskV]
  cases p1 : pairB W1 H1 x1.length W2 H2 x2.length
  · have Hr := Lib.hid (show deskB ⟨W1, H1, a1, c1, x1⟩ ⟨W2, H2, a2, c2, x2⟩ ⟨W3, H3, a3, c3, x3⟩ = false by simp [deskB, pvB, p1])
    have P1 := Lib.hid p1
    clear p1
    go_enter Try.func52, Try.ntmps52
    go_wp2_with fail
    rw [← hx0]
    have Hx0 := Lib.hid hx0
    clear hx0
    refine (pairOk_is W1 H1 W2 H2 a1 a2 x1.length x2.length c1 c2 h1 h2 P1 _).mono ?_
    rintro e w1 ⟨rfl, hb1⟩
    have Hb1 := Lib.hid (HB0.out.trans (hb1.mono (by rw [Hs0.out]; omega)))
    clear hb1
    go_wp2_with fail
    go_ret
    exact ⟨by rw [Hr.out]; rfl, Hb1.out⟩
  · cases p2 : picB W3 H3 x3.length
    all_goals
      have Hr := Lib.hid (show deskB ⟨W1, H1, a1, c1, x1⟩ ⟨W2, H2, a2, c2, x2⟩ ⟨W3, H3, a3, c3, x3⟩ = (picB W3 H3 x3.length && (decide (W3 = W1) && decide (H3 = H1))) by simp [deskB, pvB, p1])
      have P1 := Lib.hid p1
      have P2 := Lib.hid p2
      clear p1 p2
      go_enter Try.func52, Try.ntmps52
      go_wp2_with fail
      rw [← hx0]
      have Hx0 := Lib.hid hx0
      clear hx0
      refine (pairOk_is W1 H1 W2 H2 a1 a2 x1.length x2.length c1 c2 h1 h2 P1 _).mono ?_
      rintro e w1 ⟨rfl, hb1⟩
      have hz1 := hb1.size
      rw [Hs0.out] at hz1
      have D1 := Lib.hid (D0.out.below hb1 (by rw [Hs0.out]; omega))
      have Hb1 := Lib.hid (HB0.out.trans (hb1.mono (by rw [Hs0.out]; omega)))
      have k6 := D1.out.2.2.2.2.2.2.1
      have k7 := D1.out.2.2.2.2.2.2.2.1
      have k8 := D1.out.2.2.2.2.2.2.2.2
      simp only at k6 k7 k8
      clear hb1
      go_wp2_with fail
      refine (validMap_is W3 H3 a3 x3.length c3 h3 P2 _).mono ?_
      rintro e w2 ⟨rfl, hb2⟩
      have D2 := Lib.hid (D1.out.below hb2 (by omega))
      have Hb2 := Lib.hid (Hb1.out.trans (hb2.mono (by omega)))
      have j0 := D2.out.1
      have j1 := D2.out.2.1
      have j6 := D2.out.2.2.2.2.2.2.1
      have j7 := D2.out.2.2.2.2.2.2.2.1
      simp only at j0 j1 j6 j7
      clear hb2 k6 k7 k8
      go_wp2_with fail
      all_goals go_ret
      all_goals exact ⟨ret_bool (by rw [Hr.out, P2.out]; simp_all <;> rfl), Hb2.out⟩

theorem validDesk_is {b : Bool} (l r m : PV) (w : World) (h1 : l.xs.length ≤ maxLen) (h2 : r.xs.length ≤ maxLen) (h3 : m.xs.length ≤ maxLen) (hb : Hid (deskB l r m = b)) :
    Calls Try.prog 52 #[deskV l r m] w fun e w' => e = .returned (.bool b) ∧ Below w.heap.size w w' := by
  rw [← hb.out]; exact validDesk_any l r m w h1 h2 h3
/-- the costs of two pictures -/
def sqF (l r : PV) (D : Int) : Nat → Nat := at3 l.W.toNat D.toNat (sqC l.W l.H l.xs r.xs)

set_option maxRecDepth 100000 in
set_option maxHeartbeats 4000000 in
theorem deskVolume_any (l r m : PV) (D : Int) (w : World) (h1 : l.xs.length ≤ maxLen) (h2 : r.xs.length ≤ maxLen) (h3 : m.xs.length ≤ maxLen) (r1 : Rd (· < w.heap.size) w l.a (l.xs.map fl)) (r2 : Rd (· < w.heap.size) w r.a (r.xs.map fl)) :
    Calls Try.prog 22 #[deskV l r m, .int .i64 D] w (VolRes (deskB l r m && inB D 1 8) l.W l.H D (sqF l r D) w) := by
  obtain ⟨W1, H1, a1, c1, x1⟩ := l
  obtain ⟨W2, H2, a2, c2, x2⟩ := r
  obtain ⟨W3, H3, a3, c3, x3⟩ := m
  simp only at h1 h2 h3 r1 r2
  obtain ⟨x0, hx0⟩ : ∃ x0, x0 = (w.alloc (.cells #[.int .i64 W1, .int .i64 H1, .slice a1 x1.length c1, .int .i64 W2, .int .i64 H2, .slice a2 x2.length c2, .int .i64 W3, .int .i64 H3, .slice a3 x3.length c3] 57)).alloc (.cells #[.int .i64 0, .int .i64 0, .int .i64 0, .slice none 0 0] 52) := ⟨_, rfl⟩
  have D0 : Hid (DeskAt x0 w.heap.size ⟨W1, H1, a1, c1, x1⟩ ⟨W2, H2, a2, c2, x2⟩ ⟨W3, H3, a3, c3, x3⟩) := Lib.hid (by rw [hx0]; simp [DeskAt, go_sem])
  have HB0 : Hid (Below w.heap.size w x0) := Lib.hid (by rw [hx0]; exact ((Below.refl _ _).alloc (Nat.le_refl _) _).alloc (by simp) _)
  have Hs0 : Hid (x0.heap.size = w.heap.size + 2) := Lib.hid (by rw [hx0]; simp)
  have R0 : Hid (x0.heap[w.heap.size + 1]? = some (.cells #[.int .i64 0, .int .i64 0, .int .i64 0, .slice none 0 0] 52 (0, 0))) := Lib.hid (by
    rw [hx0]
    have := heap_alloc_new (w.alloc (.cells #[.int .i64 W1, .int .i64 H1, .slice a1 x1.length c1, .int .i64 W2, .int .i64 H2, .slice a2 x2.length c2, .int .i64 W3, .int .i64 H3, .slice a3 x3.length c3] 57)) (.cells #[.int .i64 0, .int .i64 0, .int .i64 0, .slice none 0 0] 52)
    simpa using this)
  have S1 := Lib.hid r1
  have S2 := Lib.hid r2
  clear r1 r2
  have no : ∀ (x : World), Below x0.heap.size x0 x → Hid (x.cell? ⟨w.heap.size + 1, 0, none⟩ = some (.int .i64 0) ∧ x.cell? ⟨w.heap.size + 1, 1, none⟩ = some (.int .i64 0) ∧ x.cell? ⟨w.heap.size + 1, 2, none⟩ = some (.int .i64 0) ∧ x.cell? ⟨w.heap.size + 1, 3, none⟩ = some (.slice none 0 0) ∧ ∀ i, x.frozen? ⟨w.heap.size + 1, i, none⟩ = false) := fun x hb => Lib.hid (by
    have h := blk_keep hb R0.out (by rw [Hs0.out]; omega)
    exact ⟨by rw [cell_blk h]; rfl, by rw [cell_blk h]; rfl, by rw [cell_blk h]; rfl, by rw [cell_blk h]; rfl, fun i => frozen_blk h i⟩)
  have HNo := Lib.hid no
  clear no
  simp only [deskV]
  cases p1 : deskB ⟨W1, H1, a1, c1, x1⟩ ⟨W2, H2, a2, c2, x2⟩ ⟨W3, H3, a3, c3, x3⟩
  · have P1 := Lib.hid p1
    clear p1
    go_enter Try.func22, Try.ntmps22
    go_wp2_with fail
    rw [← hx0]
    have Hx0 := Lib.hid hx0
    clear hx0
    refine (validDesk_is ⟨W1, H1, a1, c1, x1⟩ ⟨W2, H2, a2, c2, x2⟩ ⟨W3, H3, a3, c3, x3⟩ x0 h1 h2 h3 P1).mono ?_
    rintro e w1 ⟨rfl, hb1⟩
    obtain ⟨u0, u1, u2, u3, fz⟩ := (HNo.out w1 hb1).out
    have g0 := fz 0
    have g1 := fz 1
    have g2 := fz 2
    have g3 := fz 3
    have Hb1 := Lib.hid (HB0.out.trans (hb1.mono (by rw [Hs0.out]; omega)))
    clear hb1 fz
    go_wp2_with fail
    refine bodyPost_ret (v := .tuple #[.agg #[.int .i64 0, .int .i64 0, .int .i64 0, .slice none 0 0], .bool false]) (by simp [results, Try.results22, go_sem, u0, u1, u2, u3]) rfl (Or.inl ⟨rfl, rfl, ?_⟩)
    exact ((((Hb1.out.setCell (p := ⟨w.heap.size + 1, 0, none⟩) (by simp) _).setCell (p := ⟨w.heap.size + 1, 1, none⟩) (by simp) _).setCell (p := ⟨w.heap.size + 1, 2, none⟩) (by simp) _).setCell (p := ⟨w.heap.size + 1, 3, none⟩) (by simp) _)
  · have P1 := Lib.hid p1
    have Pp : Hid (pairB W1 H1 x1.length W2 H2 x2.length = true) := Lib.hid (by simp [deskB, pvB] at p1; exact p1.1)
    clear p1
    generalize hok : inB D 1 8 = ok
    have Hok := Lib.hid hok
    clear hok
    go_enter Try.func22, Try.ntmps22
    go_wp2_with fail
    rw [← hx0]
    have Hx0 := Lib.hid hx0
    clear hx0
    refine (validDesk_is ⟨W1, H1, a1, c1, x1⟩ ⟨W2, H2, a2, c2, x2⟩ ⟨W3, H3, a3, c3, x3⟩ x0 h1 h2 h3 P1).mono ?_
    rintro e w1 ⟨rfl, hb1⟩
    have D1 := Lib.hid (D0.out.below hb1 (by rw [Hs0.out]; omega))
    have k0 := D1.out.1
    have k1 := D1.out.2.1
    have k2 := D1.out.2.2.1
    have k3 := D1.out.2.2.2.1
    have k4 := D1.out.2.2.2.2.1
    have k5 := D1.out.2.2.2.2.2.1
    simp only at k0 k1 k2 k3 k4 k5
    have hz1 := hb1.size
    rw [Hs0.out] at hz1
    have Hc1 := Lib.hid hb1
    have Hb1 := Lib.hid (HB0.out.trans (hb1.mono (by rw [Hs0.out]; omega)))
    clear hb1
    go_wp2_with fail
    refine (square_any W1 H1 W2 H2 D a1 a2 c1 c2 x1 x2 h1 h2 w1 ((S1.out.below Hb1.out).mono (fun k hk => by omega)) ((S2.out.below Hb1.out).mono (fun k hk => by omega))).mono ?_
    rw [Pp.out, Hok.out]
    rintro e w2 (⟨rfl, rfl, hb2⟩ | ⟨rfl, a, c, zs, rfl, hfl, hw2, hb2⟩)
    all_goals
      obtain ⟨u0, u1, u2, u3, fz⟩ := (HNo.out w2 (Hc1.out.trans (hb2.mono Hc1.out.size))).out
      have g0 := fz 0
      have g1 := fz 1
      have g2 := fz 2
      have g3 := fz 3
      have Hb2 := Lib.hid (Hb1.out.trans (hb2.mono (by omega)))
      have hz2 := hb2.size
      clear hb2 fz k0 k1 k2 k3 k4 k5
    · go_wp2_with fail
      refine bodyPost_ret (v := .tuple #[.agg #[.int .i64 0, .int .i64 0, .int .i64 0, .slice none 0 0], .bool false]) (by simp [results, Try.results22, go_sem, u0, u1, u2, u3]) rfl (Or.inl ⟨rfl, rfl, ?_⟩)
      exact ((((Hb2.out.setCell (p := ⟨w.heap.size + 1, 0, none⟩) (by simp) _).setCell (p := ⟨w.heap.size + 1, 1, none⟩) (by simp) _).setCell (p := ⟨w.heap.size + 1, 2, none⟩) (by simp) _).setCell (p := ⟨w.heap.size + 1, 3, none⟩) (by simp) _)
    · have Hfl := Lib.hid hfl
      have Hw1 := Lib.hid hw2
      clear hfl hw2
      go_wp2_with fail
      refine bodyPost_ret (v := .tuple #[.agg #[.int .i64 W1, .int .i64 H1, .int .i64 D, .slice a zs.length c], .bool true]) (by simp [results, Try.results22, go_sem, u0, u1, u2, u3]) rfl (Or.inr ⟨rfl, a, c, zs, rfl, Hfl.out, ?_, ?_⟩)
      · have h2 := (((Hw1.out.setCell (p := ⟨w.heap.size + 1, 0, none⟩) (by simp <;> omega) (.int .i64 W1)).setCell (p := ⟨w.heap.size + 1, 1, none⟩) (by simp <;> omega) (.int .i64 H1)).setCell (p := ⟨w.heap.size + 1, 2, none⟩) (by simp <;> omega) (.int .i64 D)).setCell (p := ⟨w.heap.size + 1, 3, none⟩) (by simp <;> omega) (.slice a zs.length c)
        exact h2.mono (fun k hk => by simp [World.setCell] at hk ⊢; omega)
      · exact ((((Hb2.out.setCell (p := ⟨w.heap.size + 1, 0, none⟩) (by simp) _).setCell (p := ⟨w.heap.size + 1, 1, none⟩) (by simp) _).setCell (p := ⟨w.heap.size + 1, 2, none⟩) (by simp) _).setCell (p := ⟨w.heap.size + 1, 3, none⟩) (by simp) _)
end Go.Proofs.Ytljkgemkolmihaa
