/- Pairs of pictures; volumes of pairs; right maps and desks. -/
import Derived.Test.YtljkgemkolmihaaW3
namespace Go.Proofs.Ytljkgemkolmihaa
open Go.RowKit

def pairB (W1 H1 : Int) (n1 : Nat) (W2 H2 : Int) (n2 : Nat) : Bool := picB W1 H1 n1 && (picB W2 H2 n2 && (decide (W1 = W2) && decide (H1 = H2)))
theorem pairB_iff {W1 H1 W2 H2 : Int} {n1 n2 : Nat} : pairB W1 H1 n1 W2 H2 n2 = true ↔ picB W1 H1 n1 = true ∧ picB W2 H2 n2 = true ∧ W1 = W2 ∧ H1 = H2 := by simp [pairB]
theorem valid_is {r : Bool} (W H : Int) (a : Option Addr) (n c : Nat) (hn : n ≤ maxLen) (hr : Hid (picB W H n = r)) (w : World) :
    Calls Try.prog 61 #[.agg #[.int .i64 W, .int .i64 H, .slice a n c]] w fun e w' => e = .returned (.bool r) ∧ Below w.heap.size w w' := by
  rw [← hr.out]; exact valid_any W H a n c hn w

set_option maxRecDepth 100000 in
set_option maxHeartbeats 4000000 in
theorem pairOk_any (W1 H1 W2 H2 : Int) (a1 a2 : Option Addr) (n1 n2 c1 c2 : Nat) (hn1 : n1 ≤ maxLen) (hn2 : n2 ≤ maxLen) (w : World) :
    Calls Try.prog 71 #[.agg #[.int .i64 W1, .int .i64 H1, .slice a1 n1 c1], .agg #[.int .i64 W2, .int .i64 H2, .slice a2 n2 c2]] w fun e w' => e = .returned (.bool (pairB W1 H1 n1 W2 H2 n2)) ∧ Below w.heap.size w w' := by
  have hB0 : Below w.heap.size w ((w.alloc (.cells #[.int .i64 W1, .int .i64 H1, .slice a1 n1 c1] 36)).alloc (.cells #[.int .i64 W2, .int .i64 H2, .slice a2 n2 c2] 36)) := ((Below.refl _ _).alloc (Nat.le_refl _) _).alloc (by simp) _
  have HB0 := Lib.hid hB0
  clear hB0
  cases h1 : picB W1 H1 n1
  · have Hr := Lib.hid (show pairB W1 H1 n1 W2 H2 n2 = false by simp [pairB, h1])
    have P1 := Lib.hid h1
    clear h1
    go_enter Try.func71, Try.ntmps71
    go_wp2_with fail
    refine (valid_is W1 H1 a1 n1 c1 hn1 P1 _).mono ?_
    rintro e w1 ⟨rfl, hb1⟩
    have Hb1 := Lib.hid (HB0.out.trans (hb1.mono (by simp; omega)))
    clear hb1
    go_wp2_with fail
    go_ret
    exact ⟨by rw [Hr.out]; rfl, Hb1.out⟩
  · cases h2 : picB W2 H2 n2
    · have Hr := Lib.hid (show pairB W1 H1 n1 W2 H2 n2 = false by simp [pairB, h2])
      have P1 := Lib.hid h1
      have P2 := Lib.hid h2
      clear h1 h2
      go_enter Try.func71, Try.ntmps71
      go_wp2_with fail
      refine (valid_is W1 H1 a1 n1 c1 hn1 P1 _).mono ?_
      rintro e w1 ⟨rfl, hb1⟩
      obtain ⟨cB, fB⟩ := bcell hb1
      have k0 : w1.cell? ⟨w.heap.size + 1, 0, none⟩ = some (.int .i64 W2) := by rw [cB _ _ (by simp)]; simp [go_sem]
      have k1 : w1.cell? ⟨w.heap.size + 1, 1, none⟩ = some (.int .i64 H2) := by rw [cB _ _ (by simp)]; simp [go_sem]
      have k2 : w1.cell? ⟨w.heap.size + 1, 2, none⟩ = some (.slice a2 n2 c2) := by rw [cB _ _ (by simp)]; simp [go_sem]
      have hz1 := hb1.size
      simp only [World.size_alloc] at hz1
      have Hb1 := Lib.hid (HB0.out.trans (hb1.mono (by simp; omega)))
      clear hb1 cB fB
      go_wp2_with fail
      refine (valid_is W2 H2 a2 n2 c2 hn2 P2 _).mono ?_
      rintro e w2 ⟨rfl, hb2⟩
      have Hb2 := Lib.hid (Hb1.out.trans (hb2.mono (by omega)))
      clear hb2
      go_wp2_with fail
      go_ret
      exact ⟨by rw [Hr.out]; rfl, Hb2.out⟩
    · have Hr := Lib.hid (show pairB W1 H1 n1 W2 H2 n2 = (decide (W1 = W2) && decide (H1 = H2)) by simp [pairB, h1, h2])
      have P1 := Lib.hid h1
      have P2 := Lib.hid h2
      clear h1 h2
      go_enter Try.func71, Try.ntmps71
      go_wp2_with fail
      refine (valid_is W1 H1 a1 n1 c1 hn1 P1 _).mono ?_
      rintro e w1 ⟨rfl, hb1⟩
      obtain ⟨cB, fB⟩ := bcell hb1
      have k0 : w1.cell? ⟨w.heap.size + 1, 0, none⟩ = some (.int .i64 W2) := by rw [cB _ _ (by simp)]; simp [go_sem]
      have k1 : w1.cell? ⟨w.heap.size + 1, 1, none⟩ = some (.int .i64 H2) := by rw [cB _ _ (by simp)]; simp [go_sem]
      have k2 : w1.cell? ⟨w.heap.size + 1, 2, none⟩ = some (.slice a2 n2 c2) := by rw [cB _ _ (by simp)]; simp [go_sem]
      have m0 : w1.cell? ⟨w.heap.size, 0, none⟩ = some (.int .i64 W1) := by rw [cB _ _ (by simp; omega)]; simp [go_sem]
      have m1 : w1.cell? ⟨w.heap.size, 1, none⟩ = some (.int .i64 H1) := by rw [cB _ _ (by simp; omega)]; simp [go_sem]
      have hz1 := hb1.size
      simp only [World.size_alloc] at hz1
      have Hb1 := Lib.hid (HB0.out.trans (hb1.mono (by simp; omega)))
      clear hb1 cB fB
      go_wp2_with fail
      refine (valid_is W2 H2 a2 n2 c2 hn2 P2 _).mono ?_
      rintro e w2 ⟨rfl, hb2⟩
      obtain ⟨cB, fB⟩ := bcell hb2
      have k0' : w2.cell? ⟨w.heap.size + 1, 0, none⟩ = some (.int .i64 W2) := by rw [cB _ _ (by omega)]; exact k0
      have k1' : w2.cell? ⟨w.heap.size + 1, 1, none⟩ = some (.int .i64 H2) := by rw [cB _ _ (by omega)]; exact k1
      have m0' : w2.cell? ⟨w.heap.size, 0, none⟩ = some (.int .i64 W1) := by rw [cB _ _ (by omega)]; exact m0
      have m1' : w2.cell? ⟨w.heap.size, 1, none⟩ = some (.int .i64 H1) := by rw [cB _ _ (by omega)]; exact m1
      have Hb2 := Lib.hid (Hb1.out.trans (hb2.mono (by omega)))
      clear hb2 cB fB k0 k1 k2 m0 m1
      go_wp2_with fail
      all_goals go_ret
      all_goals exact ⟨ret_bool (by rw [Hr.out]; simp_all; try rfl), Hb2.out⟩

theorem Gives3.later {g : Nat} {lb : Array Value} {W H D : Nat} {F : Nat → Nat} {w w' : World} (h : Gives3 g lb W H D F w) (hb : Below w.heap.size w w') : Gives3 g lb W H D F w' :=
  fun x y d w1 hx hy hd hb1 => h x y d w1 hx hy hd (hb.trans (hb1.mono hb.size))
/-- what a function that makes a volume hands back -/
def VolRes (ok : Bool) (W H D : Int) (F : Nat → Nat) (w : World) (e : Ending) (w' : World) : Prop :=
  (ok = false ∧ e = .returned (.tuple #[.agg #[.int .i64 0, .int .i64 0, .int .i64 0, .slice none 0 0], .bool false]) ∧ Below w.heap.size w w') ∨
  (ok = true ∧ ∃ a c xs, e = .returned (.tuple #[.agg #[.int .i64 W, .int .i64 H, .int .i64 D, .slice a xs.length c], .bool true]) ∧ FLs xs (lin (H.toNat * W.toNat * D.toNat) F) ∧ Wr (fun b => w.heap.size ≤ b ∧ b < w'.heap.size) w' a (xs.map fl) ∧ Below w.heap.size w w')
theorem nat_of {W H : Int} {n : Nat} (h : picB W H n = true) : ∃ Wn Hn : Nat, W = Wn ∧ H = Hn ∧ 1 ≤ Wn ∧ Wn ≤ 24 ∧ 1 ≤ Hn ∧ Hn ≤ 24 ∧ n = Wn * Hn := by
  unfold picB at h
  rw [Bool.and_eq_true] at h
  obtain ⟨a, b, c, d, _⟩ := sizeB_iff.1 h.1
  have h2 : (n : Int) = W * H := by simpa using h.2
  refine ⟨W.toNat, H.toNat, by omega, by omega, by omega, by omega, by omega, by omega, ?_⟩
  have e1 : W = (W.toNat : Int) := by omega
  have e2 : H = (H.toNat : Int) := by omega
  rw [e1, e2] at h2
  exact_mod_cast h2
theorem in_is {r : Bool} (n lo hi : Int) (hr : Hid (inB n lo hi = r)) (w : World) :
    Calls Try.prog 67 #[.int .i64 n, .int .i64 lo, .int .i64 hi] w fun e w' => e = .returned (.bool r) ∧ w = w' := by
  rw [← hr.out]; exact in_any n lo hi w
theorem pairOk_is {r : Bool} (W1 H1 W2 H2 : Int) (a1 a2 : Option Addr) (n1 n2 c1 c2 : Nat) (hn1 : n1 ≤ maxLen) (hn2 : n2 ≤ maxLen) (hr : Hid (pairB W1 H1 n1 W2 H2 n2 = r)) (w : World) :
    Calls Try.prog 71 #[.agg #[.int .i64 W1, .int .i64 H1, .slice a1 n1 c1], .agg #[.int .i64 W2, .int .i64 H2, .slice a2 n2 c2]] w fun e w' => e = .returned (.bool r) ∧ Below w.heap.size w w' := by
  rw [← hr.out]; exact pairOk_any W1 H1 W2 H2 a1 a2 n1 n2 c1 c2 hn1 hn2 w

set_option maxRecDepth 100000 in
set_option maxHeartbeats 4000000 in
theorem pairVolume_any (g : Nat) (lb : Array Value) (eg : ∀ args w, (callFunc g args).run Try.prog w = .ok (.enter g args) w) (W1 H1 W2 H2 D : Int) (a1 a2 : Option Addr) (n1 n2 c1 c2 : Nat) (hn1 : n1 ≤ maxLen) (hn2 : n2 ≤ maxLen) (F : Nat → Nat) (w : World)
    (hg : (pairB W1 H1 n1 W2 H2 n2 && inB D 1 8) = true → Gives3 g lb W1.toNat H1.toNat D.toNat F w) :
    Calls Try.prog 73 #[.agg #[.int .i64 W1, .int .i64 H1, .slice a1 n1 c1], .agg #[.int .i64 W2, .int .i64 H2, .slice a2 n2 c2], .int .i64 D, .func (.func g) #[] lb] w (VolRes (pairB W1 H1 n1 W2 H2 n2 && inB D 1 8) W1 H1 D F w) := by
  obtain ⟨x0, hx0⟩ : ∃ x0, x0 = ((w.alloc (.cells #[.int .i64 W1, .int .i64 H1, .slice a1 n1 c1] 36)).alloc (.cells #[.int .i64 W2, .int .i64 H2, .slice a2 n2 c2] 36)).alloc (.cells #[.int .i64 0, .int .i64 0, .int .i64 0, .slice none 0 0] 52) := ⟨_, rfl⟩
  have hB0 : Below w.heap.size w x0 := by rw [hx0]; exact (((Below.refl _ _).alloc (Nat.le_refl _) _).alloc (by simp) _).alloc (by simp; omega) _
  have hs0 : x0.heap.size = w.heap.size + 3 := by rw [hx0]; simp
  have m0 : x0.cell? ⟨w.heap.size, 0, none⟩ = some (.int .i64 W1) := by rw [hx0]; simp [go_sem]
  have m1 : x0.cell? ⟨w.heap.size, 1, none⟩ = some (.int .i64 H1) := by rw [hx0]; simp [go_sem]
  have r0 : x0.heap[w.heap.size + 2]? = some (.cells #[.int .i64 0, .int .i64 0, .int .i64 0, .slice none 0 0] 52 (0, 0)) := by
    rw [hx0]
    have := heap_alloc_new ((w.alloc (.cells #[.int .i64 W1, .int .i64 H1, .slice a1 n1 c1] 36)).alloc (.cells #[.int .i64 W2, .int .i64 H2, .slice a2 n2 c2] 36)) (.cells #[.int .i64 0, .int .i64 0, .int .i64 0, .slice none 0 0] 52)
    simpa using this
  have HB0 := Lib.hid hB0
  have Hs0 := Lib.hid hs0
  have M0 := Lib.hid m0
  have M1 := Lib.hid m1
  have R0 := Lib.hid r0
  have Hg := Lib.hid hg
  clear hB0 hs0 m0 m1 r0 hg
  -- the ways to 'no' all end alike
  have no : ∀ (x : World), Below x0.heap.size x0 x → Hid (x.cell? ⟨w.heap.size + 2, 0, none⟩ = some (.int .i64 0) ∧ x.cell? ⟨w.heap.size + 2, 1, none⟩ = some (.int .i64 0) ∧ x.cell? ⟨w.heap.size + 2, 2, none⟩ = some (.int .i64 0) ∧ x.cell? ⟨w.heap.size + 2, 3, none⟩ = some (.slice none 0 0) ∧ ∀ i, x.frozen? ⟨w.heap.size + 2, i, none⟩ = false) := fun x hb => Lib.hid (by
    have h := blk_keep hb R0.out (by rw [Hs0.out]; omega)
    exact ⟨by rw [cell_blk h]; rfl, by rw [cell_blk h]; rfl, by rw [cell_blk h]; rfl, by rw [cell_blk h]; rfl, fun i => frozen_blk h i⟩)
  have HNo := Lib.hid no
  clear no
  cases h1 : pairB W1 H1 n1 W2 H2 n2
  · have P1 := Lib.hid h1
    clear h1
    go_enter Try.func73, Try.ntmps73
    go_wp2_with fail
    rw [← hx0]
    have Hx0 := Lib.hid hx0
    clear hx0
    refine (pairOk_is W1 H1 W2 H2 a1 a2 n1 n2 c1 c2 hn1 hn2 P1 _).mono ?_
    rintro e w1 ⟨rfl, hb1⟩
    obtain ⟨u0, u1, u2, u3, fz⟩ := (HNo.out w1 hb1).out
    have g0 := fz 0
    have g1 := fz 1
    have g2 := fz 2
    have g3 := fz 3
    have Hb1 := Lib.hid (HB0.out.trans (hb1.mono (by rw [Hs0.out]; omega)))
    clear hb1 fz
    go_wp2_with fail
    refine bodyPost_ret (v := .tuple #[.agg #[.int .i64 0, .int .i64 0, .int .i64 0, .slice none 0 0], .bool false]) (by simp [results, Try.results73, go_sem, u0, u1, u2, u3]) rfl (Or.inl ⟨rfl, rfl, ?_⟩)
    exact ((((Hb1.out.setCell (p := ⟨w.heap.size + 2, 0, none⟩) (by simp) _).setCell (p := ⟨w.heap.size + 2, 1, none⟩) (by simp) _).setCell (p := ⟨w.heap.size + 2, 2, none⟩) (by simp) _).setCell (p := ⟨w.heap.size + 2, 3, none⟩) (by simp) _)
  · cases h2 : inB D 1 8
    · have P1 := Lib.hid h1
      have P2 := Lib.hid h2
      clear h1 h2
      go_enter Try.func73, Try.ntmps73
      go_wp2_with fail
      rw [← hx0]
      have Hx0 := Lib.hid hx0
      clear hx0
      refine (pairOk_is W1 H1 W2 H2 a1 a2 n1 n2 c1 c2 hn1 hn2 P1 _).mono ?_
      rintro e w1 ⟨rfl, hb1⟩
      obtain ⟨u0, u1, u2, u3, fz⟩ := (HNo.out w1 hb1).out
      have g0 := fz 0
      have g1 := fz 1
      have g2 := fz 2
      have g3 := fz 3
      have Hb1 := Lib.hid (HB0.out.trans (hb1.mono (by rw [Hs0.out]; omega)))
      clear hb1 fz
      go_wp2_with (go_at_call 67; refine (in_is D 1 8 P2 _).mono ?_; rintro e w' ⟨rfl, rfl⟩)
      refine bodyPost_ret (v := .tuple #[.agg #[.int .i64 0, .int .i64 0, .int .i64 0, .slice none 0 0], .bool false]) (by simp [results, Try.results73, go_sem, u0, u1, u2, u3]) rfl (Or.inl ⟨rfl, rfl, ?_⟩)
      exact ((((Hb1.out.setCell (p := ⟨w.heap.size + 2, 0, none⟩) (by simp) _).setCell (p := ⟨w.heap.size + 2, 1, none⟩) (by simp) _).setCell (p := ⟨w.heap.size + 2, 2, none⟩) (by simp) _).setCell (p := ⟨w.heap.size + 2, 3, none⟩) (by simp) _)
    · obtain ⟨Wn, Hn, eW, eH, w1, w2, w3, w4, eN⟩ := nat_of (pairB_iff.1 h1).1
      clear eN
      have hD := inB_iff.1 h2
      obtain ⟨Dn, eD⟩ : ∃ Dn : Nat, D = Dn := ⟨D.toNat, by omega⟩
      have Hgv := Lib.hid (Hg.out (by rw [h1, h2]; rfl))
      have P1 := Lib.hid h1
      have P2 := Lib.hid h2
      clear h1 h2
      subst eW eH eD
      have hgv : Gives3 g lb Wn Hn Dn F w := by have := Hgv.out; simpa using this
      have HGV := Lib.hid hgv
      clear hgv Hgv
      go_enter Try.func73, Try.ntmps73
      go_wp2_with fail
      rw [← hx0]
      have Hx0 := Lib.hid hx0
      clear hx0
      refine (pairOk_is _ _ W2 H2 a1 a2 n1 n2 c1 c2 hn1 hn2 P1 _).mono ?_
      rintro e w1 ⟨rfl, hb1⟩
      obtain ⟨cB, fB⟩ := bcell hb1
      have k0 : w1.cell? ⟨w.heap.size, 0, none⟩ = some (.int .i64 Wn) := by rw [cB _ _ (by rw [Hs0.out]; omega)]; exact M0.out
      have k1 : w1.cell? ⟨w.heap.size, 1, none⟩ = some (.int .i64 Hn) := by rw [cB _ _ (by rw [Hs0.out]; omega)]; exact M1.out
      have Hc1 := Lib.hid hb1
      have hz1 := hb1.size
      rw [Hs0.out] at hz1
      have Hb1 := Lib.hid (HB0.out.trans (hb1.mono (by rw [Hs0.out]; omega)))
      clear hb1 cB fB
      go_wp2_with (go_at_call 67; refine (in_is _ 1 8 P2 _).mono ?_; rintro e w' ⟨rfl, rfl⟩)
      refine (volumeOf_any g lb eg Wn Hn Dn F w2 w4 (by omega) _ (HGV.out.later Hb1.out)).mono ?_
      rintro e w2 ⟨a, c, xs, rfl, hfl, hw2, hb2⟩
      obtain ⟨u0, u1, u2, u3, fz⟩ := (HNo.out w2 (Hc1.out.trans (hb2.mono Hc1.out.size))).out
      have g0 := fz 0
      have g1 := fz 1
      have g2 := fz 2
      have g3 := fz 3
      have Hfl := Lib.hid hfl
      have Hw2 := Lib.hid hw2
      have Hb2 := Lib.hid (Hb1.out.trans (hb2.mono (by omega)))
      have hz2 := hb2.size
      clear hb2 fz hfl hw2
      go_wp2_with fail
      refine bodyPost_ret (v := .tuple #[.agg #[.int .i64 Wn, .int .i64 Hn, .int .i64 Dn, .slice a xs.length c], .bool true]) (by simp [results, Try.results73, go_sem, u0, u1, u2, u3]) rfl (Or.inr ⟨rfl, a, c, xs, rfl, by simpa using Hfl.out, ?_, ?_⟩)
      · have h2 := (((Hw2.out.setCell (p := ⟨w.heap.size + 2, 0, none⟩) (by simp <;> omega) (.int .i64 Wn)).setCell (p := ⟨w.heap.size + 2, 1, none⟩) (by simp <;> omega) (.int .i64 Hn)).setCell (p := ⟨w.heap.size + 2, 2, none⟩) (by simp <;> omega) (.int .i64 Dn)).setCell (p := ⟨w.heap.size + 2, 3, none⟩) (by simp <;> omega) (.slice a xs.length c)
        exact h2.mono (fun k hk => by simp [World.setCell] at hk ⊢; omega)
      · exact ((((Hb2.out.setCell (p := ⟨w.heap.size + 2, 0, none⟩) (by simp) _).setCell (p := ⟨w.heap.size + 2, 1, none⟩) (by simp) _).setCell (p := ⟨w.heap.size + 2, 2, none⟩) (by simp) _).setCell (p := ⟨w.heap.size + 2, 3, none⟩) (by simp) _)
end Go.Proofs.Ytljkgemkolmihaa
