/- The program's volume of a desk. -/
import Derived.Test.YtljkgemkolmihaaW4
namespace Go.Proofs.Ytljkgemkolmihaa
open Go.RowKit

theorem validMap_any (W H : Int) (a : Option Addr) (n c : Nat) (hn : n ≤ maxLen) (w : World) :
    Calls Try.prog 72 #[.agg #[.int .i64 W, .int .i64 H, .slice a n c]] w fun e w' => e = .returned (.bool (picB W H n)) ∧ Below w.heap.size w w' := by
  unfold maxLen at hn
  cases h : sizeB W H
  · have e : picB W H n = false := by simp [picB, h]
    have Hs := Lib.hid e
    clear e
    go_enter Try.func72, Try.ntmps72
    go_wp2_with (go_at_call 78; refine (sizeOk_any _ _ _).mono ?_; rintro e w' ⟨rfl, rfl⟩)
    go_ret
    exact ⟨by rw [Hs.out]; rfl, (Below.refl _ _).alloc (Nat.le_refl _) _⟩
  · obtain ⟨h1, h2, h3, h4, h5⟩ := sizeB_iff.1 h
    obtain ⟨m1, m2⟩ := mul_bound h1 h2 h3 h4
    have e : picB W H n = ((n : Int) == W * H) := by simp [picB, h]; rfl
    have Hs := Lib.hid e
    clear e
    go_enter Try.func72, Try.ntmps72
    go_wp2_with (go_at_call 78; refine (sizeOk_any _ _ _).mono ?_; rintro e w' ⟨rfl, rfl⟩)
    go_ret
    exact ⟨by rw [Hs.out]; rfl, (Below.refl _ _).alloc (Nat.le_refl _) _⟩

set_option maxHeartbeats 800000 in
/-- the reference's word for a right map, by a pointer -/
theorem sisMap_any (p : Addr) (W H : Int) (a : Option Addr) (n c : Nat) (hn : n ≤ maxLen) (w : World) (b o : Nat) (hp : p = ⟨b, o, none⟩) (c0 : w.cell? ⟨b, o, none⟩ = some (.int .i64 W)) (c1 : w.cell? ⟨b, o + 1, none⟩ = some (.int .i64 H)) (c2 : w.cell? ⟨b, o + 2, none⟩ = some (.slice a n c)) :
    Calls Try.prog 84 #[.pointer (some p)] w fun e w' => e = .returned (.bool (picB W H n)) ∧ Drew w w' := by
  subst hp
  unfold maxLen at hn
  cases h : sizeB W H
  · have e : picB W H n = false := by simp [picB, h]
    have Hs := Lib.hid e
    have Hh := Lib.hid h
    clear e h
    go_enter Try.func84, Try.ntmps84
    go_wp2
    go_quiet ((go_at_call 57; exact Calls.quiet_of_same (ssize_is _ _ Hh _)))
    go_wp2
    go_ret
    exact ⟨by rw [Hs.out]; rfl, ⟨_, rfl⟩⟩
  · obtain ⟨h1, h2, h3, h4, h5⟩ := sizeB_iff.1 h
    obtain ⟨m1, m2⟩ := mul_bound h1 h2 h3 h4
    have e : picB W H n = ((n : Int) == W * H) := by simp [picB, h]; rfl
    have Hs := Lib.hid e
    have Hh := Lib.hid h
    clear e h
    go_enter Try.func84, Try.ntmps84
    go_wp2
    go_quiet ((go_at_call 57; exact Calls.quiet_of_same (ssize_is _ _ Hh _)))
    go_wp2
    go_ret
    exact ⟨by rw [Hs.out]; rfl, ⟨_, rfl⟩⟩

theorem validMap_is {r : Bool} (W H : Int) (a : Option Addr) (n c : Nat) (hn : n ≤ maxLen) (hr : Hid (picB W H n = r)) (w : World) :
    Calls Try.prog 72 #[.agg #[.int .i64 W, .int .i64 H, .slice a n c]] w fun e w' => e = .returned (.bool r) ∧ Below w.heap.size w w' := by
  rw [← hr.out]; exact validMap_any W H a n c hn w

set_option maxRecDepth 100000 in
set_option maxHeartbeats 4000000 in
theorem square_any (W1 H1 W2 H2 D : Int) (a1 a2 : Option Addr) (c1 c2 : Nat) (xs ys : List Nat) (hn1 : xs.length ≤ maxLen) (hn2 : ys.length ≤ maxLen) (w : World) (r1 : Rd (· < w.heap.size) w a1 (xs.map fl)) (r2 : Rd (· < w.heap.size) w a2 (ys.map fl)) :
    Calls Try.prog 53 #[.agg #[.int .i64 W1, .int .i64 H1, .slice a1 xs.length c1], .agg #[.int .i64 W2, .int .i64 H2, .slice a2 ys.length c2], .int .i64 D] w (VolRes (pairB W1 H1 xs.length W2 H2 ys.length && inB D 1 8) W1 H1 D (at3 W1.toNat D.toNat (sqC W1 H1 xs ys)) w) := by
  obtain ⟨x0, hx0⟩ : ∃ x0, x0 = ((w.alloc (.cells #[.int .i64 W1, .int .i64 H1, .slice a1 xs.length c1] 36)).alloc (.cells #[.int .i64 W2, .int .i64 H2, .slice a2 ys.length c2] 36)).alloc (.cells #[.int .i64 0, .int .i64 0, .int .i64 0, .slice none 0 0] 52) := ⟨_, rfl⟩
  have hB0 : Below w.heap.size w x0 := by rw [hx0]; exact (((Below.refl _ _).alloc (Nat.le_refl _) _).alloc (by simp) _).alloc (by simp; omega) _
  have hs0 : x0.heap.size = w.heap.size + 3 := by rw [hx0]; simp
  have m1 : BoxAt x0 w.heap.size W1 H1 a1 xs.length c1 := by rw [hx0]; simp [BoxAt, go_sem]
  have m2 : BoxAt x0 (w.heap.size + 1) W2 H2 a2 ys.length c2 := by rw [hx0]; simp [BoxAt, go_sem]
  have r0 : x0.heap[w.heap.size + 2]? = some (.cells #[.int .i64 0, .int .i64 0, .int .i64 0, .slice none 0 0] 52 (0, 0)) := by
    rw [hx0]
    have := heap_alloc_new ((w.alloc (.cells #[.int .i64 W1, .int .i64 H1, .slice a1 xs.length c1] 36)).alloc (.cells #[.int .i64 W2, .int .i64 H2, .slice a2 ys.length c2] 36)) (.cells #[.int .i64 0, .int .i64 0, .int .i64 0, .slice none 0 0] 52)
    simpa using this
  have hg : (pairB W1 H1 xs.length W2 H2 ys.length && inB D 1 8) = true → Gives3 74 #[.pointer (some ⟨w.heap.size, 0, none⟩), .pointer (some ⟨w.heap.size + 1, 0, none⟩)] W1.toNat H1.toNat D.toNat (at3 W1.toNat D.toNat (sqC W1 H1 xs ys)) x0 := by
    intro h
    rw [Bool.and_eq_true] at h
    obtain ⟨p1, p2, rfl, rfl⟩ := pairB_iff.1 h.1
    obtain ⟨Wn, Hn, rfl, rfl, q1, q2, q3, q4, _⟩ := nat_of p1
    have hD := inB_iff.1 h.2
    have := sq_gives w.heap.size (w.heap.size + 1) Wn Hn D.toNat a1 a2 c1 c2 xs ys x0 q2 q4 (by omega) p1 p2 m1 m2 ((r1.below hB0).mono (fun k hk => by omega)) ((r2.below hB0).mono (fun k hk => by omega))
    simpa using this
  have HB0 := Lib.hid hB0
  have Hs0 := Lib.hid hs0
  have R0 := Lib.hid r0
  have Hg := Lib.hid hg
  have eg : ∀ args w, (callFunc 74 args).run Try.prog w = .ok (.enter 74 args) w := enters_of Try.func74 (by kernel_rfl) rfl
  have Eg := Lib.hid eg
  clear hB0 hs0 m1 m2 r0 hg r1 r2 eg
  have no : ∀ (x : World), Below x0.heap.size x0 x → Hid (x.cell? ⟨w.heap.size + 2, 0, none⟩ = some (.int .i64 0) ∧ x.cell? ⟨w.heap.size + 2, 1, none⟩ = some (.int .i64 0) ∧ x.cell? ⟨w.heap.size + 2, 2, none⟩ = some (.int .i64 0) ∧ x.cell? ⟨w.heap.size + 2, 3, none⟩ = some (.slice none 0 0) ∧ ∀ i, x.frozen? ⟨w.heap.size + 2, i, none⟩ = false) := fun x hb => Lib.hid (by
    have h := blk_keep hb R0.out (by rw [Hs0.out]; omega)
    exact ⟨by rw [cell_blk h]; rfl, by rw [cell_blk h]; rfl, by rw [cell_blk h]; rfl, by rw [cell_blk h]; rfl, fun i => frozen_blk h i⟩)
  have HNo := Lib.hid no
  clear no
  generalize hok : (pairB W1 H1 xs.length W2 H2 ys.length && inB D 1 8) = ok
  have Hok := Lib.hid hok
  clear hok
  go_enter Try.func53, Try.ntmps53
  go_wp2_with fail
  rw [← hx0]
  have Hx0 := Lib.hid hx0
  clear hx0
  refine (pairVolume_any 74 #[.pointer (some ⟨w.heap.size, 0, none⟩), .pointer (some ⟨w.heap.size + 1, 0, none⟩)] Eg.out W1 H1 W2 H2 D a1 a2 xs.length ys.length c1 c2 hn1 hn2 (at3 W1.toNat D.toNat (sqC W1 H1 xs ys)) x0 Hg.out).mono ?_
  rw [Hok.out]
  rintro e w1 (⟨rfl, rfl, hb1⟩ | ⟨rfl, a, c, zs, rfl, hfl, hw1, hb1⟩)
  all_goals
    obtain ⟨u0, u1, u2, u3, fz⟩ := (HNo.out w1 hb1).out
    have g0 := fz 0
    have g1 := fz 1
    have g2 := fz 2
    have g3 := fz 3
    have Hb1 := Lib.hid (HB0.out.trans (hb1.mono (by rw [Hs0.out]; omega)))
    have hz1 := hb1.size
    rw [Hs0.out] at hz1
    clear hb1 fz
  · go_wp2_with fail
    refine bodyPost_ret (v := .tuple #[.agg #[.int .i64 0, .int .i64 0, .int .i64 0, .slice none 0 0], .bool false]) (by simp [results, Try.results53, go_sem, u0, u1, u2, u3]) rfl (Or.inl ⟨rfl, rfl, ?_⟩)
    exact ((((Hb1.out.setCell (p := ⟨w.heap.size + 2, 0, none⟩) (by simp) _).setCell (p := ⟨w.heap.size + 2, 1, none⟩) (by simp) _).setCell (p := ⟨w.heap.size + 2, 2, none⟩) (by simp) _).setCell (p := ⟨w.heap.size + 2, 3, none⟩) (by simp) _)
  · have Hfl := Lib.hid hfl
    have Hw1 := Lib.hid hw1
    clear hfl hw1
    go_wp2_with fail
    refine bodyPost_ret (v := .tuple #[.agg #[.int .i64 W1, .int .i64 H1, .int .i64 D, .slice a zs.length c], .bool true]) (by simp [results, Try.results53, go_sem, u0, u1, u2, u3]) rfl (Or.inr ⟨rfl, a, c, zs, rfl, Hfl.out, ?_, ?_⟩)
    · have h2 := (((Hw1.out.setCell (p := ⟨w.heap.size + 2, 0, none⟩) (by simp [Hs0.out] <;> omega) (.int .i64 W1)).setCell (p := ⟨w.heap.size + 2, 1, none⟩) (by simp [Hs0.out] <;> omega) (.int .i64 H1)).setCell (p := ⟨w.heap.size + 2, 2, none⟩) (by simp [Hs0.out] <;> omega) (.int .i64 D)).setCell (p := ⟨w.heap.size + 2, 3, none⟩) (by simp [Hs0.out] <;> omega) (.slice a zs.length c)
      exact h2.mono (fun k hk => by rw [Hs0.out] at hk; simp [World.setCell] at hk ⊢; omega)
    · exact ((((Hb1.out.setCell (p := ⟨w.heap.size + 2, 0, none⟩) (by simp) _).setCell (p := ⟨w.heap.size + 2, 1, none⟩) (by simp) _).setCell (p := ⟨w.heap.size + 2, 2, none⟩) (by simp) _).setCell (p := ⟨w.heap.size + 2, 3, none⟩) (by simp) _)
end Go.Proofs.Ytljkgemkolmihaa
