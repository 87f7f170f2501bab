/- Sizes and validity of pictures: the program's words and the reference's. -/
import Derived.Test.YtljkgemkolmihaaP2
namespace Go.Proofs.Ytljkgemkolmihaa
open Go.RowKit

def inB (n lo hi : Int) : Bool := decide (lo ≤ n ∧ n ≤ hi)
theorem inB_iff {n lo hi : Int} : inB n lo hi = true ↔ lo ≤ n ∧ n ≤ hi := by simp [inB]
theorem inB_no {n lo hi : Int} : inB n lo hi = false ↔ ¬ (lo ≤ n ∧ n ≤ hi) := by simp [inB]

theorem in_any (n lo hi : Int) (w : World) :
    Calls Try.prog 67 #[.int .i64 n, .int .i64 lo, .int .i64 hi] w fun e w' => e = .returned (.bool (inB n lo hi)) ∧ w = w' := by
  by_cases h1 : lo ≤ n
  · by_cases h2 : n ≤ hi
    all_goals
      have e : inB n lo hi = decide (n ≤ hi) := by simp [inB, h1]
      have H := Lib.hid e
      clear e
      go_enter Try.func67, Try.ntmps67
      go_wp2
      go_ret
      exact ⟨by rw [H.out]; simp [h2], rfl⟩
  · have e : inB n lo hi = false := by simp [inB, h1]
    have H := Lib.hid e
    clear e
    go_enter Try.func67, Try.ntmps67
    go_wp2
    go_ret
    exact ⟨by rw [H.out]; simp, rfl⟩
theorem sin_any (n lo hi : Int) (w : World) :
    Calls Try.prog 76 #[.int .i64 n, .int .i64 lo, .int .i64 hi] w fun e w' => e = .returned (.bool (inB n lo hi)) ∧ w = w' := by
  by_cases h1 : lo ≤ n
  · by_cases h2 : n ≤ hi
    all_goals
      have e : inB n lo hi = decide (n ≤ hi) := by simp [inB, h1]
      have H := Lib.hid e
      clear e
      go_enter Try.func76, Try.ntmps76
      go_wp2
      go_ret
      exact ⟨by rw [H.out]; simp [h2], rfl⟩
  · have e : inB n lo hi = false := by simp [inB, h1]
    have H := Lib.hid e
    clear e
    go_enter Try.func76, Try.ntmps76
    go_wp2
    go_ret
    exact ⟨by rw [H.out]; simp, rfl⟩

/-- a right size -/
def sizeB (W H : Int) : Bool := decide (1 ≤ W ∧ W ≤ 24 ∧ 1 ≤ H ∧ H ≤ 24 ∧ W * H ≤ 256)
theorem sizeB_iff {W H : Int} : sizeB W H = true ↔ 1 ≤ W ∧ W ≤ 24 ∧ 1 ≤ H ∧ H ≤ 24 ∧ W * H ≤ 256 := by simp [sizeB]
theorem mul_bound {W H : Int} (a : 1 ≤ W) (b : W ≤ 24) (c : 1 ≤ H) (d : H ≤ 24) : 1 ≤ W * H ∧ W * H ≤ 576 := by
  constructor
  · have := Int.mul_le_mul a c (by omega) (by omega); omega
  · have := Int.mul_le_mul b d (by omega) (by omega); omega

theorem sizeOk_any (W H : Int) (w : World) :
    Calls Try.prog 78 #[.int .i64 W, .int .i64 H] w fun e w' => e = .returned (.bool (sizeB W H)) ∧ w = w' := by
  by_cases h1 : 1 ≤ W ∧ W ≤ 24
  · have e1 : inB W 1 24 = true := inB_iff.2 h1
    by_cases h2 : 1 ≤ H ∧ H ≤ 24
    · have e2 : inB H 1 24 = true := inB_iff.2 h2
      obtain ⟨m1, m2⟩ := mul_bound h1.1 h1.2 h2.1 h2.2
      have e : sizeB W H = decide (W * H ≤ 256) := by simp [sizeB, h1, h2]
      have Hs := Lib.hid e
      clear e h1 h2
      go_enter Try.func78, Try.ntmps78
      go_wp2_with (go_at_call 67; refine (in_any _ _ _ _).mono ?_; rintro e w' ⟨rfl, rfl⟩)
      go_ret
      exact ⟨by rw [Hs.out]; rfl, rfl⟩
    · have e2 : inB H 1 24 = false := inB_no.2 h2
      have e : sizeB W H = false := by simp only [sizeB, decide_eq_false_iff_not]; omega
      have Hs := Lib.hid e
      clear e h1 h2
      go_enter Try.func78, Try.ntmps78
      go_wp2_with (go_at_call 67; refine (in_any _ _ _ _).mono ?_; rintro e w' ⟨rfl, rfl⟩)
      go_ret
      exact ⟨by rw [Hs.out]; rfl, rfl⟩
  · have e1 : inB W 1 24 = false := inB_no.2 h1
    have e : sizeB W H = false := by simp only [sizeB, decide_eq_false_iff_not]; omega
    have Hs := Lib.hid e
    clear e h1
    go_enter Try.func78, Try.ntmps78
    go_wp2_with (go_at_call 67; refine (in_any _ _ _ _).mono ?_; rintro e w' ⟨rfl, rfl⟩)
    go_ret
    exact ⟨by rw [Hs.out]; rfl, rfl⟩
theorem ssize_any (W H : Int) (w : World) :
    Calls Try.prog 57 #[.int .i64 W, .int .i64 H] w fun e w' => e = .returned (.bool (sizeB W H)) ∧ w = w' := by
  by_cases h1 : 1 ≤ W ∧ W ≤ 24
  · have e1 : inB W 1 24 = true := inB_iff.2 h1
    by_cases h2 : 1 ≤ H ∧ H ≤ 24
    · have e2 : inB H 1 24 = true := inB_iff.2 h2
      obtain ⟨m1, m2⟩ := mul_bound h1.1 h1.2 h2.1 h2.2
      have e : sizeB W H = decide (W * H ≤ 256) := by simp [sizeB, h1, h2]
      have Hs := Lib.hid e
      clear e h1 h2
      go_enter Try.func57, Try.ntmps57
      go_wp2_with (go_at_call 76; refine (sin_any _ _ _ _).mono ?_; rintro e w' ⟨rfl, rfl⟩)
      go_ret
      exact ⟨by rw [Hs.out]; rfl, rfl⟩
    · have e2 : inB H 1 24 = false := inB_no.2 h2
      have e : sizeB W H = false := by simp only [sizeB, decide_eq_false_iff_not]; omega
      have Hs := Lib.hid e
      clear e h1 h2
      go_enter Try.func57, Try.ntmps57
      go_wp2_with (go_at_call 76; refine (sin_any _ _ _ _).mono ?_; rintro e w' ⟨rfl, rfl⟩)
      go_ret
      exact ⟨by rw [Hs.out]; rfl, rfl⟩
  · have e1 : inB W 1 24 = false := inB_no.2 h1
    have e : sizeB W H = false := by simp only [sizeB, decide_eq_false_iff_not]; omega
    have Hs := Lib.hid e
    clear e h1
    go_enter Try.func57, Try.ntmps57
    go_wp2_with (go_at_call 76; refine (sin_any _ _ _ _).mono ?_; rintro e w' ⟨rfl, rfl⟩)
    go_ret
    exact ⟨by rw [Hs.out]; rfl, rfl⟩

/-- a right picture -/
def picB (W H : Int) (n : Nat) : Bool := sizeB W H && decide ((n : Int) = W * H)

theorem valid_any (W H : Int) (a : Option Addr) (n c : Nat) (hn : n ≤ maxLen) (w : World) :
    Calls Try.prog 61 #[.agg #[.int .i64 W, .int .i64 H, .slice a n c]] w fun e w' => e = .returned (.bool (picB W H n)) ∧ Below w.heap.size w w' := by
  unfold maxLen at hn
  cases h : sizeB W H
  · have e : picB W H n = false := by simp [picB, h]
    have Hs := Lib.hid e
    clear e
    go_enter Try.func61, Try.ntmps61
    go_wp2_with (go_at_call 78; refine (sizeOk_any _ _ _).mono ?_; rintro e w' ⟨rfl, rfl⟩)
    go_ret
    exact ⟨by rw [Hs.out]; rfl, (Below.refl _ _).alloc (Nat.le_refl _) _⟩
  · obtain ⟨h1, h2, h3, h4, h5⟩ := sizeB_iff.1 h
    obtain ⟨m1, m2⟩ := mul_bound h1 h2 h3 h4
    have e : picB W H n = ((n : Int) == W * H) := by simp [picB, h]; rfl
    have Hs := Lib.hid e
    clear e
    go_enter Try.func61, Try.ntmps61
    go_wp2_with (go_at_call 78; refine (sizeOk_any _ _ _).mono ?_; rintro e w' ⟨rfl, rfl⟩)
    go_ret
    exact ⟨by rw [Hs.out]; rfl, (Below.refl _ _).alloc (Nat.le_refl _) _⟩

theorem ssize_is {b : Bool} (W H : Int) (h : Hid (sizeB W H = b)) (w : World) :
    Calls Try.prog 57 #[.int .i64 W, .int .i64 H] w fun e w' => e = .returned (.bool b) ∧ w' = w := by
  rw [← h.out]; exact (ssize_any W H w).mono fun _ _ ⟨a, b⟩ => ⟨a, b.symm⟩

set_option maxHeartbeats 800000 in
/-- the reference's word for it, by a pointer -/
theorem sis_any (p : Addr) (W H : Int) (a : Option Addr) (n c : Nat) (hn : n ≤ maxLen) (w : World) (b o : Nat) (hp : p = ⟨b, o, none⟩) (c0 : w.cell? ⟨b, o, none⟩ = some (.int .i64 W)) (c1 : w.cell? ⟨b, o + 1, none⟩ = some (.int .i64 H)) (c2 : w.cell? ⟨b, o + 2, none⟩ = some (.slice a n c)) :
    Calls Try.prog 31 #[.pointer (some p)] w fun e w' => e = .returned (.bool (picB W H n)) ∧ Drew w w' := by
  subst hp
  unfold maxLen at hn
  cases h : sizeB W H
  · have e : picB W H n = false := by simp [picB, h]
    have Hs := Lib.hid e
    have Hh := Lib.hid h
    clear e h
    go_enter Try.func31, Try.ntmps31
    go_wp2
    go_quiet ((go_at_call 57; exact Calls.quiet_of_same (ssize_is _ _ Hh _)))
    go_wp2
    go_ret
    exact ⟨by rw [Hs.out]; rfl, ⟨_, rfl⟩⟩
  · obtain ⟨h1, h2, h3, h4, h5⟩ := sizeB_iff.1 h
    obtain ⟨m1, m2⟩ := mul_bound h1 h2 h3 h4
    have e : picB W H n = ((n : Int) == W * H) := by simp [picB, h]; rfl
    have Hs := Lib.hid e
    have Hh := Lib.hid h
    clear e h
    go_enter Try.func31, Try.ntmps31
    go_wp2
    go_quiet ((go_at_call 57; exact Calls.quiet_of_same (ssize_is _ _ Hh _)))
    go_wp2
    go_ret
    exact ⟨by rw [Hs.out]; rfl, ⟨_, rfl⟩⟩
end Go.Proofs.Ytljkgemkolmihaa
