/- The program's volume of squares. -/
import Derived.Test.YtljkgemkolmihaaW2
import Derived.Test.YtljkgemkolmihaaM4
namespace Go.Proofs.Ytljkgemkolmihaa
open Go.RowKit

/-- what is told of x, y, d, told of a place -/
def at3 (W D : Nat) (G : Nat → Nat → Nat → Nat) (i : Nat) : Nat := G (i / D % W) (i / D / W) (i % D)
theorem at3_idx {W D x y d : Nat} (G : Nat → Nat → Nat → Nat) (hx : x < W) (hd : d < D) : at3 W D G ((y * W + x) * D + d) = G x y d := by
  have h1 : ((y * W + x) * D + d) % D = d := by rw [Nat.add_comm, Nat.add_mul_mod_self_right]; exact Nat.mod_eq_of_lt hd
  have h2 : ((y * W + x) * D + d) / D = y * W + x := by rw [Nat.add_comm, Nat.add_mul_div_right _ _ (by omega), Nat.div_eq_of_lt hd]; omega
  have h3 : (y * W + x) % W = x := by rw [Nat.add_comm, Nat.add_mul_mod_self_right]; exact Nat.mod_eq_of_lt hx
  have h4 : (y * W + x) / W = y := by rw [Nat.add_comm, Nat.add_mul_div_right _ _ (by omega), Nat.div_eq_of_lt hx]; omega
  unfold at3
  rw [h1, h2, h3, h4]
/-- the cost of a cell and a disparity: a square -/
def sqC (W H : Int) (xs ys : List Nat) (x y d : Nat) : Nat :=
  opC .mul .f32 (opC .sub .f32 (gAt W H xs x y) (gAt W H ys ((x : Int) - d) y)) (opC .sub .f32 (gAt W H xs x y) (gAt W H ys ((x : Int) - d) y))

/-- a picture's box -/
def BoxAt (w : World) (b : Nat) (W H : Int) (a : Option Addr) (n c : Nat) : Prop :=
  w.cell? ⟨b, 0, none⟩ = some (.int .i64 W) ∧ w.cell? ⟨b, 1, none⟩ = some (.int .i64 H) ∧ w.cell? ⟨b, 2, none⟩ = some (.slice a n c)
theorem BoxAt.below {w w' : World} {b n c : Nat} {W H : Int} {a : Option Addr} (h : BoxAt w b W H a n c) (hb : Below w.heap.size w w') : BoxAt w' b W H a n c := by
  obtain ⟨h0, h1, h2⟩ := h
  have hlt := lt_of_cell h0
  obtain ⟨cB, _⟩ := bcell hb
  exact ⟨by rw [cB _ _ hlt]; exact h0, by rw [cB _ _ hlt]; exact h1, by rw [cB _ _ hlt]; exact h2⟩

set_option maxRecDepth 100000 in
set_option maxHeartbeats 2000000 in
theorem sq_any (b1 b2 : Nat) (W H : Int) (a1 a2 : Option Addr) (c1 c2 : Nat) (xs ys : List Nat) (x y d : Nat) (w : World) (hx : x ≤ 1024) (hy : y ≤ 1024) (hd : d ≤ 1024) (ok1 : picB W H xs.length = true) (ok2 : picB W H ys.length = true)
    (h1 : BoxAt w b1 W H a1 xs.length c1) (h2 : BoxAt w b2 W H a2 ys.length c2) (r1 : Rd (· < w.heap.size) w a1 (xs.map fl)) (r2 : Rd (· < w.heap.size) w a2 (ys.map fl)) :
    Calls Try.prog 74 #[.int .i64 x, .int .i64 y, .int .i64 d, .pointer (some ⟨b1, 0, none⟩), .pointer (some ⟨b2, 0, none⟩)] w (IsF (sqC W H xs ys x y d) w) := by
  have H1 := Lib.hid h1
  have H2 := Lib.hid h2
  have R1 := Lib.hid r1
  have R2 := Lib.hid r2
  clear h1 h2 r1 r2
  go_enter Try.func74, Try.ntmps74
  go_wp2_with fail
  refine (about_any _ b1 0 W H a1 c1 xs x y w ok1 (by omega) (by omega) H1.out.1 H1.out.2.1 H1.out.2.2 R1.out).mono ?_
  rintro e w1 ⟨rfl, hw1⟩
  have B1 := Lib.hid (hw1.below (B := w.heap.size))
  have K2 := Lib.hid (H2.out.below B1.out)
  have S2 := Lib.hid (R2.out.below B1.out)
  clear hw1
  go_wp2_with fail
  refine (about_any _ b2 0 W H a2 c2 ys ((x : Int) - d) y w1 ok2 (by omega) (by omega) K2.out.1 K2.out.2.1 K2.out.2.2 S2.out).mono ?_
  rintro e w2 ⟨rfl, hw2⟩
  have B2 := Lib.hid (B1.out.trans (hw2.below (B := w.heap.size)))
  clear hw2
  go_wp2_with fail
  go_ret
  exact ⟨_, rfl, flR_of (flR_opC _ _ _ _ _) (flR_opC _ _ _ _ _) _, B2.out.trans (Drew.below ⟨_, rfl⟩)⟩

theorem sq_gives (b1 b2 : Nat) (W H D : Nat) (a1 a2 : Option Addr) (c1 c2 : Nat) (xs ys : List Nat) (w : World) (hW : W ≤ 24) (hH : H ≤ 24) (hD : D ≤ 8) (ok1 : picB W H xs.length = true) (ok2 : picB W H ys.length = true)
    (h1 : BoxAt w b1 W H a1 xs.length c1) (h2 : BoxAt w b2 W H a2 ys.length c2) (r1 : Rd (· < w.heap.size) w a1 (xs.map fl)) (r2 : Rd (· < w.heap.size) w a2 (ys.map fl)) :
    Gives3 74 #[.pointer (some ⟨b1, 0, none⟩), .pointer (some ⟨b2, 0, none⟩)] W H D (at3 W D (sqC W H xs ys)) w := by
  intro x y d w1 hx hy hd hb
  rw [at3_idx _ hx hd]
  exact sq_any b1 b2 W H a1 a2 c1 c2 xs ys x y d w1 (by omega) (by omega) (by omega) ok1 ok2 (h1.below hb) (h2.below hb) ((r1.below hb).mono (fun k hk => by have := hb.size; omega)) ((r2.below hb).mono (fun k hk => by have := hb.size; omega))
end Go.Proofs.Ytljkgemkolmihaa
