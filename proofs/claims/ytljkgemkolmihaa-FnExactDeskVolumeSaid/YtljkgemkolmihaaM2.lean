/- The laws' helpers on volumes and desks. -/
import Derived.Test.YtljkgemkolmihaaM1
import Derived.Test.YtljkgemkolmihaaF2
namespace Go.Proofs.Ytljkgemkolmihaa
open Go.RowKit

theorem markV (W H D : Int) (S : Nat → Prop) (a : Option Addr) (c : Nat) (xs : List Nat) (k : Int) (w : World) (hn : xs.length ≤ 1048576) (hk0 : 0 ≤ k) (hk1 : k ≤ 1125899906842624) (h : Wr S w a (xs.map fl)) :
    Calls Try.prog 26 #[.agg #[.int .i64 W, .int .i64 H, .int .i64 D, .slice a xs.length c], .int .i64 k] w fun e w' => e = .returned (.int .i64 (k + xs.length)) ∧ Wr S w' a ((marks k xs.length).map fl) ∧ Only S w w' := by
  go_enter Try.func26, Try.ntmps26
  go_wp2_with (go_at_call 42; refine (markF S _ _ _ _ _ hn hk0 hk1 (h.alloc _)).mono ?_; rintro e w1 ⟨rfl, hw1, ho1⟩)
  go_ret
  exact ⟨rfl, hw1, ((Only.refl _ _).alloc _).trans ho1⟩

theorem heldV (W H D : Int) (S : Nat → Prop) (a : Option Addr) (c n : Nat) (k : Int) (w : World) (hn : n ≤ 1048576) (hk0 : 0 ≤ k) (hk1 : k ≤ 1125899906842624) (h : Rd S w a ((marks k n).map fl)) :
    Calls Try.prog 27 #[.agg #[.int .i64 W, .int .i64 H, .int .i64 D, .slice a n c], .int .i64 k] w fun e w' => e = .returned (.int .i64 (k + n)) ∧ Below w.heap.size w w' := by
  have hge : ¬ k + (n : Int) < 0 := by omega
  go_enter Try.func27, Try.ntmps27
  go_wp2_with (go_at_call 56; refine (heldF S _ _ _ _ _ hn hk0 hk1 (h.alloc _)).mono ?_; rintro e w1 ⟨rfl, rfl⟩)
  go_ret
  exact ⟨rfl, (Below.refl _ _).alloc (Nat.le_refl _) _⟩

set_option maxHeartbeats 400000 in
theorem eqV (W H D : Int) (S T : Nat → Prop) (a b : Option Addr) (c d : Nat) (xs ys : List Nat) (w : World) (hn : xs.length ≤ 1048576) (hl : xs.length = ys.length) (hxy : ∀ i (h1 : i < xs.length) (h2 : i < ys.length), FEq .f32 xs[i] ys[i])
    (ha : Rd S w a (xs.map fl)) (hb : Rd T w b (ys.map fl)) :
    Calls Try.prog 23 #[.agg #[.int .i64 W, .int .i64 H, .int .i64 D, .slice a xs.length c], .agg #[.int .i64 W, .int .i64 H, .int .i64 D, .slice b ys.length d]] w fun e w' => e = .returned (.bool true) ∧ Below w.heap.size w w' := by
  have Hl := Lib.hid hl
  clear hl
  have hww : (W != W) = false := by simp
  have hhh : (H != H) = false := by simp
  have hdd : (D != D) = false := by simp
  go_enter Try.func23, Try.ntmps23
  go_wp2_with (go_at_call 40; refine (eqF S T _ _ _ _ _ _ _ hn Hl.out hxy ((ha.alloc _).alloc _) ((hb.alloc _).alloc _)).mono ?_; rintro e w1 ⟨rfl, hw1⟩)
  go_ret
  exact ⟨rfl, (((Below.refl _ _).alloc (Nat.le_refl _) _).alloc (by simp) _).trans hw1.below⟩
end Go.Proofs.Ytljkgemkolmihaa
