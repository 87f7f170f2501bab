/- Bits of numbers. -/
import Derived.Test.YtljkgemkolmihaaB2
namespace Go.Proofs.Ytljkgemkolmihaa
open Go.RowKit

/-- the bits of a number, of a not-a-number always the same -/
def bitsOf (x : Nat) : Int := if isN .f32 x then 2143289344 else (x : Int)
theorem FEq.bits {x y : Nat} (h : FEq .f32 x y) : bitsOf x = bitsOf y := by
  rcases h with rfl | ⟨a, b⟩
  · rfl
  · simp [bitsOf, a, b]
/-- it has 32 bits, or is no number -/
def okF (x : Nat) : Prop := isN .f32 x = false → x < 4294967296
theorem FEq.okF {x y : Nat} (h : FEq .f32 x y) (hy : okF y) : okF x := by
  rcases h with rfl | ⟨a, b⟩
  · exact hy
  · intro h; rw [a] at h; cases h
theorem bitsOf_bound {x : Nat} (h : okF x) : 0 ≤ bitsOf x ∧ bitsOf x < 4294967296 := by
  unfold bitsOf
  split
  · decide
  · rename_i hn; have := h (by simpa using hn); omega

theorem run_bits {w : World} (x : Nat) : (callFunc 83 #[.float .f32 x]).run Try.prog w = .ok (.value (.int .u32 x)) w := by
  rw [run_callFunc_extern Try.func83 (by kernel_rfl) (by kernel_rfl) (by kernel_rfl) (e := Extern.MathFloatBits.float32bits) (by kernel_rfl)]
  rfl

theorem isNaN_any (x : Nat) (w : World) : Calls Try.prog 82 #[.float .f32 x] w fun e w' => e = .returned (.bool (isN .f32 x)) ∧ w' = w := by
  have hq := order_self_ne .f32 x
  go_enter Try.func82, Try.ntmps82
  go_wp2_with fail
  go_ret
  exact ⟨rfl, rfl⟩
theorem bitsOf_any (x : Nat) (hx : okF x) (w : World) : Calls Try.prog 65 #[.float .f32 x] w fun e w' => e = .returned (.int .i64 (bitsOf x)) ∧ w' = w := by
  have hr := fun w : World => run_bits (w := w) x
  cases hn : isN .f32 x
  · have hx' := hx hn
    have hb : bitsOf x = (x : Int) := by simp [bitsOf, hn]
    rw [hb]
    clear hb
    go_enter Try.func65, Try.ntmps65
    go_wp2_with (go_at_call 82; refine (isNaN_any _ _).mono ?_; rintro e w' ⟨rfl, rfl⟩; rw [hn])
    go_ret
    exact ⟨rfl, rfl⟩
  · have hb : bitsOf x = 2143289344 := by simp [bitsOf, hn]
    rw [hb]
    clear hb
    go_enter Try.func65, Try.ntmps65
    go_wp2_with (go_at_call 82; refine (isNaN_any _ _).mono ?_; rintro e w' ⟨rfl, rfl⟩; rw [hn])
    go_ret
    exact ⟨rfl, rfl⟩
theorem sbits_any (x : Nat) (hx : okF x) (w : World) : Calls Try.prog 89 #[.float .f32 x] w fun e w' => e = .returned (.int .i64 (bitsOf x)) ∧ w' = w := by
  have hr := fun w : World => run_bits (w := w) x
  have hq := order_self_ne .f32 x
  cases hn : isN .f32 x
  · have hx' := hx hn
    have hb : bitsOf x = (x : Int) := by simp [bitsOf, hn]
    rw [hb]
    rw [hn] at hq
    clear hb hn
    go_enter Try.func89, Try.ntmps89
    go_wp2_with fail
    go_ret
    exact ⟨rfl, rfl⟩
  · have hb : bitsOf x = 2143289344 := by simp [bitsOf, hn]
    rw [hb]
    rw [hn] at hq
    clear hb hn
    go_enter Try.func89, Try.ntmps89
    go_wp2_with fail
    go_ret
    exact ⟨rfl, rfl⟩

end Go.Proofs.Ytljkgemkolmihaa
