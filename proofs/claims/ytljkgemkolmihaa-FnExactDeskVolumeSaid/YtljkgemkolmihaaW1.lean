/- A grey about a place: the program's and the reference's. -/
import Derived.Test.YtljkgemkolmihaaV1
import Derived.Test.YtljkgemkolmihaaG1
import Derived.IntWalk
namespace Go.Proofs.Ytljkgemkolmihaa
open Go.RowKit

/-- a number put into 0 .. m - 1 -/
def cl (n m : Int) : Int := max 0 (min n (m - 1))
theorem cl_bd (n m : Int) (h : 1 ≤ m) : 0 ≤ cl n m ∧ cl n m ≤ m - 1 := by unfold cl; omega
theorem ret_fl {k : FloatKind} {a b : Nat} (h : a = b) : Ending.returned (.float k a) = .returned (.float k b) := by rw [h]
/-- the grey about a place -/
def gAt (W H : Int) (xs : List Nat) (x y : Int) : Nat := xs.getD (cl x W + W * cl y H).toNat 0

theorem clamp_any (n m : Int) (w : World) (h1 : 1 ≤ m) (h2 : m ≤ 1048576) (h3 : -1099511627776 ≤ n ∧ n ≤ 1099511627776) :
    Calls Try.prog 88 #[.int .i64 n, .int .i64 m] w fun e w' => e = .returned (.int .i64 (cl n m)) ∧ w' = w := by
  have hcl : cl n m = max 0 (min n (m - 1)) := rfl
  have Hc := Lib.hid hcl
  clear hcl
  go_enter Try.func88, Try.ntmps88
  go_wp2
  all_goals
    go_ret
    exact ⟨ret_int (by rw [Hc.out]; omega), rfl⟩

theorem smax_is (n m u : Int) (hu : Hid (max n m = u)) (w : World) :
    Calls Try.prog 91 #[.int .i64 n, .int .i64 m] w fun e w' => e = .returned (.int .i64 u) ∧ w' = w := by
  go_enter Try.func91, Try.ntmps91
  go_wp2
  all_goals
    go_ret
    exact ⟨ret_int (by rw [← hu.out]; omega), rfl⟩
theorem smin_is (n m u : Int) (hu : Hid (min n m = u)) (w : World) :
    Calls Try.prog 92 #[.int .i64 n, .int .i64 m] w fun e w' => e = .returned (.int .i64 u) ∧ w' = w := by
  go_enter Try.func92, Try.ntmps92
  go_wp2
  all_goals
    go_ret
    exact ⟨ret_int (by rw [← hu.out]; omega), rfl⟩

/-- the cell of a row that is read, at a place -/
theorem Rd.at {S : Nat → Prop} {w : World} {a : Option Addr} {xs : List Nat} (h : Rd S w a (xs.map fl)) (k : Nat) (hk : k < xs.length) : ∃ b o, a = some ⟨b, o, none⟩ ∧ S b ∧ w.cell? ⟨b, o + k, none⟩ = some (.float .f32 (xs.getD k 0)) := by
  rcases h with h | ⟨b, o, e, hS, h⟩
  · simp at h; subst h; simp at hk
  · refine ⟨b, o, e, hS, ?_⟩
    rw [h k (by simpa using hk)]
    simp [List.getD_eq_getElem?_getD, hk]

theorem place_bd {W H u v : Int} {n : Nat} (hok : picB W H n = true) (hu : 0 ≤ u ∧ u ≤ W - 1) (hv : 0 ≤ v ∧ v ≤ H - 1) : 0 ≤ W * v ∧ W * v ≤ 576 ∧ u + W * v < n ∧ 1 ≤ W ∧ W ≤ 24 ∧ 1 ≤ H ∧ H ≤ 24 := by
  unfold picB at hok
  rw [Bool.and_eq_true] at hok
  obtain ⟨h1, h2⟩ := hok
  obtain ⟨a, b, c, d, e⟩ := sizeB_iff.1 h1
  have h2 : (n : Int) = W * H := by simpa using h2
  have p1 : 0 ≤ W * v := Int.mul_nonneg (by omega) hv.1
  have p2 : W * v ≤ W * (H - 1) := Int.mul_le_mul_of_nonneg_left hv.2 (by omega)
  have p3 : W * (H - 1) = W * H - W := by rw [Int.mul_sub, Int.mul_one]
  refine ⟨p1, ?_, by omega, a, b, c, d⟩
  have := (mul_bound a b c d).2
  omega

set_option maxRecDepth 100000 in
set_option maxHeartbeats 1000000 in
theorem about_any (S : Nat → Prop) (b o : Nat) (W H : Int) (a : Option Addr) (c : Nat) (xs : List Nat) (x y : Int) (w : World) (hok : picB W H xs.length = true) (hx : -1099511627776 ≤ x ∧ x ≤ 1099511627776) (hy : -1099511627776 ≤ y ∧ y ≤ 1099511627776)
    (c0 : w.cell? ⟨b, o, none⟩ = some (.int .i64 W)) (c1 : w.cell? ⟨b, o + 1, none⟩ = some (.int .i64 H)) (c2 : w.cell? ⟨b, o + 2, none⟩ = some (.slice a xs.length c)) (hr : Rd S w a (xs.map fl)) :
    Calls Try.prog 75 #[.pointer (some ⟨b, o, none⟩), .int .i64 x, .int .i64 y] w fun e w' => e = .returned (.float .f32 (gAt W H xs x y)) ∧ Drew w w' := by
  have hW : 1 ≤ W ∧ W ≤ 24 ∧ 1 ≤ H ∧ H ≤ 24 := by
    unfold picB at hok
    rw [Bool.and_eq_true] at hok
    obtain ⟨a, b, c, d, e⟩ := sizeB_iff.1 hok.1
    exact ⟨a, b, c, d⟩
  obtain ⟨w1, w2, w3, w4⟩ := hW
  unfold gAt
  obtain ⟨m1, m2, m3, _, _, _, _⟩ := place_bd hok (cl_bd x W w1) (cl_bd y H w3)
  have hu := (cl_bd x W w1).1
  have hu2 := (cl_bd x W w1).2
  obtain ⟨bb, oo, rfl, _, hcell⟩ := hr.at (cl x W + W * cl y H).toNat (by omega)
  have hw1 : IntKind.i64.wrap (W * cl y H) = W * cl y H := IntWalk.i64_in _ (by omega)
  have hw2 : IntKind.i64.wrap (cl x W + W * cl y H) = cl x W + W * cl y H := IntWalk.i64_in _ (by omega)
  have hn : 0 ≤ cl x W + W * cl y H := by omega
  have hlt : (cl x W + W * cl y H).toNat < xs.length := by omega
  have w2' : W ≤ 1048576 := by omega
  have w4' : H ≤ 1048576 := by omega
  clear hr hok hu hu2 m1 m2
  go_enter Try.func75, Try.ntmps75
  go_wp2
  go_quiet ((go_at_call 88; exact Calls.quiet_of_same (clamp_any _ _ _ (by assumption) (by assumption) (by assumption))))
  go_wp2
  go_ret
  exact ⟨ret_fl (by simp [List.getD_eq_getElem?_getD, hlt]), ⟨_, rfl⟩⟩

theorem cl_eq (n m : Int) : max 0 (min (m - 1) n) = cl n m := by unfold cl; rw [Int.min_comm]
theorem smin_any (n m : Int) (w : World) :
    Calls Try.prog 92 #[.int .i64 n, .int .i64 m] w fun e w' => e = .returned (.int .i64 (min n m)) ∧ w' = w := smin_is n m _ (Lib.hid rfl) w
/-- what two calls give together -/
theorem smax_cl (n m t : Int) (ht : Hid (t = min (m - 1) n)) (w : World) :
    Calls Try.prog 91 #[.int .i64 0, .int .i64 t] w fun e w' => e = .returned (.int .i64 (cl n m)) ∧ w' = w := smax_is 0 t _ (Lib.hid (by rw [ht.out, cl_eq])) w

set_option maxRecDepth 100000 in
set_option maxHeartbeats 1000000 in
theorem sAt_any (S : Nat → Prop) (b o : Nat) (W H : Int) (a : Option Addr) (c : Nat) (xs : List Nat) (x y : Int) (w : World) (hok : picB W H xs.length = true) (hx : -1099511627776 ≤ x ∧ x ≤ 1099511627776) (hy : -1099511627776 ≤ y ∧ y ≤ 1099511627776)
    (c0 : w.cell? ⟨b, o, none⟩ = some (.int .i64 W)) (c1 : w.cell? ⟨b, o + 1, none⟩ = some (.int .i64 H)) (c2 : w.cell? ⟨b, o + 2, none⟩ = some (.slice a xs.length c)) (hr : Rd S w a (xs.map fl)) :
    Calls Try.prog 85 #[.pointer (some ⟨b, o, none⟩), .int .i64 x, .int .i64 y] w fun e w' => e = .returned (.float .f32 (gAt W H xs x y)) ∧ Drew w w' := by
  have hW : 1 ≤ W ∧ W ≤ 24 ∧ 1 ≤ H ∧ H ≤ 24 := by
    unfold picB at hok
    rw [Bool.and_eq_true] at hok
    obtain ⟨a, b, c, d, e⟩ := sizeB_iff.1 hok.1
    exact ⟨a, b, c, d⟩
  obtain ⟨w1, w2, w3, w4⟩ := hW
  unfold gAt
  obtain ⟨m1, m2, m3, _, _, _, _⟩ := place_bd hok (cl_bd x W w1) (cl_bd y H w3)
  have hu := (cl_bd x W w1).1
  have hu2 := (cl_bd x W w1).2
  obtain ⟨bb, oo, rfl, _, hcell⟩ := hr.at (cl x W + W * cl y H).toNat (by omega)
  have hw1 : IntKind.i64.wrap (W * cl y H) = W * cl y H := IntWalk.i64_in _ (by omega)
  have hw2 : IntKind.i64.wrap (cl x W + W * cl y H) = cl x W + W * cl y H := IntWalk.i64_in _ (by omega)
  have hw3 : IntKind.i64.wrap (H - 1) = H - 1 := IntWalk.i64_in _ (by omega)
  have hn : 0 ≤ cl x W + W * cl y H := by omega
  have hlt : (cl x W + W * cl y H).toNat < xs.length := by omega
  obtain ⟨tx, htx⟩ : ∃ t, t = min (W - 1) x := ⟨_, rfl⟩
  obtain ⟨ty, hty⟩ : ∃ t, t = min (H - 1) y := ⟨_, rfl⟩
  have Hx := Lib.hid htx
  have Hy := Lib.hid hty
  have Ex : Hid (min (W - 1) x = tx) := Lib.hid htx.symm
  have Ey : Hid (min (H - 1) y = ty) := Lib.hid hty.symm
  clear hr hok hu hu2 m1 m2 htx hty
  go_enter Try.func85, Try.ntmps85
  go_wp2_with (first
    | (go_at_call 92; refine (smin_is _ _ _ Ex _).mono ?_; rintro e w' ⟨rfl, rfl⟩)
    | (go_at_call 91; refine (smax_cl x W _ Hx _).mono ?_; rintro e w' ⟨rfl, rfl⟩))
  go_quiet ((first
    | (go_at_call 92; exact Calls.quiet_of_same (smin_is _ _ _ Ey _))
    | (go_at_call 91; exact Calls.quiet_of_same (smax_cl y H _ Hy _))))
  go_wp2
  go_ret
  exact ⟨ret_fl (by simp [List.getD_eq_getElem?_getD, hlt]), ⟨_, rfl⟩⟩
end Go.Proofs.Ytljkgemkolmihaa
