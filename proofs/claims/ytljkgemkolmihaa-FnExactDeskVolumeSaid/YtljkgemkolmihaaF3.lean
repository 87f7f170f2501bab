/- The laws' equality of numbers and of lists of numbers. -/
import Derived.Test.YtljkgemkolmihaaF2
import Derived.Deep.RegionWith
namespace Go.Proofs.Ytljkgemkolmihaa
open Go.RowKit

/-- the world is w but for draws -/
def Drew (w w' : World) : Prop := ∃ n, w' = w.drewN n
theorem Drew.refl (w : World) : Drew w w := ⟨0, rfl⟩
theorem Drew.trans {a b c : World} (h : Drew a b) (g : Drew b c) : Drew a c := by
  obtain ⟨n, rfl⟩ := h; obtain ⟨m, rfl⟩ := g; exact ⟨n + m, by rw [World.drewN_drewN]⟩
theorem Drew.below {B : Nat} {a b : World} (h : Drew a b) : Below B a b := by
  obtain ⟨n, rfl⟩ := h; exact ⟨rfl, rfl, rfl, Nat.le_refl _, fun _ _ => rfl⟩
theorem Drew.heap {a b : World} (h : Drew a b) : b.heap = a.heap := by obtain ⟨n, rfl⟩ := h; rfl
theorem Drew.cell {a b : World} (h : Drew a b) (p : Addr) : b.cell? p = a.cell? p := by obtain ⟨n, rfl⟩ := h; rfl

theorem sameFloat_yes (x y : Nat) (h : FEq .f64 x y) (w : World) :
    Calls Try.prog 62 #[.float .f64 x, .float .f64 y] w fun e w' => e = .returned (.bool true) ∧ Drew w w' := by
  have hn := h.nan
  have h1 := order_self_ne .f64 x
  have h2 := order_self_ne .f64 y
  cases hx : isN .f64 x with
  | true =>
    rw [hx] at h1 hn
    rw [← hn] at h2
    clear hx h hn
    go_enter Try.func62, Try.ntmps62
    go_wp2
    go_ret
    exact ⟨rfl, Drew.refl _⟩
  | false =>
    have e : x = y := by
      rcases h with h | ⟨a, b⟩
      · exact h
      · rw [hx] at a; cases a
    subst e
    rw [hx] at h1
    have h3 : (FloatKind.f64.format.order x x == some .eq) = true := by rw [order_self_eq, hx]; rfl
    have hq : ∀ W : World, FEq .f64 (flR .quo .f64 4607182418800017408 x w) (flR .quo .f64 4607182418800017408 x W) := fun W => FEq.flR (FEq.refl _ _) (FEq.refl _ _) _ _
    clear h2 hn h hx
    cases hz : (FloatKind.f64.format.order x 0 == some .eq) with
    | true =>
      go_enter Try.func62, Try.ntmps62
      go_wp2
      go_ret
      refine ⟨ret_bool ?_, ⟨_, rfl⟩⟩
      simp only [beq_iff_eq]
      rw [FEq.order (hq _) (FEq.refl _ _)]
    | false =>
      go_enter Try.func62, Try.ntmps62
      go_wp2
      go_ret
      exact ⟨rfl, Drew.refl _⟩
set_option maxHeartbeats 800000 in
theorem eqF (S T : Nat → Prop) (a b : Option Addr) (c d : Nat) (xs ys : List Nat) (w : World) (hn : xs.length ≤ 1048576) (hl : xs.length = ys.length) (hxy : ∀ i (h1 : i < xs.length) (h2 : i < ys.length), FEq .f32 xs[i] ys[i])
    (ha : Rd S w a (xs.map fl)) (hb : Rd T w b (ys.map fl)) :
    Calls Try.prog 40 #[.slice a xs.length c, .slice b ys.length d] w fun e w' => e = .returned (.bool true) ∧ Drew w w' := by
  rw [← hl]
  have Hl := Lib.hid hl
  clear hl
  go_enter Try.func40, Try.ntmps40
  go_wp2
  go_loopw [5] (fun i wr => ∃ j : Nat, j ≤ xs.length ∧ i = .int .i64 j ∧ Drew w wr) (fun i _ => xs.length - (intOf i).toNat)
  case atStart => exact ⟨0, Nat.zero_le _, rfl, Drew.refl _⟩
  case round =>
    obtain ⟨j, hj, rfl, hw⟩ := hrel
    by_cases hlt : j < xs.length
    · rcases ha with ha | ⟨b1, o1, rfl, hS1, ha⟩
      · simp at ha; subst ha; simp at hlt
      rcases hb with hb | ⟨b2, o2, rfl, hS2, hb⟩
      · simp at hb; subst hb; rw [Hl.out] at hlt; simp at hlt
      have hlt2 : j < ys.length := Hl.out ▸ hlt
      have h1 : wr.cell? ⟨b1, o1 + j, none⟩ = some (.float .f32 xs[j]) := by rw [hw.cell, ha j (by simpa using hlt)]; simp
      have h2 : wr.cell? ⟨b2, o2 + j, none⟩ = some (.float .f32 ys[j]) := by rw [hw.cell, hb j (by simpa using hlt2)]; simp
      have hf : FEq .f32 xs[j] ys[j] := hxy j hlt hlt2
      generalize xs[j] = x at *
      generalize ys[j] = y at *
      clear ha hb hxy
      go_wp2
      go_region_with (go_at_call 62; refine (sameFloat_yes _ _ (FEq.wi hf _ _) _).mono ?_; rintro e w1 ⟨rfl, hw1⟩)
      all_goals go_wp2
      all_goals
        go_roundw
        case rel => exact ⟨j + 1, by omega, by go_num, hw.trans (Drew.trans ⟨_, by first | rfl | simp⟩ hw1)⟩
        case measure => simp [intOf]; omega
    · clear ha hb hxy
      go_wp2
      go_ret
      exact ⟨rfl, hw⟩
end Go.Proofs.Ytljkgemkolmihaa
