/- The laws' helpers on desks. -/
import Derived.Test.YtljkgemkolmihaaM2
import Derived.Test.YtljkgemkolmihaaP2
namespace Go.Proofs.Ytljkgemkolmihaa
open Go.RowKit

/-- a desk's value: two pictures and a map -/
def deskV (l r m : PV) : Value := .agg #[.int .i64 l.W, .int .i64 l.H, .slice l.a l.xs.length l.c, .int .i64 r.W, .int .i64 r.H, .slice r.a r.xs.length r.c, .int .i64 m.W, .int .i64 m.H, .slice m.a m.xs.length m.c]

set_option maxHeartbeats 1000000 in
theorem szD (l r m : PV) (k : Int) (w : World) (h1 : l.xs.length ≤ maxLen) (h2 : r.xs.length ≤ maxLen) (h3 : m.xs.length ≤ maxLen) (hk : k ≤ 1048576) (hk0 : 0 ≤ k) :
    Calls Try.prog 19 #[deskV l r m, .int .i64 k] w fun e w' => e = .returned (.int .i64 (if k - l.xs.length - r.xs.length - m.xs.length < 0 then -1 else k - l.xs.length - r.xs.length - m.xs.length)) ∧ Below w.heap.size w w' := by
  obtain ⟨W1, H1, a1, c1, x1⟩ := l
  obtain ⟨W2, H2, a2, c2, x2⟩ := r
  obtain ⟨W3, H3, a3, c3, x3⟩ := m
  simp only [deskV] at *
  have hB : Below w.heap.size w (w.alloc (.cells #[.int .i64 W1, .int .i64 H1, .slice a1 x1.length c1, .int .i64 W2, .int .i64 H2, .slice a2 x2.length c2, .int .i64 W3, .int .i64 H3, .slice a3 x3.length c3] 49)) := (Below.refl _ _).alloc (Nat.le_refl _) _
  by_cases q1 : k - (x1.length : Int) < 0
  · rw [if_pos (by omega)]
    go_enter Try.func19, Try.ntmps19
    go_wp2_with fail
    refine (szP W1 H1 a1 x1.length c1 k _ h1 hk hk0).mono ?_
    rw [if_pos (by omega)]
    rintro e w1 ⟨rfl, hb1⟩
    go_wp2_with fail
    go_ret
    exact ⟨rfl, hB.trans (hb1.mono (by simp))⟩
  by_cases q2 : k - (x1.length : Int) - x2.length < 0
  · rw [if_pos (by omega)]
    go_enter Try.func19, Try.ntmps19
    go_wp2_with fail
    refine (szP W1 H1 a1 x1.length c1 k _ h1 hk hk0).mono ?_
    rw [if_neg (by omega)]
    rintro e w1 ⟨rfl, hb1⟩
    obtain ⟨cB, fB⟩ := bcell hb1
    have d3 : w1.cell? ⟨w.heap.size, 3, none⟩ = some (.int .i64 W2) := by rw [cB _ _ (by simp)]; simp [go_sem]
    have d4 : w1.cell? ⟨w.heap.size, 4, none⟩ = some (.int .i64 H2) := by rw [cB _ _ (by simp)]; simp [go_sem]
    have d5 : w1.cell? ⟨w.heap.size, 5, none⟩ = some (.slice a2 x2.length c2) := by rw [cB _ _ (by simp)]; simp [go_sem]
    clear cB fB
    go_wp2_with fail
    refine (szP W2 H2 a2 x2.length c2 (k - x1.length) _ h2 (by omega) (by omega)).mono ?_
    rw [if_pos (by omega)]
    rintro e w2 ⟨rfl, hb2⟩
    go_wp2_with fail
    go_ret
    exact ⟨rfl, (hB.trans (hb1.mono (by simp))).trans (hb2.mono (by have := hb1.size; simp at this; omega))⟩
  · by_cases q3 : k - (x1.length : Int) - x2.length - x3.length < 0
    all_goals
      first | rw [if_pos (by omega)] | rw [if_neg (by omega)]
      go_enter Try.func19, Try.ntmps19
      go_wp2_with fail
      refine (szP W1 H1 a1 x1.length c1 k _ h1 hk hk0).mono ?_
      rw [if_neg (by omega)]
      rintro e w1 ⟨rfl, hb1⟩
      obtain ⟨cB, fB⟩ := bcell hb1
      have hz1 := hb1.size
      simp only [World.size_alloc] at hz1
      have d3 : w1.cell? ⟨w.heap.size, 3, none⟩ = some (.int .i64 W2) := by rw [cB _ _ (by simp)]; simp [go_sem]
      have d4 : w1.cell? ⟨w.heap.size, 4, none⟩ = some (.int .i64 H2) := by rw [cB _ _ (by simp)]; simp [go_sem]
      have d5 : w1.cell? ⟨w.heap.size, 5, none⟩ = some (.slice a2 x2.length c2) := by rw [cB _ _ (by simp)]; simp [go_sem]
      have d6 : w1.cell? ⟨w.heap.size, 6, none⟩ = some (.int .i64 W3) := by rw [cB _ _ (by simp)]; simp [go_sem]
      have d7 : w1.cell? ⟨w.heap.size, 7, none⟩ = some (.int .i64 H3) := by rw [cB _ _ (by simp)]; simp [go_sem]
      have d8 : w1.cell? ⟨w.heap.size, 8, none⟩ = some (.slice a3 x3.length c3) := by rw [cB _ _ (by simp)]; simp [go_sem]
      clear cB fB
      go_wp2_with fail
      refine (szP W2 H2 a2 x2.length c2 (k - x1.length) _ h2 (by omega) (by omega)).mono ?_
      rw [if_neg (by omega)]
      rintro e w2 ⟨rfl, hb2⟩
      obtain ⟨cB, fB⟩ := bcell hb2
      have hz2 := hb2.size
      rw [← cB _ _ (by omega)] at d6 d7 d8
      clear cB fB d3 d4 d5
      have hB2 := (hB.trans (hb1.mono (by simp))).trans (hb2.mono (by omega))
      go_wp2_with fail
      refine (szM W3 H3 a3 x3.length c3 (k - x1.length - x2.length) _ h3 (by omega) (by omega)).mono ?_
      first | rw [if_pos (by omega)] | rw [if_neg (by omega)]
      rintro e w3 ⟨rfl, hb3⟩
      go_wp2_with fail
      go_ret
      exact ⟨rfl, hB2.trans (hb3.mono (by omega))⟩
end Go.Proofs.Ytljkgemkolmihaa
