/- The laws' helpers on maps. -/
import Derived.Test.YtljkgemkolmihaaP1
namespace Go.Proofs.Ytljkgemkolmihaa
open Go.RowKit

theorem szM (W H : Int) (a : Option Addr) (n c : Nat) (l : Int) (w : World) (hn : n ≤ maxLen) (hl : l ≤ 1048576) (hl0 : 0 ≤ l) :
    Calls Try.prog 48 #[.agg #[.int .i64 W, .int .i64 H, .slice a n c], .int .i64 l] w fun e w' => e = .returned (.int .i64 (if l - n < 0 then -1 else l - n)) ∧ Below w.heap.size w w' := by
  by_cases h : l - (n : Int) < 0
  all_goals
    go_enter Try.func48, Try.ntmps48
    go_wp2_with (go_at_call 29; refine (szF _ _ _ _ _ hn hl hl0).mono ?_; rintro e w' ⟨rfl, rfl⟩)
    go_ret
    exact ⟨rfl, (Below.refl _ _).alloc (Nat.le_refl _) _⟩

set_option maxHeartbeats 400000 in
theorem toM (W H : Int) (S : Nat → Prop) (a : Option Addr) (c : Nat) (xs : List Nat) (w : World) (hn : xs.length ≤ 1048576) (h : Rd S w a (xs.map fl)) (hS : ∀ k, S k → k < w.heap.size) :
    Calls Try.prog 51 #[.agg #[.int .i64 W, .int .i64 H, .slice a xs.length c]] w fun e w' => ∃ g, w.heap.size ≤ g ∧ e = .returned (.agg #[.int .i64 W, .int .i64 H, .slice (some ⟨g, 0, none⟩) xs.length xs.length]) ∧
      Wr (· = g) w' (some ⟨g, 0, none⟩) (xs.map fl) ∧ Below w.heap.size w w' := by
  go_enter Try.func51, Try.ntmps51
  go_wp2_with fail
  refine (toF S a c xs _ hn (((h.alloc _).alloc _).alloc _) (fun k hk => by have := hS k hk; simp; omega)).mono ?_
  rintro e w1 ⟨rfl, hw1, hb1⟩
  obtain ⟨hc, hf⟩ := bcell hb1
  have hz : w.heap.size + 2 < w1.heap.size := by have := hb1.size; simp at this; omega
  go_wp2
  simp only [World.size_alloc] at hw1 hb1
  refine bodyPost_ret (v := .agg #[.int .i64 W, .int .i64 H, .slice (some ⟨w.heap.size + 1 + 1 + 1, 0, none⟩) xs.length xs.length]) (by simp [results, Try.results51, go_sem, hc]) rfl ⟨w.heap.size + 1 + 1 + 1, by omega, rfl, ?_, ?_⟩
  · exact (((hw1.setCell (by simp) _).setCell (by simp) _).setCell (by simp) _).setCell (by simp) _
  · refine ((((((((Below.refl _ _).alloc (Nat.le_refl _) _).alloc (by simp) _).alloc (by simp; omega) _).trans (hb1.mono (by omega))).setCell ?_ _).setCell ?_ _).setCell ?_ _).setCell ?_ _ <;> simp <;> omega

theorem markM (W H : Int) (S : Nat → Prop) (a : Option Addr) (c : Nat) (xs : List Nat) (k : Int) (w : World) (hn : xs.length ≤ 1048576) (hk0 : 0 ≤ k) (hk1 : k ≤ 1125899906842624) (h : Wr S w a (xs.map fl)) :
    Calls Try.prog 55 #[.agg #[.int .i64 W, .int .i64 H, .slice a xs.length c], .int .i64 k] w fun e w' => e = .returned (.int .i64 (k + xs.length)) ∧ Wr S w' a ((marks k xs.length).map fl) ∧ Only S w w' := by
  go_enter Try.func55, Try.ntmps55
  go_wp2_with (go_at_call 42; refine (markF S _ _ _ _ _ hn hk0 hk1 (h.alloc _)).mono ?_; rintro e w1 ⟨rfl, hw1, ho1⟩)
  go_ret
  exact ⟨rfl, hw1, ((Only.refl _ _).alloc _).trans ho1⟩

set_option maxHeartbeats 400000 in
theorem eqM (W H W' H' : Int) (S T : Nat → Prop) (a b : Option Addr) (c d : Nat) (xs ys : List Nat) (w : World) (hW : W = W') (hH : H = H') (hn : xs.length ≤ 1048576) (hl : xs.length = ys.length) (hxy : ∀ i (h1 : i < xs.length) (h2 : i < ys.length), FEq .f32 xs[i] ys[i])
    (ha : Rd S w a (xs.map fl)) (hb : Rd T w b (ys.map fl)) :
    Calls Try.prog 54 #[.agg #[.int .i64 W, .int .i64 H, .slice a xs.length c], .agg #[.int .i64 W', .int .i64 H', .slice b ys.length d]] w fun e w' => e = .returned (.bool true) ∧ Below w.heap.size w w' := by
  subst hW hH
  have Hl := Lib.hid hl
  clear hl
  have hww : (W != W) = false := by simp
  have hhh : (H != H) = false := by simp
  go_enter Try.func54, Try.ntmps54
  go_wp2_with (go_at_call 40; refine (eqF S T _ _ _ _ _ _ _ hn Hl.out hxy ((ha.alloc _).alloc _) ((hb.alloc _).alloc _)).mono ?_; rintro e w1 ⟨rfl, hw1⟩)
  go_ret
  exact ⟨rfl, (((Below.refl _ _).alloc (Nat.le_refl _) _).alloc (by simp) _).trans hw1.below⟩
end Go.Proofs.Ytljkgemkolmihaa
