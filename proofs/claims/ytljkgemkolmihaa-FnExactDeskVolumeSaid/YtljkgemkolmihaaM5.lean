/- Desks: copies. -/
import Derived.Test.YtljkgemkolmihaaM4
import Derived.Test.YtljkgemkolmihaaL3
namespace Go.Proofs.Ytljkgemkolmihaa
open Go.RowKit

theorem toM_law {W H : Int} {pa : Option Addr} {pc : Nat} {xs : List Nat} (w : World) (hx : xs.length ≤ 1048576) (hp : Rd (· < w.heap.size) w pa (xs.map fl)) :
    Calls Try.prog 51 #[.agg #[.int .i64 W, .int .i64 H, .slice pa xs.length pc]] w (ToP W H xs w) :=
  (toM W H (· < w.heap.size) pa pc xs w hx hp (fun _ h => h)).mono fun e w' ⟨g, hg, he, hw, hb⟩ => ⟨g, he, hw.tight.mono (fun k hk => ⟨by rw [hk.1]; exact hg, hk.2⟩), hb⟩

/-- a desk of its own: three rows in three stretches of blocks -/
def FreshD (l r m : PV) (w : World) (e : Ending) (w' : World) : Prop :=
  ∃ g1 g2 g3 s1 s2, e = .returned (deskV ⟨l.W, l.H, some ⟨g1, 0, none⟩, l.xs.length, l.xs⟩ ⟨r.W, r.H, some ⟨g2, 0, none⟩, r.xs.length, r.xs⟩ ⟨m.W, m.H, some ⟨g3, 0, none⟩, m.xs.length, m.xs⟩) ∧
    Wr (fun b => w.heap.size ≤ b ∧ b < s1) w' (some ⟨g1, 0, none⟩) (l.xs.map fl) ∧ Wr (fun b => s1 ≤ b ∧ b < s2) w' (some ⟨g2, 0, none⟩) (r.xs.map fl) ∧ Wr (fun b => s2 ≤ b ∧ b < w'.heap.size) w' (some ⟨g3, 0, none⟩) (m.xs.map fl) ∧
    s1 ≤ s2 ∧ s2 ≤ w'.heap.size ∧ w.heap.size ≤ s1 ∧ Below w.heap.size w w'

set_option maxRecDepth 100000 in
set_option maxHeartbeats 4000000 in
theorem toD (l r m : PV) (w : World) (h1 : l.xs.length ≤ 1048576) (h2 : r.xs.length ≤ 1048576) (h3 : m.xs.length ≤ 1048576) (h : Rd3 (· < w.heap.size) w l r m) :
    Calls Try.prog 21 #[deskV l r m] w (FreshD l r m w) := by
  obtain ⟨W1, H1, a1, c1, x1⟩ := l
  obtain ⟨W2, H2, a2, c2, x2⟩ := r
  obtain ⟨W3, H3, a3, c3, x3⟩ := m
  simp only [deskV, FreshD] at *
  have Hr0 := Lib.hid h
  clear h
  go_enter Try.func21, Try.ntmps21
  go_wp2_with fail
  refine (toP_law _ h1 (((Hr0.out.1.alloc _).alloc _).alloc _ |>.mono (fun k hk => by simp at hk ⊢; omega))).mono ?_
  rintro e w1 ⟨g1, rfl, hw1, hb1⟩
  obtain ⟨hc1, hf1⟩ := bcell hb1
  have hz1 : w.heap.size + 2 < w1.heap.size := by have := hb1.size; simp at this; omega
  have za1 : w.heap.size < w1.heap.size := by omega
  have zb1 : w.heap.size + 1 < w1.heap.size := by omega
  have zc1 : w.heap.size + 1 + 1 < w1.heap.size := by omega
  have Hw1 := Lib.hid hw1
  have Hb1 := Lib.hid hb1
  clear hw1 hb1
  go_wp2_with fail
  have B1 : Below w.heap.size w w1 := ((((Below.refl _ _).alloc (Nat.le_refl _) _).alloc (by simp) _).alloc (by simp; omega) _).trans (Hb1.out.mono (by simp; omega))
  have By1 := Lib.hid (((B1.setCell (p := ⟨w.heap.size + 1 + 1, 0, none⟩) (by simp; omega) (.int .i64 W1)).setCell (p := ⟨w.heap.size + 1 + 1, 1, none⟩) (by simp; omega) (.int .i64 H1)).setCell (p := ⟨w.heap.size + 1 + 1, 2, none⟩) (by simp; omega) (.slice (some ⟨g1, 0, none⟩) x1.length x1.length))
  have Hy1 := Lib.hid (((Hw1.out.setCell (p := ⟨w.heap.size + 1 + 1, 0, none⟩) (by simp; omega) (.int .i64 W1)).setCell (p := ⟨w.heap.size + 1 + 1, 1, none⟩) (by simp; omega) (.int .i64 H1)).setCell (p := ⟨w.heap.size + 1 + 1, 2, none⟩) (by simp; omega) (.slice (some ⟨g1, 0, none⟩) x1.length x1.length))
  refine (toP_law _ h2 ((Hr0.out.2.1.below By1.out).mono (fun k hk => by simp [World.setCell] at hk ⊢; omega))).mono ?_
  rintro e w2 ⟨g2, rfl, hw2, hb2⟩
  have hs2 : ∀ (a b c : Addr) (u v x : Value), (((w1.setCell a u).setCell b v).setCell c x).heap.size = w1.heap.size := fun _ _ _ _ _ _ => by simp [World.setCell]
  have hz2 : w1.heap.size ≤ w2.heap.size := by have := hb2.size; simpa [hs2] using this
  obtain ⟨hc2, hf2⟩ := bcell hb2
  rw [hs2] at hc2 hf2
  have za2 : w.heap.size < w2.heap.size := by omega
  have zb2 : w.heap.size + 1 < w2.heap.size := by omega
  have zc2 : w.heap.size + 1 + 1 < w2.heap.size := by omega
  have Hw2 := Lib.hid hw2
  have Hb2 := Lib.hid hb2
  clear hw2 hb2 hs2
  go_wp2_with fail
  have B2 : Below w.heap.size w w2 := By1.out.trans (Hb2.out.mono (by simp [World.setCell]; omega))
  have R1 := Lib.hid ((((Hy1.out.step' Hb2.out).setCell (p := ⟨w.heap.size + 1 + 1, 3, none⟩) (by simp; omega) (.int .i64 W2)).setCell (p := ⟨w.heap.size + 1 + 1, 4, none⟩) (by simp; omega) (.int .i64 H2)).setCell (p := ⟨w.heap.size + 1 + 1, 5, none⟩) (by simp; omega) (.slice (some ⟨g2, 0, none⟩) x2.length x2.length))
  have R2 := Lib.hid (((Hw2.out.setCell (p := ⟨w.heap.size + 1 + 1, 3, none⟩) (by simp [World.setCell]; omega) (.int .i64 W2)).setCell (p := ⟨w.heap.size + 1 + 1, 4, none⟩) (by simp [World.setCell]; omega) (.int .i64 H2)).setCell (p := ⟨w.heap.size + 1 + 1, 5, none⟩) (by simp [World.setCell]; omega) (.slice (some ⟨g2, 0, none⟩) x2.length x2.length))
  have By2 := Lib.hid (((B2.setCell (p := ⟨w.heap.size + 1 + 1, 3, none⟩) (by simp; omega) (.int .i64 W2)).setCell (p := ⟨w.heap.size + 1 + 1, 4, none⟩) (by simp; omega) (.int .i64 H2)).setCell (p := ⟨w.heap.size + 1 + 1, 5, none⟩) (by simp; omega) (.slice (some ⟨g2, 0, none⟩) x2.length x2.length))
  refine (toM_law _ h3 ((Hr0.out.2.2.below By2.out).mono (fun k hk => by simp [World.setCell] at hk ⊢; omega))).mono ?_
  rintro e w3 ⟨g3, rfl, hw3, hb3⟩
  have hs2 : ∀ (a b c : Addr) (u v x : Value), (((w2.setCell a u).setCell b v).setCell c x).heap.size = w2.heap.size := fun _ _ _ _ _ _ => by simp [World.setCell]
  have hz3 : w2.heap.size ≤ w3.heap.size := by have := hb3.size; simpa [hs2] using this
  obtain ⟨hc3, hf3⟩ := bcell hb3
  rw [hs2] at hc3 hf3
  have za3 : w.heap.size < w3.heap.size := by omega
  have zb3 : w.heap.size + 1 < w3.heap.size := by omega
  have zc3 : w.heap.size + 1 + 1 < w3.heap.size := by omega
  have Q1 := Lib.hid (R1.out.step' hb3)
  have Q2 := Lib.hid (R2.out.step' hb3)
  have Q3 := Lib.hid hw3
  have B3 := Lib.hid (By2.out.trans (hb3.mono (by rw [hs2]; omega)))
  clear hw3 hb3 R1 R2 hs2
  go_wp2
  refine bodyPost_ret (v := deskV ⟨W1, H1, some ⟨g1, 0, none⟩, x1.length, x1⟩ ⟨W2, H2, some ⟨g2, 0, none⟩, x2.length, x2⟩ ⟨W3, H3, some ⟨g3, 0, none⟩, x3.length, x3⟩) (by simp [deskV, results, Try.results21, go_sem, hc1, hc2, hc3, za1, za2, za3, zb1, zb2, zb3]) rfl ⟨g1, g2, g3, w1.heap.size, w2.heap.size, rfl, ?_, ?_, ?_, by omega, ?_, by omega, ?_⟩
  · refine Wr.mono (Wr.keep Q1.out (T := fun b => b = w.heap.size + 1 ∨ b = w.heap.size + 1 + 1) ?_ ?_) ?_
    · iterate 12 (refine Only.setCell ?_ (by simp) _)
      exact Only.refl _ _
    · intro k hk h; simp at hk; omega
    · intro k hk; simp at hk ⊢; omega
  · refine Wr.mono (Wr.keep Q2.out (T := fun b => b = w.heap.size + 1 ∨ b = w.heap.size + 1 + 1) ?_ ?_) ?_
    · iterate 12 (refine Only.setCell ?_ (by simp) _)
      exact Only.refl _ _
    · intro k hk h; simp [World.setCell] at hk; omega
    · intro k hk; simp [World.setCell] at hk ⊢; omega
  · refine Wr.mono (Wr.keep Q3.out (T := fun b => b = w.heap.size + 1 ∨ b = w.heap.size + 1 + 1) ?_ ?_) ?_
    · iterate 12 (refine Only.setCell ?_ (by simp) _)
      exact Only.refl _ _
    · intro k hk h; simp [World.setCell] at hk; omega
    · intro k hk; simp [World.setCell] at hk ⊢; omega
  · simp [World.setCell]; omega
  · iterate 12 (refine Below.setCell ?_ (by simp; try omega) _)
    exact B3.out
end Go.Proofs.Ytljkgemkolmihaa
