/- Desks: equality, marks. -/
import Derived.Test.YtljkgemkolmihaaM3
namespace Go.Proofs.Ytljkgemkolmihaa
open Go.RowKit

/-- three rows of numbers, read -/
def Rd3 (S : Nat → Prop) (w : World) (l r m : PV) : Prop := Rd S w l.a (l.xs.map fl) ∧ Rd S w r.a (r.xs.map fl) ∧ Rd S w m.a (m.xs.map fl)
theorem Rd3.keep {S T : Nat → Prop} {w w' : World} {l r m : PV} (h : Rd3 S w l r m) (ho : Only T w w') (hd : ∀ k, S k → ¬ T k) : Rd3 S w' l r m := ⟨h.1.keep ho hd, h.2.1.keep ho hd, h.2.2.keep ho hd⟩
theorem Rd3.mono {S T : Nat → Prop} {w : World} {l r m : PV} (h : Rd3 S w l r m) (hs : ∀ k, S k → T k) : Rd3 T w l r m := ⟨h.1.mono hs, h.2.1.mono hs, h.2.2.mono hs⟩
theorem Rd3.below {B : Nat} {w w' : World} {l r m : PV} (h : Rd3 (· < B) w l r m) (hb : Below B w w') : Rd3 (· < B) w' l r m := h.keep (Only.below hb) (fun k hk hn => by omega)

/-- cells that stand at a desk's place -/
def DeskAt (w : World) (b : Nat) (l r m : PV) : Prop :=
  w.cell? ⟨b, 0, none⟩ = some (.int .i64 l.W) ∧ w.cell? ⟨b, 1, none⟩ = some (.int .i64 l.H) ∧ w.cell? ⟨b, 2, none⟩ = some (.slice l.a l.xs.length l.c) ∧
  w.cell? ⟨b, 3, none⟩ = some (.int .i64 r.W) ∧ w.cell? ⟨b, 4, none⟩ = some (.int .i64 r.H) ∧ w.cell? ⟨b, 5, none⟩ = some (.slice r.a r.xs.length r.c) ∧
  w.cell? ⟨b, 6, none⟩ = some (.int .i64 m.W) ∧ w.cell? ⟨b, 7, none⟩ = some (.int .i64 m.H) ∧ w.cell? ⟨b, 8, none⟩ = some (.slice m.a m.xs.length m.c)
theorem DeskAt.below {w w' : World} {b : Nat} {l r m : PV} (h : DeskAt w b l r m) (hb : Below w.heap.size w w') (hlt : b < w.heap.size) : DeskAt w' b l r m := by
  obtain ⟨c, _⟩ := bcell hb
  unfold DeskAt
  rw [c _ _ hlt, c _ _ hlt, c _ _ hlt, c _ _ hlt, c _ _ hlt, c _ _ hlt, c _ _ hlt, c _ _ hlt, c _ _ hlt]
  exact h
theorem DeskAt.only {T : Nat → Prop} {w w' : World} {b : Nat} {l r m : PV} (h : DeskAt w b l r m) (ho : Only T w w') (hT : ¬ T b) (hlt : b < w.heap.size) : DeskAt w' b l r m := by
  have c : ∀ o, w'.cell? ⟨b, o, none⟩ = w.cell? ⟨b, o, none⟩ := fun o => World.cell?_of_block (w := w) (ho.block b hlt hT)
  unfold DeskAt
  rw [c, c, c, c, c, c, c, c, c]
  exact h

set_option maxRecDepth 100000 in
set_option maxHeartbeats 2000000 in
/-- desks of the same numbers are equal -/
theorem eqD (B : Nat) (l r m l' r' m' : PV) (w : World) (h1 : l.xs.length ≤ 1048576) (h2 : r.xs.length ≤ 1048576) (h3 : m.xs.length ≤ 1048576)
    (e1 : l'.W = l.W ∧ l'.H = l.H ∧ l'.xs = l.xs) (e2 : r'.W = r.W ∧ r'.H = r.H ∧ r'.xs = r.xs) (e3 : m'.W = m.W ∧ m'.H = m.H ∧ m'.xs = m.xs)
    (ha : Rd3 (· < B) w l r m) (hb : Rd3 (· < B) w l' r' m') (hB : B ≤ w.heap.size) :
    Calls Try.prog 24 #[deskV l r m, deskV l' r' m'] w fun e w' => e = .returned (.bool true) ∧ Below w.heap.size w w' := by
  obtain ⟨W1, H1, a1, c1, x1⟩ := l
  obtain ⟨W2, H2, a2, c2, x2⟩ := r
  obtain ⟨W3, H3, a3, c3, x3⟩ := m
  obtain ⟨W1', H1', a1', c1', x1'⟩ := l'
  obtain ⟨W2', H2', a2', c2', x2'⟩ := r'
  obtain ⟨W3', H3', a3', c3', x3'⟩ := m'
  simp only at e1 e2 e3 h1 h2 h3
  obtain ⟨rfl, rfl, rfl⟩ := e1
  obtain ⟨rfl, rfl, rfl⟩ := e2
  obtain ⟨rfl, rfl, rfl⟩ := e3
  simp only [deskV]
  obtain ⟨x0, hx0⟩ : ∃ x0, x0 = (w.alloc (.cells #[.int .i64 W1', .int .i64 H1', .slice a1 x1'.length c1, .int .i64 W2', .int .i64 H2', .slice a2 x2'.length c2, .int .i64 W3', .int .i64 H3', .slice a3 x3'.length c3] 57)).alloc (.cells #[.int .i64 W1', .int .i64 H1', .slice a1' x1'.length c1', .int .i64 W2', .int .i64 H2', .slice a2' x2'.length c2', .int .i64 W3', .int .i64 H3', .slice a3' x3'.length c3'] 57) := ⟨_, rfl⟩
  have D0 : Hid (DeskAt x0 w.heap.size ⟨W1', H1', a1, c1, x1'⟩ ⟨W2', H2', a2, c2, x2'⟩ ⟨W3', H3', a3, c3, x3'⟩) := Lib.hid (by rw [hx0]; simp [DeskAt, go_sem])
  have E0 : Hid (DeskAt x0 (w.heap.size + 1) ⟨W1', H1', a1', c1', x1'⟩ ⟨W2', H2', a2', c2', x2'⟩ ⟨W3', H3', a3', c3', x3'⟩) := Lib.hid (by rw [hx0]; simp [DeskAt, go_sem])
  have B0 : Below w.heap.size w x0 := by rw [hx0]; exact ((Below.refl _ _).alloc (Nat.le_refl _) _).alloc (by simp) _
  have hz0 : w.heap.size + 2 = x0.heap.size := by rw [hx0]; simp
  have Ha := Lib.hid (ha.below (B0.mono hB))
  have Hb := Lib.hid (hb.below (B0.mono hB))
  have Hx0 := Lib.hid hx0
  clear ha hb hx0
  go_enter Try.func24, Try.ntmps24
  go_wp2_with fail
  rw [← Hx0.out]
  refine (eqP W1' H1' W1' H1' (· < B) (· < B) a1 a1' c1 c1' x1' x1' x0 rfl rfl h1 rfl (fun _ _ _ => FEq.refl _ _) Ha.out.1 Hb.out.1).mono ?_
  rintro e w1 ⟨rfl, hb1⟩
  have hz1 := hb1.size
  have D1 := Lib.hid (D0.out.below hb1 (by omega))
  have E1 := Lib.hid (E0.out.below hb1 (by omega))
  have Ha1 := Lib.hid (Ha.out.below (hb1.mono (by omega)))
  have Hb1 := Lib.hid (Hb.out.below (hb1.mono (by omega)))
  have B1 := B0.trans (hb1.mono (by omega))
  clear hb1 D0 E0 Ha Hb Hx0
  obtain ⟨_, _, _, d3, d4, d5, d6, d7, d8⟩ := D1.out
  obtain ⟨_, _, _, e3, e4, e5, e6, e7, e8⟩ := E1.out
  go_wp2_with fail
  refine (eqP W2' H2' W2' H2' (· < B) (· < B) a2 a2' c2 c2' x2' x2' w1 rfl rfl h2 rfl (fun _ _ _ => FEq.refl _ _) Ha1.out.2.1 Hb1.out.2.1).mono ?_
  rintro e w2 ⟨rfl, hb2⟩
  have hz2 := hb2.size
  have D2 := Lib.hid (D1.out.below hb2 (by omega))
  have E2 := Lib.hid (E1.out.below hb2 (by omega))
  have Ha2 := Lib.hid (Ha1.out.below (hb2.mono (by omega)))
  have Hb2 := Lib.hid (Hb1.out.below (hb2.mono (by omega)))
  have B2 := B1.trans (hb2.mono (by omega))
  clear hb2 D1 E1 Ha1 Hb1 d3 d4 d5 d6 d7 d8 e3 e4 e5 e6 e7 e8
  obtain ⟨_, _, _, _, _, _, d6, d7, d8⟩ := D2.out
  obtain ⟨_, _, _, _, _, _, e6, e7, e8⟩ := E2.out
  go_wp2_with fail
  refine (eqM W3' H3' W3' H3' (· < B) (· < B) a3 a3' c3 c3' x3' x3' w2 rfl rfl h3 rfl (fun _ _ _ => FEq.refl _ _) Ha2.out.2.2 Hb2.out.2.2).mono ?_
  rintro e w3 ⟨rfl, hb3⟩
  go_wp2_with fail
  go_ret
  exact ⟨rfl, B2.trans (hb3.mono (by omega))⟩
end Go.Proofs.Ytljkgemkolmihaa
