/- The law on DeskVolume, walked. -/
import Derived.Test.YtljkgemkolmihaaW10
import Derived.Deep.RegionHeld3
namespace Go.Proofs.Ytljkgemkolmihaa
open Go.RowKit

/-- a picture's like in a row of its own -/
def fr (g : Nat) (p : PV) : PV := ⟨p.W, p.H, some ⟨g, 0, none⟩, p.xs.length, p.xs⟩
theorem spec_law (l r m : PV) (g1 g2 g3 : Nat) (D : Int) (w : World) (h1 : l.xs.length ≤ 1048576) (h2 : r.xs.length ≤ 1048576) (h3 : m.xs.length ≤ 1048576) (hr : Rd3 (· < w.heap.size) w (fr g1 l) (fr g2 r) (fr g3 m)) :
    Calls Try.prog 20 #[deskV (fr g1 l) (fr g2 r) (fr g3 m), .int .i64 D] w (OwnV (deskB l r m && inB D 1 8) (volW (deskB l r m && inB D 1 8) l.W) (volW (deskB l r m && inB D 1 8) l.H) (volW (deskB l r m && inB D 1 8) D) (volL (deskB l r m && inB D 1 8) l D (sqF l r D)) w) :=
  (sdeskVolume_any (fr g1 l) (fr g2 r) (fr g3 m) D w (by unfold maxLen; show l.xs.length ≤ _; omega) (by unfold maxLen; show r.xs.length ≤ _; omega) (by unfold maxLen; show m.xs.length ≤ _; omega) hr.1 hr.2.1).mono fun _ _ h => VolRes.own (l := l) h
theorem impl_law (l r m : PV) (g1 g2 g3 : Nat) (D : Int) (w : World) (h1 : l.xs.length ≤ 1048576) (h2 : r.xs.length ≤ 1048576) (h3 : m.xs.length ≤ 1048576) (hr : Rd3 (· < w.heap.size) w (fr g1 l) (fr g2 r) (fr g3 m)) :
    Calls Try.prog 22 #[deskV (fr g1 l) (fr g2 r) (fr g3 m), .int .i64 D] w (OwnV (deskB l r m && inB D 1 8) (volW (deskB l r m && inB D 1 8) l.W) (volW (deskB l r m && inB D 1 8) l.H) (volW (deskB l r m && inB D 1 8) D) (volL (deskB l r m && inB D 1 8) l D (sqF l r D)) w) :=
  (deskVolume_any (fr g1 l) (fr g2 r) (fr g3 m) D w (by unfold maxLen; show l.xs.length ≤ _; omega) (by unfold maxLen; show r.xs.length ≤ _; omega) (by unfold maxLen; show m.xs.length ≤ _; omega) hr.1 hr.2.1).mono fun _ _ h => VolRes.own (l := l) h

/-- a desk's copies -/
structure DRows (lo s1 s2 hi : Nat) (l r m : PV) (g1 g2 g3 : Nat) (x : World) : Prop where
  a1 : Wr (fun b => lo ≤ b ∧ b < s1) x (some ⟨g1, 0, none⟩) (l.xs.map fl)
  a2 : Wr (fun b => s1 ≤ b ∧ b < s2) x (some ⟨g2, 0, none⟩) (r.xs.map fl)
  a3 : Wr (fun b => s2 ≤ b ∧ b < hi) x (some ⟨g3, 0, none⟩) (m.xs.map fl)
  o1 : lo ≤ s1
  o2 : s1 ≤ s2
  o3 : s2 ≤ hi
theorem DRows.rd {lo s1 s2 hi : Nat} {l r m : PV} {g1 g2 g3 : Nat} {x : World} (h : DRows lo s1 s2 hi l r m g1 g2 g3 x) (B : Nat) (hB : hi ≤ B) : Rd3 (· < B) x (fr g1 l) (fr g2 r) (fr g3 m) := by
  have := h.o1
  have := h.o2
  have := h.o3
  exact ⟨h.a1.rd.mono (fun k hk => by omega), h.a2.rd.mono (fun k hk => by omega), h.a3.rd.mono (fun k hk => by omega)⟩
theorem DRows.next {lo s1 s2 hi : Nat} {l r m : PV} {g1 g2 g3 : Nat} {x y : World} (h : DRows lo s1 s2 hi l r m g1 g2 g3 x) (hhi : hi ≤ x.heap.size) (hb : Below x.heap.size x y) : DRows lo s1 s2 hi l r m g1 g2 g3 y := by
  have := h.o1
  have := h.o2
  have := h.o3
  exact ⟨h.a1.keep (Only.below hb) (fun k hk hn => by omega), h.a2.keep (Only.below hb) (fun k hk hn => by omega), h.a3.keep (Only.below hb) (fun k hk hn => by omega), h.o1, h.o2, h.o3⟩
/-- a copy of a desk, in these words -/
theorem toD_law (l r m : PV) (w : World) (h1 : l.xs.length ≤ 1048576) (h2 : r.xs.length ≤ 1048576) (h3 : m.xs.length ≤ 1048576) (h : Rd3 (· < w.heap.size) w l r m) :
    Calls Try.prog 21 #[deskV l r m] w fun e w' => ∃ g1 g2 g3 s1 s2, e = .returned (.agg #[.int .i64 l.W, .int .i64 l.H, .slice (some ⟨g1, 0, none⟩) l.xs.length l.xs.length, .int .i64 r.W, .int .i64 r.H, .slice (some ⟨g2, 0, none⟩) r.xs.length r.xs.length, .int .i64 m.W, .int .i64 m.H, .slice (some ⟨g3, 0, none⟩) m.xs.length m.xs.length]) ∧ DRows w.heap.size s1 s2 w'.heap.size l r m g1 g2 g3 w' ∧ Below w.heap.size w w' :=
  (toD l r m w h1 h2 h3 h).mono fun e w' ⟨g1, g2, g3, s1, s2, he, a1, a2, a3, o2, o3, o1, hb⟩ => ⟨g1, g2, g3, s1, s2, he, ⟨a1, a2, a3, o1, o2, o3⟩, hb⟩

set_option maxRecDepth 100000 in
set_option maxHeartbeats 8000000 in
theorem law_desk (l r m : PV) (D : Int) (w : World) (h1 : l.xs.length ≤ maxLen) (h2 : r.xs.length ≤ maxLen) (h3 : m.xs.length ≤ maxLen) (h : Rd3 (· < w.heap.size) w l r m) :
    Calls Try.prog 5 #[deskV l r m, .int .i64 D] w fun e w' => e = .returned (.bool true) ∧ Below w.heap.size w w' := by
  obtain ⟨x0, hx0⟩ : ∃ x0, x0 = w.alloc (.cells #[.int .i64 l.W, .int .i64 l.H, .slice l.a l.xs.length l.c, .int .i64 r.W, .int .i64 r.H, .slice r.a r.xs.length r.c, .int .i64 m.W, .int .i64 m.H, .slice m.a m.xs.length m.c] 49) := ⟨_, rfl⟩
  have S0 : Hid (LawD w l r m x0) := Lib.hid (by
    rw [hx0]
    exact ⟨h.keep ((Only.refl (fun _ => False) w).alloc _) (fun _ _ h => h), by simp [DeskAt, go_sem], (Below.refl _ _).alloc (Nat.le_refl _) _, by simp⟩)
  clear h
  generalize hok : (deskB l r m && inB D 1 8) = ok at *
  have hlen := volL_len l r m D (sqF l r D)
  rw [hok] at hlen
  have HOK := Lib.hid hok
  obtain ⟨Y, hY⟩ : ∃ Y, Y = volL ok l D (sqF l r D) := ⟨_, rfl⟩
  obtain ⟨V1, hV1⟩ : ∃ V, V = volW ok l.W := ⟨_, rfl⟩
  obtain ⟨V2, hV2⟩ : ∃ V, V = volW ok l.H := ⟨_, rfl⟩
  obtain ⟨V3, hV3⟩ : ∃ V, V = volW ok D := ⟨_, rfl⟩
  rw [← hY] at hlen
  have SP : Hid (∀ g1 g2 g3 w', l.xs.length ≤ 1048576 → r.xs.length ≤ 1048576 → m.xs.length ≤ 1048576 → Rd3 (· < w'.heap.size) w' (fr g1 l) (fr g2 r) (fr g3 m) → Calls Try.prog 20 #[deskV (fr g1 l) (fr g2 r) (fr g3 m), .int .i64 D] w' (OwnV ok V1 V2 V3 Y w')) := Lib.hid (fun g1 g2 g3 w' q1 q2 q3 hr => by
    have := spec_law l r m g1 g2 g3 D w' q1 q2 q3 hr
    rw [hok, ← hV1, ← hV2, ← hV3, ← hY] at this
    exact this)
  have IM : Hid (∀ g1 g2 g3 w', l.xs.length ≤ 1048576 → r.xs.length ≤ 1048576 → m.xs.length ≤ 1048576 → Rd3 (· < w'.heap.size) w' (fr g1 l) (fr g2 r) (fr g3 m) → Calls Try.prog 22 #[deskV (fr g1 l) (fr g2 r) (fr g3 m), .int .i64 D] w' (OwnV ok V1 V2 V3 Y w')) := Lib.hid (fun g1 g2 g3 w' q1 q2 q3 hr => by
    have := impl_law l r m g1 g2 g3 D w' q1 q2 q3 hr
    rw [hok, ← hV1, ← hV2, ← hV3, ← hY] at this
    exact this)
  have hokk : (ok != ok) = false := by simp
  clear hY hV1 hV2 hV3 hok HOK
  unfold deskV
  go_enter Try.func5, Try.ntmps5
  go_wp2_with fail
  rw [← hx0]
  have Hx0 := Lib.hid hx0
  clear hx0
  refine (szD l r m 1048576 x0 h1 h2 h3 (by omega) (by omega)).mono ?_
  rintro e x1 ⟨rfl, hb1⟩
  have S1 := Lib.hid (S0.out.next hb1)
  clear S0 hb1
  by_cases hr : (1048576 : Int) - l.xs.length - r.xs.length - m.xs.length < 0
  · rw [if_pos hr]
    go_wp2_with fail
    go_ret
    exact ⟨rfl, S1.out.below⟩
  rw [if_neg hr]
  have q1 : l.xs.length ≤ 1048576 := by omega
  have q2 : r.xs.length ≤ 1048576 := by omega
  have q3 : m.xs.length ≤ 1048576 := by omega
  obtain ⟨b0, b1, b2, b3, b4, b5, b6, b7, b8⟩ := S1.out.box
  go_wp2_with fail
  refine (toD_law l r m x1 q1 q2 q3 S1.out.now).mono ?_
  rintro e x2 ⟨g1, g2, g3, s1, s2, rfl, hd2, hb2⟩
  have S2 := Lib.hid (S1.out.next hb2)
  have Hd2 := Lib.hid hd2
  clear hd2 hb2 S1 b0 b1 b2 b3 b4 b5 b6 b7 b8
  go_wp2_with fail
  refine (SP.out g1 g2 g3 x2 q1 q2 q3 (Hd2.out.rd _ (Nat.le_refl _))).mono ?_
  rintro e x3 ⟨a0, c0, ys, rfl, hfl0, hw0, hb3⟩
  have S3 := Lib.hid (S2.out.next hb3)
  have Hfl0 := Lib.hid hfl0
  have Hw0 := Lib.hid hw0
  have Hb3 := Lib.hid hb3
  clear hfl0 hw0 hb3 S2
  have hlow : w.heap.size + 1 ≤ x3.heap.size := S3.out.size
  have hx23 : x2.heap.size ≤ x3.heap.size := Hb3.out.size
  have T3 := Lib.hid (S3.out.next (below_alloc x3 (.cells #[.int .i64 V1, .int .i64 V2, .int .i64 V3, .slice a0 ys.length c0] 52)))
  have W3 := Lib.hid (VBox.mk' (W := V1) (H := V2) (D := V3) (c := c0) Hw0.out)
  obtain ⟨b0, b1, b2, b3, b4, b5, b6, b7, b8⟩ := T3.out.box
  go_wp2_with fail
  refine (toD_law l r m (x3.alloc (.cells #[.int .i64 V1, .int .i64 V2, .int .i64 V3, .slice a0 ys.length c0] 52)) q1 q2 q3 T3.out.now).mono ?_
  rintro e x4 ⟨h1', h2', h3', s3, s4, rfl, hd4, hb4⟩
  have S4 := Lib.hid (T3.out.next hb4)
  have W4 := Lib.hid (W3.out.next hb4)
  have Hd4 := Lib.hid hd4
  have hz4 := hb4.size
  simp only [World.size_alloc] at hz4
  have hlo4 : x3.heap.size + 1 ≤ x4.heap.size := hz4
  clear hd4 hb4 S3 T3 W3 b0 b1 b2 b3 b4 b5 b6 b7 b8 hz4 Hw0 Hd2
  -- the desk's box
  obtain ⟨x5, hx5⟩ : ∃ x5, x5 = x4.alloc (.cells #[.int .i64 l.W, .int .i64 l.H, .slice (some ⟨h1', 0, none⟩) l.xs.length l.xs.length, .int .i64 r.W, .int .i64 r.H, .slice (some ⟨h2', 0, none⟩) r.xs.length r.xs.length, .int .i64 m.W, .int .i64 m.H, .slice (some ⟨h3', 0, none⟩) m.xs.length m.xs.length] 57) := ⟨_, rfl⟩
  have hba : Below x4.heap.size x4 x5 := by rw [hx5]; exact below_alloc _ _
  have S5 := Lib.hid (S4.out.next hba)
  have W5 := Lib.hid (W4.out.next hba)
  have Hd5 := Lib.hid (Hd4.out.next (Nat.le_refl _) hba)
  have E5 : Hid (DeskAt x5 x4.heap.size (fr h1' l) (fr h2' r) (fr h3' m)) := Lib.hid (by rw [hx5]; simp [DeskAt, go_sem, fr])
  have hs5 : x5.heap.size = x4.heap.size + 1 := by rw [hx5]; simp
  have Hs5 := Lib.hid hs5
  clear S4 W4 Hd4 hba hs5
  obtain ⟨b0, b1, b2, b3, b4, b5, b6, b7, b8⟩ := E5.out
  simp only [fr] at b0 b1 b2 b3 b4 b5 b6 b7 b8
  go_wp2_with fail
  rw [← hx5]
  have Hx5 := Lib.hid hx5
  clear hx5
  refine (IM.out h1' h2' h3' x5 q1 q2 q3 (Hd5.out.rd _ (by rw [Hs5.out]; omega))).mono ?_
  rintro e x6 ⟨a6, c6, zs, rfl, hfl6, hw6, hb6⟩
  have hz6 := hb6.size
  have hlo6 : x4.heap.size + 1 ≤ x6.heap.size := by rw [Hs5.out] at hz6; exact hz6
  have S6 := Lib.hid ((S5.out.next hb6).next (below_alloc x6 (.cells #[.int .i64 V1, .int .i64 V2, .int .i64 V3, .slice a6 zs.length c6] 52)))
  have W6 := Lib.hid ((W5.out.next hb6).next (below_alloc x6 (.cells #[.int .i64 V1, .int .i64 V2, .int .i64 V3, .slice a6 zs.length c6] 52)))
  have Hd6 := Lib.hid ((Hd5.out.next (by rw [Hs5.out]; omega) hb6).next (by omega) (below_alloc x6 (.cells #[.int .i64 V1, .int .i64 V2, .int .i64 V3, .slice a6 zs.length c6] 52)))
  have E6 := Lib.hid ((E5.out.below hb6 (by rw [Hs5.out]; omega)).below (below_alloc x6 (.cells #[.int .i64 V1, .int .i64 V2, .int .i64 V3, .slice a6 zs.length c6] 52)) (by omega))
  have G6 := Lib.hid (VBox.mk' (W := V1) (H := V2) (D := V3) (c := c6) hw6)
  have Hfl := Lib.hid (hfl6.trans Hfl0.out.symm)
  have Hfl6 := Lib.hid hfl6
  have hzl : zs.length ≤ 4608 := by rw [hfl6.1]; exact hlen
  have hlo56 : x4.heap.size + 1 ≤ x5.heap.size := by rw [Hs5.out]; omega
  have Hx6 : Hid (x5.heap.size ≤ x6.heap.size) := Lib.hid hb6.size
  clear hfl6 hw6 hb6 S5 W5 Hd5 E5 b0 b1 b2 b3 b4 b5 b6 b7 b8 hz6
  obtain ⟨u0, u1, u2, u3⟩ := G6.out.cells
  obtain ⟨v0, v1, v2, v3⟩ := W6.out.cells
  go_wp2_with fail
  refine (eqV V1 V2 V3 _ _ a6 a0 c6 c0 zs ys _ (by omega) Hfl.out.1 Hfl.out.2 G6.out.row.rd W6.out.row.rd).mono ?_
  rintro e x8 ⟨rfl, hb8⟩
  have hz8 := hb8.size
  simp only [World.size_alloc] at hz8
  have S8 := Lib.hid (S6.out.next hb8)
  have W8 := Lib.hid (W6.out.next hb8)
  have G8 := Lib.hid (G6.out.next hb8)
  have Hd8 := Lib.hid (Hd6.out.next (by simp; omega) hb8)
  have E8 := Lib.hid (E6.out.below hb8 (by simp; omega))
  clear hb8 S6 W6 G6 Hd6 E6 u0 u1 u2 u3 v0 v1 v2 v3
  go_wp2_with fail
  have D8 := Lib.hid (S8.out.next (below_drew x8))
  have F8 := Lib.hid (E8.out.below (below_drew x8) (by omega))
  have R8 := Lib.hid (Hd8.out.next (by omega) (below_drew x8))
  go_region_held3 (fun w' => (w'.cell? ⟨x4.heap.size, 0, none⟩ = some (.int .i64 l.W) ∧ w'.cell? ⟨x4.heap.size, 1, none⟩ = some (.int .i64 l.H) ∧ w'.cell? ⟨x4.heap.size, 2, none⟩ = some (.slice (some ⟨h1', 0, none⟩) l.xs.length l.xs.length) ∧ w'.cell? ⟨x4.heap.size, 3, none⟩ = some (.int .i64 r.W) ∧ w'.cell? ⟨x4.heap.size, 4, none⟩ = some (.int .i64 r.H) ∧ w'.cell? ⟨x4.heap.size, 5, none⟩ = some (.slice (some ⟨h2', 0, none⟩) r.xs.length r.xs.length) ∧ w'.cell? ⟨x4.heap.size, 6, none⟩ = some (.int .i64 m.W) ∧ w'.cell? ⟨x4.heap.size, 7, none⟩ = some (.int .i64 m.H) ∧ w'.cell? ⟨x4.heap.size, 8, none⟩ = some (.slice (some ⟨h3', 0, none⟩) m.xs.length m.xs.length)) ∧ w'.cell? ⟨w.heap.size, 0, none⟩ = some (.int .i64 l.W) ∧ w'.cell? ⟨w.heap.size, 1, none⟩ = some (.int .i64 l.H) ∧ w'.cell? ⟨w.heap.size, 2, none⟩ = some (.slice l.a l.xs.length l.c) ∧ w'.cell? ⟨w.heap.size, 3, none⟩ = some (.int .i64 r.W) ∧ w'.cell? ⟨w.heap.size, 4, none⟩ = some (.int .i64 r.H) ∧ w'.cell? ⟨w.heap.size, 5, none⟩ = some (.slice r.a r.xs.length r.c) ∧ w'.cell? ⟨w.heap.size, 6, none⟩ = some (.int .i64 m.W) ∧ w'.cell? ⟨w.heap.size, 7, none⟩ = some (.int .i64 m.H) ∧ w'.cell? ⟨w.heap.size, 8, none⟩ = some (.slice m.a m.xs.length m.c))
    (first | exact ⟨F10.out, D10.out.box⟩ | exact ⟨F9.out, D9.out.box⟩ | exact ⟨F8.out, D8.out.box⟩ | go_keep)
    ((first
      | (go_at_call 21
         refine (toD_law l r m x8.drew q1 q2 q3 D8.out.now).mono ?_
         rintro e y9 ⟨i1, i2, i3, t1, t2, rfl, hd9, hb9⟩
         have D9 := Lib.hid (D8.out.next hb9)
         have F9 := Lib.hid (F8.out.below hb9 (by simp; omega))
         have R9 := Lib.hid (R8.out.next (by simp; omega) hb9)
         have Hd9 := Lib.hid hd9
         have Hb9 := Lib.hid hb9
         have hz9 : x8.heap.size ≤ y9.heap.size := hb9.size
         clear hd9 hb9)
      | (go_at_call 24
         refine (eqD y9.heap.size (fr h1' l) (fr h2' r) (fr h3' m) (fr i1 l) (fr i2 r) (fr i3 m) y9 q1 q2 q3 ⟨rfl, rfl, rfl⟩ ⟨rfl, rfl, rfl⟩ ⟨rfl, rfl, rfl⟩ (R9.out.rd _ (by omega)) (Hd9.out.rd _ (Nat.le_refl _)) (Nat.le_refl _)).mono ?_
         rintro e y10 ⟨rfl, hb10⟩
         have D10 := Lib.hid (D9.out.next hb10)
         have F10 := Lib.hid (F9.out.below hb10 (by omega))
         have R10 := Lib.hid (R9.out.next (by omega) hb10)
         have Hb10 := Lib.hid hb10
         have hz10 : y9.heap.size ≤ y10.heap.size := hb10.size
         clear hb10)))
  have W9 := Lib.hid (((W8.out.next (below_drew x8)).next Hb9.out).next Hb10.out)
  have G9 := Lib.hid (((G8.out.next (below_drew x8)).next Hb9.out).next Hb10.out)
  have hx56 : x5.heap.size ≤ x6.heap.size := by
    rcases Nat.lt_or_ge x6.heap.size x5.heap.size with hh | hh
    · exact absurd hh (by have := Hx6.out; omega)
    · exact hh
  have o1 := R10.out.o1
  have o2 := R10.out.o2
  have o3 := R10.out.o3
  simp only [World.size_alloc] at o1
  have hkn : ¬ ((1 : Int) + l.xs.length + r.xs.length + m.xs.length < 0) := by omega
  clear W8 G8 Hd8 E8 S8 D8 F8 R8 D9 F9 R9 Hd9 Hb9 Hb10
  go_wp2_with fail
  refine (markD _ _ _ (fr h1' l) (fr h2' r) (fr h3' m) 1 y10 q1 q2 q3 (by omega) (by omega) R10.out.a1 R10.out.a2 R10.out.a3 (fun k a b => by omega) (fun k a b => by omega) (fun k a b => by omega) (fun k hk => by omega) (fun k hk => by omega)).mono ?_
  rintro e x11 ⟨rfl, ho11⟩
  have hT : ∀ k, ((x3.alloc (.cells #[.int .i64 V1, .int .i64 V2, .int .i64 V3, .slice a0 ys.length c0] 52)).heap.size ≤ k ∧ k < s3 ∨ s3 ≤ k ∧ k < s4 ∨ s4 ≤ k ∧ k < x4.heap.size) → x3.heap.size + 1 ≤ k ∧ k < x4.heap.size := fun k hk => by simp only [World.size_alloc] at hk; omega
  have S11 := Lib.hid (D10.out.only ho11 (fun k hk => by have := hT k hk; omega))
  have W11 := Lib.hid (W9.out.only ho11 (fun k hk => Or.inr (by have := hT k hk; omega)) hx23)
  have G11 := Lib.hid (G9.out.only ho11 (fun k hk => Or.inl (by have := hT k hk; omega)) hx56)
  have hz11 := ho11.size
  clear ho11 hT W9 G9 D10 F10 R10 o1 o2 o3
  obtain ⟨u0, u1, u2, u3⟩ := G11.out.cells
  obtain ⟨v0, v1, v2, v3⟩ := W11.out.cells
  go_wp2_with fail
  refine (eqV V1 V2 V3 _ _ a6 a0 c6 c0 zs ys _ (by omega) Hfl.out.1 Hfl.out.2 G11.out.row.rd W11.out.row.rd).mono ?_
  rintro e x12 ⟨rfl, hb12⟩
  have S12 := Lib.hid (S11.out.next hb12)
  have W12 := Lib.hid (W11.out.next hb12)
  have G12 := Lib.hid (G11.out.next hb12)
  have hz12 := hb12.size
  clear hb12 S11 W11 G11 u0 u1 u2 u3 v0 v1 v2 v3
  obtain ⟨u0, u1, u2, u3⟩ := G12.out.cells
  go_wp2_with fail
  refine (markV V1 V2 V3 _ a6 c6 zs 1 x12 (by omega) (by omega) (by omega) G12.out.row).mono ?_
  rintro e x13 ⟨rfl, hm13, ho13⟩
  have S13 := Lib.hid (S12.out.only ho13 (fun k hk => by omega))
  have W13 := Lib.hid (W12.out.only ho13 (fun k hk => Or.inr (by omega)) hx23)
  have B13 : Hid (x13.heap[x6.heap.size]? = some (.cells #[.int .i64 V1, .int .i64 V2, .int .i64 V3, .slice a6 zs.length c6] 52 (0, 0))) := Lib.hid (by rw [ho13.block _ G12.out.lt (fun hn => by omega)]; exact G12.out.blk)
  have M13 := Lib.hid hm13
  have hz13 := ho13.size
  clear hm13 ho13 S12 W12 G12 u0 u1 u2 u3
  have hge : ¬ ((1 : Int) + zs.length < 0) := by omega
  have u0 : x13.cell? ⟨x6.heap.size, 0, none⟩ = some (.int .i64 V1) := by rw [cell_blk B13.out]; rfl
  have u1 : x13.cell? ⟨x6.heap.size, 1, none⟩ = some (.int .i64 V2) := by rw [cell_blk B13.out]; rfl
  have u2 : x13.cell? ⟨x6.heap.size, 2, none⟩ = some (.int .i64 V3) := by rw [cell_blk B13.out]; rfl
  have u3 : x13.cell? ⟨x6.heap.size, 3, none⟩ = some (.slice a6 zs.length c6) := by rw [cell_blk B13.out]; rfl
  go_wp2_with fail
  refine (heldV V1 V2 V3 _ a6 c6 zs.length 1 x13 (by omega) (by omega) (by omega) M13.out.rd).mono ?_
  rintro e x14 ⟨rfl, hb14⟩
  have S14 := Lib.hid (S13.out.next hb14)
  have W14 := Lib.hid (W13.out.next hb14)
  have B14 := Lib.hid (blk_keep hb14 B13.out (by omega))
  have M14 := Lib.hid (M13.out.keep (Only.below hb14) (fun k hk hn => by omega))
  have hz14 := hb14.size
  clear hb14 S13 W13 B13 M13 u0 u1 u2 u3
  obtain ⟨b0, b1, b2, b3, b4, b5, b6, b7, b8⟩ := S14.out.box
  go_wp2_with fail
  refine (toD_law l r m x14 q1 q2 q3 S14.out.now).mono ?_
  rintro e x15 ⟨j1, j2, j3, t3, t4, rfl, hd15, hb15⟩
  have S15 := Lib.hid (S14.out.next hb15)
  have W15 := Lib.hid (W14.out.next hb15)
  have B15 := Lib.hid (blk_keep hb15 B14.out (by omega))
  have M15 := Lib.hid (M14.out.keep (Only.below hb15) (fun k hk hn => by omega))
  have Hd15 := Lib.hid hd15
  have hz15 := hb15.size
  clear hd15 hb15 S14 W14 B14 M14 b0 b1 b2 b3 b4 b5 b6 b7 b8
  go_wp2_with fail
  refine (IM.out j1 j2 j3 x15 q1 q2 q3 (Hd15.out.rd _ (Nat.le_refl _))).mono ?_
  rintro e x16 ⟨a16, c16, hs, rfl, hfl16, hw16, hb16⟩
  have hz16 := hb16.size
  have S16 := Lib.hid ((S15.out.next hb16).next (below_alloc x16 (.cells #[.int .i64 V1, .int .i64 V2, .int .i64 V3, .slice a16 hs.length c16] 52)))
  have W16 := Lib.hid ((W15.out.next hb16).next (below_alloc x16 (.cells #[.int .i64 V1, .int .i64 V2, .int .i64 V3, .slice a16 hs.length c16] 52)))
  have B16 := Lib.hid (blk_alloc (blk_keep hb16 B15.out (by omega)) (.cells #[.int .i64 V1, .int .i64 V2, .int .i64 V3, .slice a16 hs.length c16] 52))
  have M16 := Lib.hid ((M15.out.keep (Only.below hb16) (fun k hk hn => by omega)).alloc (.cells #[.int .i64 V1, .int .i64 V2, .int .i64 V3, .slice a16 hs.length c16] 52))
  have G16 := Lib.hid (VBox.mk' (W := V1) (H := V2) (D := V3) (c := c16) hw16)
  have Hfl' := Lib.hid (hfl16.trans (Hfl6.out.symm.trans Hfl.out))
  have hhl : hs.length ≤ 4608 := by rw [hfl16.1]; exact hlen
  clear hfl16 hw16 hb16 S15 W15 B15 M15 Hd15
  obtain ⟨u0, u1, u2, u3⟩ := G16.out.cells
  obtain ⟨v0, v1, v2, v3⟩ := W16.out.cells
  go_wp2_with fail
  refine (eqV V1 V2 V3 _ _ a16 a0 c16 c0 hs ys _ (by omega) Hfl'.out.1 Hfl'.out.2 G16.out.row.rd W16.out.row.rd).mono ?_
  rintro e x17 ⟨rfl, hb17⟩
  have hz17 := hb17.size
  simp only [World.size_alloc] at hz17
  have S17 := Lib.hid (S16.out.next hb17)
  have B17 := Lib.hid (blk_keep hb17 B16.out (by simp; omega))
  have M17 := Lib.hid (M16.out.keep (Only.below hb17) (fun k hk hn => by simp at hn; omega))
  clear hb17 S16 W16 B16 M16 G16 u0 u1 u2 u3 v0 v1 v2 v3
  have u0 : x17.cell? ⟨x6.heap.size, 0, none⟩ = some (.int .i64 V1) := by rw [cell_blk B17.out]; rfl
  have u1 : x17.cell? ⟨x6.heap.size, 1, none⟩ = some (.int .i64 V2) := by rw [cell_blk B17.out]; rfl
  have u2 : x17.cell? ⟨x6.heap.size, 2, none⟩ = some (.int .i64 V3) := by rw [cell_blk B17.out]; rfl
  have u3 : x17.cell? ⟨x6.heap.size, 3, none⟩ = some (.slice a6 zs.length c6) := by rw [cell_blk B17.out]; rfl
  go_wp2_with fail
  refine (heldV V1 V2 V3 _ a6 c6 zs.length 1 x17 (by omega) (by omega) (by omega) M17.out.rd).mono ?_
  rintro e x18 ⟨rfl, hb18⟩
  have S18 := Lib.hid (S17.out.next hb18)
  clear hb18 S17 u0 u1 u2 u3
  go_wp2_with fail
  go_ret
  exact ⟨rfl, S18.out.below⟩
end Go.Proofs.Ytljkgemkolmihaa
