/- The reference's DeskVolume. -/
import Derived.Test.YtljkgemkolmihaaW8
namespace Go.Proofs.Ytljkgemkolmihaa
open Go.RowKit

theorem spair_is {q : Bool} (b o b' o' : Nat) (l r : PV) (D : Int) (w : World) (h1 : l.xs.length ≤ maxLen) (h2 : r.xs.length ≤ maxLen) (h : BoxO w b o l) (h' : BoxO w b' o' r) (hq : Hid ((pvB l r && inB D 1 8) = q)) :
    Calls Try.prog 69 #[.pointer (some ⟨b, o, none⟩), .pointer (some ⟨b', o', none⟩), .int .i64 D] w fun e w' => e = .returned (.bool q) ∧ ∃ k, w' = w.drewN k := by
  rw [← hq.out]; exact spair_any b o b' o' l r D w h1 h2 h h'
theorem sdesk_is {q : Bool} (b : Nat) (l r m : PV) (w : World) (h1 : l.xs.length ≤ maxLen) (h2 : r.xs.length ≤ maxLen) (h3 : m.xs.length ≤ maxLen) (h : DeskAt w b l r m) (hq : Hid (deskB l r m = q)) :
    Calls Try.prog 49 #[.pointer (some ⟨b, 0, none⟩)] w fun e w' => e = .returned (.bool q) ∧ ∃ k, w' = w.drewN k := by
  rw [← hq.out]; exact sdesk_any b l r m w h1 h2 h3 h

set_option maxRecDepth 100000 in
set_option maxHeartbeats 4000000 in
theorem svolume_any (b : Nat) (l r m : PV) (D : Int) (w : World) (h1 : l.xs.length ≤ maxLen) (h2 : r.xs.length ≤ maxLen) (h : DeskAt w b l r m) (r1 : Rd (· < w.heap.size) w l.a (l.xs.map fl)) (r2 : Rd (· < w.heap.size) w r.a (r.xs.map fl)) :
    Calls Try.prog 50 #[.pointer (some ⟨b, 0, none⟩), .int .i64 D] w (VolRes (pvB l r && inB D 1 8) l.W l.H D (sqF l r D) w) := by
  obtain ⟨x0, hx0⟩ : ∃ x0, x0 = w.alloc (.cells #[.int .i64 0, .int .i64 0, .int .i64 0, .slice none 0 0] 52) := ⟨_, rfl⟩
  have hB0 : Below w.heap.size w x0 := by rw [hx0]; exact (Below.refl _ _).alloc (Nat.le_refl _) _
  have hs0 : x0.heap.size = w.heap.size + 1 := by rw [hx0]; simp
  have R0 : Hid (x0.heap[w.heap.size]? = some (.cells #[.int .i64 0, .int .i64 0, .int .i64 0, .slice none 0 0] 52 (0, 0))) := Lib.hid (by rw [hx0]; exact heap_alloc_new _ _)
  obtain ⟨b1, b2, _⟩ := h.boxes
  have C1 : Hid (∀ n, BoxO (x0.drewN n) b 0 l) := Lib.hid (fun _ => b1.below (hB0.trans (Below.drewN' _ _ _)))
  have C2 : Hid (∀ n, BoxO (x0.drewN n) b 3 r) := Lib.hid (fun _ => b2.below (hB0.trans (Below.drewN' _ _ _)))
  have S1 := Lib.hid ((r1.below hB0).mono (T := (· < x0.heap.size)) (fun k hk => by omega))
  have S2 := Lib.hid ((r2.below hB0).mono (T := (· < x0.heap.size)) (fun k hk => by omega))
  have HB0 := Lib.hid hB0
  have Hs0 := Lib.hid hs0
  have no : ∀ (x : World), Below x0.heap.size x0 x → Hid (x.cell? ⟨w.heap.size, 0, none⟩ = some (.int .i64 0) ∧ x.cell? ⟨w.heap.size, 1, none⟩ = some (.int .i64 0) ∧ x.cell? ⟨w.heap.size, 2, none⟩ = some (.int .i64 0) ∧ x.cell? ⟨w.heap.size, 3, none⟩ = some (.slice none 0 0) ∧ ∀ i, x.frozen? ⟨w.heap.size, i, none⟩ = false) := fun x hb => Lib.hid (by
    have h := blk_keep hb R0.out (by rw [Hs0.out]; omega)
    exact ⟨by rw [cell_blk h]; rfl, by rw [cell_blk h]; rfl, by rw [cell_blk h]; rfl, by rw [cell_blk h]; rfl, fun i => frozen_blk h i⟩)
  have HNo := Lib.hid no
  clear no h b1 b2 r1 r2 hB0 hs0
  cases hq : pvB l r && inB D 1 8
  · have Hq := Lib.hid hq
    obtain ⟨u0, u1, u2, u3, fz⟩ := (HNo.out x0 (Below.refl _ _)).out
    have g0 := fz 0
    have g1 := fz 1
    have g2 := fz 2
    have g3 := fz 3
    clear hq fz
    go_enter Try.func50, Try.ntmps50
    go_wp2_with fail
    rw [← hx0]
    have Hx0 := Lib.hid hx0
    clear hx0
    go_quiet ((go_at_call 69; (with_reducible exact Calls.quiet_of (spair_is b 0 b 3 l r D _ h1 h2 (C1.out _) (C2.out _) Hq))))
    go_wp2_with fail
    refine bodyPost_ret (v := .tuple #[.agg #[.int .i64 0, .int .i64 0, .int .i64 0, .slice none 0 0], .bool false]) (by simp [results, Try.results50, go_sem, u0, u1, u2, u3]) rfl (Or.inl ⟨rfl, rfl, ?_⟩)
    exact ((((HB0.out.trans (Below.drewN' _ _ _)).setCell (p := ⟨w.heap.size, 0, none⟩) (by simp) _).setCell (p := ⟨w.heap.size, 1, none⟩) (by simp) _).setCell (p := ⟨w.heap.size, 2, none⟩) (by simp) _).setCell (p := ⟨w.heap.size, 3, none⟩) (by simp) _
  · have Hq := Lib.hid hq
    rw [Bool.and_eq_true] at hq
    obtain ⟨p1, p2, eW, eH⟩ := pairB_iff.1 hq.1
    obtain ⟨Wn, Hn, fW, fH, q1, q2, q3, q4, eN⟩ := nat_of p1
    have hD := inB_iff.1 hq.2
    obtain ⟨Dn, eD⟩ : ∃ Dn : Nat, D = Dn := ⟨D.toNat, by omega⟩
    clear eN hq
    obtain ⟨W1, H1, a1, c1, x1⟩ := l
    obtain ⟨W2, H2, a2, c2, x2⟩ := r
    simp only at *
    subst eW eH fW fH eD
    have P1 := Lib.hid p1
    have P2 := Lib.hid p2
    clear p1 p2
    go_enter Try.func50, Try.ntmps50
    go_wp2_with fail
    rw [← hx0]
    have Hx0 := Lib.hid hx0
    clear hx0
    go_quiet ((go_at_call 69; (with_reducible exact Calls.quiet_of (spair_is b 0 b 3 _ _ _ _ h1 h2 (C1.out _) (C2.out _) Hq))))
    go_wp2_with fail
    go_region_law (go_simp
                   go_at_call 70
                   refine (scompare_any b 0 b 3 Wn Hn Dn a1 a2 c1 c2 x1 x2 (x0.drewN (nq + 1)) q2 q4 (by omega) P1.out P2.out (C1.out _) (C2.out _) S1.out S2.out).mono ?_
                   rintro e w2 ⟨a, c, zs, rfl, hfl, hw2, hb2⟩
                   have hb2' : Below x0.heap.size x0 w2 := (Below.drewN' _ _ _).trans hb2
                   obtain ⟨u0, u1, u2, u3, fz⟩ := (HNo.out w2 hb2').out
                   have g0 := fz 0
                   have g1 := fz 1
                   have g2 := fz 2
                   have g3 := fz 3
                   have Hfl := Lib.hid hfl
                   have Hw2 := Lib.hid hw2
                   have Hb2 := Lib.hid hb2'
                   clear hfl hw2 hb2 hb2' fz)
    all_goals go_wp2_with fail
    all_goals
      have hz2 := Hb2.out.size
      rw [Hs0.out] at hz2
      refine bodyPost_ret (v := .tuple #[.agg #[.int .i64 Wn, .int .i64 Hn, .int .i64 Dn, .slice a zs.length c], .bool true]) (by simp [results, Try.results50, go_sem, u0, u1, u2, u3]) rfl (Or.inr ⟨rfl, a, c, zs, rfl, by simpa [sqF] using Hfl.out, ?_, ?_⟩)
      · have h2 := (((Hw2.out.setCell (p := ⟨w.heap.size, 0, none⟩) (by simp [Hs0.out] <;> omega) (.int .i64 Wn)).setCell (p := ⟨w.heap.size, 1, none⟩) (by simp [Hs0.out] <;> omega) (.int .i64 Hn)).setCell (p := ⟨w.heap.size, 2, none⟩) (by simp [Hs0.out] <;> omega) (.int .i64 Dn)).setCell (p := ⟨w.heap.size, 3, none⟩) (by simp [Hs0.out] <;> omega) (.slice a zs.length c)
        exact h2.mono (fun k hk => by simp [World.setCell, Hs0.out] at hk ⊢; omega)
      · exact (((((HB0.out.trans (Hb2.out.mono (by rw [Hs0.out]; omega))).setCell (p := ⟨w.heap.size, 0, none⟩) (by simp) _).setCell (p := ⟨w.heap.size, 1, none⟩) (by simp) _).setCell (p := ⟨w.heap.size, 2, none⟩) (by simp) _).setCell (p := ⟨w.heap.size, 3, none⟩) (by simp) _)

set_option maxRecDepth 100000 in
set_option maxHeartbeats 4000000 in
theorem sdeskVolume_any (l r m : PV) (D : Int) (w : World) (h1 : l.xs.length ≤ maxLen) (h2 : r.xs.length ≤ maxLen) (h3 : m.xs.length ≤ maxLen) (r1 : Rd (· < w.heap.size) w l.a (l.xs.map fl)) (r2 : Rd (· < w.heap.size) w r.a (r.xs.map fl)) :
    Calls Try.prog 20 #[deskV l r m, .int .i64 D] w (VolRes (deskB l r m && inB D 1 8) l.W l.H D (sqF l r D) w) := by
  obtain ⟨W1, H1, a1, c1, x1⟩ := l
  obtain ⟨W2, H2, a2, c2, x2⟩ := r
  obtain ⟨W3, H3, a3, c3, x3⟩ := m
  simp only at h1 h2 h3 r1 r2
  obtain ⟨x0, hx0⟩ : ∃ x0, x0 = (w.alloc (.cells #[.int .i64 W1, .int .i64 H1, .slice a1 x1.length c1, .int .i64 W2, .int .i64 H2, .slice a2 x2.length c2, .int .i64 W3, .int .i64 H3, .slice a3 x3.length c3] 57)).alloc (.cells #[.int .i64 0, .int .i64 0, .int .i64 0, .slice none 0 0] 52) := ⟨_, rfl⟩
  have D0 : Hid (DeskAt x0 w.heap.size ⟨W1, H1, a1, c1, x1⟩ ⟨W2, H2, a2, c2, x2⟩ ⟨W3, H3, a3, c3, x3⟩) := Lib.hid (by rw [hx0]; simp [DeskAt, go_sem])
  have HB0 : Hid (Below w.heap.size w x0) := Lib.hid (by rw [hx0]; exact ((Below.refl _ _).alloc (Nat.le_refl _) _).alloc (by simp) _)
  have Hs0 : Hid (x0.heap.size = w.heap.size + 2) := Lib.hid (by rw [hx0]; simp)
  have R0 : Hid (x0.heap[w.heap.size + 1]? = some (.cells #[.int .i64 0, .int .i64 0, .int .i64 0, .slice none 0 0] 52 (0, 0))) := Lib.hid (by
    rw [hx0]
    have := heap_alloc_new (w.alloc (.cells #[.int .i64 W1, .int .i64 H1, .slice a1 x1.length c1, .int .i64 W2, .int .i64 H2, .slice a2 x2.length c2, .int .i64 W3, .int .i64 H3, .slice a3 x3.length c3] 57)) (.cells #[.int .i64 0, .int .i64 0, .int .i64 0, .slice none 0 0] 52)
    simpa using this)
  have S1 := Lib.hid r1
  have S2 := Lib.hid r2
  clear r1 r2
  have no : ∀ (x : World), Below x0.heap.size x0 x → Hid (x.cell? ⟨w.heap.size + 1, 0, none⟩ = some (.int .i64 0) ∧ x.cell? ⟨w.heap.size + 1, 1, none⟩ = some (.int .i64 0) ∧ x.cell? ⟨w.heap.size + 1, 2, none⟩ = some (.int .i64 0) ∧ x.cell? ⟨w.heap.size + 1, 3, none⟩ = some (.slice none 0 0) ∧ ∀ i, x.frozen? ⟨w.heap.size + 1, i, none⟩ = false) := fun x hb => Lib.hid (by
    have h := blk_keep hb R0.out (by rw [Hs0.out]; omega)
    exact ⟨by rw [cell_blk h]; rfl, by rw [cell_blk h]; rfl, by rw [cell_blk h]; rfl, by rw [cell_blk h]; rfl, fun i => frozen_blk h i⟩)
  have HNo := Lib.hid no
  clear no
  simp only [deskV]
  cases p1 : deskB ⟨W1, H1, a1, c1, x1⟩ ⟨W2, H2, a2, c2, x2⟩ ⟨W3, H3, a3, c3, x3⟩
  · have P1 := Lib.hid p1
    clear p1
    go_enter Try.func20, Try.ntmps20
    go_wp2_with fail
    rw [← hx0]
    have Hx0 := Lib.hid hx0
    clear hx0
    refine (sdesk_is w.heap.size ⟨W1, H1, a1, c1, x1⟩ ⟨W2, H2, a2, c2, x2⟩ ⟨W3, H3, a3, c3, x3⟩ x0 h1 h2 h3 D0.out P1).mono ?_
    rintro e w1 ⟨rfl, hw1⟩
    have hb1 : Below x0.heap.size x0 w1 := by obtain ⟨k, rfl⟩ := hw1; exact Below.drewN' _ _ _
    clear hw1
    obtain ⟨u0, u1, u2, u3, fz⟩ := (HNo.out w1 hb1).out
    have g0 := fz 0
    have g1 := fz 1
    have g2 := fz 2
    have g3 := fz 3
    have Hb1 := Lib.hid (HB0.out.trans (hb1.mono (by rw [Hs0.out]; omega)))
    clear hb1 fz
    go_wp2_with fail
    refine bodyPost_ret (v := .tuple #[.agg #[.int .i64 0, .int .i64 0, .int .i64 0, .slice none 0 0], .bool false]) (by simp [results, Try.results20, go_sem, u0, u1, u2, u3]) rfl (Or.inl ⟨rfl, rfl, ?_⟩)
    exact ((((Hb1.out.setCell (p := ⟨w.heap.size + 1, 0, none⟩) (by simp) _).setCell (p := ⟨w.heap.size + 1, 1, none⟩) (by simp) _).setCell (p := ⟨w.heap.size + 1, 2, none⟩) (by simp) _).setCell (p := ⟨w.heap.size + 1, 3, none⟩) (by simp) _)
  · have P1 := Lib.hid p1
    have Pp : Hid (pairB W1 H1 x1.length W2 H2 x2.length = true) := Lib.hid (by simp [deskB, pvB] at p1; exact p1.1)
    clear p1
    generalize hok : inB D 1 8 = ok
    have Hok := Lib.hid hok
    clear hok
    go_enter Try.func20, Try.ntmps20
    go_wp2_with fail
    rw [← hx0]
    have Hx0 := Lib.hid hx0
    clear hx0
    refine (sdesk_is w.heap.size ⟨W1, H1, a1, c1, x1⟩ ⟨W2, H2, a2, c2, x2⟩ ⟨W3, H3, a3, c3, x3⟩ x0 h1 h2 h3 D0.out P1).mono ?_
    rintro e w1 ⟨rfl, hw1⟩
    have hb1 : Below x0.heap.size x0 w1 := by obtain ⟨k, rfl⟩ := hw1; exact Below.drewN' _ _ _
    clear hw1
    have D1 := Lib.hid (D0.out.below hb1 (by rw [Hs0.out]; omega))
    have k0 := D1.out.1
    have k1 := D1.out.2.1
    have k2 := D1.out.2.2.1
    have k3 := D1.out.2.2.2.1
    have k4 := D1.out.2.2.2.2.1
    have k5 := D1.out.2.2.2.2.2.1
    simp only at k0 k1 k2 k3 k4 k5
    have hz1 := hb1.size
    rw [Hs0.out] at hz1
    have Hc1 := Lib.hid hb1
    have Hb1 := Lib.hid (HB0.out.trans (hb1.mono (by rw [Hs0.out]; omega)))
    clear hb1
    go_wp2_with fail
    refine (svolume_any w.heap.size ⟨W1, H1, a1, c1, x1⟩ ⟨W2, H2, a2, c2, x2⟩ ⟨W3, H3, a3, c3, x3⟩ D w1 h1 h2 D1.out ((S1.out.below Hb1.out).mono (fun k hk => by omega)) ((S2.out.below Hb1.out).mono (fun k hk => by omega))).mono ?_
    rw [show pvB ⟨W1, H1, a1, c1, x1⟩ ⟨W2, H2, a2, c2, x2⟩ = true from Pp.out, Hok.out]
    rintro e w2 (⟨rfl, rfl, hb2⟩ | ⟨rfl, a, c, zs, rfl, hfl, hw2, hb2⟩)
    all_goals
      obtain ⟨u0, u1, u2, u3, fz⟩ := (HNo.out w2 (Hc1.out.trans (hb2.mono Hc1.out.size))).out
      have g0 := fz 0
      have g1 := fz 1
      have g2 := fz 2
      have g3 := fz 3
      have Hb2 := Lib.hid (Hb1.out.trans (hb2.mono (by omega)))
      have hz2 := hb2.size
      clear hb2 fz k0 k1 k2 k3 k4 k5
    · go_wp2_with fail
      refine bodyPost_ret (v := .tuple #[.agg #[.int .i64 0, .int .i64 0, .int .i64 0, .slice none 0 0], .bool false]) (by simp [results, Try.results20, go_sem, u0, u1, u2, u3]) rfl (Or.inl ⟨rfl, rfl, ?_⟩)
      exact ((((Hb2.out.setCell (p := ⟨w.heap.size + 1, 0, none⟩) (by simp) _).setCell (p := ⟨w.heap.size + 1, 1, none⟩) (by simp) _).setCell (p := ⟨w.heap.size + 1, 2, none⟩) (by simp) _).setCell (p := ⟨w.heap.size + 1, 3, none⟩) (by simp) _)
    · have Hfl := Lib.hid hfl
      have Hw1 := Lib.hid hw2
      clear hfl hw2
      go_wp2_with fail
      refine bodyPost_ret (v := .tuple #[.agg #[.int .i64 W1, .int .i64 H1, .int .i64 D, .slice a zs.length c], .bool true]) (by simp [results, Try.results20, go_sem, u0, u1, u2, u3]) rfl (Or.inr ⟨rfl, a, c, zs, rfl, Hfl.out, ?_, ?_⟩)
      · have h2 := (((Hw1.out.setCell (p := ⟨w.heap.size + 1, 0, none⟩) (by simp <;> omega) (.int .i64 W1)).setCell (p := ⟨w.heap.size + 1, 1, none⟩) (by simp <;> omega) (.int .i64 H1)).setCell (p := ⟨w.heap.size + 1, 2, none⟩) (by simp <;> omega) (.int .i64 D)).setCell (p := ⟨w.heap.size + 1, 3, none⟩) (by simp <;> omega) (.slice a zs.length c)
        exact h2.mono (fun k hk => by simp [World.setCell] at hk ⊢; omega)
      · exact ((((Hb2.out.setCell (p := ⟨w.heap.size + 1, 0, none⟩) (by simp) _).setCell (p := ⟨w.heap.size + 1, 1, none⟩) (by simp) _).setCell (p := ⟨w.heap.size + 1, 2, none⟩) (by simp) _).setCell (p := ⟨w.heap.size + 1, 3, none⟩) (by simp) _)
end Go.Proofs.Ytljkgemkolmihaa
