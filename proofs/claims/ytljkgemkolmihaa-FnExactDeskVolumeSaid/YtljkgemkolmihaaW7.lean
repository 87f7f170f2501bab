/- The reference's words on desks: right ones, right pairs. -/
import Derived.Test.YtljkgemkolmihaaW6
namespace Go.Proofs.Ytljkgemkolmihaa
open Go.RowKit

/-- a picture's or a map's cells, at a place of a block -/
def BoxO (w : World) (b o : Nat) (p : PV) : Prop :=
  w.cell? ⟨b, o, none⟩ = some (.int .i64 p.W) ∧ w.cell? ⟨b, o + 1, none⟩ = some (.int .i64 p.H) ∧ w.cell? ⟨b, o + 2, none⟩ = some (.slice p.a p.xs.length p.c)
theorem DeskAt.boxes {w : World} {b : Nat} {l r m : PV} (h : DeskAt w b l r m) : BoxO w b 0 l ∧ BoxO w b 3 r ∧ BoxO w b 6 m := by
  obtain ⟨h0, h1, h2, h3, h4, h5, h6, h7, h8⟩ := h
  exact ⟨⟨h0, h1, h2⟩, ⟨h3, h4, h5⟩, ⟨h6, h7, h8⟩⟩
theorem sisO_is {r : Bool} (b o : Nat) (p : PV) (w : World) (hn : p.xs.length ≤ maxLen) (h : BoxO w b o p) (hr : Hid (picB p.W p.H p.xs.length = r)) :
    Calls Try.prog 31 #[.pointer (some ⟨b, o, none⟩)] w fun e w' => e = .returned (.bool r) ∧ ∃ m, w' = w.drewN m := by
  rw [← hr.out]; exact sis_any _ p.W p.H p.a p.xs.length p.c hn w b o rfl h.1 h.2.1 h.2.2
theorem sisMap_is {r : Bool} (b o : Nat) (p : PV) (w : World) (hn : p.xs.length ≤ maxLen) (h : BoxO w b o p) (hr : Hid (picB p.W p.H p.xs.length = r)) :
    Calls Try.prog 84 #[.pointer (some ⟨b, o, none⟩)] w fun e w' => e = .returned (.bool r) ∧ ∃ m, w' = w.drewN m := by
  rw [← hr.out]; exact sisMap_any _ p.W p.H p.a p.xs.length p.c hn w b o rfl h.1 h.2.1 h.2.2
def fitsB (p m : PV) : Bool := picB p.W p.H p.xs.length && (picB m.W m.H m.xs.length && (decide (p.W = m.W) && decide (p.H = m.H)))

set_option maxRecDepth 100000 in
set_option maxHeartbeats 4000000 in
theorem sfits_any (b o b' o' : Nat) (p m : PV) (w : World) (hn : p.xs.length ≤ maxLen) (hm : m.xs.length ≤ maxLen) (h : BoxO w b o p) (h' : BoxO w b' o' m) :
    Calls Try.prog 68 #[.pointer (some ⟨b, o, none⟩), .pointer (some ⟨b', o', none⟩)] w fun e w' => e = .returned (.bool (fitsB p m)) ∧ ∃ k, w' = w.drewN k := by
  have B1 : Hid (∀ n, BoxO (w.drewN n) b o p) := Lib.hid (fun _ => h)
  have B2 : Hid (∀ n, BoxO (w.drewN n) b' o' m) := Lib.hid (fun _ => h')
  have c0 := h.1
  have c1 := h.2.1
  have d0 := h'.1
  have d1 := h'.2.1
  clear h h'
  cases p1 : picB p.W p.H p.xs.length
  · have Hr := Lib.hid (show fitsB p m = false by simp [fitsB, p1])
    have P1 := Lib.hid p1
    clear p1
    go_enter Try.func68, Try.ntmps68
    go_wp2_with fail
    go_quiet ((go_at_call 31; (with_reducible exact Calls.quiet_of (sisO_is b o p _ hn (B1.out _) P1))))
    go_wp2
    go_ret
    exact ⟨by rw [Hr.out]; rfl, ⟨_, rfl⟩⟩
  · cases p2 : picB m.W m.H m.xs.length
    · have Hr := Lib.hid (show fitsB p m = false by simp [fitsB, p2])
      have P1 := Lib.hid p1
      have P2 := Lib.hid p2
      clear p1 p2
      go_enter Try.func68, Try.ntmps68
      go_wp2_with fail
      go_quiet ((first
        | (go_at_call 31; (with_reducible exact Calls.quiet_of (sisO_is b o p _ hn (B1.out _) P1)))
        | (go_at_call 84; (with_reducible exact Calls.quiet_of (sisMap_is b' o' m _ hm (B2.out _) P2)))))
      go_wp2
      go_ret
      exact ⟨by rw [Hr.out]; rfl, ⟨_, rfl⟩⟩
    · have Hr := Lib.hid (show fitsB p m = (decide (p.W = m.W) && decide (p.H = m.H)) by simp [fitsB, p1, p2])
      have P1 := Lib.hid p1
      have P2 := Lib.hid p2
      clear p1 p2
      by_cases hw : p.W = m.W
      all_goals
        first
        | (have hwt : (p.W == m.W) = true := beq_iff_eq.2 hw)
        | (have hwf : (p.W == m.W) = false := beq_eq_false_iff_ne.2 hw)
        have Hw := Lib.hid hw
        clear hw
        go_enter Try.func68, Try.ntmps68
        go_wp2_with fail
        go_quiet ((first
          | (go_at_call 31; (with_reducible exact Calls.quiet_of (sisO_is b o p _ hn (B1.out _) P1)))
          | (go_at_call 84; (with_reducible exact Calls.quiet_of (sisMap_is b' o' m _ hm (B2.out _) P2)))))
        go_wp2
        go_ret
        refine ⟨ret_bool ?_, ⟨_, rfl⟩⟩
        rw [Hr.out]
        have := Hw.out
        simp [this] <;> rfl

theorem sfits_is {q : Bool} (b o b' o' : Nat) (p m : PV) (w : World) (hn : p.xs.length ≤ maxLen) (hm : m.xs.length ≤ maxLen) (h : BoxO w b o p) (h' : BoxO w b' o' m) (hq : Hid (fitsB p m = q)) :
    Calls Try.prog 68 #[.pointer (some ⟨b, o, none⟩), .pointer (some ⟨b', o', none⟩)] w fun e w' => e = .returned (.bool q) ∧ ∃ k, w' = w.drewN k := by
  rw [← hq.out]; exact sfits_any b o b' o' p m w hn hm h h'
theorem fits_desk (l r m : PV) : (fitsB l m && fitsB r m) = deskB l r m := by
  rw [Bool.eq_iff_iff]
  simp only [fitsB, deskB, pvB, pairB, Bool.and_eq_true, decide_eq_true_eq]
  constructor
  · rintro ⟨⟨a, b, c, d⟩, e, _, f, g⟩
    exact ⟨⟨a, e, c.trans f.symm, d.trans g.symm⟩, b, c.symm, d.symm⟩
  · rintro ⟨⟨a, e, c, d⟩, b, f, g⟩
    exact ⟨⟨a, b, f.symm, g.symm⟩, e, b, c.symm.trans f.symm, d.symm.trans g.symm⟩

set_option maxRecDepth 100000 in
set_option maxHeartbeats 4000000 in
theorem sdesk_any (b : Nat) (l r m : PV) (w : World) (h1 : l.xs.length ≤ maxLen) (h2 : r.xs.length ≤ maxLen) (h3 : m.xs.length ≤ maxLen) (h : DeskAt w b l r m) :
    Calls Try.prog 49 #[.pointer (some ⟨b, 0, none⟩)] w fun e w' => e = .returned (.bool (deskB l r m)) ∧ ∃ k, w' = w.drewN k := by
  obtain ⟨B1, B2, B3⟩ := h.boxes
  have C1 : Hid (∀ n, BoxO (w.drewN n) b 0 l) := Lib.hid (fun _ => B1)
  have C2 : Hid (∀ n, BoxO (w.drewN n) b 3 r) := Lib.hid (fun _ => B2)
  have C3 : Hid (∀ n, BoxO (w.drewN n) b 6 m) := Lib.hid (fun _ => B3)
  have Hr := Lib.hid (fits_desk l r m)
  clear h B1 B2 B3
  cases p1 : fitsB l m
  · have P1 := Lib.hid p1
    clear p1
    go_enter Try.func49, Try.ntmps49
    go_wp2_with fail
    go_quiet ((go_at_call 68; (with_reducible exact Calls.quiet_of (sfits_is b 0 b 6 l m _ h1 h3 (C1.out _) (C3.out _) P1))))
    go_wp2
    go_ret
    exact ⟨by rw [← Hr.out, P1.out]; rfl, ⟨_, rfl⟩⟩
  · cases p2 : fitsB r m
    all_goals
      have P1 := Lib.hid p1
      have P2 := Lib.hid p2
      clear p1 p2
      go_enter Try.func49, Try.ntmps49
      go_wp2_with fail
      go_quiet ((first
        | (go_at_call 68; (with_reducible exact Calls.quiet_of (sfits_is b 0 b 6 l m _ h1 h3 (C1.out _) (C3.out _) P1)))
        | (go_at_call 68; (with_reducible exact Calls.quiet_of (sfits_is b 3 b 6 r m _ h2 h3 (C2.out _) (C3.out _) P2)))))
      go_wp2
      go_ret
      exact ⟨by rw [← Hr.out, P1.out, P2.out]; rfl, ⟨_, rfl⟩⟩

theorem sin_is {q : Bool} (n lo hi : Int) (hr : Hid (inB n lo hi = q)) (w : World) :
    Calls Try.prog 76 #[.int .i64 n, .int .i64 lo, .int .i64 hi] w fun e w' => e = .returned (.bool q) ∧ w' = w := by
  rw [← hr.out]; exact (sin_any n lo hi w).mono fun _ _ ⟨a, b⟩ => ⟨a, b.symm⟩

set_option maxRecDepth 100000 in
set_option maxHeartbeats 8000000 in
theorem spair_any (b o b' o' : Nat) (l r : PV) (D : Int) (w : World) (h1 : l.xs.length ≤ maxLen) (h2 : r.xs.length ≤ maxLen) (h : BoxO w b o l) (h' : BoxO w b' o' r) :
    Calls Try.prog 69 #[.pointer (some ⟨b, o, none⟩), .pointer (some ⟨b', o', none⟩), .int .i64 D] w fun e w' => e = .returned (.bool (pvB l r && inB D 1 8)) ∧ ∃ k, w' = w.drewN k := by
  have B1 : Hid (∀ n, BoxO (w.drewN n) b o l) := Lib.hid (fun _ => h)
  have B2 : Hid (∀ n, BoxO (w.drewN n) b' o' r) := Lib.hid (fun _ => h')
  have c0 := h.1
  have c1 := h.2.1
  have d0 := h'.1
  have d1 := h'.2.1
  clear h h'
  cases p1 : picB l.W l.H l.xs.length
  · have Hr := Lib.hid (show (pvB l r && inB D 1 8) = false by simp [pvB, pairB, p1])
    have P1 := Lib.hid p1
    clear p1
    go_enter Try.func69, Try.ntmps69
    go_wp2_with fail
    go_quiet ((go_at_call 31; (with_reducible exact Calls.quiet_of (sisO_is b o l _ h1 (B1.out _) P1))))
    go_wp2
    go_ret
    exact ⟨by rw [Hr.out]; rfl, ⟨_, rfl⟩⟩
  · cases p2 : picB r.W r.H r.xs.length
    · have Hr := Lib.hid (show (pvB l r && inB D 1 8) = false by simp [pvB, pairB, p2])
      have P1 := Lib.hid p1
      have P2 := Lib.hid p2
      clear p1 p2
      go_enter Try.func69, Try.ntmps69
      go_wp2_with fail
      go_quiet ((first
        | (go_at_call 31; (with_reducible exact Calls.quiet_of (sisO_is b o l _ h1 (B1.out _) P1)))
        | (go_at_call 31; (with_reducible exact Calls.quiet_of (sisO_is b' o' r _ h2 (B2.out _) P2)))))
      go_wp2
      go_ret
      exact ⟨by rw [Hr.out]; rfl, ⟨_, rfl⟩⟩
    · have Hr := Lib.hid (show (pvB l r && inB D 1 8) = (decide (l.W = r.W) && (decide (l.H = r.H) && inB D 1 8)) by simp [pvB, pairB, p1, p2, Bool.and_assoc])
      have hsz : 0 ≤ l.W * l.H ∧ l.W * l.H ≤ 256 := by
        unfold picB at p1
        rw [Bool.and_eq_true] at p1
        obtain ⟨a, b, c, d, e⟩ := sizeB_iff.1 p1.1
        have := (mul_bound a b c d).1
        omega
      have P1 := Lib.hid p1
      have P2 := Lib.hid p2
      clear p1 p2
      by_cases hw : l.W = r.W
      · have hwt : (l.W == r.W) = true := beq_iff_eq.2 hw
        by_cases hh : l.H = r.H
        · have hht : (l.H == r.H) = true := beq_iff_eq.2 hh
          have Hpv : Hid (pvB l r = true) := Lib.hid (by have q1 := P1.out; have q2 := P2.out; unfold pvB pairB; rw [q1, q2, decide_eq_true hw, decide_eq_true hh]; rfl)
          clear hw hh
          cases p3 : inB D 1 8
          · have P3 := Lib.hid p3
            clear p3
            go_enter Try.func69, Try.ntmps69
            go_wp2_with fail
            go_quiet ((first
              | (go_at_call 31; (with_reducible exact Calls.quiet_of (sisO_is b o l _ h1 (B1.out _) P1)))
              | (go_at_call 31; (with_reducible exact Calls.quiet_of (sisO_is b' o' r _ h2 (B2.out _) P2)))
              | (go_at_call 76; (with_reducible exact Calls.quiet_of_same (sin_is D 1 8 P3 _)))))
            go_wp2
            go_ret
            exact ⟨ret_bool (by simp), ⟨_, rfl⟩⟩
          · have hD := inB_iff.1 p3
            have hm1 : 0 ≤ l.W * l.H * D := Int.mul_nonneg hsz.1 (by omega)
            have hm2 : l.W * l.H * D ≤ 256 * 8 := Int.mul_le_mul hsz.2 hD.2 (by omega) (by omega)
            have hw1 : IntKind.i64.wrap (l.W * l.H) = l.W * l.H := IntWalk.i64_in _ (by omega)
            have hw2 : IntKind.i64.wrap (l.W * l.H * D) = l.W * l.H * D := IntWalk.i64_in _ (by omega)
            have hle : l.W * l.H * D ≤ 2048 := by omega
            have hled : decide (l.W * l.H * D ≤ 2048) = true := decide_eq_true hle
            have P3 := Lib.hid p3
            clear p3 hm1 hm2 hD hsz
            go_enter Try.func69, Try.ntmps69
            go_wp2_with fail
            go_quiet ((first
              | (go_at_call 31; (with_reducible exact Calls.quiet_of (sisO_is b o l _ h1 (B1.out _) P1)))
              | (go_at_call 31; (with_reducible exact Calls.quiet_of (sisO_is b' o' r _ h2 (B2.out _) P2)))
              | (go_at_call 76; (with_reducible exact Calls.quiet_of_same (sin_is D 1 8 P3 _)))))
            go_wp2
            go_ret
            exact ⟨ret_bool (by rw [Hpv.out]; rfl), ⟨_, rfl⟩⟩
        · have hhf : (l.H == r.H) = false := beq_eq_false_iff_ne.2 hh
          have Hh := Lib.hid (decide_eq_false hh)
          clear hw hh
          go_enter Try.func69, Try.ntmps69
          go_wp2_with fail
          go_quiet ((first
            | (go_at_call 31; (with_reducible exact Calls.quiet_of (sisO_is b o l _ h1 (B1.out _) P1)))
            | (go_at_call 31; (with_reducible exact Calls.quiet_of (sisO_is b' o' r _ h2 (B2.out _) P2)))))
          go_wp2
          go_ret
          exact ⟨ret_bool (by rw [Hr.out, Hh.out]; simp <;> rfl), ⟨_, rfl⟩⟩
      · have hwf : (l.W == r.W) = false := beq_eq_false_iff_ne.2 hw
        have Hw := Lib.hid (decide_eq_false hw)
        clear hw
        go_enter Try.func69, Try.ntmps69
        go_wp2_with fail
        go_quiet ((first
          | (go_at_call 31; (with_reducible exact Calls.quiet_of (sisO_is b o l _ h1 (B1.out _) P1)))
          | (go_at_call 31; (with_reducible exact Calls.quiet_of (sisO_is b' o' r _ h2 (B2.out _) P2)))))
        go_wp2
        go_ret
        exact ⟨ret_bool (by rw [Hr.out, Hw.out]; simp <;> rfl), ⟨_, rfl⟩⟩
end Go.Proofs.Ytljkgemkolmihaa
