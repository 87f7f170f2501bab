/- The law on VolumeText, walked. -/
import Derived.Test.YtljkgemkolmihaaDoorY7
import Derived.Deep.RegionHeld3
namespace Go.Proofs.YtljkgemkolmihaaDoor
open Go.RowKit

/-- what stands all the time: the argument's box and row, and what was there before -/
structure StV (w : World) (W H D : Int) (a : Option Addr) (c : Nat) (xs : List Nat) (x : World) : Prop where
  box : VC x w.heap.size W H D (.slice a xs.length c)
  row : Rd (· < w.heap.size) x a (xs.map fl)
  below : Below w.heap.size w x
theorem StV.next {w x y : World} {W H D : Int} {a : Option Addr} {c : Nat} {xs : List Nat} (h : StV w W H D a c xs x) (hb : Below x.heap.size x y) : StV w W H D a c xs y :=
  ⟨h.box.next hb, h.row.below (hb.mono (Nat.le_of_lt h.box.lt)|>.mono (Nat.le_refl _)), h.below.trans (hb.mono (Nat.le_of_lt h.box.lt))⟩
theorem below_alloc (x : World) (o : Obj) : Below x.heap.size x (x.alloc o) := (Below.refl _ _).alloc (Nat.le_refl _) _
theorem below_drew (x : World) : Below x.heap.size x x.drew := (Below.refl _ _).drew
theorem vtV_is (W H D : Int) (xs : List Nat) : ∃ (s : ByteArray) (ok : Bool), vtV W H D xs = .tuple #[.string s, .bool ok] := by
  unfold vtV
  split
  · exact ⟨_, _, rfl⟩
  · exact ⟨_, _, rfl⟩

set_option maxRecDepth 100000 in
set_option maxHeartbeats 4000000 in
theorem law_volumeText (W H D : Int) (a : Option Addr) (c : Nat) (xs : List Nat) (w : World) (hl : Lid w) (hn : xs.length ≤ maxLen) (hx : ∀ x ∈ xs, okF x) (r : Rd (· < w.heap.size) w a (xs.map fl)) :
    Calls Tryd.prog 6 #[.agg #[.int .i64 W, .int .i64 H, .int .i64 D, .slice a xs.length c]] w fun e w' => e = .returned (.bool true) ∧ Below w.heap.size w w' := by
  obtain ⟨x0, hx0⟩ : ∃ x0, x0 = w.alloc (.cells #[.int .i64 W, .int .i64 H, .int .i64 D, .slice a xs.length c] 36) := ⟨_, rfl⟩
  have H0 : Hid (StV w W H D a c xs x0) := Lib.hid (by rw [hx0]; exact ⟨VC.mk' _ _ _ _ _ _, r.alloc _, below_alloc _ _⟩)
  have Hx0 := Lib.hid hx0
  have Hl := Lib.hid hl
  have Hx := Lib.hid hx
  have Hn := Lib.hid hn
  obtain ⟨s, ok, hv⟩ := vtV_is W H D xs
  have Hv := Lib.hid hv
  have hok : (ok != ok) = false := by simp
  have hss : (s.toList != s.toList) = false := by simp
  clear hx0 hl hx r hv
  unfold maxLen at hn
  obtain ⟨k0, k1, k2, k3⟩ := H0.out.box
  by_cases hbig : (1048576 : Int) - (xs.length : Int) < 0
  · go_enter Tryd.func6, Tryd.ntmps6
    clear k0 k1 k2 k3
    go_wp2_with fail
    rw [← Hx0.out]
    refine (szV W H D a xs.length c 1048576 x0 Hn.out (Int.le_refl _) (by omega)).mono ?_
    rw [if_pos hbig]
    rintro e x1 ⟨rfl, hb1⟩
    have H1 := Lib.hid (H0.out.next hb1)
    clear hb1
    go_wp2_with fail
    go_ret
    exact ⟨rfl, H1.out.below⟩
  · go_enter Tryd.func6, Tryd.ntmps6
    clear k0 k1 k2 k3
    go_wp2_with fail
    rw [← Hx0.out]
    refine (szV W H D a xs.length c 1048576 x0 Hn.out (Int.le_refl _) (by omega)).mono ?_
    rw [if_neg (by omega)]
    rintro e x1 ⟨rfl, hb1⟩
    have H1 := Lib.hid (H0.out.next hb1)
    have hn2 : xs.length ≤ 1048576 := by omega
    have hnn : ¬ (1048576 : Int) - (xs.length : Int) < 0 := by omega
    clear hb1 H0 hbig
    obtain ⟨k0, k1, k2, k3⟩ := H1.out.box
    go_wp2_with fail
    refine (toV W H D (· < w.heap.size) a c xs x1 hn2 H1.out.row (fun k hk => by have := H1.out.box.lt; omega)).mono ?_
    rintro e x2 ⟨g, hg, rfl, hw2, hb2⟩
    have H2 := Lib.hid (H1.out.next hb2)
    have Hw2 := Lib.hid (hw2.rd.tight.mono (T := (· < x2.heap.size)) (fun k hk => hk.2))
    clear hw2 hb2 k0 k1 k2 k3
    go_wp2_with fail
    refine (svolumeText_any W H D (some ⟨g, 0, none⟩) xs.length xs x2 Hn.out Hx.out Hw2.out).mono ?_
    rw [Hv.out]
    rintro e x3 ⟨rfl, hb3⟩
    have H3 := Lib.hid (H2.out.next hb3)
    clear hb3 H2 Hw2
    obtain ⟨k0, k1, k2, k3⟩ := H3.out.box
    go_wp2_with fail
    refine (toV W H D (· < w.heap.size) a c xs x3 hn2 H3.out.row (fun k hk => by have := H3.out.box.lt; omega)).mono ?_
    rintro e x4 ⟨g4, hg4, rfl, hw4, hb4⟩
    have H4 := Lib.hid (H3.out.next hb4)
    have hz4 := hb4.size
    obtain ⟨x5, hx5⟩ : ∃ x5, x5 = x4.alloc (.cells #[.int .i64 W, .int .i64 H, .int .i64 D, .slice (some ⟨g4, 0, none⟩) xs.length xs.length] 39) := ⟨_, rfl⟩
    have H5 : Hid (StV w W H D a c xs x5) := Lib.hid (by rw [hx5]; exact H4.out.next (below_alloc _ _))
    have Hw5 : Hid (Rd (fun k => k < x4.heap.size) x5 (some ⟨g4, 0, none⟩) (xs.map fl)) := Lib.hid (by rw [hx5]; exact (hw4.rd.tight.mono (T := (· < x4.heap.size)) (fun k hk => hk.2)).alloc _)
    have B5 : Hid (VC x5 x4.heap.size W H D (.slice (some ⟨g4, 0, none⟩) xs.length xs.length)) := Lib.hid (by rw [hx5]; exact VC.mk' _ _ _ _ _ _)
    have Hx5 := Lib.hid hx5
    have hs5 : x5.heap.size = x4.heap.size + 1 := by rw [hx5]; simp
    have Hs5 := Lib.hid hs5
    clear hw4 hb4 H3 k0 k1 k2 k3 hx5 hs5
    go_wp2_with fail
    rw [← Hx5.out]
    obtain ⟨u0, u1, u2, u3⟩ := B5.out
    go_wp2_with fail
    refine (volumeText_any W H D (some ⟨g4, 0, none⟩) xs.length xs x5 (Hl.out.below H5.out.below) Hn.out Hx.out (Hw5.out.mono (fun k hk => by have := Hs5.out; omega))).mono ?_
    rw [Hv.out]
    rintro e x6 ⟨rfl, hb6⟩
    have H6 := Lib.hid (H5.out.next hb6)
    have B6 := Lib.hid (B5.out.next hb6)
    have hz6 : x4.heap.size < x6.heap.size := by have := hb6.size; have := Hs5.out; omega
    have Hw6 : Hid (Rd (fun k => k < x4.heap.size) x6 (some ⟨g4, 0, none⟩) (xs.map fl)) := Lib.hid (Hw5.out.below (hb6.mono (by have := Hs5.out; omega)))
    clear hb6 H5 B5 Hw5 u0 u1 u2 u3
    go_wp2_with fail
    have D6 := Lib.hid (H6.out.next (below_drew x6))
    have F6 := Lib.hid (B6.out.next (below_drew x6))
    have R6 := Lib.hid (Hw6.out.below ((below_drew x6).mono (Nat.le_of_lt hz6)))
    go_region_held3 (fun w' => (w'.cell? ⟨x4.heap.size, 0, none⟩ = some (.int .i64 W) ∧ w'.cell? ⟨x4.heap.size, 1, none⟩ = some (.int .i64 H) ∧ w'.cell? ⟨x4.heap.size, 2, none⟩ = some (.int .i64 D) ∧ w'.cell? ⟨x4.heap.size, 3, none⟩ = some (.slice (some ⟨g4, 0, none⟩) xs.length xs.length)) ∧ w'.cell? ⟨w.heap.size, 0, none⟩ = some (.int .i64 W) ∧ w'.cell? ⟨w.heap.size, 1, none⟩ = some (.int .i64 H) ∧ w'.cell? ⟨w.heap.size, 2, none⟩ = some (.int .i64 D) ∧ w'.cell? ⟨w.heap.size, 3, none⟩ = some (.slice a xs.length c))
      (first | exact ⟨F8.out, D8.out.box⟩ | exact ⟨F7.out, D7.out.box⟩ | exact ⟨F6.out, D6.out.box⟩ | go_keep)
      ((first
        | (go_at_call 21
           refine (toV W H D (· < w.heap.size) a c xs x6.drew hn2 D6.out.row (fun k hk => by have := D6.out.box.lt; omega)).mono ?_
           rintro e y7 ⟨g7, hg7, rfl, hw7, hb7⟩
           have D7 := Lib.hid (D6.out.next hb7)
           have F7 := Lib.hid (F6.out.next hb7)
           have R7 := Lib.hid (R6.out.below (hb7.mono (Nat.le_of_lt hz6)))
           have Hw7 := Lib.hid hw7.rd
           clear hw7 hb7)
        | (go_at_call 23
           refine (eqV W H D _ _ (some ⟨g4, 0, none⟩) (some ⟨g7, 0, none⟩) xs.length xs.length xs xs y7 hn2 rfl (fun i _ _ => FEq.refl _ _) R7.out Hw7.out).mono ?_
           rintro e y8 ⟨rfl, hb8⟩
           have D8 := Lib.hid (D7.out.next hb8)
           have F8 := Lib.hid (F7.out.next hb8)
           clear hb8)))
    go_wp2_with fail
    go_ret
    exact ⟨rfl, D8.out.below⟩
end Go.Proofs.YtljkgemkolmihaaDoor
