/- The program's VolumeText, whole. -/
import Derived.Test.YtljkgemkolmihaaDoorY6
namespace Go.Proofs.YtljkgemkolmihaaDoor
open Go.RowKit

/-- what sizedText returns -/
def stV (ns : List Int) (xs : List Nat) : Value := if xs.length ≤ 256 then .tuple #[.string (bs (vtext ns xs)), .bool true] else .tuple #[.string (bs []), .bool false]

set_option maxRecDepth 100000 in
set_option maxHeartbeats 2000000 in
theorem sizedText_any (ns : List Int) (xs : List Nat) (a1 a2 : Option Addr) (c1 c2 : Nat) (w : World) (hl : Lid w) (hn1 : ns.length ≤ 64) (h1 : ∀ x ∈ ns, -1000000000000000 ≤ x ∧ x ≤ 1000000000000000) (h2 : ∀ x ∈ xs, okF x) (r1 : Rd (· < w.heap.size) w a1 (ns.map iv)) (r2 : Rd (· < w.heap.size) w a2 (xs.map fl)) :
    Calls Tryd.prog 46 #[.slice a1 ns.length c1, .slice a2 xs.length c2] w fun e w' => e = .returned (stV ns xs) ∧ Below w.heap.size w w' := by
  have l1 := textI_le (ns := ns) (fun x hx => ⟨by have := h1 x hx; omega, by have := h1 x hx; omega⟩) hn1
  have T1 := Lib.hid (listText_any a1 c1 ns w hl hn1 h1 r1)
  have T2 : Hid (∀ w', Below w.heap.size w w' → Calls Tryd.prog 69 #[.slice a2 xs.length c2] w' (fun e w'' => e = .returned (ntV xs) ∧ Below w'.heap.size w' w'')) := Lib.hid (fun w' hb => numbersText_any a2 c2 xs w' h2 ((r2.below hb).mono (fun k hk => by have := hb.size; omega)))
  clear h1 h2 r1 r2 hl
  by_cases hn : xs.length ≤ 256
  · have l2 := textF_le hn
    have Hr := Lib.hid (show stV ns xs = .tuple #[.string (bs (textP (ns.map Lib.itoa) ++ 58 :: textP (xs.map hexF))), .bool true] by simp [stV, hn, vtext])
    have Hn := Lib.hid (show ntV xs = .tuple #[.string (bs (textP (xs.map hexF))), .bool true] by simp [ntV, hn])
    generalize textP (ns.map Lib.itoa) = A at *
    generalize textP (xs.map hexF) = B at *
    have g1 : ¬ 9223372036854775807 < (bs A).size + 1 := by rw [bs_size]; omega
    have g2 : ¬ 9223372036854775807 < (bs A).size + 1 + (bs B).size := by rw [bs_size, bs_size]; omega
    clear hn
    go_enter Tryd.func46, Tryd.ntmps46
    go_wp2_with fail
    refine T1.out.mono ?_
    rintro e w1 ⟨rfl, hb1⟩
    have Hb1 := Lib.hid hb1
    clear hb1
    go_wp2_with fail
    refine (T2.out w1 Hb1.out).mono ?_
    rw [Hn.out]
    rintro e w2 ⟨rfl, hb2⟩
    have Hb2 := Lib.hid hb2
    have hz := Hb1.out.size
    clear hb2
    go_wp2_with fail
    go_ret2
    exact ⟨by rw [Hr.out, ← colon_bs]; rfl, Hb1.out.trans (Hb2.out.mono hz)⟩
  · have Hr := Lib.hid (show stV ns xs = .tuple #[.string (bs []), .bool false] by simp [stV, hn])
    have Hn := Lib.hid (show ntV xs = .tuple #[.string (bs []), .bool false] by simp [ntV, hn])
    clear hn
    go_enter Tryd.func46, Tryd.ntmps46
    go_wp2_with fail
    refine T1.out.mono ?_
    rintro e w1 ⟨rfl, hb1⟩
    have Hb1 := Lib.hid hb1
    clear hb1
    go_wp2_with fail
    refine (T2.out w1 Hb1.out).mono ?_
    rw [Hn.out]
    rintro e w2 ⟨rfl, hb2⟩
    have Hb2 := Lib.hid hb2
    have hz := Hb1.out.size
    clear hb2
    go_wp2_with fail
    go_ret2
    exact ⟨by rw [Hr.out]; rfl, Hb1.out.trans (Hb2.out.mono hz)⟩

set_option maxRecDepth 100000 in
set_option maxHeartbeats 2000000 in
theorem validVolume_any (W H D : Int) (a : Option Addr) (n c : Nat) (hn : n ≤ maxLen) (w : World) :
    Calls Tryd.prog 45 #[.agg #[.int .i64 W, .int .i64 H, .int .i64 D, .slice a n c]] w fun e w' => e = .returned (.bool (volB W H D n)) ∧ Below w.heap.size w w' := by
  unfold maxLen at hn
  cases h : sizeB W H
  · have Hs := Lib.hid (show volB W H D n = false by simp [volB, h])
    have Hh := Lib.hid h
    clear h
    go_enter Tryd.func45, Tryd.ntmps45
    go_wp2_with (go_at_call 67; refine (sizeOk_any _ _ _).mono ?_; rintro e w' ⟨rfl, rfl⟩; rw [Hh.out])
    go_ret
    exact ⟨by rw [Hs.out]; rfl, (Below.refl _ _).alloc (Nat.le_refl _) _⟩
  · cases g : inB D 1 8
    · have Hs := Lib.hid (show volB W H D n = false by simp [volB, h, g])
      have Hh := Lib.hid h
      have Hg := Lib.hid g
      clear h g
      go_enter Tryd.func45, Tryd.ntmps45
      go_wp2_with (first
        | (go_at_call 67; refine (sizeOk_any _ _ _).mono ?_; rintro e w' ⟨rfl, rfl⟩; rw [Hh.out])
        | (go_at_call 58; refine (in_any _ _ _ _).mono ?_; rintro e w' ⟨rfl, rfl⟩; rw [Hg.out]))
      go_ret
      exact ⟨by rw [Hs.out]; rfl, (Below.refl _ _).alloc (Nat.le_refl _) _⟩
    · obtain ⟨h1, h2, h3, h4, h5⟩ := sizeB_iff.1 h
      obtain ⟨m1, m2⟩ := mul_bound h1 h2 h3 h4
      obtain ⟨d1, d2⟩ := inB_iff.1 g
      obtain ⟨k1, k2⟩ := vol_bound m1 h5 d1 d2
      by_cases hq : (n : Int) = W * H * D
      · have Hs := Lib.hid (show volB W H D n = true by simp [volB, h, g, hq])
        have hle : (n : Int) ≤ 2048 := by omega
        have hq2 : ((n : Int) == W * H * D) = true := beq_iff_eq.2 hq
        have Hh := Lib.hid h
        have Hg := Lib.hid g
        clear h g hq h1 h2 h3 h4 h5 d1 d2
        go_enter Tryd.func45, Tryd.ntmps45
        go_wp2_with (first
          | (go_at_call 67; refine (sizeOk_any _ _ _).mono ?_; rintro e w' ⟨rfl, rfl⟩; rw [Hh.out])
          | (go_at_call 58; refine (in_any _ _ _ _).mono ?_; rintro e w' ⟨rfl, rfl⟩; rw [Hg.out]))
        go_ret
        exact ⟨by rw [Hs.out]; rfl, (Below.refl _ _).alloc (Nat.le_refl _) _⟩
      · have Hs := Lib.hid (show volB W H D n = false by simp [volB, hq])
        have hq2 : ((n : Int) == W * H * D) = false := beq_eq_false_iff_ne.2 hq
        have Hh := Lib.hid h
        have Hg := Lib.hid g
        clear h g hq h1 h2 h3 h4 h5 d1 d2
        go_enter Tryd.func45, Tryd.ntmps45
        go_wp2_with (first
          | (go_at_call 67; refine (sizeOk_any _ _ _).mono ?_; rintro e w' ⟨rfl, rfl⟩; rw [Hh.out])
          | (go_at_call 58; refine (in_any _ _ _ _).mono ?_; rintro e w' ⟨rfl, rfl⟩; rw [Hg.out]))
        go_ret
        exact ⟨by rw [Hs.out]; rfl, (Below.refl _ _).alloc (Nat.le_refl _) _⟩

/-- a box of a volume -/
def VC (x : World) (b : Nat) (W H D : Int) (v : Value) : Prop := x.cell? ⟨b, 0, none⟩ = some (.int .i64 W) ∧ x.cell? ⟨b, 1, none⟩ = some (.int .i64 H) ∧ x.cell? ⟨b, 2, none⟩ = some (.int .i64 D) ∧ x.cell? ⟨b, 3, none⟩ = some v
theorem VC.next {x y : World} {b : Nat} {W H D : Int} {v : Value} (h : VC x b W H D v) (hb : Below x.heap.size x y) : VC y b W H D v := by
  obtain ⟨h0, h1, h2, h3⟩ := h
  exact ⟨by rw [hb.cell (p := ⟨b, 0, none⟩) (lt_of_cell h0)]; exact h0, by rw [hb.cell (p := ⟨b, 1, none⟩) (lt_of_cell h0)]; exact h1, by rw [hb.cell (p := ⟨b, 2, none⟩) (lt_of_cell h0)]; exact h2, by rw [hb.cell (p := ⟨b, 3, none⟩) (lt_of_cell h0)]; exact h3⟩
theorem VC.mk' (x : World) (W H D : Int) (v : Value) (t : TypeId) : VC (x.alloc (.cells #[.int .i64 W, .int .i64 H, .int .i64 D, v] t)) x.heap.size W H D v := by simp [VC, go_sem]
theorem VC.lt {x : World} {b : Nat} {W H D : Int} {v : Value} (h : VC x b W H D v) : b < x.heap.size := lt_of_cell h.1
theorem sizes_15 {W H D : Int} {n : Nat} (h : volB W H D n = true) : ∀ x ∈ [W, H, D], -1000000000000000 ≤ x ∧ x ≤ 1000000000000000 := by
  simp only [volB, Bool.and_eq_true] at h
  obtain ⟨h1, h2, h3, h4, _⟩ := sizeB_iff.1 h.1.1
  obtain ⟨d1, d2⟩ := inB_iff.1 h.1.2
  intro x hx
  simp at hx
  rcases hx with rfl | rfl | rfl <;> exact ⟨by omega, by omega⟩

set_option maxRecDepth 100000 in
set_option maxHeartbeats 4000000 in
theorem volumeText_any (W H D : Int) (a : Option Addr) (c : Nat) (xs : List Nat) (w : World) (hl : Lid w) (hn : xs.length ≤ maxLen) (hx : ∀ x ∈ xs, okF x) (r : Rd (· < w.heap.size) w a (xs.map fl)) :
    Calls Tryd.prog 22 #[.agg #[.int .i64 W, .int .i64 H, .int .i64 D, .slice a xs.length c]] w fun e w' => e = .returned (vtV W H D xs) ∧ Below w.heap.size w w' := by
  obtain ⟨x0, hx0⟩ : ∃ x0, x0 = w.alloc (.cells #[.int .i64 W, .int .i64 H, .int .i64 D, .slice a xs.length c] 39) := ⟨_, rfl⟩
  have hB0 : Hid (Below w.heap.size w x0) := Lib.hid (by rw [hx0]; exact (Below.refl _ _).alloc (Nat.le_refl _) _)
  have hs0 : Hid (x0.heap.size = w.heap.size + 1) := Lib.hid (by rw [hx0]; simp)
  have C0 : Hid (VC x0 w.heap.size W H D (.slice a xs.length c)) := Lib.hid (by rw [hx0]; exact VC.mk' _ _ _ _ _ _)
  have S := Lib.hid (validVolume_any W H D a xs.length c hn x0)
  have Hx0 := Lib.hid hx0
  clear hx0
  unfold maxLen at hn
  cases hv : volB W H D xs.length
  · have Hr := Lib.hid (show vtV W H D xs = .tuple #[.string (bs []), .bool false] by simp [vtV, hv])
    have Hv := Lib.hid hv
    clear hv r hx hl
    go_enter Tryd.func22, Tryd.ntmps22
    go_wp2_with fail
    rw [← Hx0.out]
    refine S.out.mono ?_
    rw [Hv.out]
    rintro e w1 ⟨rfl, hb1⟩
    have Hb1 := Lib.hid hb1
    clear hb1
    go_wp2_with fail
    go_ret2
    exact ⟨by rw [Hr.out]; rfl, hB0.out.trans (Hb1.out.mono (by have := hs0.out; omega))⟩
  · have Hr : Hid (stV [W, H, D] xs = vtV W H D xs) := Lib.hid (by simp [vtV, stV, hv])
    have T : Hid (∀ w1, Below x0.heap.size x0 w1 → Calls Tryd.prog 46 #[.slice (some ⟨w1.heap.size, 0, none⟩) 3 3, .slice a xs.length c] (w1.alloc (.cells #[.int .i64 W, .int .i64 H, .int .i64 D] 2)) (fun e w' => e = .returned (stV [W, H, D] xs) ∧ Below (w1.alloc (.cells #[.int .i64 W, .int .i64 H, .int .i64 D] 2)).heap.size (w1.alloc (.cells #[.int .i64 W, .int .i64 H, .int .i64 D] 2)) w')) := Lib.hid (fun w1 hb => by
      have := hb.size
      have h0 := hs0.out
      exact sizedText_any [W, H, D] xs (some ⟨w1.heap.size, 0, none⟩) a 3 c (w1.alloc (.cells #[.int .i64 W, .int .i64 H, .int .i64 D] 2)) (hl.below ((hB0.out.trans (hb.mono (by omega))).alloc (by omega) _)) (by simp) (sizes_15 hv) hx (by simpa [iv] using rd_three w1 (.int .i64 W) (.int .i64 H) (.int .i64 D) 2) ((((r.below hB0.out).mono (T := (· < x0.heap.size)) (fun k hk => by omega)).below hb |>.alloc _).mono (fun k hk => by simp; omega)))
    obtain ⟨s, ok, hst⟩ : ∃ (s : ByteArray) (ok : Bool), stV [W, H, D] xs = .tuple #[.string s, .bool ok] := by
      unfold stV
      split
      · exact ⟨_, _, rfl⟩
      · exact ⟨_, _, rfl⟩
    rw [hst] at Hr T
    have Hv := Lib.hid hv
    clear hv r hx hl hst
    go_enter Tryd.func22, Tryd.ntmps22
    go_wp2_with fail
    rw [← Hx0.out]
    refine S.out.mono ?_
    rw [Hv.out]
    rintro e w1 ⟨rfl, hb1⟩
    have Hb1 := Lib.hid hb1
    have C1 := Lib.hid (C0.out.next hb1)
    have hz1 := hb1.size
    clear hb1
    obtain ⟨k0, k1, k2, k3⟩ := C1.out
    have hltz := C1.out.lt
    have k3a : (w1.alloc (.cells #[.int .i64 W, .int .i64 H, .int .i64 D] 2)).cell? ⟨w.heap.size, 3, none⟩ = some (.slice a xs.length c) := by rw [World.cell?_alloc_lt (h := hltz)]; exact k3
    go_wp2_with fail
    refine (T.out w1 Hb1.out).mono ?_
    rintro e w2 ⟨rfl, hb2⟩
    have Hb2 := Lib.hid hb2
    clear hb2
    go_wp2_with fail
    go_ret2
    refine ⟨by rw [← Hr.out]; rfl, hB0.out.trans (((Hb1.out.mono ?_).alloc ?_ _).trans (Hb2.out.mono ?_))⟩
    · have := hs0.out; omega
    · have := hs0.out; omega
    · have := hs0.out; simp; omega
end Go.Proofs.YtljkgemkolmihaaDoor
