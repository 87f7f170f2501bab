/- The reference's VolumeText. -/
import Derived.Test.YtljkgemkolmihaaDoorY3
namespace Go.Proofs.YtljkgemkolmihaaDoor
open Go.RowKit

/-- the text of sizes and numbers -/
def vtext (ns : List Int) (xs : List Nat) : List UInt8 := textP (ns.map Lib.itoa) ++ 58 :: textP (xs.map hexF)
theorem textP_le {P : List (List UInt8)} {b n : Nat} (h : ∀ p ∈ P, p.length ≤ b) (hn : P.length ≤ n) : (textP P).length ≤ 4 + n * (b + 1) := by
  unfold textP
  split
  · simp
  · have h1 := join_bound h
    have h2 := Nat.mul_le_mul_right (b + 1) hn
    omega
theorem textI_le {ns : List Int} (h : ∀ x ∈ ns, i64B x) (hn : ns.length ≤ 64) : (textP (ns.map Lib.itoa)).length ≤ 2000 := by
  have := textP_le (P := ns.map Lib.itoa) (b := 21) (n := 64) (by
    intro p hp
    obtain ⟨x, hx, rfl⟩ := List.mem_map.1 hp
    exact Lib.itoa_length_le x (h x hx).1 (h x hx).2) (by simpa using hn)
  omega
theorem textF_le {xs : List Nat} (hn : xs.length ≤ 256) : (textP (xs.map hexF)).length ≤ 3000 := by
  have := textP_le (P := xs.map hexF) (b := 8) (n := 256) (by
    intro p hp
    obtain ⟨x, hx, rfl⟩ := List.mem_map.1 hp
    rw [hexF_length]; omega) (by simpa using hn)
  omega
theorem colon_bs (a b : List UInt8) : bs a ++ (⟨#[58]⟩ : ByteArray) ++ bs b = bs (a ++ 58 :: b) := by
  have e1 : (⟨#[58]⟩ : ByteArray) = bs [58] := rfl
  rw [e1, bs_append, bs_append, List.append_assoc]; rfl

set_option maxRecDepth 100000 in
set_option maxHeartbeats 2000000 in
theorem s08text_any (ns : List Int) (xs : List Nat) (a1 a2 : Option Addr) (c1 c2 : Nat) (w : World) (hn1 : ns.length ≤ 64) (hn2 : xs.length ≤ 256) (h1 : ∀ x ∈ ns, i64B x) (h2 : ∀ x ∈ xs, okF x) (r1 : Rd (· < w.heap.size) w a1 (ns.map iv)) (r2 : Rd (· < w.heap.size) w a2 (xs.map fl)) :
    Calls Tryd.prog 43 #[.slice a1 ns.length c1, .slice a2 xs.length c2] w (TextOf (vtext ns xs) w) := by
  have l1 := textI_le h1 hn1
  have l2 := textF_le hn2
  have H1 := Lib.hid h1
  have H2 := Lib.hid h2
  have R1 := Lib.hid r1
  have R2 := Lib.hid r2
  clear h1 h2 r1 r2
  have T1 := Lib.hid (stext_any a1 c1 ns w hn1 H1.out R1.out)
  have T2 : Hid (∀ w', Below w.heap.size w w' → Calls Tryd.prog 66 #[.slice a2 xs.length c2] w' (TextOf (textP (xs.map hexF)) w')) := Lib.hid (fun w' hb => sntext_any a2 c2 xs w' hn2 H2.out ((R2.out.below hb).mono (fun k hk => by have := hb.size; omega)))
  have E : Hid (vtext ns xs = textP (ns.map Lib.itoa) ++ 58 :: textP (xs.map hexF)) := Lib.hid rfl
  generalize textP (ns.map Lib.itoa) = A at *
  generalize textP (xs.map hexF) = B at *
  have g1 : ¬ 9223372036854775807 < (bs A).size + 1 := by rw [bs_size]; omega
  have g2 : ¬ 9223372036854775807 < (bs A).size + 1 + (bs B).size := by rw [bs_size, bs_size]; omega
  go_enter Tryd.func43, Tryd.ntmps43
  go_wp2_with fail
  refine T1.out.mono ?_
  rintro e w1 ⟨rfl, hb1⟩
  have Hb1 := Lib.hid hb1
  clear hb1
  go_wp2_with fail
  refine (T2.out w1 Hb1.out).mono ?_
  rintro e w2 ⟨rfl, hb2⟩
  have Hb2 := Lib.hid hb2
  have hz := Hb1.out.size
  clear hb2
  go_wp2_with fail
  go_ret
  exact ⟨by rw [E.out, ← colon_bs]; rfl, Hb1.out.trans (Hb2.out.mono hz)⟩

/-- a right volume -/
def volB (W H D : Int) (n : Nat) : Bool := sizeB W H && inB D 1 8 && decide ((n : Int) = W * H * D)
theorem vol_bound {m D : Int} (a : 1 ≤ m) (b : m ≤ 256) (c : 1 ≤ D) (d : D ≤ 8) : 1 ≤ m * D ∧ m * D ≤ 2048 := by
  constructor
  · have := Int.mul_le_mul a c (by omega) (by omega); omega
  · have := Int.mul_le_mul b d (by omega) (by omega); omega
theorem sin_is {b : Bool} (n lo hi : Int) (h : Hid (inB n lo hi = b)) (w : World) :
    Calls Tryd.prog 64 #[.int .i64 n, .int .i64 lo, .int .i64 hi] w fun e w' => e = .returned (.bool b) ∧ w' = w := by
  rw [← h.out]; exact (sin_any n lo hi w).mono fun _ _ ⟨a, b⟩ => ⟨a, b.symm⟩

set_option maxRecDepth 100000 in
set_option maxHeartbeats 4000000 in
/-- the reference's word for it, by a pointer -/
theorem sis3_any (W H D : Int) (a : Option Addr) (n c : Nat) (hn : n ≤ maxLen) (w : World) (b o : Nat) (c0 : w.cell? ⟨b, o, none⟩ = some (.int .i64 W)) (c1 : w.cell? ⟨b, o + 1, none⟩ = some (.int .i64 H)) (c2 : w.cell? ⟨b, o + 2, none⟩ = some (.int .i64 D)) (c3 : w.cell? ⟨b, o + 3, none⟩ = some (.slice a n c)) :
    Calls Tryd.prog 42 #[.pointer (some ⟨b, o, none⟩)] w fun e w' => e = .returned (.bool (volB W H D n)) ∧ Drew w w' := by
  unfold maxLen at hn
  cases h : sizeB W H
  · have Hs := Lib.hid (show volB W H D n = false by simp [volB, h])
    have Hh := Lib.hid h
    clear h
    go_enter Tryd.func42, Tryd.ntmps42
    go_wp2_with fail
    go_quiet ((first | (go_at_call 63; (with_reducible exact Calls.quiet_of_same (ssize_is _ _ Hh _)))))
    go_wp2_with fail
    go_ret
    exact ⟨by rw [Hs.out]; rfl, ⟨_, rfl⟩⟩
  · cases g : inB D 1 8
    · have Hs := Lib.hid (show volB W H D n = false by simp [volB, h, g])
      have Hh := Lib.hid h
      have Hg := Lib.hid g
      clear h g
      go_enter Tryd.func42, Tryd.ntmps42
      go_wp2_with fail
      go_quiet ((first | (go_at_call 63; (with_reducible exact Calls.quiet_of_same (ssize_is _ _ Hh _))) | (go_at_call 64; (with_reducible exact Calls.quiet_of_same (sin_is _ _ _ Hg _)))))
      go_wp2_with fail
      go_ret
      exact ⟨by rw [Hs.out]; rfl, ⟨_, rfl⟩⟩
    · obtain ⟨h1, h2, h3, h4, h5⟩ := sizeB_iff.1 h
      obtain ⟨m1, m2⟩ := mul_bound h1 h2 h3 h4
      obtain ⟨d1, d2⟩ := inB_iff.1 g
      obtain ⟨k1, k2⟩ := vol_bound m1 h5 d1 d2
      have Hs := Lib.hid (show volB W H D n = ((n : Int) == W * H * D) by simp [volB, h, g]; rfl)
      have w1 : IntKind.i64.wrap (W * H) = W * H := IntWalk.i64_in _ (by omega)
      have w2 : IntKind.i64.wrap (W * H * D) = W * H * D := IntWalk.i64_in _ (by omega)
      have hle : W * H * D ≤ 2048 := k2
      have Hh := Lib.hid h
      have Hg := Lib.hid g
      clear h g h1 h2 h3 h4 h5 m1 m2 d1 d2
      go_enter Tryd.func42, Tryd.ntmps42
      go_wp2_with fail
      go_quiet ((first | (go_at_call 63; (with_reducible exact Calls.quiet_of_same (ssize_is _ _ Hh _))) | (go_at_call 64; (with_reducible exact Calls.quiet_of_same (sin_is _ _ _ Hg _)))))
      go_wp2_with fail
      go_ret
      exact ⟨by rw [Hs.out]; rfl, ⟨_, rfl⟩⟩

/-- what VolumeText returns -/
def vtV (W H D : Int) (xs : List Nat) : Value := if volB W H D xs.length && decide (xs.length ≤ 256) then .tuple #[.string (bs (vtext [W, H, D] xs)), .bool true] else .tuple #[.string (bs []), .bool false]
theorem rd_three (w : World) (x y z : Value) (t : TypeId) : Rd (· < w.heap.size + 1) (w.alloc (.cells #[x, y, z] t)) (some ⟨w.heap.size, 0, none⟩) [x, y, z] := by
  refine Or.inr ⟨w.heap.size, 0, rfl, by omega, fun i hi => ?_⟩
  have hi' : i < 3 := hi
  rcases i with _ | _ | _ | i
  · simp [go_sem]
  · simp [go_sem]
  · simp [go_sem]
  · omega
theorem sizes_ok {W H D : Int} {n : Nat} (h : volB W H D n = true) : ∀ x ∈ [W, H, D], i64B x := by
  simp only [volB, Bool.and_eq_true] at h
  obtain ⟨h1, h2, h3, h4, _⟩ := sizeB_iff.1 h.1.1
  obtain ⟨d1, d2⟩ := inB_iff.1 h.1.2
  intro x hx
  simp at hx
  rcases hx with rfl | rfl | rfl <;> exact ⟨by omega, by omega⟩

set_option maxRecDepth 100000 in
set_option maxHeartbeats 4000000 in
theorem svolumeText_any (W H D : Int) (a : Option Addr) (c : Nat) (xs : List Nat) (w : World) (hn : xs.length ≤ maxLen) (hx : ∀ x ∈ xs, okF x) (r : Rd (· < w.heap.size) w a (xs.map fl)) :
    Calls Tryd.prog 20 #[.agg #[.int .i64 W, .int .i64 H, .int .i64 D, .slice a xs.length c]] w fun e w' => e = .returned (vtV W H D xs) ∧ Below w.heap.size w w' := by
  obtain ⟨x0, hx0⟩ : ∃ x0, x0 = w.alloc (.cells #[.int .i64 W, .int .i64 H, .int .i64 D, .slice a xs.length c] 39) := ⟨_, rfl⟩
  have hB0 : Hid (Below w.heap.size w x0) := Lib.hid (by rw [hx0]; exact (Below.refl _ _).alloc (Nat.le_refl _) _)
  have hs0 : Hid (x0.heap.size = w.heap.size + 1) := Lib.hid (by rw [hx0]; simp)
  have c0 : x0.cell? ⟨w.heap.size, 0, none⟩ = some (.int .i64 W) := by rw [hx0]; simp [go_sem]
  have c1 : x0.cell? ⟨w.heap.size, 0 + 1, none⟩ = some (.int .i64 H) := by rw [hx0]; simp [go_sem]
  have c2 : x0.cell? ⟨w.heap.size, 0 + 2, none⟩ = some (.int .i64 D) := by rw [hx0]; simp [go_sem]
  have c3 : x0.cell? ⟨w.heap.size, 0 + 3, none⟩ = some (.slice a xs.length c) := by rw [hx0]; simp [go_sem]
  have S := Lib.hid (sis3_any W H D a xs.length c hn x0 w.heap.size 0 c0 c1 c2 c3)
  have R := Lib.hid r
  have Hx := Lib.hid hx
  rw [Nat.zero_add] at c1 c2 c3
  have Hx0 := Lib.hid hx0
  clear r hx hx0
  unfold maxLen at hn
  cases hv : volB W H D xs.length
  · have Hr := Lib.hid (show vtV W H D xs = .tuple #[.string (bs []), .bool false] by simp [vtV, hv])
    have Hv := Lib.hid hv
    clear hv
    go_enter Tryd.func20, Tryd.ntmps20
    go_wp2_with fail
    rw [← Hx0.out]
    refine S.out.mono ?_
    rintro e w1 ⟨rfl, nq, rfl⟩
    rw [Hv.out]
    go_wp2_with fail
    go_ret2
    exact ⟨by rw [Hr.out]; rfl, hB0.out.trans (Below.drewN' _ _ _)⟩
  · by_cases h256 : xs.length ≤ 256
    · have Hr := Lib.hid (show vtV W H D xs = .tuple #[.string (bs (vtext [W, H, D] xs)), .bool true] by simp [vtV, hv, h256])
      have T : Hid (∀ w1, Below x0.heap.size x0 w1 → Calls Tryd.prog 43 #[.slice (some ⟨w1.heap.size, 0, none⟩) 3 3, .slice a xs.length c] (w1.alloc (.cells #[.int .i64 W, .int .i64 H, .int .i64 D] 2)) (TextOf (vtext [W, H, D] xs) (w1.alloc (.cells #[.int .i64 W, .int .i64 H, .int .i64 D] 2)))) := Lib.hid (fun w1 hb => by
        have := hb.size
        exact s08text_any [W, H, D] xs (some ⟨w1.heap.size, 0, none⟩) a 3 c (w1.alloc (.cells #[.int .i64 W, .int .i64 H, .int .i64 D] 2)) (by simp) h256 (sizes_ok hv) Hx.out (by simpa [iv] using rd_three w1 (.int .i64 W) (.int .i64 H) (.int .i64 D) 2) ((((R.out.below hB0.out).mono (T := (· < x0.heap.size)) (fun k hk => by have := hs0.out; omega)).below hb |>.alloc _).mono (fun k hk => by simp; omega)))
      have h2 : ¬ (256 : Int) < (xs.length : Int) := by omega
      have Hv := Lib.hid hv
      clear hv
      go_enter Tryd.func20, Tryd.ntmps20
      go_wp2_with fail
      rw [← Hx0.out]
      refine S.out.mono ?_
      rintro e w1 ⟨rfl, nq, rfl⟩
      rw [Hv.out]
      have hltz : w.heap.size < x0.heap.size := by have := hs0.out; omega
      have c3d : (x0.drewN nq).cell? ⟨w.heap.size, 3, none⟩ = some (.slice a xs.length c) := c3
      have c3a : ((x0.drewN nq).alloc (.cells #[.int .i64 W, .int .i64 H, .int .i64 D] 2)).cell? ⟨w.heap.size, 3, none⟩ = some (.slice a xs.length c) := by rw [World.cell?_alloc_lt (h := hltz)]; exact c3d
      go_wp2_with fail
      refine (T.out (x0.drewN nq) (Below.drewN' _ _ _)).mono ?_
      rintro e w2 ⟨rfl, hb2⟩
      have Hb2 := Lib.hid hb2
      clear hb2
      go_wp2_with fail
      go_ret2
      refine ⟨by rw [Hr.out]; rfl, hB0.out.trans (((Below.drewN' _ _ nq).alloc ?_ _).trans (Hb2.out.mono ?_))⟩
      · have := hs0.out; simp; omega
      · have := hs0.out; simp; omega
    · have Hr := Lib.hid (show vtV W H D xs = .tuple #[.string (bs []), .bool false] by simp [vtV, h256])
      have h2 : (256 : Int) < (xs.length : Int) := by omega
      have Hv := Lib.hid hv
      clear hv
      go_enter Tryd.func20, Tryd.ntmps20
      go_wp2_with fail
      rw [← Hx0.out]
      refine S.out.mono ?_
      rintro e w1 ⟨rfl, nq, rfl⟩
      rw [Hv.out]
      go_wp2_with fail
      go_ret2
      exact ⟨by rw [Hr.out]; rfl, hB0.out.trans (Below.drewN' _ _ _)⟩
end Go.Proofs.YtljkgemkolmihaaDoor
