/- Numbers, bits, sizes and volumes: the laws' helpers at this dump. -/
import Derived.Test.YtljkgemkolmihaaDoorD5
import Derived.Test.YtljkgemkolmihaaDoorF1
import Derived.Test.YtljkgemkolmihaaDoorFloat
import Derived.Deep.RegionWith
import Derived.WalkLawsBesides
import Derived.WalkSpells
import Derived.OwnWalk
import Derived.Lib.Hide
import Derived.Deep.QuietTactic
import Derived.BigQuiet
import Derived.Outline
namespace Go.Proofs.YtljkgemkolmihaaDoor
open Go.RowKit


/-- the world is w but for draws -/
def Drew (w w' : World) : Prop := ∃ n, w' = w.drewN n
theorem Drew.refl (w : World) : Drew w w := ⟨0, rfl⟩
theorem Drew.trans {a b c : World} (h : Drew a b) (g : Drew b c) : Drew a c := by
  obtain ⟨n, rfl⟩ := h; obtain ⟨m, rfl⟩ := g; exact ⟨n + m, by rw [World.drewN_drewN]⟩
theorem Drew.below {B : Nat} {a b : World} (h : Drew a b) : Below B a b := by
  obtain ⟨n, rfl⟩ := h; exact ⟨rfl, rfl, rfl, Nat.le_refl _, fun _ _ => rfl⟩
theorem Drew.heap {a b : World} (h : Drew a b) : b.heap = a.heap := by obtain ⟨n, rfl⟩ := h; rfl
theorem Drew.cell {a b : World} (h : Drew a b) (p : Addr) : b.cell? p = a.cell? p := by obtain ⟨n, rfl⟩ := h; rfl

theorem sameFloat_yes (x y : Nat) (h : FEq .f64 x y) (w : World) :
    Calls Tryd.prog 70 #[.float .f64 x, .float .f64 y] w fun e w' => e = .returned (.bool true) ∧ Drew w w' := by
  have hn := h.nan
  have h1 := order_self_ne .f64 x
  have h2 := order_self_ne .f64 y
  cases hx : isN .f64 x with
  | true =>
    rw [hx] at h1 hn
    rw [← hn] at h2
    clear hx h hn
    go_enter Tryd.func70, Tryd.ntmps70
    go_wp2
    go_ret
    exact ⟨rfl, Drew.refl _⟩
  | false =>
    have e : x = y := by
      rcases h with h | ⟨a, b⟩
      · exact h
      · rw [hx] at a; cases a
    subst e
    rw [hx] at h1
    have h3 : (FloatKind.f64.format.order x x == some .eq) = true := by rw [order_self_eq, hx]; rfl
    have hq : ∀ W : World, FEq .f64 (flR .quo .f64 4607182418800017408 x w) (flR .quo .f64 4607182418800017408 x W) := fun W => FEq.flR (FEq.refl _ _) (FEq.refl _ _) _ _
    clear h2 hn h hx
    cases hz : (FloatKind.f64.format.order x 0 == some .eq) with
    | true =>
      go_enter Tryd.func70, Tryd.ntmps70
      go_wp2
      go_ret
      refine ⟨ret_bool ?_, ⟨_, rfl⟩⟩
      simp only [beq_iff_eq]
      rw [FEq.order (hq _) (FEq.refl _ _)]
    | false =>
      go_enter Tryd.func70, Tryd.ntmps70
      go_wp2
      go_ret
      exact ⟨rfl, Drew.refl _⟩
set_option maxHeartbeats 800000 in
theorem eqF (S T : Nat → Prop) (a b : Option Addr) (c d : Nat) (xs ys : List Nat) (w : World) (hn : xs.length ≤ 1048576) (hl : xs.length = ys.length) (hxy : ∀ i (h1 : i < xs.length) (h2 : i < ys.length), FEq .f32 xs[i] ys[i])
    (ha : Rd S w a (xs.map fl)) (hb : Rd T w b (ys.map fl)) :
    Calls Tryd.prog 47 #[.slice a xs.length c, .slice b ys.length d] w fun e w' => e = .returned (.bool true) ∧ Drew w w' := by
  rw [← hl]
  have Hl := Lib.hid hl
  clear hl
  go_enter Tryd.func47, Tryd.ntmps47
  go_wp2
  go_loopw [5] (fun i wr => ∃ j : Nat, j ≤ xs.length ∧ i = .int .i64 j ∧ Drew w wr) (fun i _ => xs.length - (intOf i).toNat)
  case atStart => exact ⟨0, Nat.zero_le _, rfl, Drew.refl _⟩
  case round =>
    obtain ⟨j, hj, rfl, hw⟩ := hrel
    by_cases hlt : j < xs.length
    · rcases ha with ha | ⟨b1, o1, rfl, hS1, ha⟩
      · simp at ha; subst ha; simp at hlt
      rcases hb with hb | ⟨b2, o2, rfl, hS2, hb⟩
      · simp at hb; subst hb; rw [Hl.out] at hlt; simp at hlt
      have hlt2 : j < ys.length := Hl.out ▸ hlt
      have h1 : wr.cell? ⟨b1, o1 + j, none⟩ = some (.float .f32 xs[j]) := by rw [hw.cell, ha j (by simpa using hlt)]; simp
      have h2 : wr.cell? ⟨b2, o2 + j, none⟩ = some (.float .f32 ys[j]) := by rw [hw.cell, hb j (by simpa using hlt2)]; simp
      have hf : FEq .f32 xs[j] ys[j] := hxy j hlt hlt2
      generalize xs[j] = x at *
      generalize ys[j] = y at *
      clear ha hb hxy
      go_wp2
      go_region_with (go_at_call 70; refine (sameFloat_yes _ _ (FEq.wi hf _ _) _).mono ?_; rintro e w1 ⟨rfl, hw1⟩)
      all_goals go_wp2
      all_goals
        go_roundw
        case rel => exact ⟨j + 1, by omega, by go_num, hw.trans (Drew.trans ⟨_, by first | rfl | simp⟩ hw1)⟩
        case measure => simp [intOf]; omega
    · clear ha hb hxy
      go_wp2
      go_ret
      exact ⟨rfl, hw⟩

theorem szV (W H D : Int) (a : Option Addr) (n c : Nat) (l : Int) (w : World) (hn : n ≤ maxLen) (hl : l ≤ 1048576) (hl0 : 0 ≤ l) :
    Calls Tryd.prog 19 #[.agg #[.int .i64 W, .int .i64 H, .int .i64 D, .slice a n c], .int .i64 l] w fun e w' => e = .returned (.int .i64 (if l - n < 0 then -1 else l - n)) ∧ Below w.heap.size w w' := by
  by_cases h : l - (n : Int) < 0
  all_goals
    go_enter Tryd.func19, Tryd.ntmps19
    go_wp2_with (go_at_call 41; refine (szF _ _ _ _ _ hn hl hl0).mono ?_; rintro e w' ⟨rfl, rfl⟩)
    go_ret
    exact ⟨rfl, (Below.refl _ _).alloc (Nat.le_refl _) _⟩

set_option maxHeartbeats 400000 in
theorem toV (W H D : Int) (S : Nat → Prop) (a : Option Addr) (c : Nat) (xs : List Nat) (w : World) (hn : xs.length ≤ 1048576) (h : Rd S w a (xs.map fl)) (hS : ∀ k, S k → k < w.heap.size) :
    Calls Tryd.prog 21 #[.agg #[.int .i64 W, .int .i64 H, .int .i64 D, .slice a xs.length c]] w fun e w' => ∃ g, w.heap.size ≤ g ∧ e = .returned (.agg #[.int .i64 W, .int .i64 H, .int .i64 D, .slice (some ⟨g, 0, none⟩) xs.length xs.length]) ∧
      Wr (· = g) w' (some ⟨g, 0, none⟩) (xs.map fl) ∧ Below w.heap.size w w' := by
  go_enter Tryd.func21, Tryd.ntmps21
  go_wp2_with fail
  refine (toF S a c xs _ hn (((h.alloc _).alloc _).alloc _) (fun k hk => by have := hS k hk; simp; omega)).mono ?_
  rintro e w1 ⟨rfl, hw1, hb1⟩
  obtain ⟨hc, hf⟩ := bcell hb1
  have hz : w.heap.size + 2 < w1.heap.size := by have := hb1.size; simp at this; omega
  go_wp2
  simp only [World.size_alloc] at hw1 hb1
  refine bodyPost_ret (v := .agg #[.int .i64 W, .int .i64 H, .int .i64 D, .slice (some ⟨w.heap.size + 1 + 1 + 1, 0, none⟩) xs.length xs.length]) (by simp [results, Tryd.results21, go_sem, hc]) rfl ⟨w.heap.size + 1 + 1 + 1, by omega, rfl, ?_, ?_⟩
  · exact ((((hw1.setCell (by simp) _).setCell (by simp) _).setCell (by simp) _).setCell (by simp) _).setCell (by simp) _
  · refine (((((((((Below.refl _ _).alloc (Nat.le_refl _) _).alloc (by simp) _).alloc (by simp; omega) _).trans (hb1.mono (by omega))).setCell ?_ _).setCell ?_ _).setCell ?_ _).setCell ?_ _).setCell ?_ _ <;> simp <;> omega
set_option maxHeartbeats 400000 in
theorem eqV (W H D : Int) (S T : Nat → Prop) (a b : Option Addr) (c d : Nat) (xs ys : List Nat) (w : World) (hn : xs.length ≤ 1048576) (hl : xs.length = ys.length) (hxy : ∀ i (h1 : i < xs.length) (h2 : i < ys.length), FEq .f32 xs[i] ys[i])
    (ha : Rd S w a (xs.map fl)) (hb : Rd T w b (ys.map fl)) :
    Calls Tryd.prog 23 #[.agg #[.int .i64 W, .int .i64 H, .int .i64 D, .slice a xs.length c], .agg #[.int .i64 W, .int .i64 H, .int .i64 D, .slice b ys.length d]] w fun e w' => e = .returned (.bool true) ∧ Below w.heap.size w w' := by
  have Hl := Lib.hid hl
  clear hl
  have hww : (W != W) = false := by simp
  have hhh : (H != H) = false := by simp
  have hdd : (D != D) = false := by simp
  go_enter Tryd.func23, Tryd.ntmps23
  go_wp2_with (go_at_call 47; refine (eqF S T _ _ _ _ _ _ _ hn Hl.out hxy ((ha.alloc _).alloc _) ((hb.alloc _).alloc _)).mono ?_; rintro e w1 ⟨rfl, hw1⟩)
  go_ret
  exact ⟨rfl, (((Below.refl _ _).alloc (Nat.le_refl _) _).alloc (by simp) _).trans hw1.below⟩


/-- the bits of a number, of a not-a-number always the same -/
def bitsOf (x : Nat) : Int := if isN .f32 x then 2143289344 else (x : Int)
theorem FEq.bits {x y : Nat} (h : FEq .f32 x y) : bitsOf x = bitsOf y := by
  rcases h with rfl | ⟨a, b⟩
  · rfl
  · simp [bitsOf, a, b]
/-- it has 32 bits, or is no number -/
def okF (x : Nat) : Prop := isN .f32 x = false → x < 4294967296
theorem FEq.okF {x y : Nat} (h : FEq .f32 x y) (hy : okF y) : okF x := by
  rcases h with rfl | ⟨a, b⟩
  · exact hy
  · intro h; rw [a] at h; cases h
theorem bitsOf_bound {x : Nat} (h : okF x) : 0 ≤ bitsOf x ∧ bitsOf x < 4294967296 := by
  unfold bitsOf
  split
  · decide
  · rename_i hn; have := h (by simpa using hn); omega

theorem run_bits {w : World} (x : Nat) : (callFunc 101 #[.float .f32 x]).run Tryd.prog w = .ok (.value (.int .u32 x)) w := by
  rw [run_callFunc_extern Tryd.func101 (by kernel_rfl) (by kernel_rfl) (by kernel_rfl) (e := Extern.MathFloatBits.float32bits) (by kernel_rfl)]
  rfl

theorem isNaN_any (x : Nat) (w : World) : Calls Tryd.prog 100 #[.float .f32 x] w fun e w' => e = .returned (.bool (isN .f32 x)) ∧ w' = w := by
  have hq := order_self_ne .f32 x
  go_enter Tryd.func100, Tryd.ntmps100
  go_wp2_with fail
  go_ret
  exact ⟨rfl, rfl⟩
theorem bitsOf_any (x : Nat) (hx : okF x) (w : World) : Calls Tryd.prog 85 #[.float .f32 x] w fun e w' => e = .returned (.int .i64 (bitsOf x)) ∧ w' = w := by
  have hr := fun w : World => run_bits (w := w) x
  cases hn : isN .f32 x
  · have hx' := hx hn
    have hb : bitsOf x = (x : Int) := by simp [bitsOf, hn]
    rw [hb]
    clear hb
    go_enter Tryd.func85, Tryd.ntmps85
    go_wp2_with (go_at_call 100; refine (isNaN_any _ _).mono ?_; rintro e w' ⟨rfl, rfl⟩; rw [hn])
    go_ret
    exact ⟨rfl, rfl⟩
  · have hb : bitsOf x = 2143289344 := by simp [bitsOf, hn]
    rw [hb]
    clear hb
    go_enter Tryd.func85, Tryd.ntmps85
    go_wp2_with (go_at_call 100; refine (isNaN_any _ _).mono ?_; rintro e w' ⟨rfl, rfl⟩; rw [hn])
    go_ret
    exact ⟨rfl, rfl⟩
theorem sbits_any (x : Nat) (hx : okF x) (w : World) : Calls Tryd.prog 86 #[.float .f32 x] w fun e w' => e = .returned (.int .i64 (bitsOf x)) ∧ w' = w := by
  have hr := fun w : World => run_bits (w := w) x
  have hq := order_self_ne .f32 x
  cases hn : isN .f32 x
  · have hx' := hx hn
    have hb : bitsOf x = (x : Int) := by simp [bitsOf, hn]
    rw [hb]
    rw [hn] at hq
    clear hb hn
    go_enter Tryd.func86, Tryd.ntmps86
    go_wp2_with fail
    go_ret
    exact ⟨rfl, rfl⟩
  · have hb : bitsOf x = 2143289344 := by simp [bitsOf, hn]
    rw [hb]
    rw [hn] at hq
    clear hb hn
    go_enter Tryd.func86, Tryd.ntmps86
    go_wp2_with fail
    go_ret
    exact ⟨rfl, rfl⟩



def inB (n lo hi : Int) : Bool := decide (lo ≤ n ∧ n ≤ hi)
theorem inB_iff {n lo hi : Int} : inB n lo hi = true ↔ lo ≤ n ∧ n ≤ hi := by simp [inB]
theorem inB_no {n lo hi : Int} : inB n lo hi = false ↔ ¬ (lo ≤ n ∧ n ≤ hi) := by simp [inB]

theorem in_any (n lo hi : Int) (w : World) :
    Calls Tryd.prog 58 #[.int .i64 n, .int .i64 lo, .int .i64 hi] w fun e w' => e = .returned (.bool (inB n lo hi)) ∧ w = w' := by
  by_cases h1 : lo ≤ n
  · by_cases h2 : n ≤ hi
    all_goals
      have e : inB n lo hi = decide (n ≤ hi) := by simp [inB, h1]
      have H := Lib.hid e
      clear e
      go_enter Tryd.func58, Tryd.ntmps58
      go_wp2
      go_ret
      exact ⟨by rw [H.out]; simp [h2], rfl⟩
  · have e : inB n lo hi = false := by simp [inB, h1]
    have H := Lib.hid e
    clear e
    go_enter Tryd.func58, Tryd.ntmps58
    go_wp2
    go_ret
    exact ⟨by rw [H.out]; simp, rfl⟩
theorem sin_any (n lo hi : Int) (w : World) :
    Calls Tryd.prog 64 #[.int .i64 n, .int .i64 lo, .int .i64 hi] w fun e w' => e = .returned (.bool (inB n lo hi)) ∧ w = w' := by
  by_cases h1 : lo ≤ n
  · by_cases h2 : n ≤ hi
    all_goals
      have e : inB n lo hi = decide (n ≤ hi) := by simp [inB, h1]
      have H := Lib.hid e
      clear e
      go_enter Tryd.func64, Tryd.ntmps64
      go_wp2
      go_ret
      exact ⟨by rw [H.out]; simp [h2], rfl⟩
  · have e : inB n lo hi = false := by simp [inB, h1]
    have H := Lib.hid e
    clear e
    go_enter Tryd.func64, Tryd.ntmps64
    go_wp2
    go_ret
    exact ⟨by rw [H.out]; simp, rfl⟩

/-- a right size -/
def sizeB (W H : Int) : Bool := decide (1 ≤ W ∧ W ≤ 24 ∧ 1 ≤ H ∧ H ≤ 24 ∧ W * H ≤ 256)
theorem sizeB_iff {W H : Int} : sizeB W H = true ↔ 1 ≤ W ∧ W ≤ 24 ∧ 1 ≤ H ∧ H ≤ 24 ∧ W * H ≤ 256 := by simp [sizeB]
theorem mul_bound {W H : Int} (a : 1 ≤ W) (b : W ≤ 24) (c : 1 ≤ H) (d : H ≤ 24) : 1 ≤ W * H ∧ W * H ≤ 576 := by
  constructor
  · have := Int.mul_le_mul a c (by omega) (by omega); omega
  · have := Int.mul_le_mul b d (by omega) (by omega); omega

theorem sizeOk_any (W H : Int) (w : World) :
    Calls Tryd.prog 67 #[.int .i64 W, .int .i64 H] w fun e w' => e = .returned (.bool (sizeB W H)) ∧ w = w' := by
  by_cases h1 : 1 ≤ W ∧ W ≤ 24
  · have e1 : inB W 1 24 = true := inB_iff.2 h1
    by_cases h2 : 1 ≤ H ∧ H ≤ 24
    · have e2 : inB H 1 24 = true := inB_iff.2 h2
      obtain ⟨m1, m2⟩ := mul_bound h1.1 h1.2 h2.1 h2.2
      have e : sizeB W H = decide (W * H ≤ 256) := by simp [sizeB, h1, h2]
      have Hs := Lib.hid e
      clear e h1 h2
      go_enter Tryd.func67, Tryd.ntmps67
      go_wp2_with (go_at_call 58; refine (in_any _ _ _ _).mono ?_; rintro e w' ⟨rfl, rfl⟩)
      go_ret
      exact ⟨by rw [Hs.out]; rfl, rfl⟩
    · have e2 : inB H 1 24 = false := inB_no.2 h2
      have e : sizeB W H = false := by simp only [sizeB, decide_eq_false_iff_not]; omega
      have Hs := Lib.hid e
      clear e h1 h2
      go_enter Tryd.func67, Tryd.ntmps67
      go_wp2_with (go_at_call 58; refine (in_any _ _ _ _).mono ?_; rintro e w' ⟨rfl, rfl⟩)
      go_ret
      exact ⟨by rw [Hs.out]; rfl, rfl⟩
  · have e1 : inB W 1 24 = false := inB_no.2 h1
    have e : sizeB W H = false := by simp only [sizeB, decide_eq_false_iff_not]; omega
    have Hs := Lib.hid e
    clear e h1
    go_enter Tryd.func67, Tryd.ntmps67
    go_wp2_with (go_at_call 58; refine (in_any _ _ _ _).mono ?_; rintro e w' ⟨rfl, rfl⟩)
    go_ret
    exact ⟨by rw [Hs.out]; rfl, rfl⟩
theorem ssize_any (W H : Int) (w : World) :
    Calls Tryd.prog 63 #[.int .i64 W, .int .i64 H] w fun e w' => e = .returned (.bool (sizeB W H)) ∧ w = w' := by
  by_cases h1 : 1 ≤ W ∧ W ≤ 24
  · have e1 : inB W 1 24 = true := inB_iff.2 h1
    by_cases h2 : 1 ≤ H ∧ H ≤ 24
    · have e2 : inB H 1 24 = true := inB_iff.2 h2
      obtain ⟨m1, m2⟩ := mul_bound h1.1 h1.2 h2.1 h2.2
      have e : sizeB W H = decide (W * H ≤ 256) := by simp [sizeB, h1, h2]
      have Hs := Lib.hid e
      clear e h1 h2
      go_enter Tryd.func63, Tryd.ntmps63
      go_wp2_with (go_at_call 64; refine (sin_any _ _ _ _).mono ?_; rintro e w' ⟨rfl, rfl⟩)
      go_ret
      exact ⟨by rw [Hs.out]; rfl, rfl⟩
    · have e2 : inB H 1 24 = false := inB_no.2 h2
      have e : sizeB W H = false := by simp only [sizeB, decide_eq_false_iff_not]; omega
      have Hs := Lib.hid e
      clear e h1 h2
      go_enter Tryd.func63, Tryd.ntmps63
      go_wp2_with (go_at_call 64; refine (sin_any _ _ _ _).mono ?_; rintro e w' ⟨rfl, rfl⟩)
      go_ret
      exact ⟨by rw [Hs.out]; rfl, rfl⟩
  · have e1 : inB W 1 24 = false := inB_no.2 h1
    have e : sizeB W H = false := by simp only [sizeB, decide_eq_false_iff_not]; omega
    have Hs := Lib.hid e
    clear e h1
    go_enter Tryd.func63, Tryd.ntmps63
    go_wp2_with (go_at_call 64; refine (sin_any _ _ _ _).mono ?_; rintro e w' ⟨rfl, rfl⟩)
    go_ret
    exact ⟨by rw [Hs.out]; rfl, rfl⟩

theorem ssize_is {b : Bool} (W H : Int) (h : Hid (sizeB W H = b)) (w : World) :
    Calls Tryd.prog 63 #[.int .i64 W, .int .i64 H] w fun e w' => e = .returned (.bool b) ∧ w' = w := by
  rw [← h.out]; exact (ssize_any W H w).mono fun _ _ ⟨a, b⟩ => ⟨a, b.symm⟩

end Go.Proofs.YtljkgemkolmihaaDoor
