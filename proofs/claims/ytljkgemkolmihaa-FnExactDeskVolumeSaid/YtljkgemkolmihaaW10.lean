/- For the law on DeskVolume: marks of a desk; what stands. -/
import Derived.Test.YtljkgemkolmihaaW9
import Derived.Test.YtljkgemkolmihaaM5
namespace Go.Proofs.Ytljkgemkolmihaa
open Go.RowKit

set_option maxRecDepth 100000 in
set_option maxHeartbeats 2000000 in
theorem markD (S1 S2 S3 : Nat → Prop) (l r m : PV) (k : Int) (w : World) (h1 : l.xs.length ≤ 1048576) (h2 : r.xs.length ≤ 1048576) (h3 : m.xs.length ≤ 1048576) (hk0 : 0 ≤ k) (hk1 : k ≤ 1099511627776)
    (g1 : Wr S1 w l.a (l.xs.map fl)) (g2 : Wr S2 w r.a (r.xs.map fl)) (g3 : Wr S3 w m.a (m.xs.map fl)) (d12 : ∀ k, S2 k → ¬ S1 k) (d13 : ∀ k, S3 k → ¬ S1 k) (d23 : ∀ k, S3 k → ¬ S2 k) (z1 : ∀ k, S1 k → k < w.heap.size) (z2 : ∀ k, S2 k → k < w.heap.size) :
    Calls Try.prog 25 #[deskV l r m, .int .i64 k] w fun e w' => e = .returned (.int .i64 (k + l.xs.length + r.xs.length + m.xs.length)) ∧ Only (fun b => S1 b ∨ S2 b ∨ S3 b) w w' := by
  obtain ⟨W1, H1, a1, c1, x1⟩ := l
  obtain ⟨W2, H2, a2, c2, x2⟩ := r
  obtain ⟨W3, H3, a3, c3, x3⟩ := m
  simp only at h1 h2 h3 g1 g2 g3
  obtain ⟨x0, hx0⟩ : ∃ x0, x0 = w.alloc (.cells #[.int .i64 W1, .int .i64 H1, .slice a1 x1.length c1, .int .i64 W2, .int .i64 H2, .slice a2 x2.length c2, .int .i64 W3, .int .i64 H3, .slice a3 x3.length c3] 57) := ⟨_, rfl⟩
  have D0 : Hid (DeskAt x0 w.heap.size ⟨W1, H1, a1, c1, x1⟩ ⟨W2, H2, a2, c2, x2⟩ ⟨W3, H3, a3, c3, x3⟩) := Lib.hid (by rw [hx0]; simp [DeskAt, go_sem])
  have O0 : Hid (Only (fun b => S1 b ∨ S2 b ∨ S3 b) w x0) := Lib.hid (by rw [hx0]; exact (Only.refl _ _).alloc _)
  have s0 : x0.heap.size = w.heap.size + 1 := by rw [hx0]; simp
  have G1 : Hid (Wr S1 x0 a1 (x1.map fl)) := Lib.hid (by rw [hx0]; exact g1.alloc _)
  have G2 : Hid (Wr S2 x0 a2 (x2.map fl)) := Lib.hid (by rw [hx0]; exact g2.alloc _)
  have G3 : Hid (Wr S3 x0 a3 (x3.map fl)) := Lib.hid (by rw [hx0]; exact g3.alloc _)
  have S0 := Lib.hid s0
  have Z1 := Lib.hid z1
  have Z2 := Lib.hid z2
  have D12 := Lib.hid d12
  have D13 := Lib.hid d13
  have D23 := Lib.hid d23
  simp only [deskV]
  clear g1 g2 g3 d12 d13 d23 z1 z2 s0
  go_enter Try.func25, Try.ntmps25
  go_wp2_with fail
  rw [← hx0]
  have Hx0 := Lib.hid hx0
  clear hx0
  refine (markP W1 H1 S1 a1 c1 x1 k x0 h1 hk0 (by omega) G1.out).mono ?_
  rintro e w1 ⟨rfl, _, ho1⟩
  have D1 := Lib.hid (D0.out.only ho1 (fun h => by have := Z1.out _ h; omega) (by rw [S0.out]; omega))
  have G2' := Lib.hid (G2.out.keep ho1 D12.out)
  have G3' := Lib.hid (G3.out.keep ho1 D13.out)
  have O1 := Lib.hid (O0.out.trans (ho1.mono (fun _ _ h => Or.inl h)))
  have hz1 := ho1.size
  rw [S0.out] at hz1
  clear ho1
  obtain ⟨_, _, _, d3, d4, d5, _, _, _⟩ := D1.out
  go_wp2_with fail
  refine (markP W2 H2 S2 a2 c2 x2 (k + x1.length) w1 h2 (by omega) (by omega) G2'.out).mono ?_
  rintro e w2 ⟨rfl, _, ho2⟩
  have D2 := Lib.hid (D1.out.only ho2 (fun h => by have := Z2.out _ h; omega) (by omega))
  have G3'' := Lib.hid (G3'.out.keep ho2 D23.out)
  have O2 := Lib.hid (O1.out.trans (ho2.mono (fun _ _ h => Or.inr (Or.inl h))))
  clear ho2 d3 d4 d5
  obtain ⟨_, _, _, _, _, _, d6, d7, d8⟩ := D2.out
  go_wp2_with fail
  refine (markM W3 H3 S3 a3 c3 x3 (k + x1.length + x2.length) w2 h3 (by omega) (by omega) G3''.out).mono ?_
  rintro e w3 ⟨rfl, _, ho3⟩
  have O3 := Lib.hid (O2.out.trans (ho3.mono (fun _ _ h => Or.inr (Or.inr h))))
  clear ho3
  go_wp2_with fail
  go_ret
  exact ⟨rfl, O3.out⟩

/-- a volume's numbers as they are told: none where there is no volume -/
def volW (ok : Bool) (n : Int) : Int := if ok then n else 0
def volL (ok : Bool) (l : PV) (D : Int) (F : Nat → Nat) : List Nat := if ok then lin (l.H.toNat * l.W.toNat * D.toNat) F else []
/-- a volume of its own -/
def OwnV (ok : Bool) (W H D : Int) (Y : List Nat) (w : World) (e : Ending) (w' : World) : Prop :=
  ∃ a c xs, e = .returned (.tuple #[.agg #[.int .i64 W, .int .i64 H, .int .i64 D, .slice a xs.length c], .bool ok]) ∧ FLs xs Y ∧ Wr (fun b => w.heap.size ≤ b ∧ b < w'.heap.size) w' a (xs.map fl) ∧ Below w.heap.size w w'
theorem VolRes.own {ok : Bool} {l : PV} {D : Int} {F : Nat → Nat} {w : World} {e : Ending} {w' : World} (h : VolRes ok l.W l.H D F w e w') : OwnV ok (volW ok l.W) (volW ok l.H) (volW ok D) (volL ok l D F) w e w' := by
  rcases h with ⟨rfl, rfl, hb⟩ | ⟨rfl, a, c, xs, rfl, hfl, hw, hb⟩
  · exact ⟨none, 0, [], rfl, FLs.refl _, Wr.nil, hb⟩
  · exact ⟨a, c, xs, rfl, hfl, hw, hb⟩
theorem volL_len (l r m : PV) (D : Int) (F : Nat → Nat) : (volL (deskB l r m && inB D 1 8) l D F).length ≤ 4608 := by
  unfold volL
  split
  · rename_i h
    rw [Bool.and_eq_true] at h
    have hp : pvB l r = true := by simp [deskB] at h; exact h.1.1
    obtain ⟨p1, _, _, _⟩ := pairB_iff.1 hp
    obtain ⟨Wn, Hn, e1, e2, _, q2, _, q4, _⟩ := nat_of p1
    have hD := inB_iff.1 h.2
    rw [lin_length, e1, e2]
    have h1 : Hn * Wn ≤ 24 * 24 := Nat.mul_le_mul q4 q2
    have h2 : Hn * Wn * D.toNat ≤ 24 * 24 * 8 := Nat.mul_le_mul h1 (by omega)
    simpa using h2
  · simp

/-- the desk that came in, its box, all that lies below -/
structure LawD (w : World) (l r m : PV) (x : World) : Prop where
  rows : Rd3 (· < w.heap.size) x l r m
  box : DeskAt x w.heap.size l r m
  below : Below w.heap.size w x
  size : w.heap.size + 1 ≤ x.heap.size
theorem LawD.only {w : World} {l r m : PV} {x y : World} {T : Nat → Prop} (h : LawD w l r m x) (ho : Only T x y) (hT : ∀ k, T k → w.heap.size + 1 ≤ k) : LawD w l r m y := by
  have hz := h.size
  refine ⟨h.rows.keep ho (fun k hk hn => by have := hT k hn; omega), h.box.only ho (fun hn => by have := hT _ hn; omega) (by omega), h.below.trans ?_, Nat.le_trans hz ho.size⟩
  exact ⟨ho.os, ho.tape, ho.output, ho.size, fun k hk => ho.block k (by omega) (fun hn => by have := hT k hn; omega)⟩
theorem LawD.next {w : World} {l r m : PV} {x y : World} (h : LawD w l r m x) (hb : Below x.heap.size x y) : LawD w l r m y :=
  h.only (Only.below hb) (fun k hk => by have := h.size; omega)
theorem LawD.now {w : World} {l r m : PV} {x : World} (h : LawD w l r m x) : Rd3 (· < x.heap.size) x l r m := h.rows.mono (fun k hk => by have := h.size; omega)
/-- a volume in its box q, its numbers between lo and q -/
structure VBox (lo q : Nat) (W H D : Int) (a : Option Addr) (c : Nat) (xs : List Nat) (x : World) : Prop where
  blk : x.heap[q]? = some (.cells #[.int .i64 W, .int .i64 H, .int .i64 D, .slice a xs.length c] 52 (0, 0))
  row : Wr (fun b => lo ≤ b ∧ b < q) x a (xs.map fl)
  lt : q < x.heap.size
theorem VBox.only {lo q : Nat} {W H D : Int} {a : Option Addr} {c : Nat} {xs : List Nat} {x y : World} {T : Nat → Prop} (h : VBox lo q W H D a c xs x) (ho : Only T x y) (hT : ∀ k, T k → k < lo ∨ q < k) (hl : lo ≤ q) : VBox lo q W H D a c xs y :=
  ⟨by rw [ho.block q h.lt (fun hn => by have := hT q hn; omega)]; exact h.blk, h.row.keep ho (fun k hk hn => by have := hT k hn; omega), Nat.lt_of_lt_of_le h.lt ho.size⟩
theorem VBox.next {lo q : Nat} {W H D : Int} {a : Option Addr} {c : Nat} {xs : List Nat} {x y : World} (h : VBox lo q W H D a c xs x) (hb : Below x.heap.size x y) : VBox lo q W H D a c xs y :=
  ⟨by rw [hb.block q h.lt]; exact h.blk, h.row.keep (Only.below hb) (fun k hk hn => by have := h.lt; omega), Nat.lt_of_lt_of_le h.lt hb.size⟩
theorem VBox.cells {lo q : Nat} {W H D : Int} {a : Option Addr} {c : Nat} {xs : List Nat} {x : World} (h : VBox lo q W H D a c xs x) :
    x.cell? ⟨q, 0, none⟩ = some (.int .i64 W) ∧ x.cell? ⟨q, 1, none⟩ = some (.int .i64 H) ∧ x.cell? ⟨q, 2, none⟩ = some (.int .i64 D) ∧ x.cell? ⟨q, 3, none⟩ = some (.slice a xs.length c) :=
  ⟨by rw [cell_blk h.blk]; rfl, by rw [cell_blk h.blk]; rfl, by rw [cell_blk h.blk]; rfl, by rw [cell_blk h.blk]; rfl⟩
theorem VBox.mk' {lo : Nat} {W H D : Int} {a : Option Addr} {c : Nat} {xs : List Nat} {x : World} (hr : Wr (fun b => lo ≤ b ∧ b < x.heap.size) x a (xs.map fl)) : VBox lo x.heap.size W H D a c xs (x.alloc (.cells #[.int .i64 W, .int .i64 H, .int .i64 D, .slice a xs.length c] 52)) :=
  ⟨heap_alloc_new _ _, hr.alloc _, by simp⟩
end Go.Proofs.Ytljkgemkolmihaa
