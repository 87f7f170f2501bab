/- The laws' helpers on albums. -/
import Derived.Test.YtljkgemkolmihaaS3
namespace Go.Proofs.Ytljkgemkolmihaa
open Go.RowKit

def SzPost (ps : List PV) (l : Int) (B : Nat) (w : World) (e : Ending) (w' : World) : Prop :=
  ∃ r : Int, e = .returned (.int .i64 r) ∧ -1 ≤ r ∧ r ≤ l ∧ (0 ≤ r → ps.length ≤ l ∧ ∀ p ∈ ps, (p.xs.length : Int) ≤ l) ∧ Below B w w'

theorem szA (a : Option Addr) (c : Nat) (ps : List PV) (l : Int) (w : World) (hn : ps.length ≤ maxLen) (hm : ∀ p ∈ ps, p.xs.length ≤ maxLen) (hl : l ≤ 1048576) (hl0 : 0 ≤ l) (h : Pics (· < w.heap.size) w a ps) :
    Calls Try.prog 6 #[.agg #[.slice a ps.length c], .int .i64 l] w (SzPost ps l w.heap.size w) := by
  have Hm := Lib.hid hm
  clear hm
  have h1 : Pics (· < w.heap.size) (w.alloc (.cells #[.slice a ps.length c] 24)) a ps := h.keep ((Only.refl (fun _ => False) w).alloc _) (fun _ _ h => h)
  clear h
  go_enter Try.func6, Try.ntmps6
  go_wp2_with fail
  refine (szPS w.heap.size a c ps l _ hn Hm.out hl hl0 h1 (by simp)).mono ?_
  rintro e w1 ⟨r, rfl, r1, r2, r3, hb⟩
  have R3 := Lib.hid r3
  clear r3 h1
  by_cases hr : r < 0
  · go_wp2
    go_ret
    exact ⟨-1, rfl, by omega, by omega, fun h => by omega, ((Below.refl _ _).alloc (Nat.le_refl _) _).trans hb⟩
  · go_wp2
    go_ret
    exact ⟨r, rfl, by omega, by omega, R3.out, ((Below.refl _ _).alloc (Nat.le_refl _) _).trans hb⟩

/-- a fresh album of copies -/
def ToA (ps : List PV) (w : World) (e : Ending) (w' : World) : Prop :=
  ∃ g ds, e = .returned (.agg #[.slice (some ⟨g, 0, none⟩) ps.length ps.length]) ∧ Copies ps ds ps.length ∧ Own w.heap.size w'.heap.size g w' (some ⟨g, 0, none⟩) ds ∧ (∀ d ∈ ds, d.a ≠ none) ∧ Below w.heap.size w w'

theorem toA (a : Option Addr) (c : Nat) (ps : List PV) (w : World) (hn : ps.length ≤ 1048576) (hm : ∀ p ∈ ps, p.xs.length ≤ 1048576) (h : Pics (· < w.heap.size) w a ps) :
    Calls Try.prog 9 #[.agg #[.slice a ps.length c]] w (ToA ps w) := by
  have Hm := Lib.hid hm
  clear hm
  have h1 : Pics (· < w.heap.size) (((w.alloc (.cells #[.slice a ps.length c] 24)).alloc (.cells #[.slice none 0 0] 32)).alloc (.cells #[.slice none 0 0] 32)) a ps := h.keep ((((Only.refl (fun _ => False) w).alloc _).alloc _).alloc _) (fun _ _ h => h)
  clear h
  go_enter Try.func9, Try.ntmps9
  go_wp2_with fail
  refine (toPS w.heap.size a c ps _ hn Hm.out h1 (by simp; omega)).mono ?_
  rintro e w1 ⟨ds, ⟨hcp, hsm⟩, rfl, hown, hb⟩
  simp only [World.size_alloc] at hown hb
  obtain ⟨cB, fB⟩ := belowAt hb
  have k0 : w1.cell? ⟨w.heap.size + 1, 0, none⟩ = some (.slice none 0 0) := by rw [cB _ _ (by omega)]; simp [go_sem]
  have k1 : w1.cell? ⟨w.heap.size + 1 + 1, 0, none⟩ = some (.slice none 0 0) := by rw [cB _ _ (by omega)]; simp [go_sem]
  have f0 : w1.frozen? ⟨w.heap.size + 1, 0, none⟩ = false := by rw [fB _ _ (by omega)]; simp [go_sem]
  have f1 : w1.frozen? ⟨w.heap.size + 1 + 1, 0, none⟩ = false := by rw [fB _ _ (by omega)]; simp [go_sem]
  have Hcp := Lib.hid hcp
  have Hsm := Lib.hid hsm
  have Hown := Lib.hid hown
  clear cB fB h1 hcp hsm hown
  go_wp2
  refine bodyPost_ret (v := .agg #[.slice (some ⟨w.heap.size + 1 + 1 + 1, 0, none⟩) ps.length ps.length]) (by simp [results, Try.results9, go_sem, k0]) rfl ⟨w.heap.size + 1 + 1 + 1, ds, rfl, Hcp.out, ?_, Hsm.out, ?_⟩
  · have h2 := (Hown.out.keep (((Only.refl (fun b => b < w.heap.size + 1 + 1 + 1) w1).setCell (p := ⟨w.heap.size + 1 + 1, 0, none⟩) (by simp) (.slice (some ⟨w.heap.size + 1 + 1 + 1, 0, none⟩) ps.length ps.length)).setCell (p := ⟨w.heap.size + 1, 0, none⟩) (by simp) (.slice (some ⟨w.heap.size + 1 + 1 + 1, 0, none⟩) ps.length ps.length)) (fun k h1 _ h2 => by omega)).low (lo' := w.heap.size) (by omega)
    simpa using h2
  · refine ((((((Below.refl _ _).alloc (Nat.le_refl _) _).alloc (by simp) _).alloc (by simp; omega) _).trans (hb.mono (by omega))).setCell ?_ _).setCell ?_ _ <;> first | (simp; done) | (simp; omega)

theorem eqA (a b : Option Addr) (c d : Nat) (ps qs : List PV) (w : World) (hn : ps.length ≤ 1048576) (hm : ∀ p ∈ ps, p.xs.length ≤ 1048576) (hl : ps.length = qs.length) (he : ∀ i (h1 : i < ps.length) (h2 : i < qs.length), PEq ps[i] qs[i])
    (ha : Pics (· < w.heap.size) w a ps) (hb : Pics (· < w.heap.size) w b qs) :
    Calls Try.prog 12 #[.agg #[.slice a ps.length c], .agg #[.slice b qs.length d]] w fun e w' => e = .returned (.bool true) ∧ Below w.heap.size w w' := by
  have Hl := Lib.hid hl
  have Hm := Lib.hid hm
  have He := Lib.hid he
  have ha1 := ha.keep (((Only.refl (fun _ => False) w).alloc (.cells #[.slice a ps.length c] 32)).alloc (.cells #[.slice b qs.length d] 32)) (fun _ _ h => h)
  have hb1 := hb.keep (((Only.refl (fun _ => False) w).alloc (.cells #[.slice a ps.length c] 32)).alloc (.cells #[.slice b qs.length d] 32)) (fun _ _ h => h)
  clear hl hm he ha hb
  go_enter Try.func12, Try.ntmps12
  go_wp2_with fail
  refine (eqPS w.heap.size a b c d ps qs _ hn Hm.out Hl.out He.out ha1 hb1 (by simp; omega)).mono ?_
  rintro e w1 ⟨rfl, hb⟩
  clear ha1 hb1
  go_wp2
  go_ret
  exact ⟨rfl, (((Below.refl _ _).alloc (Nat.le_refl _) _).alloc (by simp) _).trans hb⟩

theorem markA (lo hi gb : Nat) (a : Option Addr) (c : Nat) (ds : List PV) (k : Int) (w : World) (hn : ds.length ≤ 1048576) (hm : ∀ p ∈ ds, p.xs.length ≤ 1048576) (hk0 : 0 ≤ k) (hk1 : mkOf k ds ≤ 1125899906842624) (h : Own lo hi gb w a ds) (hhi : hi ≤ w.heap.size) :
    Calls Try.prog 14 #[.agg #[.slice a ds.length c], .int .i64 k] w fun e w' => e = .returned (.int .i64 (mkOf k ds)) ∧ Own lo hi gb w' a (msOf k ds) ∧ Only (fun b => lo ≤ b ∧ b < hi) w w' := by
  have Hm := Lib.hid hm
  have Hk1 := Lib.hid hk1
  have h1 := h.keep ((Only.refl (fun _ => False) w).alloc (.cells #[.slice a ds.length c] 32)) (fun _ _ _ h => h)
  clear hm hk1 h
  go_enter Try.func14, Try.ntmps14
  go_wp2_with fail
  refine (markPS lo hi gb a c ds k _ hn Hm.out hk0 Hk1.out h1).mono ?_
  rintro e w1 ⟨rfl, hw1, ho1⟩
  clear h1
  go_wp2
  go_ret
  exact ⟨rfl, hw1, ((Only.refl _ _).alloc _).trans ho1⟩

theorem heldA (a : Option Addr) (c : Nat) (ds : List PV) (k : Int) (w : World) (hn : ds.length ≤ 1048576) (hm : ∀ p ∈ ds, p.xs.length ≤ 1048576) (hk0 : 0 ≤ k) (hk1 : mkOf k ds ≤ 1125899906842624) (h : Pics (· < w.heap.size) w a (msOf k ds)) :
    Calls Try.prog 16 #[.agg #[.slice a ds.length c], .int .i64 k] w fun e w' => e = .returned (.int .i64 (mkOf k ds)) ∧ Below w.heap.size w w' := by
  have hge := (mkOf_le k ds hm).1
  have Hm := Lib.hid hm
  have Hk1 := Lib.hid hk1
  have h1 := h.keep ((Only.refl (fun _ => False) w).alloc (.cells #[.slice a ds.length c] 32)) (fun _ _ h => h)
  clear hm hk1 h
  go_enter Try.func16, Try.ntmps16
  go_wp2_with fail
  refine (heldPS w.heap.size a c ds k _ hn Hm.out hk0 Hk1.out h1).mono ?_
  rintro e w1 ⟨rfl, rfl⟩
  clear h1
  have hnn : ¬ mkOf k ds < 0 := by omega
  go_wp2
  go_ret
  exact ⟨rfl, (Below.refl _ _).alloc (Nat.le_refl _) _⟩
end Go.Proofs.Ytljkgemkolmihaa
