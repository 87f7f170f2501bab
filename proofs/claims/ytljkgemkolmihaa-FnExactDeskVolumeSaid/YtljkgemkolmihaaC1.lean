/- Copies: the library's Clone of a list of numbers, clonePicture. -/
import Derived.Test.YtljkgemkolmihaaF1
import Derived.Test.YtljkgemkolmihaaF3
import Derived.Test.YtljkgemkolmihaaP5
import Derived.Lib.SliceRun
import Derived.Deep.RegionHeld3
namespace Go.Proofs.Ytljkgemkolmihaa
open Go.RowKit

/-- what a copy of a list of numbers leaves -/
def FreshF (xs : List Nat) (w : World) (e : Ending) (w' : World) : Prop :=
  ∃ a' c', e = .returned (.slice a' xs.length c') ∧ Wr (fun b => w.heap.size ≤ b ∧ b < w'.heap.size) w' a' (xs.map fl) ∧ Below w.heap.size w w'

def FreshP (W H : Int) (xs : List Nat) (w : World) (e : Ending) (w' : World) : Prop :=
  ∃ a' c', e = .returned (.agg #[.int .i64 W, .int .i64 H, .slice a' xs.length c']) ∧ Wr (fun b => w.heap.size ≤ b ∧ b < w'.heap.size) w' a' (xs.map fl) ∧ Below w.heap.size w w'

theorem cloneF (B : Nat) (a : Option Addr) (c : Nat) (xs : List Nat) (w : World) (hn : xs.length ≤ 1048576) (h : Rd (· < B) w a (xs.map fl)) (hB : B ≤ w.heap.size) (hnil : a = none → xs = []) :
    Calls Try.prog 58 #[.slice a xs.length c] w (FreshF xs w) := by
  obtain ⟨i0, hi, hz0, hz1, hz2⟩ := info_parts infoF
  cases a with
  | none =>
    have hx := hnil rfl
    subst hx
    clear hnil h
    have hq := fun w => Lib.run_eql_slice_nil (P := Try.prog) w 25 95 none 0 c 0 0 Try.underlying25
    go_enter Try.func58, Try.ntmps58
    go_wp2
    go_ret
    exact ⟨none, 0, rfl, Wr.nil, Below.refl _ _⟩
  | some ad =>
    clear hnil
    have hq := fun w => Lib.run_eql_slice_nil (P := Try.prog) w 25 95 (some ad) xs.length c 0 0 Try.underlying25
    go_enter Try.func58, Try.ntmps58
    go_wp2_with (at_builtin; refine wpList_append_own _ rfl (.tmp 5) (.tmp 6) 25 rfl w.heap.size 95 i0 (.float .f32 0) 1 4 Try.underlying25 hi hz0 hz1 hz2 rfl (by decide) _ 0 [] rfl ?c0 ad xs.length c (xs.map fl) rfl ?cl ?c1 ?c2 ?c3 ?c4 ?c5 ?_)
    case c0 => exact World.ownsRow_made w #[] 0 (Nat.le_refl _) (by decide) (by simp)
    case cl => simp
    case c1 => exact (h.alloc _).news
    case c2 => exact fl_one xs
    case c3 => unfold maxLen; omega
    case c4 => omega
    case c5 => simp
    intro v' w1 hown hgrow _
    obtain ⟨a', c', rfl, hw⟩ := Wr.ofOwns' hown
    go_wp2
    go_ret
    exact ⟨a', c', rfl, hw, ((Below.refl _ _).alloc (Nat.le_refl _) _).grown hgrow (by simp) (fun k hk => by cases hk; exact Nat.le_refl _)⟩

set_option maxHeartbeats 400000 in
theorem cloneP (B : Nat) (W H : Int) (a : Option Addr) (c : Nat) (xs : List Nat) (w : World) (hn : xs.length ≤ 1048576) (h : Rd (· < B) w a (xs.map fl)) (hB : B ≤ w.heap.size) (hnil : a = none → xs = []) :
    Calls Try.prog 37 #[.agg #[.int .i64 W, .int .i64 H, .slice a xs.length c]] w (FreshP W H xs w) := by
  have Hnil := Lib.hid hnil
  clear hnil
  go_enter Try.func37, Try.ntmps37
  go_wp2_with fail
  have hr : ∀ W', (W'.heap = ((w.alloc (.cells #[.int .i64 W, .int .i64 H, .slice a xs.length c] 36)).alloc (.cells #[.int .i64 0, .int .i64 0, .slice none 0 0] 36)).heap) → Rd (· < B) W' a (xs.map fl) := fun W' hW => ((h.alloc _).alloc _).ofHeap hW
  go_region_held3 (fun w' => w'.cell? ⟨w.heap.size, 0, none⟩ = some (.int .i64 W) ∧ w'.cell? ⟨w.heap.size, 1, none⟩ = some (.int .i64 H) ∧ w'.cell? ⟨w.heap.size, 2, none⟩ = some (.slice a xs.length c))
    (first | go_keep | (refine ⟨?_, ?_, ?_⟩ <;> (rw [hc _ _ (by simp; omega)]; simp)))
    ((go_at_call 58; refine (cloneF B a c xs _ hn ?_ ?_ Hnil.out).mono ?_; exact hr _ rfl; (simp; omega); rintro e w1 ⟨a', c', rfl, hw1, hb1⟩; obtain ⟨hc, hf⟩ := bcell hb1))
  have hz : w.heap.size + 1 < w1.heap.size := by have := hb1.size; simp at this; omega
  have hc' := hc
  simp only [World.size_alloc, World.size_drew] at hw1 hb1
  go_wp2
  refine bodyPost_ret (v := .agg #[.int .i64 W, .int .i64 H, .slice a' xs.length c']) (by simp [results, Try.results37, go_sem, hc]) rfl ⟨a', c', rfl, ?_, ?_⟩
  · have hw2 := ((hw1.setCell (p := ⟨w.heap.size + 1, 0, none⟩) (by simp; omega) (.int .i64 W)).setCell (p := ⟨w.heap.size + 1, 1, none⟩) (by simp; omega) (.int .i64 H)).setCell (p := ⟨w.heap.size + 1, 2, none⟩) (by simp; omega) (.slice a' xs.length c')
    exact hw2.mono (fun k hk => by simp at hk ⊢; omega)
  · refine ((((((Below.refl _ _).alloc (Nat.le_refl _) _).alloc (by simp) _).drew.trans (hb1.mono (by omega))).setCell ?_ _).setCell ?_ _).setCell ?_ _ <;> simp
end Go.Proofs.Ytljkgemkolmihaa
