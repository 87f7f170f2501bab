/- The law on CountOutputs, walked. -/
import Derived.Test.YtljkgemkolmihaaDoorQ4
namespace Go.Proofs.YtljkgemkolmihaaDoor
open Go.RowKit

theorem countV_is (l : List UInt8) : ∃ (a b : Int) (ok : Bool), countV l = .tuple #[.int .i64 a, .int .i64 b, .bool ok] := by
  unfold countV
  split
  · exact ⟨_, _, _, rfl⟩
  · exact ⟨_, _, _, rfl⟩

set_option maxRecDepth 100000 in
set_option maxHeartbeats 1000000 in
theorem law_count (s : ByteArray) (hs : s.size ≤ 9223372036854775807) (m : Int) (w : World) (hm : w.cell? ⟨0, 0, none⟩ = some (.int .i64 m)) :
    Calls Tryd.prog 3 #[.string s] w fun e w' => e = .returned (.bool true) ∧ Below w.heap.size w w' := by
  by_cases hbig : (1048576 : Int) < (s.size : Int)
  · clear hm
    go_enter Tryd.func3, Tryd.ntmps3
    go_wp2_with fail
    go_ret
    exact ⟨rfl, Below.refl _ _⟩
  · have hs2 : s.size ≤ 1073741824 := by omega
    have h0 : (0 : Nat) < w.heap.size := lt_of_cell hm
    have H0 : Hid (∀ w1, Below w.heap.size w w1 → w1.cell? ⟨0, 0, none⟩ = some (.int .i64 m)) := Lib.hid fun w1 hb => by rw [hb.cell (p := ⟨0, 0, none⟩) h0]; exact hm
    have hsp := scount_any s hs2
    have him := count_any s hs2 m
    obtain ⟨a, b, ok, hc⟩ := countV_is s.data.toList
    rw [hc] at hsp him
    have Hsp := Lib.hid hsp
    have Him := Lib.hid him
    have ha : (a != a) = false := by simp
    have hb : (b != b) = false := by simp
    have hok : (ok != ok) = false := by simp
    clear hsp him hc hm
    go_enter Tryd.func3, Tryd.ntmps3
    go_wp2_with fail
    refine (Hsp.out w).mono ?_
    rintro e w1 ⟨rfl, hb1⟩
    have Hb1 := Lib.hid hb1
    clear hb1
    go_wp2_with fail
    refine (Him.out w1 (H0.out w1 Hb1.out)).mono ?_
    rintro e w2 ⟨rfl, hb2⟩
    have Hb2 := Lib.hid hb2
    clear hb2
    go_wp2_with fail
    go_ret
    exact ⟨rfl, Hb1.out.trans (Hb2.out.mono (Hb1.out.size))⟩
end Go.Proofs.YtljkgemkolmihaaDoor
