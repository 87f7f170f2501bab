/- The law on JournalOf, walked. -/
import Derived.Test.YtljkgemkolmihaaDoorD8
namespace Go.Proofs.YtljkgemkolmihaaDoor
open Go.RowKit

theorem jV_is (L : List (List UInt8)) : ∃ (s : ByteArray) (ok : Bool), jV L = .tuple #[.string s, .bool ok] := by
  unfold jV
  split
  · exact ⟨_, _, rfl⟩
  · exact ⟨_, _, rfl⟩

set_option maxRecDepth 100000 in
set_option maxHeartbeats 2000000 in
theorem law_journalOf (a : Option Addr) (c : Nat) (L : List (List UInt8)) (w : World) (hn : L.length ≤ maxLen) (hm : ∀ p ∈ L, p.length ≤ maxLen) (h : Rd (· < w.heap.size) w a (L.map sv)) (hl : Lid w) :
    Calls Tryd.prog 4 #[.slice a L.length c] w fun e w' => e = .returned (.bool true) ∧ Below w.heap.size w w' := by
  have Hm := Lib.hid hm
  have Hr := Lib.hid h
  have Hl := Lib.hid hl
  obtain ⟨s, ok, hv⟩ := jV_is L
  have Hv := Lib.hid hv
  have hok : (ok != ok) = false := by simp
  have hss : (s.toList != s.toList) = false := by simp
  clear hm h hl hv
  go_enter Tryd.func4, Tryd.ntmps4
  go_wp2_with fail
  refine (szS (· < w.heap.size) a c L 1048576 w hn Hm.out (by omega) (by omega) Hr.out).mono ?_
  rintro e w1 ⟨r, rfl, hr1, hr2, hr3, hw0⟩
  obtain rfl := hw0.symm
  have Hr3 := Lib.hid hr3
  clear hr3 hw0
  by_cases hr : r < 0
  · go_wp2_with fail
    go_ret
    exact ⟨rfl, Below.refl _ _⟩
  have hb := Hr3.out (by omega)
  have hn2 : L.length ≤ 1048576 := by omega
  have hm2 : ∀ p ∈ L, p.length ≤ 1048576 := fun p hp => by have := hb.2 p hp; omega
  have Hm2 := Lib.hid hm2
  clear hb hm2 Hr3 Hm
  go_wp2_with fail
  refine (toS (· < w.heap.size) a c L w hn2 Hr.out (fun k hk => hk)).mono ?_
  rintro e w1 ⟨rfl, hw1, hb1⟩
  have Hw1 := Lib.hid (hw1.tight.mono (T := (· < w1.heap.size)) (fun k hk => hk.2)).rd
  have Hb1 := Lib.hid hb1
  have hz1 := hb1.size
  clear hw1 hb1
  go_wp2_with fail
  refine (show Calls Tryd.prog 11 _ w1 (fun e w' => e = .returned (.tuple #[.string s, .bool ok]) ∧ Below w1.heap.size w1 w') from by rw [← Hv.out]; exact sjournalOf_any (some ⟨w.heap.size, 0, none⟩) L.length L w1 hn2 Hm2.out Hw1.out).mono ?_
  rintro e w2 ⟨rfl, hb2⟩
  have Hb2 := Lib.hid (Hb1.out.trans (hb2.mono hz1))
  have hz2 := hb2.size
  clear hb2
  go_wp2_with fail
  refine (toS (· < w.heap.size) a c L w2 hn2 (Hr.out.below Hb2.out) (fun k hk => by omega)).mono ?_
  rintro e w3 ⟨rfl, hw3, hb3⟩
  have Hw3 := Lib.hid (hw3.tight.mono (T := (· < w3.heap.size)) (fun k hk => hk.2)).rd
  have Hb3 := Lib.hid (Hb2.out.trans (hb3.mono (by omega)))
  have hz3 := hb3.size
  clear hw3 hb3
  go_wp2_with fail
  refine (show Calls Tryd.prog 13 _ w3 (fun e w' => e = .returned (.tuple #[.string s, .bool ok]) ∧ Below w3.heap.size w3 w') from by rw [← Hv.out]; exact journal_any (some ⟨w2.heap.size, 0, none⟩) L.length L w3 hn2 Hm2.out Hw3.out (Hl.out.below Hb3.out)).mono ?_
  rintro e w4 ⟨rfl, hb4⟩
  have Hw4 := Lib.hid (Hw3.out.below hb4)
  have Hb4 := Lib.hid (Hb3.out.trans (hb4.mono (by omega)))
  have hz4 := hb4.size
  clear hb4
  go_wp2_with fail
  refine (toS (· < w.heap.size) a c L w4 hn2 (Hr.out.below Hb4.out) (fun k hk => by omega)).mono ?_
  rintro e w5 ⟨rfl, hw5, hb5⟩
  have Hw5 := Lib.hid hw5.rd
  have Hw45 := Lib.hid ((Hw4.out.mono (T := (· < w4.heap.size)) (fun k hk => by omega)).below hb5)
  have Hb5 := Lib.hid (Hb4.out.trans (hb5.mono (by omega)))
  have hz5 := hb5.size
  clear hw5 hb5
  go_wp2_with fail
  refine (eqS _ _ (some ⟨w2.heap.size, 0, none⟩) (some ⟨w4.heap.size, 0, none⟩) L.length L.length L w5 hn2 Hw45.out Hw5.out).mono ?_
  rintro e w6 ⟨rfl, hb6⟩
  have Hb6 := Lib.hid (Hb5.out.trans (hb6.mono (by omega)))
  clear hb6
  go_wp2_with fail
  go_ret
  exact ⟨rfl, Hb6.out⟩
end Go.Proofs.YtljkgemkolmihaaDoor
