/- The law on RecoverJournal, walked. -/
import Derived.Test.YtljkgemkolmihaaDoorE3
import Derived.Test.YtljkgemkolmihaaDoorD9
namespace Go.Proofs.YtljkgemkolmihaaDoor
open Go.RowKit

set_option maxRecDepth 100000 in
set_option maxHeartbeats 2000000 in
theorem srecoverJournal_any (s : ByteArray) (w : World) :
    Calls Tryd.prog 15 #[.string s] w (RecRes s.data.toList w) := by
  have hsz : s.data.toList.length = s.size := by rw [Array.length_toList]; rfl
  have Hsz := Lib.hid hsz
  clear hsz
  by_cases hbig : 12000 < s.size
  · have hbig' : (12000 : Int) < (s.size : Int) := by omega
    go_enter Tryd.func15, Tryd.ntmps15
    go_wp2_with fail
    go_ret3
    exact Or.inl ⟨by rw [Hsz.out]; exact hbig, rfl, Below.refl _ _⟩
  · have hbig' : ¬ (12000 : Int) < (s.size : Int) := by omega
    go_enter Tryd.func15, Tryd.ntmps15
    go_wp2_with fail
    refine (srecover_any s w (by omega)).mono ?_
    rintro e w1 ⟨a, c, rfl, hw, hb⟩
    have Hw := Lib.hid hw
    have Hb := Lib.hid hb
    clear hw hb
    go_wp2_with fail
    go_ret3
    exact Or.inr ⟨by rw [Hsz.out]; omega, a, c, rfl, Hw.out, Hb.out⟩

/-- three results, of which the first is a row -/
def Rec3 (R : List (List UInt8)) (N : Int) (ok : Bool) (w : World) (e : Ending) (w' : World) : Prop :=
  ∃ a c, e = .returned (.tuple #[.slice a R.length c, .int .i64 N, .bool ok]) ∧ Wr (fun b => w.heap.size ≤ b ∧ b < w'.heap.size) w' a (R.map sv) ∧ Below w.heap.size w w'
theorem recv_length (P : List (List UInt8)) : ∀ n, (recv n P).length ≤ P.length := by
  induction P with
  | nil => intro n; simp [recv]
  | cons p P ih =>
    intro n
    rw [recv]
    split
    · simp
    · next line _ => have := ih (chkF n line); simp; omega
theorem rec3_of (l : List UInt8) : ∃ R N ok, R.length ≤ 12000 ∧ ∀ w e w', RecRes l w e w' → Rec3 R N ok w e w' := by
  by_cases h : 12000 < l.length
  · refine ⟨[], 0, false, by simp, fun w e w' hr => ?_⟩
    rcases hr with ⟨_, rfl, hb⟩ | ⟨h2, _⟩
    · exact ⟨none, 0, rfl, Wr.nil, hb⟩
    · omega
  · refine ⟨recv 0 (linesL l), lenTo (linesL l) (recv 0 (linesL l)).length, true, ?_, fun w e w' hr => ?_⟩
    · have h1 := recv_length (linesL l) 0
      have h2 := lenTo_le l (linesL l).length (Nat.le_refl _)
      have h3 := le_lenTo (linesL l) (linesL l).length
      omega
    · rcases hr with ⟨h2, _⟩ | ⟨_, a, c, rfl, hw, hb⟩
      · omega
      · exact ⟨a, c, rfl, hw, hb⟩

set_option maxRecDepth 100000 in
set_option maxHeartbeats 2000000 in
theorem law_recover (s : ByteArray) (w : World) (hl : Lid w) :
    Calls Tryd.prog 5 #[.string s] w fun e w' => e = .returned (.bool true) ∧ Below w.heap.size w w' := by
  have Hl := Lib.hid hl
  clear hl
  by_cases hbig : 1048576 < s.size
  · have hbig' : (1048576 : Int) < (s.size : Int) := by omega
    go_enter Tryd.func5, Tryd.ntmps5
    go_wp2_with fail
    go_ret
    exact ⟨rfl, Below.refl _ _⟩
  have hbig' : ¬ (1048576 : Int) < (s.size : Int) := by omega
  have hs2 : s.size ≤ 1073741824 := by omega
  obtain ⟨R, N, ok, hR, hrec⟩ := rec3_of s.data.toList
  have Hrec := Lib.hid hrec
  have hok : (ok != ok) = false := by simp
  have hNN : (N != N) = false := by simp
  clear hrec hbig
  go_enter Tryd.func5, Tryd.ntmps5
  go_wp2_with fail
  refine (srecoverJournal_any s w).mono ?_
  intro e w1 h1
  obtain ⟨a1, c1, rfl, hw1, hb1⟩ := Hrec.out _ _ _ h1
  have Hw1 := Lib.hid (hw1.rd.mono (T := (· < w1.heap.size)) (fun k hk => hk.2))
  have Hb1 := Lib.hid hb1
  have hz1 := hb1.size
  clear h1 hw1 hb1
  go_wp2_with fail
  refine (recover_any s w1 (Hl.out.below Hb1.out) hs2).mono ?_
  intro e w2 h1
  obtain ⟨a2, c2, rfl, hw2, hb2⟩ := Hrec.out _ _ _ h1
  have Hw2 := Lib.hid hw2
  have Hv2 := Lib.hid (Hw1.out.below hb2)
  have Hb2 := Lib.hid (Hb1.out.trans (hb2.mono hz1))
  have hz2 := hb2.size
  clear h1 hw2 hb2
  go_wp2_with fail
  refine (eqS _ _ a2 a1 c2 c1 R w2 (by omega) Hw2.out.rd Hv2.out).mono ?_
  rintro e w3 ⟨rfl, hb3⟩
  have Hw3 := Lib.hid (Hw2.out.keep (Only.below hb3) (fun k hk hn => by omega))
  have Hv3 := Lib.hid ((Hv2.out.mono (T := (· < w2.heap.size)) (fun k hk => by omega)).below hb3 |>.mono (T := fun _ => True) (fun _ _ => trivial))
  have Hv3b := Lib.hid (Hv2.out.keep (Only.below hb3) (fun k hk hn => by omega))
  have Hb3 := Lib.hid (Hb2.out.trans (hb3.mono (by omega)))
  have hz3 := hb3.size
  clear hb3 Hv3
  go_wp2_with fail
  refine (markS _ a2 c2 R 1 w3 (by omega) (by omega) (by omega) (fun k hk => by omega) Hw3.out).mono ?_
  rintro e w4 ⟨rfl, hw4, ho4⟩
  have Hv4 := Lib.hid (Hv3b.out.keep ho4 (fun k hk hn => by omega))
  have Hw4 := Lib.hid hw4.rd
  have Hb4 := Lib.hid (Hb3.out.trans (ho4.toBelow (B := w.heap.size) (by omega) (fun k hk => by omega)))
  have hz4 := ho4.size
  clear hw4 ho4
  have hpos : ¬ (1 + (R.length : Int) < 0) := by omega
  have hself : ((1 + (R.length : Int)) != 1 + (R.length : Int)) = false := by simp
  go_wp2_with fail
  refine (heldS _ a2 c2 R.length 1 w4 (by omega) (by omega) (by omega) (fun k hk => by omega) Hw4.out).mono ?_
  rintro e w5 ⟨rfl, hb5⟩
  have Hv5 := Lib.hid (Hv4.out.keep (Only.below hb5) (fun k hk hn => by omega))
  have Hw5 := Lib.hid (Hw4.out.keep (Only.below hb5) (fun k hk hn => by omega))
  have Hb5 := Lib.hid (Hb4.out.trans (hb5.mono (by omega)))
  have hz5 := hb5.size
  clear hb5
  go_wp2_with fail
  refine (recover_any s w5 (Hl.out.below Hb5.out) hs2).mono ?_
  intro e w6 h1
  obtain ⟨a3, c3, rfl, hw6, hb6⟩ := Hrec.out _ _ _ h1
  have Hx6 := Lib.hid hw6.rd
  have Hv6 := Lib.hid (Hv5.out.keep (Only.below hb6) (fun k hk hn => by omega))
  have Hw6 := Lib.hid (Hw5.out.keep (Only.below hb6) (fun k hk hn => by omega))
  have Hb6 := Lib.hid (Hb5.out.trans (hb6.mono (by omega)))
  have hz6 := hb6.size
  clear h1 hw6 hb6
  go_wp2_with fail
  refine (eqS _ _ a3 a1 c3 c1 R w6 (by omega) Hx6.out Hv6.out).mono ?_
  rintro e w7 ⟨rfl, hb7⟩
  have Hw7 := Lib.hid (Hw6.out.keep (Only.below hb7) (fun k hk hn => by omega))
  have Hb7 := Lib.hid (Hb6.out.trans (hb7.mono (by omega)))
  have hz7 := hb7.size
  clear hb7
  go_wp2_with fail
  refine (heldS _ a2 c2 R.length 1 w7 (by omega) (by omega) (by omega) (fun k hk => by omega) Hw7.out).mono ?_
  rintro e w8 ⟨rfl, hb8⟩
  have Hb8 := Lib.hid (Hb7.out.trans (hb8.mono (by omega)))
  clear hb8
  go_wp2_with fail
  go_ret
  exact ⟨rfl, Hb8.out⟩
end Go.Proofs.YtljkgemkolmihaaDoor
