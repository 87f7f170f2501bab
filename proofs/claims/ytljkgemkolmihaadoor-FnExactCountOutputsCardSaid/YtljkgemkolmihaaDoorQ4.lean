/- Counting the lines of what a script said. -/
import Derived.Test.YtljkgemkolmihaaDoorQ3
namespace Go.Proofs.YtljkgemkolmihaaDoor
open Go.RowKit

/-- what both count -/
def countV (l : List UInt8) : Value :=
  if okLines l = true then .tuple #[.int .i64 (badMany (linesL l)), .int .i64 ((linesL l).length - badMany (linesL l)), .bool true] else .tuple #[.int .i64 0, .int .i64 0, .bool false]

theorem Rd.str {S : Nat → Prop} {w : World} {a : Option Addr} {L : List (List UInt8)} (h : Rd S w a (L.map sv)) (k : Nat) (hk : k < L.length) : ∃ b o, a = some ⟨b, o, none⟩ ∧ S b ∧ w.cell? ⟨b, o + k, none⟩ = some (.string (bs L[k])) := by
  rcases h with h | ⟨b, o, e, hS, h⟩
  · simp at h; subst h; simp at hk
  · exact ⟨b, o, e, hS, by rw [h k (by simpa using hk)]; simp [sv]⟩

theorem bs_toList (x : List UInt8) : (bs x).toList = x := by rw [bytes_toList, bs_data]
theorem bad_yes {x : List UInt8} (h : (bs x).toList = [110, 111]) : badLine x = true := by rw [bs_toList] at h; subst h; rfl
theorem bad_yes2 {x : List UInt8} (h : ((bs x).toList == [110, 111]) = true ∨ ((bs x).toList == [119, 104, 97, 116]) = true) : badLine x = true := by
  rw [bs_toList] at h; unfold badLine; simpa using h
theorem bad_no {x : List UInt8} (h : ((bs x).toList == [110, 111]) = false ∧ ((bs x).toList == [119, 104, 97, 116]) = false) : badLine x = false := by
  rw [bs_toList] at h; unfold badLine; simpa using h

set_option maxRecDepth 100000 in
set_option maxHeartbeats 2000000 in
theorem count_any (s : ByteArray) (hs : s.size ≤ 1073741824) (m : Int) (w : World) (hm : w.cell? ⟨0, 0, none⟩ = some (.int .i64 m)) :
    Calls Tryd.prog 9 #[.string s] w fun e w' => e = .returned (countV s.data.toList) ∧ Below w.heap.size w w' := by
  have hz : (linesL s.data.toList).length ≤ 1073741824 := by
    have := cutL_length_le 10 s.data.toList
    have : s.data.toList.length = s.size := by rw [Array.length_toList]; rfl
    have := linesL_length s.data.toList
    omega
  have Hm := Lib.hid hm
  clear hm
  go_enter Tryd.func9, Tryd.ntmps9
  go_wp2_with fail
  refine (linesOf_any s hs m w Hm.out).mono ?_
  rintro e w1 (⟨hok, rfl, hb⟩ | ⟨hok, a, c, rfl, hr, hb⟩)
  · have Hok := Lib.hid hok
    clear hok
    go_wp2_with fail
    go_ret3
    exact ⟨by unfold countV; rw [if_neg (by rw [Hok.out]; decide)]; rfl, hb⟩
  · have Hok := Lib.hid hok
    have Hb := Lib.hid hb
    have Hr := Lib.hid hr
    clear hok hr hb
    generalize hL : linesL s.data.toList = L at *
    have HL := Lib.hid hL
    clear hL
    go_wp2_with fail
    go_loopw [7, 9, 19] (fun q x i wr => ∃ k : Nat, k ≤ L.length ∧ i = .int .i64 k ∧ q = .int .i64 (badMany (L.take k)) ∧ wr = w1) (fun _ _ i _ => L.length - (intOf i).toNat)
    case atStart => exact ⟨0, Nat.zero_le _, rfl, by simp [badMany], rfl⟩
    case round =>
      obtain ⟨k, hk, rfl, rfl, rfl⟩ := hrel
      have hle := badMany_le L k
      by_cases hlt : k < L.length
      · obtain ⟨b, o, rfl, _, hc⟩ := Hr.out.str k hlt
        have hs := badMany_succ L k hlt
        have Hs := Lib.hid hs
        clear hs
        generalize hx : L[k] = x at *
        generalize badMany (L.take k) = q at *
        go_wp2_with fail
        all_goals
          first
          | (have hb := bad_yes (x := x) (by assumption)
             exact ⟨⟨k + 1, by omega, by go_num, by rw [Hs.out, if_pos hb]; go_num, trivial⟩, by simp [intOf]; omega⟩)
          | (have hb := bad_yes2 (x := x) (by assumption)
             exact ⟨⟨k + 1, by omega, by go_num, by rw [Hs.out, if_pos hb]; go_num, trivial⟩, by simp [intOf]; omega⟩)
          | (have hb := bad_no (x := x) (by assumption)
             exact ⟨⟨k + 1, by omega, by go_num, by rw [Hs.out, if_neg (by rw [hb]; decide), Nat.add_zero], trivial⟩, by simp [intOf]; omega⟩)
      · obtain rfl : k = L.length := by omega
        rw [List.take_length] at hle ⊢
        go_wp2_with fail
        go_ret3
        exact ⟨by unfold countV; rw [if_pos Hok.out, HL.out]; rfl, Hb.out⟩

set_option maxRecDepth 100000 in
set_option maxHeartbeats 2000000 in
theorem scount_any (s : ByteArray) (hs : s.size ≤ 1073741824) (w : World) :
    Calls Tryd.prog 8 #[.string s] w fun e w' => e = .returned (countV s.data.toList) ∧ Below w.heap.size w w' := by
  have hz : (linesL s.data.toList).length ≤ 1073741824 := by
    have := cutL_length_le 10 s.data.toList
    have : s.data.toList.length = s.size := by rw [Array.length_toList]; rfl
    have := linesL_length s.data.toList
    omega
  go_enter Tryd.func8, Tryd.ntmps8
  go_wp2_with fail
  refine (sLines_any s hs w).mono ?_
  rintro e w1 ⟨a, c, rfl, hr, hb⟩
  have Hb := Lib.hid hb
  have Hr := Lib.hid hr
  clear hr hb
  cases hok : okLines s.data.toList
  · have hne : ¬ (bs (restL s.data.toList)).toList = [] := by rw [bs_toList]; simpa [okLines] using hok
    have hne2 : (bs (restL s.data.toList)).toList.isEmpty = false := by rw [bs_toList]; simpa [okLines] using hok
    have Hok := Lib.hid hok
    clear hok
    go_wp2_with fail
    go_ret3
    exact ⟨by unfold countV; rw [if_neg (by rw [Hok.out]; decide)]; rfl, Hb.out⟩
  · have hR : restL s.data.toList = [] := by simpa [okLines] using hok
    rw [hR]
    have hE : (bs []).toList = [] := bs_toList []
    have Hok := Lib.hid hok
    clear hok hR
    generalize hL : linesL s.data.toList = L at *
    have HL := Lib.hid hL
    clear hL
    go_wp2_with fail
    go_loopw [7, 8, 9] (fun q r i wr => ∃ k : Nat, k ≤ L.length ∧ i = .int .i64 k ∧ q = .int .i64 (badMany (L.take k)) ∧ r = .int .i64 ((k : Int) - badMany (L.take k)) ∧ wr = w1) (fun _ _ i _ => L.length - (intOf i).toNat)
    case atStart => exact ⟨0, Nat.zero_le _, rfl, by simp [badMany], by simp [badMany], rfl⟩
    case round =>
      obtain ⟨k, hk, rfl, rfl, rfl, rfl⟩ := hrel
      have hle := badMany_le L k
      by_cases hlt : k < L.length
      · obtain ⟨b, o, rfl, _, hc⟩ := Hr.out.rd.str k hlt
        have hs := badMany_succ L k hlt
        have Hs := Lib.hid hs
        clear hs
        generalize hx : L[k] = x at *
        generalize badMany (L.take k) = q at *
        go_wp2_with fail
        all_goals
          first
          | (have hb := bad_yes (x := x) (by assumption)
             exact ⟨⟨k + 1, by omega, by go_num, by rw [Hs.out, if_pos hb]; go_num, by rw [Hs.out, if_pos hb]; go_num, trivial⟩, by simp [intOf]; omega⟩)
          | (have hb := bad_yes2 (x := x) (by assumption)
             exact ⟨⟨k + 1, by omega, by go_num, by rw [Hs.out, if_pos hb]; go_num, by rw [Hs.out, if_pos hb]; go_num, trivial⟩, by simp [intOf]; omega⟩)
          | (have hb := bad_no (x := x) (by assumption)
             exact ⟨⟨k + 1, by omega, by go_num, by rw [Hs.out, if_neg (by rw [hb]; decide), Nat.add_zero], by rw [Hs.out, if_neg (by rw [hb]; decide), Nat.add_zero]; go_num, trivial⟩, by simp [intOf]; omega⟩)
      · obtain rfl : k = L.length := by omega
        rw [List.take_length] at hle ⊢
        go_wp2_with fail
        go_ret3
        exact ⟨by unfold countV; rw [if_pos Hok.out, HL.out]; rfl, Hb.out⟩
end Go.Proofs.YtljkgemkolmihaaDoor
