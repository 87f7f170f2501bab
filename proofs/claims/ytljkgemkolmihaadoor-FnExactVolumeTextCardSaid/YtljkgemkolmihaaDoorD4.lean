/- Check numbers of texts, from any number on. -/
import Derived.Test.YtljkgemkolmihaaDoorD3
namespace Go.Proofs.YtljkgemkolmihaaDoor
open Go.RowKit

/-- a check number behind one byte more -/
def chk1 (n : Int) (b : UInt8) : Int := (727 * n + (b.toNat : Int) + 59).tmod 65003
def chkF (n : Int) (l : List UInt8) : Int := l.foldl chk1 n
theorem chk1_bound {n : Int} (h0 : 0 ≤ n) (h1 : n ≤ 65002) (b : UInt8) : 0 ≤ chk1 n b ∧ chk1 n b ≤ 65002 := by
  unfold chk1
  have hb : (b.toNat : Int) < 256 := by have := b.toNat_lt; omega
  rw [Int.tmod_eq_emod_of_nonneg (by omega)]
  omega
theorem chkF_bound (l : List UInt8) : ∀ (n : Int), 0 ≤ n → n ≤ 65002 → 0 ≤ chkF n l ∧ chkF n l ≤ 65002 := by
  unfold chkF
  induction l with
  | nil => intro n h0 h1; exact ⟨h0, h1⟩
  | cons b l ih => intro n h0 h1; have := chk1_bound h0 h1 b; exact ih _ this.1 this.2
theorem chkF_succ (n : Int) (l : List UInt8) (j : Nat) (h : j < l.length) : chkF n (l.take (j + 1)) = chk1 (chkF n (l.take j)) l[j] := by
  unfold chkF
  rw [← List.take_append_getElem h, List.foldl_append]
  rfl

theorem in_yes (n : Int) (h0 : 0 ≤ n) (h1 : n ≤ 65002) (w : World) :
    Calls Tryd.prog 58 #[.int .i64 n, .int .i64 0, .int .i64 65002] w fun e w' => e = .returned (.bool true) ∧ w = w' := by
  go_enter Tryd.func58, Tryd.ntmps58
  go_wp2
  go_ret
  exact ⟨by simp [h1], rfl⟩

set_option maxRecDepth 100000 in
set_option maxHeartbeats 1000000 in
theorem scheck_any (n : Int) (h0 : 0 ≤ n) (h1 : n ≤ 65002) (l : List UInt8) (hl : l.length ≤ 1125899906842624) (w : World) :
    Calls Tryd.prog 55 #[.int .i64 n, .string (bs l)] w fun e w' => e = .returned (.int .i64 (chkF n l)) ∧ w' = w := by
  unfold bs
  go_enter Tryd.func55, Tryd.ntmps55
  go_wp2_with fail
  go_loopw [0, 5] (fun q i wr => ∃ j : Nat, j ≤ l.length ∧ i = .int .i64 j ∧ q = .int .i64 (chkF n (l.take j)) ∧ wr = w) (fun _ i _ => l.length - (intOf i).toNat)
  case atStart => exact ⟨0, Nat.zero_le _, rfl, by simp [chkF], rfl⟩
  case round =>
    obtain ⟨j, hj, rfl, rfl, rfl⟩ := hrel
    obtain ⟨c, hc⟩ : ∃ c, c = chkF n (l.take j) := ⟨_, rfl⟩
    rw [← hc]
    have hc0 : 0 ≤ c := by rw [hc]; exact (chkF_bound _ n h0 h1).1
    have hc1 : c ≤ 65002 := by rw [hc]; exact (chkF_bound _ n h0 h1).2
    have Hc := Lib.hid hc
    clear hc
    by_cases hlt : j < l.length
    · have hi1 : (j : Int) < (l.length : Int) := by omega
      have hb : (l[j].toNat : Int) < 256 := by have := l[j].toNat_lt; omega
      go_wp2_with fail
      refine ⟨⟨j + 1, by omega, by simp, ?_, trivial⟩, by simp [intOf]; omega⟩
      rw [chkF_succ n l j hlt, ← Hc.out]
      have e : ((⟨l.toArray⟩ : ByteArray)[j]'hlt) = l[j] := rfl
      rw [e]
      unfold chk1
      have e1 : ∀ x : Int, -9223372036854775808 ≤ x → x ≤ 9223372036854775807 → wrap64 x = x := fun x h1 h2 => by unfold wrap64; omega
      rw [e1 (l[j].toNat : Int) (by omega) (by omega), e1 (727 * c + (l[j].toNat : Int)) (by omega) (by omega), e1 (727 * c + (l[j].toNat : Int) + 59) (by omega) (by omega)]
    · have : j = l.length := by omega
      obtain rfl : c = chkF n l := by rw [Hc.out, this, List.take_length]
      have hi1 : ¬ (j : Int) < (l.length : Int) := by omega
      go_wp2_with fail
      go_ret
      exact ⟨rfl, rfl⟩

set_option maxRecDepth 100000 in
set_option maxHeartbeats 1000000 in
theorem check_any (n : Int) (h0 : 0 ≤ n) (h1 : n ≤ 65002) (l : List UInt8) (hl : l.length ≤ 1125899906842624) (w : World) :
    Calls Tryd.prog 33 #[.int .i64 n, .string (bs l)] w fun e w' => e = .returned (.tuple #[.int .i64 (chkF n l), .bool true]) ∧ w' = w := by
  unfold bs
  go_enter Tryd.func33, Tryd.ntmps33
  go_wp2_with (go_at_call 58; refine (in_yes n h0 h1 _).mono ?_; rintro e w' ⟨rfl, rfl⟩)
  go_loopw [0, 12] (fun q i wr => ∃ j : Nat, j ≤ l.length ∧ i = .int .i64 j ∧ q = .int .i64 (chkF n (l.take j)) ∧ wr = w) (fun _ i _ => l.length - (intOf i).toNat)
  case atStart => exact ⟨0, Nat.zero_le _, rfl, by simp [chkF], rfl⟩
  case round =>
    obtain ⟨j, hj, rfl, rfl, rfl⟩ := hrel
    obtain ⟨c, hc⟩ : ∃ c, c = chkF n (l.take j) := ⟨_, rfl⟩
    rw [← hc]
    have hc0 : 0 ≤ c := by rw [hc]; exact (chkF_bound _ n h0 h1).1
    have hc1 : c ≤ 65002 := by rw [hc]; exact (chkF_bound _ n h0 h1).2
    have Hc := Lib.hid hc
    clear hc
    by_cases hlt : j < l.length
    · have hi1 : (j : Int) < (l.length : Int) := by omega
      have hb : (l[j].toNat : Int) < 256 := by have := l[j].toNat_lt; omega
      go_wp2_with fail
      refine ⟨⟨j + 1, by omega, by simp, ?_, trivial⟩, by simp [intOf]; omega⟩
      rw [chkF_succ n l j hlt, ← Hc.out]
      have e : ((⟨l.toArray⟩ : ByteArray)[j]'hlt) = l[j] := rfl
      rw [e]
      unfold chk1
      have e1 : ∀ x : Int, -9223372036854775808 ≤ x → x ≤ 9223372036854775807 → wrap64 x = x := fun x h1 h2 => by unfold wrap64; omega
      rw [e1 (l[j].toNat : Int) (by omega) (by omega), e1 (727 * c + (l[j].toNat : Int)) (by omega) (by omega), e1 (727 * c + (l[j].toNat : Int) + 59) (by omega) (by omega)]
    · have : j = l.length := by omega
      obtain rfl : c = chkF n l := by rw [Hc.out, this, List.take_length]
      have hi1 : ¬ (j : Int) < (l.length : Int) := by omega
      go_wp2_with fail
      go_ret2
      exact ⟨rfl, rfl⟩
end Go.Proofs.YtljkgemkolmihaaDoor
