/- Check numbers of texts. -/
import Derived.Test.YtljkgemkolmihaaB1
import Derived.Test.YtljkgemkolmihaaV1
namespace Go.Proofs.Ytljkgemkolmihaa
open Go.RowKit

/-- a check number behind one byte more -/
def chk1 (n : Int) (b : UInt8) : Int := (727 * n + (b.toNat : Int) + 59).tmod 65003
def chk (l : List UInt8) : Int := l.foldl chk1 0
theorem chk1_bound {n : Int} (h0 : 0 ≤ n) (h1 : n ≤ 65002) (b : UInt8) : 0 ≤ chk1 n b ∧ chk1 n b ≤ 65002 := by
  unfold chk1
  have hb : (b.toNat : Int) < 256 := by have := b.toNat_lt; omega
  rw [Int.tmod_eq_emod_of_nonneg (by omega)]
  omega
theorem chk_bound (l : List UInt8) : 0 ≤ chk l ∧ chk l ≤ 65002 := by
  have key : ∀ (l : List UInt8) (n : Int), 0 ≤ n → n ≤ 65002 → 0 ≤ l.foldl chk1 n ∧ l.foldl chk1 n ≤ 65002 := by
    intro l
    induction l with
    | nil => intro n h0 h1; exact ⟨h0, h1⟩
    | cons b l ih => intro n h0 h1; have := chk1_bound h0 h1 b; exact ih _ this.1 this.2
  exact key l 0 (by decide) (by decide)
theorem chk_succ (l : List UInt8) (j : Nat) (h : j < l.length) : chk (l.take (j + 1)) = chk1 (chk (l.take j)) l[j] := by
  unfold chk
  rw [← List.take_append_getElem h, List.foldl_append]
  rfl

set_option maxRecDepth 100000 in
set_option maxHeartbeats 1000000 in
theorem scheck_any (l : List UInt8) (hl : l.length ≤ 1125899906842624) (w : World) :
    Calls Try.prog 80 #[.int .i64 0, .string ⟨l.toArray⟩] w fun e w' => e = .returned (.int .i64 (chk l)) ∧ w' = w := by
  go_enter Try.func80, Try.ntmps80
  go_wp2_with fail
  go_loopw [0, 5] (fun q i wr => ∃ j : Nat, j ≤ l.length ∧ i = .int .i64 j ∧ q = .int .i64 (chk (l.take j)) ∧ wr = w) (fun _ i _ => l.length - (intOf i).toNat)
  case atStart => exact ⟨0, Nat.zero_le _, rfl, by simp [chk], rfl⟩
  case round =>
    obtain ⟨j, hj, rfl, rfl, rfl⟩ := hrel
    obtain ⟨c, hc⟩ : ∃ c, c = chk (l.take j) := ⟨_, rfl⟩
    rw [← hc]
    have hc0 : 0 ≤ c := by rw [hc]; exact (chk_bound _).1
    have hc1 : c ≤ 65002 := by rw [hc]; exact (chk_bound _).2
    have Hc := Lib.hid hc
    clear hc
    by_cases hlt : j < l.length
    · have hi1 : (j : Int) < (l.length : Int) := by omega
      have hb : (l[j].toNat : Int) < 256 := by have := l[j].toNat_lt; omega
      go_wp2_with fail
      refine ⟨⟨j + 1, by omega, by simp, ?_, trivial⟩, by simp [intOf]; omega⟩
      rw [chk_succ l j hlt, ← Hc.out]
      have e : ((⟨l.toArray⟩ : ByteArray)[j]'hlt) = l[j] := rfl
      rw [e]
      unfold chk1
      have e1 : ∀ x : Int, -9223372036854775808 ≤ x → x ≤ 9223372036854775807 → wrap64 x = x := fun x h1 h2 => by unfold wrap64; omega
      rw [e1 (l[j].toNat : Int) (by omega) (by omega), e1 (727 * c + (l[j].toNat : Int)) (by omega) (by omega), e1 (727 * c + (l[j].toNat : Int) + 59) (by omega) (by omega)]
    · have : j = l.length := by omega
      obtain rfl : c = chk l := by rw [Hc.out, this, List.take_length]
      have hi1 : ¬ (j : Int) < (l.length : Int) := by omega
      go_wp2_with fail
      go_ret
      exact ⟨rfl, rfl⟩

set_option maxRecDepth 100000 in
set_option maxHeartbeats 1000000 in
theorem check_any (l : List UInt8) (hl : l.length ≤ 1125899906842624) (w : World) :
    Calls Try.prog 46 #[.int .i64 0, .string ⟨l.toArray⟩] w fun e w' => e = .returned (.tuple #[.int .i64 (chk l), .bool true]) ∧ w' = w := by
  go_enter Try.func46, Try.ntmps46
  go_wp2_with (go_at_call 67; refine (in_any _ _ _ _).mono ?_; rintro e w' ⟨rfl, rfl⟩; rw [show inB 0 0 65002 = true from rfl])
  go_loopw [0, 12] (fun q i wr => ∃ j : Nat, j ≤ l.length ∧ i = .int .i64 j ∧ q = .int .i64 (chk (l.take j)) ∧ wr = w) (fun _ i _ => l.length - (intOf i).toNat)
  case atStart => exact ⟨0, Nat.zero_le _, rfl, by simp [chk], rfl⟩
  case round =>
    obtain ⟨j, hj, rfl, rfl, rfl⟩ := hrel
    obtain ⟨c, hc⟩ : ∃ c, c = chk (l.take j) := ⟨_, rfl⟩
    rw [← hc]
    have hc0 : 0 ≤ c := by rw [hc]; exact (chk_bound _).1
    have hc1 : c ≤ 65002 := by rw [hc]; exact (chk_bound _).2
    have Hc := Lib.hid hc
    clear hc
    by_cases hlt : j < l.length
    · have hi1 : (j : Int) < (l.length : Int) := by omega
      have hb : (l[j].toNat : Int) < 256 := by have := l[j].toNat_lt; omega
      go_wp2_with fail
      refine ⟨⟨j + 1, by omega, by simp, ?_, trivial⟩, by simp [intOf]; omega⟩
      rw [chk_succ l j hlt, ← Hc.out]
      have e : ((⟨l.toArray⟩ : ByteArray)[j]'hlt) = l[j] := rfl
      rw [e]
      unfold chk1
      have e1 : ∀ x : Int, -9223372036854775808 ≤ x → x ≤ 9223372036854775807 → wrap64 x = x := fun x h1 h2 => by unfold wrap64; omega
      rw [e1 (l[j].toNat : Int) (by omega) (by omega), e1 (727 * c + (l[j].toNat : Int)) (by omega) (by omega), e1 (727 * c + (l[j].toNat : Int) + 59) (by omega) (by omega)]
    · have : j = l.length := by omega
      obtain rfl : c = chk l := by rw [Hc.out, this, List.take_length]
      have hi1 : ¬ (j : Int) < (l.length : Int) := by omega
      go_wp2_with fail
      go_ret2
      exact ⟨rfl, rfl⟩
end Go.Proofs.Ytljkgemkolmihaa
