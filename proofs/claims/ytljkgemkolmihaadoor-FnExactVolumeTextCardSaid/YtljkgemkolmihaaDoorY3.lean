/- The reference's texts of lists and of volumes. -/
import Derived.Test.YtljkgemkolmihaaDoorY2
namespace Go.Proofs.YtljkgemkolmihaaDoor
open Go.RowKit

theorem take_snoc {P : List (List UInt8)} {k : Nat} (h1 : 1 ≤ k) (h : k < P.length) : Lib.join (P.take (k + 1)) [44] = Lib.join (P.take k) [44] ++ ([44] ++ P[k]) := by
  rw [List.take_succ_eq_append_getElem h]
  exact join_snoc _ (by intro e; have := congrArg List.length e; rw [List.length_take, List.length_nil] at this; omega)
theorem comma_bs (a b : List UInt8) : bs a ++ ((⟨#[44]⟩ : ByteArray) ++ bs b) = bs (a ++ ([44] ++ b)) := by
  have e1 : (⟨#[44]⟩ : ByteArray) = bs [44] := rfl
  rw [e1, bs_append, bs_append]
theorem textP_pos {P : List (List UInt8)} (h : 1 ≤ P.length) : textP P = Lib.join P [44] := by
  cases P with
  | nil => simp at h
  | cons x r => rfl

set_option maxRecDepth 100000 in
set_option maxHeartbeats 2000000 in
theorem sntext_any (a : Option Addr) (c : Nat) (xs : List Nat) (w : World) (hn : xs.length ≤ 256) (hx : ∀ x ∈ xs, okF x) (h : Rd (· < w.heap.size) w a (xs.map fl)) :
    Calls Tryd.prog 66 #[.slice a xs.length c] w (TextOf (textP (xs.map hexF)) w) := by
  obtain ⟨P, hP⟩ : ∃ P, P = xs.map hexF := ⟨_, rfl⟩
  have hPl : P.length = xs.length := by rw [hP]; simp
  have hP8 : Hid (∀ p ∈ P, p.length ≤ 8) := Lib.hid (by
    intro p hp
    rw [hP] at hp
    obtain ⟨x, _, rfl⟩ := List.mem_map.1 hp
    rw [hexF_length]; omega)
  have hPg : Hid (∀ k (h : k < xs.length) (h2 : k < P.length), P[k] = hexF xs[k]) := Lib.hid (by intro k h h2; simp [hP])
  rw [← hP]
  clear hP
  have Hx := Lib.hid hx
  have HPl := Lib.hid hPl
  clear hx hPl
  by_cases h0 : xs.length = 0
  · have hP0 : P = [] := List.length_eq_zero_iff.1 (by rw [HPl.out, h0])
    subst hP0
    have hx0 : xs = [] := List.length_eq_zero_iff.1 h0
    subst hx0
    clear h h0
    go_enter Tryd.func66, Tryd.ntmps66
    go_wp2_with fail
    go_ret
    exact ⟨rfl, Below.refl _ _⟩
  · rcases h with h | ⟨b, o, rfl, hS, h⟩
    · simp at h; subst h; simp at h0
    have hc : Hid (∀ k (hk : k < xs.length), w.cell? ⟨b, o + k, none⟩ = some (.float .f32 xs[k])) := Lib.hid (fun k hk => by rw [h k (by simpa using hk)]; simp)
    have hpos : 0 < xs.length := by omega
    have hc0 : w.cell? ⟨b, o, none⟩ = some (.float .f32 xs[0]) := hc.out 0 hpos
    have hne : ((xs.length : Int) == 0) = false := by rw [beq_eq_false_iff_ne]; omega
    have hx0 := Lib.hid (Hx.out xs[0] (List.getElem_mem hpos))
    have hj1 : Hid (bs (hexF xs[0]) = bs (Lib.join (P.take 1) [44])) := Lib.hid (by
      have h1 : 0 < P.length := by rw [HPl.out]; exact hpos
      rw [← hPg.out 0 hpos h1, List.take_succ_eq_append_getElem h1]
      simp [Lib.join_one])
    clear h h0
    go_enter Tryd.func66, Tryd.ntmps66
    go_wp2_with fail
    refine (shex_any _ hx0.out w).mono ?_
    rintro e w1 ⟨rfl, hb1⟩
    rw [hj1.out]
    have Hb1 := Lib.hid hb1
    clear hb1
    go_wp2_with fail
    go_loopw [3, 4] (fun t i wr => ∃ k : Nat, 1 ≤ k ∧ k ≤ xs.length ∧ i = .int .i64 k ∧ t = .string (bs (Lib.join (P.take k) [44])) ∧ Below w.heap.size w wr) (fun _ i _ => xs.length - (intOf i).toNat)
    case atStart => exact ⟨1, by omega, by omega, rfl, rfl, Hb1.out⟩
    case round =>
      obtain ⟨k, hk1, hk, rfl, rfl, hb⟩ := hrel
      have Hb := Lib.hid hb
      clear hb
      by_cases hlt : k < xs.length
      · have hcell : wr.cell? ⟨b, o + k, none⟩ = some (.float .f32 xs[k]) := by rw [Hb.out.cell (p := ⟨b, o + k, none⟩) hS]; exact hc.out k hlt
        have hxk := Lib.hid (Hx.out xs[k] (List.getElem_mem hlt))
        have hPk : k < P.length := by rw [HPl.out]; exact hlt
        have hs := Lib.hid (take_snoc hk1 hPk)
        have hg := Lib.hid (hPg.out k hlt hPk)
        have hjb : (Lib.join (P.take k) [44]).length ≤ k * (8 + 1) := by
          have := join_bound (P := P.take k) (b := 8) (fun p hp => hP8.out p (List.mem_of_mem_take hp))
          rw [List.length_take, Nat.min_eq_left (by omega)] at this
          exact this
        have hh8 := hexF_length xs[k]
        have Hh8 := Lib.hid hh8
        rw [hg.out] at hs
        clear hh8
        generalize hxv : xs[k] = x at *
        have g1 : ¬ 9223372036854775807 < 1 + (bs (hexF x)).size := by rw [bs_size, Hh8.out]; omega
        have g2 : ¬ 9223372036854775807 < (bs (Lib.join (P.take k) [44])).size + (1 + (bs (hexF x)).size) := by rw [bs_size, bs_size, Hh8.out]; omega
        clear hxv hg
        go_wp2_with fail
        refine (shex_any _ hxk.out wr).mono ?_
        rintro e w2 ⟨rfl, hb2⟩
        have Hb2 := Lib.hid hb2
        have hzr := Hb.out.size
        clear hb2
        go_wp2_with fail
        exact ⟨⟨k + 1, by omega, by omega, by go_num, by rw [comma_bs, hs.out], Hb.out.trans (Hb2.out.mono hzr)⟩, by simp [intOf]; omega⟩
      · obtain rfl : k = xs.length := by omega
        have ht : Hid (bs (Lib.join (P.take xs.length) [44]) = bs (textP P)) := Lib.hid (by rw [← HPl.out, List.take_length, textP_pos (by rw [HPl.out]; omega)])
        go_wp2_with fail
        go_ret
        exact ⟨by rw [ht.out]; rfl, Hb.out⟩

/-- an integer as a value -/
def iv (n : Int) : Value := .int .i64 n
def i64B (n : Int) : Prop := -9223372036854775808 ≤ n ∧ n ≤ 9223372036854775807

set_option maxRecDepth 100000 in
set_option maxHeartbeats 2000000 in
theorem stext_any (a : Option Addr) (c : Nat) (xs : List Int) (w : World) (hn : xs.length ≤ 64) (hx : ∀ x ∈ xs, i64B x) (h : Rd (· < w.heap.size) w a (xs.map iv)) :
    Calls Tryd.prog 65 #[.slice a xs.length c] w (TextOf (textP (xs.map Lib.itoa)) w) := by
  obtain ⟨P, hP⟩ : ∃ P, P = xs.map Lib.itoa := ⟨_, rfl⟩
  have hPl : P.length = xs.length := by rw [hP]; simp
  have hP8 : Hid (∀ p ∈ P, p.length ≤ 21) := Lib.hid (by
    intro p hp
    rw [hP] at hp
    obtain ⟨x, hx2, rfl⟩ := List.mem_map.1 hp
    exact Lib.itoa_length_le x (hx x hx2).1 (hx x hx2).2)
  have hPg : Hid (∀ k (h : k < xs.length) (h2 : k < P.length), P[k] = Lib.itoa xs[k]) := Lib.hid (by intro k h h2; simp [hP])
  rw [← hP]
  clear hP
  have Hx := Lib.hid hx
  have HPl := Lib.hid hPl
  clear hx hPl
  by_cases h0 : xs.length = 0
  · have hP0 : P = [] := List.length_eq_zero_iff.1 (by rw [HPl.out, h0])
    subst hP0
    have hx0 : xs = [] := List.length_eq_zero_iff.1 h0
    subst hx0
    clear h h0
    go_enter Tryd.func65, Tryd.ntmps65
    go_wp2_with fail
    go_ret
    exact ⟨rfl, Below.refl _ _⟩
  · rcases h with h | ⟨b, o, rfl, hS, h⟩
    · simp at h; subst h; simp at h0
    have hc : Hid (∀ k (hk : k < xs.length), w.cell? ⟨b, o + k, none⟩ = some (.int .i64 xs[k])) := Lib.hid (fun k hk => by rw [h k (by simpa using hk)]; simp [iv])
    have hpos : 0 < xs.length := by omega
    have hc0 : w.cell? ⟨b, o, none⟩ = some (.int .i64 xs[0]) := hc.out 0 hpos
    have hne : ((xs.length : Int) == 0) = false := by rw [beq_eq_false_iff_ne]; omega
    have hx0 := Lib.hid (Hx.out xs[0] (List.getElem_mem hpos))
    have hj1 : Hid (bs (Lib.itoa xs[0]) = bs (Lib.join (P.take 1) [44])) := Lib.hid (by
      have h1 : 0 < P.length := by rw [HPl.out]; exact hpos
      rw [← hPg.out 0 hpos h1, List.take_succ_eq_append_getElem h1]
      simp [Lib.join_one])
    clear h h0
    go_enter Tryd.func65, Tryd.ntmps65
    go_wp2_with fail
    refine (sdec_any _ hx0.out.1 hx0.out.2 w).mono ?_
    rintro e w1 ⟨rfl, hb1⟩
    rw [hj1.out]
    have Hb1 := Lib.hid hb1
    clear hb1
    go_wp2_with fail
    go_loopw [3, 4] (fun t i wr => ∃ k : Nat, 1 ≤ k ∧ k ≤ xs.length ∧ i = .int .i64 k ∧ t = .string (bs (Lib.join (P.take k) [44])) ∧ Below w.heap.size w wr) (fun _ i _ => xs.length - (intOf i).toNat)
    case atStart => exact ⟨1, by omega, by omega, rfl, rfl, Hb1.out⟩
    case round =>
      obtain ⟨k, hk1, hk, rfl, rfl, hb⟩ := hrel
      have Hb := Lib.hid hb
      clear hb
      by_cases hlt : k < xs.length
      · have hcell : wr.cell? ⟨b, o + k, none⟩ = some (.int .i64 xs[k]) := by rw [Hb.out.cell (p := ⟨b, o + k, none⟩) hS]; exact hc.out k hlt
        have hxk := Lib.hid (Hx.out xs[k] (List.getElem_mem hlt))
        have hPk : k < P.length := by rw [HPl.out]; exact hlt
        have hs := Lib.hid (take_snoc hk1 hPk)
        have hg := Lib.hid (hPg.out k hlt hPk)
        have hjb : (Lib.join (P.take k) [44]).length ≤ k * (21 + 1) := by
          have := join_bound (P := P.take k) (b := 21) (fun p hp => hP8.out p (List.mem_of_mem_take hp))
          rw [List.length_take, Nat.min_eq_left (by omega)] at this
          exact this
        have hh8 := Lib.itoa_length_le xs[k] hxk.out.1 hxk.out.2
        rw [hg.out] at hs
        generalize hxv : xs[k] = x at *
        have g1 : ¬ 9223372036854775807 < 1 + (bs (Lib.itoa x)).size := by rw [bs_size]; omega
        have g2 : ¬ 9223372036854775807 < (bs (Lib.join (P.take k) [44])).size + (1 + (bs (Lib.itoa x)).size) := by rw [bs_size, bs_size]; omega
        clear hxv hg
        go_wp2_with fail
        refine (sdec_any _ hxk.out.1 hxk.out.2 wr).mono ?_
        rintro e w2 ⟨rfl, hb2⟩
        have Hb2 := Lib.hid hb2
        have hzr := Hb.out.size
        clear hb2
        go_wp2_with fail
        exact ⟨⟨k + 1, by omega, by omega, by go_num, by rw [comma_bs, hs.out], Hb.out.trans (Hb2.out.mono hzr)⟩, by simp [intOf]; omega⟩
      · obtain rfl : k = xs.length := by omega
        have ht : Hid (bs (Lib.join (P.take xs.length) [44]) = bs (textP P)) := Lib.hid (by rw [← HPl.out, List.take_length, textP_pos (by rw [HPl.out]; omega)])
        go_wp2_with fail
        go_ret
        exact ⟨by rw [ht.out]; rfl, Hb.out⟩
end Go.Proofs.YtljkgemkolmihaaDoor
