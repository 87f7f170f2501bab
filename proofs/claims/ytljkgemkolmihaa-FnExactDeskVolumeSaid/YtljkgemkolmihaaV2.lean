/- Validity of albums: the program's words and the reference's. -/
import Derived.Test.YtljkgemkolmihaaV1
import Derived.Test.YtljkgemkolmihaaP4
namespace Go.Proofs.Ytljkgemkolmihaa
open Go.RowKit

def PV.ok (p : PV) : Bool := picB p.W p.H p.xs.length

/-- ValidAlbum's function: not a right picture -/
theorem notValid_any (W H : Int) (a : Option Addr) (n c : Nat) (hn : n ≤ maxLen) (w : World) :
    Calls Try.prog 60 #[.agg #[.int .i64 W, .int .i64 H, .slice a n c]] w fun e w' => e = .returned (.bool !picB W H n) ∧ Below w.heap.size w w' := by
  go_enter Try.func60, Try.ntmps60
  go_wp2_with (go_at_call 61; refine (valid_any _ _ _ _ _ hn _).mono ?_; rintro e w' ⟨rfl, hb⟩)
  go_ret
  exact ⟨rfl, ((Below.refl _ _).alloc (Nat.le_refl _) _).trans (hb.mono (by simp))⟩

theorem all_take_succ {ps : List PV} {j : Nat} (hj : j < ps.length) (h : (ps.take j).all PV.ok = true) (hp : ps[j].ok = true) : (ps.take (j + 1)).all PV.ok = true := by
  rw [List.take_succ_eq_append_getElem hj, List.all_append, h]; simp [hp]
theorem all_no {ps : List PV} {j : Nat} (hj : j < ps.length) (hp : ps[j].ok = false) : ps.all PV.ok = false := by
  rw [List.all_eq_false]; exact ⟨ps[j], List.getElem_mem hj, by rw [hp]; simp⟩

set_option maxHeartbeats 400000 in
theorem indexFunc_any (B : Nat) (a : Option Addr) (c : Nat) (ps : List PV) (w : World) (hn : ps.length ≤ 1048576) (hm : ∀ p ∈ ps, p.xs.length ≤ maxLen) (h : Pics (· < B) w a ps) (hB : B ≤ w.heap.size) :
    Calls Try.prog 77 #[.slice a ps.length c, .func (.func 60) #[] #[]] w fun e w' => ∃ r : Int, e = .returned (.int .i64 r) ∧ decide (0 ≤ r) = !ps.all PV.ok ∧ Below B w w' := by
  go_enter Try.func77, Try.ntmps77
  go_wp2
  go_loopw [8] (fun i wr => ∃ (j : Nat), j ≤ ps.length ∧ i = .int .i64 j ∧ (ps.take j).all PV.ok = true ∧ Below B w wr) (fun i _ => ps.length - (intOf i).toNat)
  case atStart => exact ⟨0, Nat.zero_le _, rfl, by simp, Below.refl _ _⟩
  case round =>
    obtain ⟨j, hj, rfl, hall, hbl⟩ := hrel
    by_cases hlt : j < ps.length
    · have hxl : ps[j].xs.length ≤ maxLen := hm _ (List.getElem_mem hlt)
      obtain ⟨b1, o1, rfl, hS1, h10, h11, h12⟩ := (h.below hbl).at j hlt
      have Hs := Lib.hid (fun hp => all_take_succ hlt hall hp)
      have Hn := Lib.hid (fun hp => all_no hlt hp)
      clear h hm hall
      generalize hpj : ps[j] = p at *
      have Hpj := Lib.hid hpj
      clear hpj
      obtain ⟨W, H, a', c', xs⟩ := p
      simp only at h10 h11 h12 hxl
      simp only [PV.ok] at Hs Hn
      cases hok : picB W H xs.length
      · have Hok := Lib.hid hok
        clear hok
        go_wp2_with (go_at_call 60; refine (notValid_any _ _ _ _ _ hxl _).mono ?_; rw [Hok.out]; rintro e w1 ⟨rfl, hb1⟩)
        go_ret
        exact ⟨j, rfl, by rw [Hn.out Hok.out]; simp, hbl.trans (hb1.mono (by have := hbl.size; omega))⟩
      · have Hok := Lib.hid hok
        clear hok
        go_wp2_with (go_at_call 60; refine (notValid_any _ _ _ _ _ hxl _).mono ?_; rw [Hok.out]; rintro e w1 ⟨rfl, hb1⟩)
        go_roundw
        case rel => exact ⟨j + 1, by omega, by go_num, Hs.out Hok.out, hbl.trans (hb1.mono (by have := hbl.size; omega))⟩
        case measure => simp [intOf]; omega
    · clear h hm
      have e : j = ps.length := by omega
      have He := Lib.hid e
      have Hall := Lib.hid hall
      clear e hall
      go_wp2
      go_ret
      refine ⟨-1, rfl, ?_, hbl⟩
      have := Hall.out
      rw [He.out, List.take_length] at this
      rw [this]; rfl

theorem containsFunc_any (B : Nat) (a : Option Addr) (c : Nat) (ps : List PV) (w : World) (hn : ps.length ≤ 1048576) (hm : ∀ p ∈ ps, p.xs.length ≤ maxLen) (h : Pics (· < B) w a ps) (hB : B ≤ w.heap.size) :
    Calls Try.prog 59 #[.slice a ps.length c, .func (.func 60) #[] #[]] w fun e w' => e = .returned (.bool !ps.all PV.ok) ∧ Below B w w' := by
  go_enter Try.func59, Try.ntmps59
  go_wp2_with fail
  refine (indexFunc_any B a c ps _ hn hm h hB).mono ?_
  rintro e w1 ⟨r, rfl, hr, hb⟩
  have Hr := Lib.hid hr
  clear hr h hm
  go_wp2
  go_ret
  exact ⟨by rw [← Hr.out]; rfl, hb⟩

/-- a right album -/
def albB (ps : List PV) : Bool := decide (ps.length ≤ 8) && ps.all PV.ok

theorem validAlbum_any (B : Nat) (a : Option Addr) (c : Nat) (ps : List PV) (w : World) (hn : ps.length ≤ 1048576) (hm : ∀ p ∈ ps, p.xs.length ≤ maxLen) (h : Pics (· < B) w a ps) (hB : B ≤ w.heap.size) :
    Calls Try.prog 38 #[.agg #[.slice a ps.length c]] w fun e w' => e = .returned (.bool (albB ps)) ∧ Below B w w' := by
  by_cases h8 : (ps.length : Int) ≤ 8
  · have e : albB ps = ps.all PV.ok := by simp [albB]; omega
    have He := Lib.hid e
    clear e
    go_enter Try.func38, Try.ntmps38
    go_wp2_with fail
    refine (containsFunc_any B a c ps _ hn hm (h.keep ((Only.refl (fun _ => False) w).alloc _) (fun _ _ h => h)) (by simp; omega)).mono ?_
    rintro e w1 ⟨rfl, hb⟩
    clear h hm
    go_wp2
    go_ret
    exact ⟨by rw [He.out]; simp, ((Below.refl _ _).alloc hB _).trans hb⟩
  · have e : albB ps = false := by simp [albB]; omega
    have He := Lib.hid e
    clear e
    clear h hm
    go_enter Try.func38, Try.ntmps38
    go_wp2
    go_ret
    exact ⟨by rw [He.out]; rfl, (Below.refl _ _).alloc hB _⟩
set_option maxHeartbeats 800000 in
/-- the reference's word for it, by a pointer -/
theorem sAlbum_any (B : Nat) (pb : Nat) (a : Option Addr) (c : Nat) (ps : List PV) (w : World) (hn : ps.length ≤ 1048576) (hm : ∀ p ∈ ps, p.xs.length ≤ maxLen) (h : Pics (· < B) w a ps) (hp : w.cell? ⟨pb, 0, none⟩ = some (.slice a ps.length c)) :
    Calls Try.prog 30 #[.pointer (some ⟨pb, 0, none⟩)] w fun e w' => e = .returned (.bool (albB ps)) ∧ Drew w w' := by
  go_enter Try.func30, Try.ntmps30
  go_wp2
  go_loopw [3] (fun i wr => ∃ (j : Nat), j ≤ ps.length ∧ i = .int .i64 j ∧ (ps.take j).all PV.ok = true ∧ Drew w wr) (fun i _ => ps.length - (intOf i).toNat)
  case atStart => exact ⟨0, Nat.zero_le _, rfl, by simp, Drew.refl _⟩
  case round =>
    obtain ⟨j, hj, rfl, hall, hbl⟩ := hrel
    have hp2 : wr.cell? ⟨pb, 0, none⟩ = some (.slice a ps.length c) := by rw [hbl.cell]; exact hp
    by_cases hlt : j < ps.length
    · have hxl : ps[j].xs.length ≤ maxLen := hm _ (List.getElem_mem hlt)
      obtain ⟨b1, o1, rfl, hS1, h10, h11, h12⟩ := h.at j hlt
      rw [← hbl.cell] at h10 h11 h12
      have Hs := Lib.hid (fun hp => all_take_succ hlt hall hp)
      have Hn := Lib.hid (fun hp => all_no hlt hp)
      clear h hm hall
      generalize hpj : ps[j] = p at *
      have Hpj := Lib.hid hpj
      clear hpj
      obtain ⟨W, H, a', c', xs⟩ := p
      simp only at h10 h11 h12 hxl
      simp only [PV.ok] at Hs Hn
      cases hok : picB W H xs.length
      · have Hok := Lib.hid hok
        clear hok
        go_wp2_with (go_at_call 31; refine (sis_any _ _ _ _ _ _ hxl _ _ _ rfl h10 h11 h12).mono ?_; rw [Hok.out]; rintro e w1 ⟨rfl, hb1⟩)
        go_ret
        have e : albB ps = false := by simp only [albB]; rw [Hn.out Hok.out, Bool.and_false]
        exact ⟨by rw [e]; rfl, hbl.trans hb1⟩
      · have Hok := Lib.hid hok
        clear hok
        go_wp2_with (go_at_call 31; refine (sis_any _ _ _ _ _ _ hxl _ _ _ rfl h10 h11 h12).mono ?_; rw [Hok.out]; rintro e w1 ⟨rfl, hb1⟩)
        go_roundw
        case rel => exact ⟨j + 1, by omega, by go_num, Hs.out Hok.out, hbl.trans hb1⟩
        case measure => simp [intOf]; omega
    · have e : j = ps.length := by omega
      have Hall : albB ps = decide ((ps.length : Int) ≤ 8) := by
        rw [e, List.take_length] at hall
        simp only [albB, hall, Bool.and_true]; simp only [decide_eq_decide]; omega
      have HA := Lib.hid Hall
      clear h hm e hall Hall
      go_wp2
      go_ret
      exact ⟨by rw [HA.out]; rfl, hbl⟩
end Go.Proofs.Ytljkgemkolmihaa
