/- The reference's JournalOf. -/
import Derived.Test.YtljkgemkolmihaaDoorD7
namespace Go.Proofs.YtljkgemkolmihaaDoor
open Go.RowKit

/-- the lengths of k lines, three more each -/
def totTo (L : List (List UInt8)) : Nat → Nat
  | 0 => 0
  | k + 1 => totTo L k + ((L.getD k []).length + 3)
theorem totTo_succ (L : List (List UInt8)) (k : Nat) (h : k < L.length) : totTo L (k + 1) = totTo L k + (L[k].length + 3) := by
  rw [totTo]; simp [List.getD_eq_getElem?_getD, h]
theorem totTo_3 (L : List (List UInt8)) (k : Nat) : 3 * k ≤ totTo L k := by
  induction k with
  | zero => simp
  | succ k ih => rw [totTo]; omega
theorem totTo_le_jrn (L : List (List UInt8)) (k : Nat) : totTo L k ≤ (jrnTo L k).length := by
  induction k with
  | zero => simp [totTo]
  | succ k ih =>
    rw [totTo, jrnTo, List.length_append]
    have := entry_len (chkTo L (k + 1)) (L.getD k [])
    omega
theorem jrn_le_totTo (L : List (List UInt8)) (k : Nat) : (jrnTo L k).length ≤ totTo L k + 20 * k := by
  induction k with
  | zero => simp [jrnTo]
  | succ k ih =>
    rw [totTo, jrnTo, List.length_append]
    have hb := chkTo_bound L (k + 1)
    have := entry_le (chkTo L (k + 1)) hb.1 hb.2 (L.getD k [])
    omega
theorem totTo_mono (L : List (List UInt8)) (j k : Nat) (h : j ≤ k) : totTo L j ≤ totTo L k := by
  induction k with
  | zero => have : j = 0 := by omega
            subst this; exact Nat.le_refl _
  | succ k ih =>
    by_cases e : j = k + 1
    · subst e; exact Nat.le_refl _
    · have := ih (by omega)
      rw [totTo]; omega

set_option maxRecDepth 100000 in
set_option maxHeartbeats 4000000 in
theorem sjournal_any (a : Option Addr) (c : Nat) (L : List (List UInt8)) (w : World) (hn : L.length ≤ 1048576) (hm : ∀ p ∈ L, p.length ≤ 1048576) (hj : (jrn L).length ≤ 1000000) (h : Rd (· < w.heap.size) w a (L.map sv)) :
    Calls Tryd.prog 30 #[.slice a L.length c] w (TextOf (jrn L) w) := by
  have Hm := Lib.hid hm
  have Hr := Lib.hid h
  have HJ := Lib.hid hj
  clear hm h hj
  go_enter Tryd.func30, Tryd.ntmps30
  go_wp2_with fail
  go_loopw [3, 4, 5] (fun t q i wr => ∃ k : Nat, k ≤ L.length ∧ i = .int .i64 k ∧ q = .int .i64 (chkTo L k) ∧ t = .string (bs (jrnTo L k)) ∧ Below w.heap.size w wr) (fun _ _ i _ => L.length - (intOf i).toNat)
  case atStart => exact ⟨0, Nat.zero_le _, rfl, rfl, rfl, Below.refl _ _⟩
  case round =>
    obtain ⟨k, hk, rfl, rfl, rfl, hb⟩ := hrel
    have Hb := Lib.hid hb
    have hz := hb.size
    have hc := chkTo_bound L k
    clear hb
    generalize hq : chkTo L k = q at *
    have Hq := Lib.hid hq
    clear hq
    by_cases hlt : k < L.length
    · obtain ⟨b, o, rfl, hSb, hc0⟩ := Hr.out.strAt k hlt
      have hcell : wr.cell? ⟨b, o + k, none⟩ = some (.string (bs L[k])) := by rw [Hb.out.cell (p := ⟨b, o + k, none⟩) hSb]; exact hc0
      clear hc0
      have hll : L[k].length ≤ 1048576 := Hm.out _ (List.getElem_mem hlt)
      go_wp2_with fail
      refine (scheck_any q hc.1 hc.2 L[k] (by omega) wr).mono ?_
      rintro e w' ⟨rfl, hw0⟩
      obtain rfl := hw0.symm
      clear hw0
      have hq2 := chkF_bound L[k] q hc.1 hc.2
      have Hs := Lib.hid (jrnTo_succ L k hlt)
      have Hq2 := Lib.hid (chkTo_succ L k hlt)
      have hmono := jrnTo_mono L (k + 1) L.length hlt
      have hjl : (jrnTo L (k + 1)).length ≤ 1000000 := by have := HJ.out; unfold jrn at this; omega
      rw [Hq.out] at Hs Hq2
      generalize hr : chkF q L[k] = r at *
      have HR := Lib.hid hr
      have hil := Lib.itoa_length_le r (by omega) (by omega)
      clear hr
      have hjl2 : (jrnTo L k).length + (entry r L[k]).length ≤ 1000000 := by have := Hs.out; rw [this, List.length_append] at hjl; exact hjl
      have hcell2 : wr.drew.cell? ⟨b, o + k, none⟩ = some (.string (bs L[k])) := hcell
      have hbz2 : b < wr.drew.heap.size := by simp; omega
      have g1 : ¬ 9223372036854775807 < (bs (Lib.itoa r)).size + 1 := by rw [bs_size]; omega
      have g2 : ¬ 9223372036854775807 < (bs (Lib.itoa r)).size + 1 + (bs L[k]).size := by rw [bs_size, bs_size]; omega
      have g3 : ¬ 9223372036854775807 < (bs (Lib.itoa r)).size + 1 + (bs L[k]).size + 1 := by rw [bs_size, bs_size]; omega
      have g4 : ¬ 9223372036854775807 < (bs (jrnTo L k)).size + ((bs (Lib.itoa r)).size + 1 + (bs L[k]).size + 1) := by rw [bs_size, bs_size, bs_size]; omega
      have hk2 : (0 : Int) ≤ (k : Int) := by omega
      have hk3 : (k : Int) < (L.length : Int) := by omega
      go_wp2_with fail
      go_region_held3 (fun w' => w'.cell? ⟨b, o + k, none⟩ = some (.string (bs L[k])))
        (first | go_keep | (rw [hcx _ _ hbz2]; assumption))
        ((go_at_call 56; refine (sdec_any r (by omega) (by omega) _).mono ?_; rintro e w1 ⟨rfl, hb1⟩; obtain ⟨hcx, hfx⟩ := bcell hb1; have Hb1 := Lib.hid hb1; clear hb1))
      go_wp2_with fail
      exact ⟨⟨k + 1, by omega, by go_num, by rw [Hq2.out], by rw [entry_bs, bs_append, Hs.out], Hb.out.drew.trans (Hb1.out.mono (by simp; omega))⟩, by simp [intOf]; omega⟩
    · obtain rfl : k = L.length := by omega
      go_wp2_with fail
      go_ret
      exact ⟨rfl, Hb.out⟩

theorem jV_tot {L : List (List UInt8)} (k : Nat) (h : k ≤ L.length) (hn : 12000 < totTo L k) : jV L = .tuple #[.string (bs []), .bool false] :=
  jV_long k h (by have := totTo_le_jrn L k; omega)

set_option maxRecDepth 100000 in
set_option maxHeartbeats 4000000 in
theorem sjournalOf_any (a : Option Addr) (c : Nat) (L : List (List UInt8)) (w : World) (hn : L.length ≤ 1048576) (hm : ∀ p ∈ L, p.length ≤ 1048576) (h : Rd (· < w.heap.size) w a (L.map sv)) :
    Calls Tryd.prog 11 #[.slice a L.length c] w fun e w' => e = .returned (jV L) ∧ Below w.heap.size w w' := by
  have Hm := Lib.hid hm
  have Hr := Lib.hid h
  clear hm h
  go_enter Tryd.func11, Tryd.ntmps11
  go_wp2_with fail
  go_loopw [4, 5, 6] (fun t i _ wr => ∃ k : Nat, k ≤ L.length ∧ i = .int .i64 k ∧ t = .int .i64 (totTo L k) ∧ totTo L k ≤ 12000 ∧ (L.take k).all (fun l => !nlB l) = true ∧ wr = w) (fun _ i _ _ => L.length - (intOf i).toNat)
  case atStart => exact ⟨0, Nat.zero_le _, rfl, rfl, by simp [totTo], by simp, rfl⟩
  case round =>
    obtain ⟨k, hk, rfl, rfl, htot, hall, rfl⟩ := hrel
    have Hall := Lib.hid hall
    clear hall
    by_cases hlt : k < L.length
    · obtain ⟨b, o, rfl, hSb, hcell⟩ := Hr.out.strAt k hlt
      have hll : L[k].length ≤ 1048576 := Hm.out _ (List.getElem_mem hlt)
      have Hs := Lib.hid (totTo_succ L k hlt)
      have hsz : ((bs L[k]).size : Int) = (L[k].length : Int) := by rw [bs_size]
      have hszN : (bs L[k]).size = L[k].length := bs_size _
      have HszN := Lib.hid hszN
      clear hszN
      generalize htk : totTo L k = tk at *
      by_cases h1 : 12000 < tk + (L[k].length + 3)
      · have Hv := Lib.hid (jV_tot (k + 1) hlt (by rw [Hs.out]; exact h1))
        have h1' : (12000 : Int) < (tk : Int) + (((bs L[k]).size : Int) + 3) := by omega
        have hbd : (bs L[k]).size ≤ 1048576 := by rw [HszN.out]; exact hll
        clear hsz htk
        go_wp2_with fail
        go_ret2
        exact ⟨by rw [Hv.out]; rfl, Below.refl _ _⟩
      · have h1' : ¬ (12000 : Int) < (tk : Int) + (((bs L[k]).size : Int) + 3) := by omega
        have hbd : (bs L[k]).size ≤ 12000 := by rw [HszN.out]; omega
        clear hsz htk
        go_wp2_with fail
        obtain ⟨wo, hwo⟩ : ∃ wo : World, wo = wr := ⟨_, rfl⟩
        subst hwo
        go_loopw [6] (fun q wi => ∃ j : Nat, j ≤ (bs L[k]).size ∧ q = .int .i64 j ∧ (∀ x (hx : x < L[k].length), x < j → L[k][x] ≠ 10) ∧ wi = wo) (fun q _ => (bs L[k]).size - (intOf q).toNat)
        case atStart => exact ⟨0, Nat.zero_le _, rfl, fun x _ h => by omega, rfl⟩
        case round =>
          obtain ⟨j, hj, rfl, hno, rfl⟩ := hrel
          have Hno := Lib.hid hno
          clear hno
          by_cases hjl : j < (bs L[k]).size
          · have hjl2 : j < L[k].length := by rw [← HszN.out]; exact hjl
            have hge : (bs L[k])[j] = L[k][j] := rfl
            have Hge := Lib.hid hge
            clear hge
            by_cases hc : L[k][j] = 10
            · have hq : (((bs L[k])[j].toNat : Int) == 10) = true := by rw [Hge.out, hc]; rfl
              have Hv := Lib.hid (jV_nl k hlt (nlB_at j hjl2 hc))
              clear hc Hge
              go_wp2_with fail
              go_ret2
              exact ⟨by rw [Hv.out]; rfl, Below.refl _ _⟩
            · have hq : (((bs L[k])[j].toNat : Int) == 10) = false := by
                rw [Hge.out, beq_eq_false_iff_ne]
                intro h
                exact hc (UInt8.toNat_inj.1 (by have : (10 : UInt8).toNat = 10 := rfl; omega))
              have Hc := Lib.hid hc
              clear hc Hge
              go_wp2_with fail
              exact ⟨⟨j + 1, by omega, by go_num, fun x hx hxj => by
                by_cases e : x = j
                · subst e; exact Hc.out
                · exact Hno.out x hx (by omega), trivial⟩, by simp [intOf]; omega⟩
          · have hno2 : Hid (nlB L[k] = false) := Lib.hid (nlB_no (fun x hx => Hno.out x hx (by rw [← HszN.out] at hx; omega)))
            have hcast : Hid ((tk : Int) + (((bs L[k]).size : Int) + 3) = ((totTo L (k + 1) : Nat) : Int)) := Lib.hid (by rw [Hs.out, HszN.out]; omega)
            go_wp2_with fail
            refine ⟨⟨k + 1, by omega, by go_num, by rw [hcast.out], by rw [Hs.out]; omega, all_snoc hlt Hall.out hno2.out, trivial⟩, by simp [intOf]; omega⟩
    · obtain rfl : k = L.length := by omega
      have hall2 : L.all (fun l => !nlB l) = true := by have := Hall.out; rwa [List.take_length] at this
      have hjl : (jrn L).length ≤ 1000000 := by
        have h1 := jrn_le_totTo L L.length
        have h2 := totTo_3 L L.length
        unfold jrn; omega
      go_wp2_with fail
      refine (sjournal_any a c L wr hn Hm.out hjl Hr.out).mono ?_
      rintro e w1 ⟨rfl, hb1⟩
      have Hb1 := Lib.hid hb1
      clear hb1
      have hsz : (bs (jrn L)).size = (jrn L).length := bs_size _
      by_cases h3 : 12000 < (jrn L).length
      · have Hv := Lib.hid (jV_long L.length (Nat.le_refl _) (by unfold jrn at h3; exact h3))
        have h3' : (12000 : Int) < ((bs (jrn L)).size : Int) := by omega
        clear hall2 hsz
        go_wp2_with fail
        go_ret2
        exact ⟨by rw [Hv.out]; rfl, Hb1.out⟩
      · have Hv := Lib.hid (jV_yes hall2 (by omega))
        have h3' : ¬ (12000 : Int) < ((bs (jrn L)).size : Int) := by omega
        clear hall2 hsz
        go_wp2_with fail
        go_ret2
        exact ⟨by rw [Hv.out]; rfl, Hb1.out⟩
end Go.Proofs.YtljkgemkolmihaaDoor
