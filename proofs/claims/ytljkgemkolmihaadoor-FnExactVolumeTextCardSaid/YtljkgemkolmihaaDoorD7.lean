/- The program's JournalOf. -/
import Derived.Test.YtljkgemkolmihaaDoorD6
namespace Go.Proofs.YtljkgemkolmihaaDoor
open Go.RowKit

theorem ret_two {a b : Value} {v : Value} (h : v = .tuple #[a, b]) : Ending.returned (.tuple #[a, b]) = .returned v := by rw [h]
/-- what is written behind k lines -/
theorem entry_bs (n : Int) (l : List UInt8) : bs (Lib.itoa n) ++ (⟨#[32]⟩ : ByteArray) ++ bs l ++ (⟨#[10]⟩ : ByteArray) = bs (entry n l) := by
  have e1 : (⟨#[32]⟩ : ByteArray) = bs [32] := rfl
  have e2 : (⟨#[10]⟩ : ByteArray) = bs [10] := rfl
  rw [e1, e2, bs_append, bs_append, bs_append]
  simp [entry]

set_option maxRecDepth 100000 in
set_option maxHeartbeats 4000000 in
theorem journal_any (a : Option Addr) (c : Nat) (L : List (List UInt8)) (w : World) (hn : L.length ≤ 1048576) (hm : ∀ p ∈ L, p.length ≤ 1048576) (h : Rd (· < w.heap.size) w a (L.map sv)) (hl : Lid w) :
    Calls Tryd.prog 13 #[.slice a L.length c] w fun e w' => e = .returned (jV L) ∧ Below w.heap.size w w' := by
  have Hm := Lib.hid hm
  have Hr := Lib.hid h
  have Hl := Lib.hid hl
  clear hm h hl
  go_enter Tryd.func13, Tryd.ntmps13
  go_wp2_with fail
  go_loopw [5, 7, 11] (fun q x i wr => ∃ k : Nat, k ≤ L.length ∧ i = .int .i64 k ∧ q = .int .i64 (chkTo L k) ∧ (L.take k).all (fun l => !nlB l) = true ∧ (jrnTo L k).length ≤ 30000 ∧ JB w (jrnTo L k) wr) (fun _ _ i _ => L.length - (intOf i).toNat)
  case atStart => exact ⟨0, Nat.zero_le _, rfl, rfl, by simp, by simp [jrnTo], ⟨Lib.fresh_isBuilder _ _ w, (Below.refl _ _).alloc (Nat.le_refl _) _, by simp⟩⟩
  case round =>
    obtain ⟨k, hk, rfl, rfl, hall, hjl, hjb⟩ := hrel
    have Hj := Lib.hid hjb
    have Hall := Lib.hid hall
    have hz := hjb.size
    have hc := chkTo_bound L k
    clear hjb hall
    generalize hq : chkTo L k = q at *
    have Hq := Lib.hid hq
    clear hq
    have hbl : Hid (Lib.IsBuilder 61 5 w.heap.size w.heap.size (Lib.byteCells (jrnTo L k)) wr) := Lib.hid Hj.out.bld
    have hblen : ((Lib.byteCells (jrnTo L k)).length : Int) = ((jrnTo L k).length : Int) := by rw [byteCells_length]
    by_cases hlt : k < L.length
    · obtain ⟨b, o, rfl, hSb, hc0⟩ := Hr.out.strAt k hlt
      have hcell : wr.cell? ⟨b, o + k, none⟩ = some (.string (bs L[k])) := by rw [Hj.out.below.cell (p := ⟨b, o + k, none⟩) hSb]; exact hc0
      clear hc0
      have hsz : ((bs L[k]).size : Int) = (L[k].length : Int) := by rw [bs_size]
      have hll : L[k].length ≤ 1048576 := Hm.out _ (List.getElem_mem hlt)
      by_cases h1 : 12000 < L[k].length
      · have Hv := Lib.hid (jV_line k hlt h1)
        have h1' : (12000 : Int) < ((bs L[k]).size : Int) := by omega
        clear hsz hblen
        go_wp2_with fail
        go_ret2
        exact ⟨by rw [Hv.out]; rfl, Hj.out.below⟩
      · cases hnl : nlB L[k]
        · by_cases h3 : 12000 < (jrnTo L k).length
          · have Hv := Lib.hid (jV_long k hk h3)
            have h1' : ¬ (12000 : Int) < ((bs L[k]).size : Int) := by omega
            have Hnl := Lib.hid hnl
            have h3' : (12000 : Int) < ((Lib.byteCells (jrnTo L k)).length : Int) := by omega
            clear hsz hnl hblen
            go_wp2_with (first
              | (go_at_call 31; refine (contains_is _ Hnl _).mono ?_; rintro e w' ⟨rfl, hw0⟩; obtain rfl := hw0.symm)
              | (go_at_call 32; refine (Tryd.Builder_Len _ _ _ _ hbl.out).mono ?_; rintro e w' ⟨rfl, hw0⟩; obtain rfl := hw0.symm))
            go_ret2
            exact ⟨by rw [Hv.out]; rfl, Hj.out.below⟩
          · have h1' : ¬ (12000 : Int) < ((bs L[k]).size : Int) := by omega
            have Hnl := Lib.hid hnl
            have h3' : ¬ (12000 : Int) < ((Lib.byteCells (jrnTo L k)).length : Int) := by omega
            clear hsz hnl hblen
            go_wp2_with (first
              | (go_at_call 31; refine (contains_is _ Hnl _).mono ?_; rintro e w' ⟨rfl, hw0⟩; obtain rfl := hw0.symm)
              | (go_at_call 32; refine (Tryd.Builder_Len _ _ _ _ hbl.out).mono ?_; rintro e w' ⟨rfl, hw0⟩; obtain rfl := hw0.symm)
              | fail)
            refine (check_any q hc.1 hc.2 L[k] (by omega) wr).mono ?_
            rintro e w' ⟨rfl, hw0⟩
            obtain rfl := hw0.symm
            clear hw0
            have hq2 := chkF_bound L[k] q hc.1 hc.2
            have Hs := Lib.hid (jrnTo_succ L k hlt)
            have Hq2 := Lib.hid (chkTo_succ L k hlt)
            have hen := entry_le (chkF q L[k]) hq2.1 hq2.2 L[k]
            have hil := Lib.itoa_length_le (chkF q L[k]) (by omega) (by omega)
            have hll2 : L[k].length ≤ 12000 := by rw [bs_size] at h1'; omega
            rw [Hq.out] at Hs Hq2
            generalize hr : chkF q L[k] = r at *
            have HR := Lib.hid hr
            clear hr
            go_wp2_with fail
            refine (decimal_any r (by omega) (by omega) wr (Hl.out.below Hj.out.below)).mono ?_
            rintro e w1 ⟨rfl, hb1⟩
            have Hj1 := Lib.hid (Hj.out.next hb1)
            clear hb1
            have g1 : ¬ 9223372036854775807 < (bs (Lib.itoa r)).size + 1 := by rw [bs_size]; omega
            have g2 : ¬ 9223372036854775807 < (bs (Lib.itoa r)).size + 1 + (bs L[k]).size := by rw [bs_size, bs_size]; omega
            have g3 : ¬ 9223372036854775807 < (bs (Lib.itoa r)).size + 1 + (bs L[k]).size + 1 := by rw [bs_size, bs_size]; omega
            have hes : Hid ((bs (Lib.itoa r) ++ (⟨#[32]⟩ : ByteArray) ++ bs L[k] ++ (⟨#[10]⟩ : ByteArray)).size ≤ 30000) := Lib.hid (by rw [entry_bs, bs_size]; omega)
            go_wp2_with fail
            refine (write_any w.heap.size w.heap.size (Lib.byteCells (jrnTo L k)) _ w1 Hj1.out.bld (by have := hes.out; rw [byteCells_length]; omega) (by have := Hj1.out.size; omega)).mono ?_
            rintro e w2 ⟨rfl, hb2⟩
            rw [entry_bs] at hb2
            have Hj2 := Lib.hid (Hj1.out.write hb2)
            clear hb2
            go_wp2_with fail
            have hfin : jrnTo L (k + 1) = jrnTo L k ++ entry r L[k] := Hs.out
            refine ⟨⟨k + 1, by omega, by go_num, by rw [Hq2.out], all_snoc hlt Hall.out Hnl.out, ?_, ?_⟩, by simp [intOf]; omega⟩
            · rw [hfin, List.length_append]; omega
            · rw [hfin]; exact Hj2.out
        · have Hv := Lib.hid (jV_nl k hlt hnl)
          have h1' : ¬ (12000 : Int) < ((bs L[k]).size : Int) := by omega
          have Hnl := Lib.hid hnl
          clear hsz hnl hblen
          go_wp2_with (go_at_call 31; refine (contains_is _ Hnl _).mono ?_; rintro e w' ⟨rfl, hw0⟩; obtain rfl := hw0.symm)
          go_ret2
          exact ⟨by rw [Hv.out]; rfl, Hj.out.below⟩
    · obtain rfl : k = L.length := by omega
      have hall2 : L.all (fun l => !nlB l) = true := by have := Hall.out; rwa [List.take_length] at this
      by_cases h3 : 12000 < (jrnTo L L.length).length
      · have Hv := Lib.hid (jV_long L.length (Nat.le_refl _) h3)
        have h3' : (12000 : Int) < ((Lib.byteCells (jrnTo L L.length)).length : Int) := by omega
        clear hblen hall2
        go_wp2_with (go_at_call 32; refine (Tryd.Builder_Len _ _ _ _ hbl.out).mono ?_; rintro e w' ⟨rfl, hw0⟩; obtain rfl := hw0.symm)
        go_ret2
        exact ⟨by rw [Hv.out]; rfl, Hj.out.below⟩
      · have Hv := Lib.hid (jV_yes hall2 (by unfold jrn; omega))
        have h3' : ¬ (12000 : Int) < ((Lib.byteCells (jrnTo L L.length)).length : Int) := by omega
        clear hblen hall2
        go_wp2_with (first
          | (go_at_call 32; refine (Tryd.Builder_Len _ _ _ _ hbl.out).mono ?_; rintro e w' ⟨rfl, hw0⟩; obtain rfl := hw0.symm)
          | (go_at_call 36; refine (Tryd.Builder_String_any _ _ _ _ hbl.out (by omega)).mono ?_; rintro e w1 ⟨rfl, hb1⟩; have Hb1 := Lib.hid hb1; clear hb1))
        go_ret2
        exact ⟨by rw [Hv.out]; rfl, Hj.out.below.trans Hb1.out⟩
end Go.Proofs.YtljkgemkolmihaaDoor
