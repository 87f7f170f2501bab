/- The program's bytes of an album. -/
import Derived.Test.YtljkgemkolmihaaB5
import Derived.Test.YtljkgemkolmihaaV2
import Derived.Test.YtljkgemkolmihaaC4
namespace Go.Proofs.Ytljkgemkolmihaa
open Go.RowKit

/-- the bytes behind one picture more -/
def frameL (out : List UInt8) (p : PV) : List UInt8 := out ++ picL p.W p.H p.xs ++ bytesL (chk (out ++ picL p.W p.H p.xs)) 2
def albL (ps : List PV) : List UInt8 := ps.foldl frameL []
theorem albL_take (ps : List PV) (j : Nat) (h : j < ps.length) : albL (ps.take (j + 1)) = frameL (albL (ps.take j)) ps[j] := by
  unfold albL
  rw [← List.take_append_getElem h, List.foldl_append]
  rfl
theorem picL_length (W H : Int) (xs : List Nat) : (picL W H xs).length = 6 + 4 * xs.length := by simp [picL, headL_length, numsL_length]
theorem frameL_length (out : List UInt8) (p : PV) : (frameL out p).length = out.length + 8 + 4 * p.xs.length := by simp [frameL, picL_length, bytesL_length]; omega
theorem albL_length (ps : List PV) (hm : ∀ p ∈ ps, p.xs.length ≤ 256) (j : Nat) (h : j ≤ ps.length) : (albL (ps.take j)).length ≤ 1032 * j := by
  induction j with
  | zero => simp [albL]
  | succ j ih =>
    rw [albL_take ps j (by omega), frameL_length]
    have := ih (by omega)
    have := hm _ (List.getElem_mem (show j < ps.length by omega))
    omega
/-- what StoreAlbum hands back -/
def storeV (ps : List PV) : Value := if albB ps then .tuple #[.string ⟨(albL ps).toArray⟩, .bool true] else .tuple #[.string ⟨#[]⟩, .bool false]
theorem PV.ok_len {p : PV} (h : p.ok = true) : p.xs.length ≤ 256 := by
  simp only [PV.ok, picB, Bool.and_eq_true, decide_eq_true_eq] at h
  have := sizeB_iff.1 h.1
  omega
theorem albB_len {ps : List PV} (h : albB ps = true) : ps.length ≤ 8 ∧ ∀ p ∈ ps, p.xs.length ≤ 256 := by
  simp only [albB, Bool.and_eq_true, decide_eq_true_eq, List.all_eq_true] at h
  exact ⟨h.1, fun p hp => PV.ok_len (h.2 p hp)⟩

set_option maxRecDepth 100000 in
set_option maxHeartbeats 4000000 in
theorem store_any (a : Option Addr) (c : Nat) (ps : List PV) (w : World) (hn : ps.length ≤ 1048576) (hm : ∀ p ∈ ps, p.xs.length ≤ maxLen) (hok : ∀ p ∈ ps, ∀ x ∈ p.xs, okF x) (h : Pics (· < w.heap.size) w a ps) :
    Calls Try.prog 18 #[.agg #[.slice a ps.length c]] w fun e w' => e = .returned (storeV ps) ∧ Below w.heap.size w w' := by
  have Hm := Lib.hid hm
  have Hok := Lib.hid hok
  have H0 := Lib.hid h
  have H1 := Lib.hid (h.keep ((Only.refl (fun _ => False) w).alloc (.cells #[.slice a ps.length c] 32)) (fun _ _ h => h))
  clear hm hok h
  cases hv : albB ps
  · have hs : storeV ps = .tuple #[.string ⟨#[]⟩, .bool false] := by simp [storeV, hv]
    rw [hs]
    have Hv := Lib.hid hv
    clear hv hs
    go_enter Try.func18, Try.ntmps18
    go_wp2_with (go_at_call 38; refine (validAlbum_any w.heap.size a c ps _ hn Hm.out H1.out (by simp)).mono ?_; rw [Hv.out]; rintro e w1 ⟨rfl, hb1⟩)
    go_ret2
    exact ⟨rfl, ((Below.refl _ _).alloc (Nat.le_refl _) _).trans hb1⟩
  · have hs : storeV ps = .tuple #[.string ⟨(albL ps).toArray⟩, .bool true] := by simp [storeV, hv]
    rw [hs]
    have HL := Lib.hid (albB_len hv)
    have Hv := Lib.hid hv
    clear hv hs
    have h8 := HL.out.1
    go_enter Try.func18, Try.ntmps18
    go_wp2_with (go_at_call 38; go_must (refine (validAlbum_any (w.heap.size + 1) a c ps _ hn Hm.out (H1.out.mono (fun k hk => Nat.lt_succ_of_lt hk)) (by simp)).mono ?_); rw [Hv.out]; rintro e w1 ⟨rfl, hb1⟩; have c0 : w1.cell? ⟨w.heap.size, 0, none⟩ = some (.slice a ps.length c) := by rw [hb1.cell (p := ⟨w.heap.size, 0, none⟩) (by simp)]; simp [go_sem])
    have hz1 := hb1.size
    simp only [World.size_alloc] at hz1
    have B1 : Hid (Below w.heap.size w w1) := Lib.hid (((Below.refl _ _).alloc (Nat.le_refl _) _).trans (hb1.mono (by omega)))
    clear hb1 H1
    go_loopw [15, 4] (fun i q wr => ∃ j : Nat, j ≤ ps.length ∧ i = .int .i64 j ∧ q = .string ⟨(albL (ps.take j)).toArray⟩ ∧ Below w.heap.size w wr) (fun i _ _ => ps.length - (intOf i).toNat)
    case atStart => exact ⟨0, Nat.zero_le _, rfl, by simp [albL], B1.out⟩
    case round =>
      obtain ⟨j, hj, rfl, rfl, hb⟩ := hrel
      have hzr := hb.size
      have B2 := Lib.hid hb
      have hll := albL_length ps HL.out.2 j hj
      obtain ⟨l, hl⟩ : ∃ l, l = albL (ps.take j) := ⟨_, rfl⟩
      rw [← hl] at hll ⊢
      have Hl := Lib.hid hl
      clear hb B1 c0 hl
      by_cases hlt : j < ps.length
      · have hi1 : (j : Int) < (ps.length : Int) := by omega
        have hi0 : (0 : Int) ≤ (j : Int) := by omega
        obtain ⟨b1, o1, rfl, hS1, h10, h11, h12⟩ := (H0.out.below B2.out).at j hlt
        have hpl := HL.out.2 _ (List.getElem_mem hlt)
        have Hr := Lib.hid ((H0.out.2 _ (List.getElem_mem hlt)).below B2.out)
        have Ho := Lib.hid (Hok.out _ (List.getElem_mem hlt))
        have hne : b1 ≠ wr.heap.size := by omega
        have Ht := Lib.hid (albL_take ps j hlt)
        generalize ps[j] = p at h10 h11 h12 hpl Hr Ho Ht
        obtain ⟨W, H, a', c', xs⟩ := p
        simp only at h10 h11 h12 hpl Hr Ho Ht
        have hp1 : (picL W H xs).length ≤ 1030 := by rw [picL_length]; omega
        have hp2 : l.length ≤ 8256 := by omega
        have hp3 : ∀ n, (bytesL n 2).length = 2 := fun n => bytesL_length n 2
        have hs1 : ¬ 9223372036854775807 < l.length + (picL W H xs).length := by omega
        have hs2 : ¬ 9223372036854775807 < l.length + (picL W H xs).length + 2 := by omega
        go_wp2_with (first
          | (go_at_call 45
             go_must (refine (stored_any W H a' c' xs _ (by omega) Ho.out ((Hr.out.alloc _).mono (fun k hk => by simp at hk ⊢; omega))).mono ?_)
             rintro e y1 ⟨rfl, hb1⟩
             have S1 : Hid (Below w.heap.size w y1) := Lib.hid ((B2.out.alloc hzr _).trans (hb1.mono (by simp; omega)))
             clear hb1)
          | (go_at_call 46
             rw [ba_append]
             go_must (refine (check_any _ (by rw [List.length_append]; omega) _).mono ?_)
             rintro e y2 ⟨rfl, rfl⟩)
          | (go_at_call 47
             go_must (refine (bytesOf2 _ _).mono ?_)
             rintro e y3 ⟨rfl, hb3⟩
             have S3 : Hid (Below w.heap.size w y3) := Lib.hid (S1.out.trans (hb3.mono (by have := S1.out.size; omega)))
             clear hb3))
        refine ⟨⟨j + 1, by omega, by simp, ?_, S3.out⟩, by simp [intOf]; omega⟩
        rw [ba_append, Ht.out, ← Hl.out]
        rfl
      · have : j = ps.length := by omega
        have hi1 : ¬ (j : Int) < (ps.length : Int) := by omega
        obtain rfl : l = albL ps := by rw [Hl.out, this, List.take_length]
        go_wp2_with fail
        go_ret2
        exact ⟨rfl, B2.out⟩
end Go.Proofs.Ytljkgemkolmihaa
