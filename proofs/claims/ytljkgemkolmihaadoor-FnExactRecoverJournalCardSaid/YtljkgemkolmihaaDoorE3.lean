/- The reference's RecoverJournal. -/
import Derived.Test.YtljkgemkolmihaaDoorE2
namespace Go.Proofs.YtljkgemkolmihaaDoor
open Go.RowKit

theorem idx_at {p : List UInt8} {k : Nat} (hk : k < p.length) (h : p[k] = 32) (hn : ∀ i (hi : i < p.length), i < k → p[i] ≠ 32) : Lib.indexByte p 32 = k := by
  have e : p = p.take k ++ 32 :: p.drop (k + 1) := by
    conv => lhs; rw [← List.take_append_drop k p]
    rw [List.drop_eq_getElem_cons hk, h]
  have h1 := indexByte_app (p.take k) (p.drop (k + 1)) 32 (by
    intro x hx
    obtain ⟨i, hi, rfl⟩ := List.getElem_of_mem hx
    rw [List.length_take] at hi
    rw [List.getElem_take]
    exact hn i (by omega) (by omega))
  rw [← e, List.length_take, Nat.min_eq_left (by omega)] at h1
  exact h1
theorem idx_none {p : List UInt8} (hn : ∀ i (hi : i < p.length), p[i] ≠ 32) : Lib.indexByte p 32 < 0 := by
  have := indexByte_no p 32 (by
    intro x hx
    obtain ⟨i, hi, rfl⟩ := List.getElem_of_mem hx
    exact hn i hi)
  omega
theorem le_lenTo (P : List (List UInt8)) : ∀ k, k ≤ lenTo P k := fun k => by
  induction k with
  | zero => exact Nat.le_refl _
  | succ k ih => rw [lenTo]; omega

/-- what the reference's l08Recover hands back -/
def SRec (P : List (List UInt8)) (w : World) (e : Ending) (w' : World) : Prop :=
  ∃ a c, e = .returned (.tuple #[.slice a (recv 0 P).length c, .int .i64 (lenTo P (recv 0 P).length)]) ∧ Wr (fun b => w.heap.size ≤ b ∧ b < w'.heap.size) w' a ((recv 0 P).map sv) ∧ Below w.heap.size w w'
/-- the state of the reference's loop -/
def SRecRel (P : List (List UInt8)) (w1 : World) (v ck n jv : Value) (wr : World) : Prop :=
  ∃ (j : Nat) (c : Int) (R : List (List UInt8)), RecTo P j c R ∧ n = .int .i64 (lenTo P j) ∧ ck = .int .i64 c ∧ jv = .int .i64 j ∧ wr.ownsRow w1.heap.size 9 1 v R.length (R.map sv) ∧ Below w1.heap.size w1 wr

set_option maxRecDepth 100000 in
set_option maxHeartbeats 8000000 in
theorem srecover_any (s : ByteArray) (w : World) (hs : s.size ≤ 12000) :
    Calls Tryd.prog 37 #[.string s] w (SRec (linesL s.data.toList) w) := by
  obtain ⟨i0, hi, hz0, hz1, hz2⟩ := info_parts infoS
  have hL : Hid (∀ k, k ≤ (linesL s.data.toList).length → lenTo (linesL s.data.toList) k ≤ 12000) := Lib.hid fun k hk => by
    have := lenTo_le s.data.toList k hk
    have hsz : s.data.toList.length = s.size := by rw [Array.length_toList]; rfl
    omega
  go_enter Tryd.func37, Tryd.ntmps37
  go_wp2_with fail
  refine (sLines_any s (by omega) w).mono ?_
  rintro e w1 ⟨a, cA, rfl, hw, hb⟩
  generalize linesL s.data.toList = P at *
  have Hw := Lib.hid (hw.rd.tight.mono (T := (· < w1.heap.size)) (fun k hk => hk.2))
  have Hb := Lib.hid hb
  have hzw := hb.size
  have hPl : P.length ≤ 12000 := by have := hL.out P.length (Nat.le_refl _); have := le_lenTo P P.length; omega
  clear hw hb
  go_wp2_with fail
  go_loopw [6, 7, 8, 9] (fun v ck n jv wr => SRecRel P w1 v ck n jv wr) (fun _ _ _ jv _ => P.length - (intOf jv).toNat)
  case atStart => exact ⟨0, 0, [], RecTo.start _, rfl, rfl, rfl, by simpa using (World.ownsRow_made (e := 9) (size := 1) (base := w1.heap.size) w1 #[] 0 (by simp) (by decide) (by simp)), (Below.refl _ _).alloc (Nat.le_refl _) _⟩
  case round =>
    obtain ⟨j, c, R, hrec, rfl, rfl, rfl, hown, hbr⟩ := hrel
    have hc0 := hrec.c0
    have hc1 := hrec.c1
    have hjl := hrec.jl
    have hAl := hL.out j hjl
    have hzr := hbr.size
    have hRl : R.length ≤ 12000 := by have := hrec.len; omega
    obtain ⟨a2, cc, rfl, hcap, hw2⟩ := Wr.ofOwnsCap hown
    have Hrec := Lib.hid hrec
    have Hown := Lib.hid hown
    have Hbr := Lib.hid hbr
    have Hw2 := Lib.hid hw2
    clear hrec hown hbr hw2
    obtain ⟨A, hA⟩ : ∃ A, A = lenTo P j := ⟨_, rfl⟩
    rw [← hA] at hAl ⊢
    have HA := Lib.hid hA
    clear hA
    have Fin : Hid (recv 0 P = R → ∀ wf, Below wr.heap.size wr wf → SRec P w (.returned (.tuple #[.slice a2 R.length cc, .int .i64 A])) wf) := Lib.hid (fun hR wf hbf => by
      refine ⟨a2, cc, by rw [hR, Hrec.out.len, ← HA.out], ?_, (Hb.out.trans (Hbr.out.mono hzw)).trans (hbf.mono (by omega))⟩
      rw [hR]
      exact (Hw2.out.keep (Only.below hbf) (fun k hk hn => by omega)).mono (fun k hk => ⟨by omega, by have := hbf.size; omega⟩))
    by_cases hlt : j < P.length
    · obtain ⟨b, o, rfl, hSb, hcell0⟩ := Hw.out.strAt j hlt
      have hcell : wr.cell? ⟨b, o + j, none⟩ = some (.string (bs P[j])) := by rw [Hbr.out.cell (p := ⟨b, o + j, none⟩) hSb]; exact hcell0
      have hLs := lenTo_succ P j hlt
      have hA2 := hL.out (j + 1) hlt
      rw [← HA.out] at hLs
      generalize hp : P[j] = p at *
      have Hp := Lib.hid hp
      have HLs := Lib.hid hLs
      have hApl : A + p.length + 1 ≤ 12000 := by omega
      obtain ⟨q, hq⟩ : ∃ q, q = bs p := ⟨_, rfl⟩
      rw [← hq] at hcell
      have hqz : q.size = p.length := by rw [hq, bs_size]
      have hqd : q.data.toList = p := by rw [hq, bs_data]
      have Hqz := Lib.hid hqz
      have Hqd := Lib.hid hqd
      have Hq := Lib.hid hq
      have hq12 : q.size ≤ 12000 := by omega
      clear hp hLs hA2 hq hqd hcell0 hqz
      have hj0 : (0 : Int) ≤ (j : Int) := by omega
      have hj1 : (j : Int) < (P.length : Int) := by omega
      go_wp2_with fail
      go_loopw [10] (fun t wq => ∃ k : Nat, k ≤ q.size ∧ t = .int .i64 k ∧ Hid (∀ i (hi : i < p.length), i < k → p[i] ≠ 32) ∧ wq = wr) (fun t _ => q.size - (intOf t).toNat)
      case atStart => exact ⟨0, Nat.zero_le _, rfl, Lib.hid (fun i _ h => by omega), rfl⟩
      case round =>
        obtain ⟨k, hk, rfl, hno, hwq⟩ := hrel
        obtain rfl := hwq.symm
        by_cases hkl : k < q.size
        · have hkp : k < p.length := by rw [← Hqz.out]; exact hkl
          have hge : q[k] = p[k] := by
            have h1 : q[k] = q.data.toList[k]'(by rw [Hqd.out]; exact hkp) := rfl
            rw [h1]; simp only [Hqd.out]
          have Hge := Lib.hid hge
          clear hge
          by_cases hc : p[k] = 32
          · have hne : ((q[k].toNat : Int) == 32) = true := by rw [Hge.out, hc]; rfl
            have hne2 : ((k : Int) == (q.size : Int)) = false := by rw [beq_eq_false_iff_ne]; omega
            have hix := idx_at hkp hc hno.out
            have hst := Lib.hid (stepOk_at (n := c) hix)
            have hex : q.extract (k + 1) q.size = bs (p.drop (k + 1)) := by rw [bs_drop, Hqd.out]
            have hex2 : q.extract 0 k = bs (p.take k) := by rw [bs_extract, Hqd.out]; simp
            have hll : (p.drop (k + 1)).length ≤ 12000 := by rw [List.length_drop]; omega
            clear hix hc Hge hno
            generalize p.take k = pre at *
            generalize p.drop (k + 1) = line at *
            go_wp2_with fail
            refine (scheck_any c hc0 hc1 line (by omega) wr).mono ?_
            rintro e w' ⟨rfl, hw0⟩
            obtain rfl := hw0.symm
            clear hw0
            have hr := chkF_bound line c hc0 hc1
            obtain ⟨r, hr0⟩ : ∃ r, r = chkF c line := ⟨_, rfl⟩
            rw [← hr0] at hr hst ⊢
            have HR := Lib.hid hr0
            clear hr0
            by_cases hok : pre = Lib.itoa r
            · have hneq : ((bs pre).toList == (bs (Lib.itoa r)).toList) = true := by rw [hok]; simp
              have Hok := Lib.hid hok
              have Hneq := Lib.hid hneq
              clear hok hneq
              have hbz : b < wr.drew.heap.size := by show b < wr.heap.size; omega
              go_wp2_with fail
              have hk0 : (0 : Int) ≤ (k : Int) := by omega
              have hk1 : (k : Int) ≤ (q.size : Int) := by omega
              go_region_held3 (fun w' => w'.cell? ⟨b, o + j, none⟩ = some (.string q))
                (first | go_keep | (rw [hcx _ _ hbz]; assumption))
                ((go_at_call 56; refine (sdec_any r (by omega) (by omega) _).mono ?_; rintro e w2 ⟨rfl, hb2⟩; obtain ⟨hcx, hfx⟩ := bcell hb2; have Hb2 := Lib.hid hb2; clear hb2))
              have Hb12 : Hid (Below wr.heap.size wr w2) := Lib.hid ((Below.refl _ _).drew.trans (Hb2.out.mono (by simp)))
              have Hb0 : Hid (Below w1.heap.size w1 w2) := Lib.hid (Hbr.out.trans (Hb12.out.mono hzr))
              have Hn2 := Lib.hid (ownsRow_below Hown.out Hb12.out)
              have hzv := Hb0.out.size
              simp only [bne, Hneq.out, Bool.not_true]
              go_wp2_with (at_builtin; go_loud (refine wpList_append_own _ rfl (.tmp 68) (.tmp 70) 25 rfl w1.heap.size 9 i0 (.string ByteArray.empty) 1 16 Tryd.underlying25 hi hz0 hz1 hz2 rfl (by decide) _ R.length (R.map sv) rfl ?c0 ⟨w2.heap.size, 0, none⟩ 1 1 [.string (bs line)] rfl rfl ?c1 ?c2 ?c3 ?c4 ?c5 ?_))
              case c0 => exact ownsRow_alloc Hn2.out _
              case c1 => exact cell_one _ _ _
              case c2 => intro u hu; simp at hu; subst hu; rfl
              case c3 => unfold maxLen; omega
              case c4 => omega
              case c5 => simp; omega
              intro v' w3 hown1 hgrow _
              have Hown3 := Lib.hid hown1
              have Hb3 : Hid (Below w1.heap.size w1 w3) := Lib.hid ((Hb0.out.alloc (by omega) _).grown hgrow (by simp <;> omega) (fun k hk => (Hn2.out.lt k hk).1))
              have hcell3 : w3.cell? ⟨b, o + j, none⟩ = some (.string q) := by
                rw [Hb3.out.cell (p := ⟨b, o + j, none⟩) hSb, ← Hbr.out.cell (p := ⟨b, o + j, none⟩) hSb]; exact hcell
              clear hown1 hgrow
              go_wp2_with fail
              refine ⟨⟨j + 1, r, R ++ [line], by rw [HR.out]; exact Hrec.out.step hlt (by rw [Hp.out, hst.out, if_pos Hok.out]), by rw [HLs.out]; have := Hqz.out; go_num, rfl, by go_num, by simpa [sv] using Hown3.out, Hb3.out⟩, by simp [intOf] <;> omega⟩
            · have hneq : ((bs pre).toList == (bs (Lib.itoa r)).toList) = false := by
                rw [beq_eq_false_iff_ne, bytes_toList, bytes_toList, bs_data, bs_data]; exact hok
              have Hok := Lib.hid hok
              have Hneq := Lib.hid hneq
              clear hok hneq
              have hbz : b < wr.drew.heap.size := by show b < wr.heap.size; omega
              go_wp2_with fail
              have hk0 : (0 : Int) ≤ (k : Int) := by omega
              have hk1 : (k : Int) ≤ (q.size : Int) := by omega
              go_region_held3 (fun w' => w'.cell? ⟨b, o + j, none⟩ = some (.string q))
                (first | go_keep | (rw [hcx _ _ hbz]; assumption))
                ((go_at_call 56; refine (sdec_any r (by omega) (by omega) _).mono ?_; rintro e w2 ⟨rfl, hb2⟩; obtain ⟨hcx, hfx⟩ := bcell hb2; have Hb2 := Lib.hid hb2; clear hb2))
              simp only [bne, Hneq.out, Bool.not_false]
              go_wp2_with fail
              go_ret2
              exact Fin.out (Hrec.out.stop hlt (by rw [Hp.out, hst.out, if_neg Hok.out])) _ ((Below.refl _ _).drew.trans (Hb2.out.mono (by simp)))
          · have hne : ((q[k].toNat : Int) == 32) = false := by
              rw [Hge.out, beq_eq_false_iff_ne]
              intro h
              exact hc (UInt8.toNat_inj.1 (by have h2 : (32 : UInt8).toNat = 32 := rfl; omega))
            have Hc := Lib.hid hc
            clear hc
            go_wp2_with fail
            refine ⟨⟨k + 1, by omega, by go_num, Lib.hid (fun i hi h => ?_), trivial⟩, by simp [intOf] <;> omega⟩
            rcases Nat.lt_or_ge i k with h2 | h2
            · exact hno.out i hi h2
            · obtain rfl : i = k := by omega
              exact Hc.out
        · obtain rfl : k = q.size := by omega
          have hst : Hid (stepOk c p = none) := Lib.hid (stepOk_none (idx_none (fun i hi => hno.out i hi (by rw [Hqz.out]; exact hi))))
          go_wp2_with fail
          go_ret2
          exact Fin.out (Hrec.out.stop hlt (by rw [Hp.out]; exact hst.out)) _ (Below.refl _ _)
    · have e : j = P.length := by omega
      go_wp2_with fail
      go_ret2
      exact Fin.out (by subst e; exact Hrec.out.done) _ (Below.refl _ _)
end Go.Proofs.YtljkgemkolmihaaDoor
