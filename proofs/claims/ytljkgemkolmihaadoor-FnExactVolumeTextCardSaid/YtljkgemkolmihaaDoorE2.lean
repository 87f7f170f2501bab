/- The program's RecoverJournal. -/
import Derived.Test.YtljkgemkolmihaaDoorE1
import Derived.Test.YtljkgemkolmihaaDoorD7
namespace Go.Proofs.YtljkgemkolmihaaDoor
open Go.RowKit

/-- what RecoverJournal returns -/
def RecRes (l : List UInt8) (w : World) (e : Ending) (w' : World) : Prop :=
  (12000 < l.length ∧ e = .returned (.tuple #[.slice none 0 0, .int .i64 0, .bool false]) ∧ Below w.heap.size w w') ∨
  (l.length ≤ 12000 ∧ ∃ a c, e = .returned (.tuple #[.slice a (recv 0 (linesL l)).length c, .int .i64 (lenTo (linesL l) (recv 0 (linesL l)).length), .bool true]) ∧ Wr (fun b => w.heap.size ≤ b ∧ b < w'.heap.size) w' a ((recv 0 (linesL l)).map sv) ∧ Below w.heap.size w w')
/-- the state of the program's loop -/
def RecRel (l : List UInt8) (w : World) (v at' ck : Value) (wr : World) : Prop :=
  ∃ (j : Nat) (c : Int) (R : List (List UInt8)), RecTo (linesL l) j c R ∧ at' = .int .i64 (lenTo (linesL l) j) ∧ ck = .int .i64 c ∧ wr.ownsRow w.heap.size 9 1 v R.length (R.map sv) ∧ Below w.heap.size w wr
theorem bs_drop (s : ByteArray) (A : Nat) : s.extract A s.size = bs (s.data.toList.drop A) := by
  rw [bs_extract]
  congr 1
  rw [List.take_of_length_le]
  rw [List.length_drop, Array.length_toList]; exact Nat.le_refl _
theorem bs_piece (s : ByteArray) (A : Nat) (p r : List UInt8) (h : s.data.toList.drop A = p ++ r) : s.extract A (A + p.length) = bs p := by
  rw [bs_extract, h, Nat.add_sub_cancel_left, List.take_left']
  rfl
theorem idx_is (l : List UInt8) (i : Int) (h : Hid (Lib.indexByte l 10 = i)) (w : World) :
    Calls Tryd.prog 38 #[.string (bs l), .int .u8 10] w fun e w' => e = .returned (.int .i64 i) ∧ w' = w := by
  have := Tryd.strings_IndexByte (bs l) 10 w
  rw [bs_data] at this
  rw [← h.out]; exact this
theorem cut_is {x : List UInt8 × List UInt8 × Bool} (l : List UInt8) (hl : l.length ≤ 1073741824) (h : Hid (Lib.cut l [32] = x)) (w : World) (hw : Lid w) :
    Calls Tryd.prog 39 #[.string (bs l), .string ⟨#[32]⟩] w fun e w' => e = .returned (.tuple #[.string (bs x.1), .string (bs x.2.1), .bool x.2.2]) ∧ Below w.heap.size w w' := by
  obtain ⟨⟨m, hm⟩, _⟩ := hw
  have := Tryd.strings_Cut (bs l) ⟨#[32]⟩ m w (by rw [bs_size]; omega) hm
  rw [bs_data] at this
  rw [← h.out]
  exact this.mono fun _ _ ⟨a, n, b⟩ => ⟨a, by rw [b]; exact Below.drewN' _ _ _⟩

theorem ownsRow_below {w w1 : World} {lo : Nat} {e : TypeId} {size n : Nat} {v : Value} {xs : List Value} (h : w.ownsRow lo e size v n xs) (hb : Below w.heap.size w w1) : w1.ownsRow lo e size v n xs :=
  h.kept (row := none) ⟨hb.os, hb.tape, hb.output, hb.size, fun k hk _ => hb.block k hk⟩ (by
    cases hv : v.ownBlock
    · exact Or.inl rfl
    · exact Or.inr (by simp))
set_option maxRecDepth 100000 in
set_option maxHeartbeats 8000000 in
theorem recover_any (s : ByteArray) (w : World) (hl : Lid w) (hs : s.size ≤ 1073741824) :
    Calls Tryd.prog 16 #[.string s] w (RecRes s.data.toList w) := by
  obtain ⟨i0, hi, hz0, hz1, hz2⟩ := info_parts infoS
  have hsz : s.data.toList.length = s.size := by rw [Array.length_toList]; rfl
  have Hsz := Lib.hid hsz
  have Hl := Lib.hid hl
  clear hl hsz
  by_cases hbig : 12000 < s.size
  · have hbig' : (12000 : Int) < (s.size : Int) := by omega
    go_enter Tryd.func16, Tryd.ntmps16
    go_wp2_with fail
    go_ret3
    exact Or.inl ⟨by rw [Hsz.out]; exact hbig, rfl, Below.refl _ _⟩
  · have hbig' : ¬ (12000 : Int) < (s.size : Int) := by omega
    have hsm : s.size ≤ 12000 := by omega
    go_enter Tryd.func16, Tryd.ntmps16
    go_wp2_with fail
    go_loopw [5, 6, 7] (fun v t c wr => RecRel s.data.toList w v t c wr) (fun _ t _ _ => s.size + 1 - (intOf t).toNat)
    case atStart => exact ⟨0, 0, [], RecTo.start _, rfl, rfl, by simpa using (World.ownsRow_made (e := 9) (size := 1) (base := w.heap.size) w #[] 0 (by simp) (by decide) (by simp)), (Below.refl _ _).alloc (Nat.le_refl _) _⟩
    case round =>
      obtain ⟨j, c, R, hrec, rfl, rfl, hown, hb⟩ := hrel
      have hc0 := hrec.c0
      have hc1 := hrec.c1
      have hjl := hrec.jl
      have hAl := lenTo_le s.data.toList j hjl
      rw [Hsz.out] at hAl
      have hz := hb.size
      obtain ⟨a, cc, rfl, hcap, hw⟩ := Wr.ofOwnsCap hown
      have Hrec := Lib.hid hrec
      have Hown := Lib.hid hown
      have Hb := Lib.hid hb
      have Hw := Lib.hid hw
      have hRl : R.length ≤ 12000 := by
        have := hrec.len
        have h2 : ∀ k, k ≤ lenTo (linesL s.data.toList) k := fun k => by
          induction k with
          | zero => exact Nat.le_refl _
          | succ k ih => rw [lenTo]; omega
        have := h2 j
        omega
      clear hrec hown hb hw
      obtain ⟨A, hA⟩ : ∃ A, A = lenTo (linesL s.data.toList) j := ⟨_, rfl⟩
      rw [← hA] at hAl ⊢
      have HA := Lib.hid hA
      clear hA
      have hE : s.extract A s.size = bs (s.data.toList.drop A) := bs_drop s A
      have HE := Lib.hid hE
      have Fin : Hid (recv 0 (linesL s.data.toList) = R → ∀ wf, Below wr.heap.size wr wf → RecRes s.data.toList w (.returned (.tuple #[.slice a R.length cc, .int .i64 A, .bool true])) wf) := Lib.hid (fun hR wf hbf => by
        refine Or.inr ⟨by rw [Hsz.out]; exact hsm, a, cc, by rw [hR, Hrec.out.len, ← HA.out], ?_, Hb.out.trans (hbf.mono hz)⟩
        rw [hR]
        exact (Hw.out.keep (Only.below hbf) (fun k hk hn => by omega)).mono (fun k hk => ⟨hk.1, by have := hbf.size; omega⟩))
      by_cases hlt : j < (linesL s.data.toList).length
      · have hsp := at_piece s.data.toList j hlt
        have hLs := lenTo_succ (linesL s.data.toList) j hlt
        have hA2 := lenTo_le s.data.toList (j + 1) hlt
        have hnm := piece_noMark s.data.toList j hlt
        have HP := Lib.hid hnm
        generalize hp : (linesL s.data.toList)[j] = p at *
        have Hp := Lib.hid hp
        rw [← HA.out] at hsp hLs
        rw [Hsz.out] at hA2
        have hix : Hid (Lib.indexByte (s.data.toList.drop A) 10 = (p.length : Int)) := Lib.hid (by rw [hsp]; exact indexByte_app _ _ _ HP.out)
        have hPc : s.extract A (A + p.length) = bs p := bs_piece s A p _ hsp
        have hAp : A + p.length + 1 ≤ s.size := by omega
        have hpl : p.length ≤ 12000 := by omega
        have HLs := Lib.hid hLs
        clear hsp hLs hA2 hnm hp
        rcases Int.lt_or_le (Lib.indexByte p 32) 0 with hsn | hsy
        · -- no blank
          have hcut : Hid (Lib.cut p [32] = (p, [], false)) := Lib.hid (cut_none hsn)
          have hst : Hid (stepOk c p = none) := Lib.hid (stepOk_none hsn)
          clear hsn
          go_wp2_with (go_at_call 38; refine (idx_is _ _ hix _).mono ?_; rintro e w' ⟨rfl, hw0⟩; obtain rfl := hw0.symm)
          refine (cut_is p (by omega) hcut wr (Hl.out.below Hb.out)).mono ?_
          rintro e w1 ⟨rfl, hb1⟩
          have Hb1 := Lib.hid hb1
          clear hb1
          go_wp2_with fail
          refine (check_any c hc0 hc1 [] (by simp) w1).mono ?_
          rintro e w' ⟨rfl, hw0⟩
          obtain rfl := hw0.symm
          clear hw0
          go_wp2_with fail
          go_quiet (fail)
          go_wp2_with fail
          go_ret3
          exact Fin.out (Hrec.out.stop hlt (by rw [Hp.out]; exact hst.out)) _ (Hb1.out.trans (Below.drewN' _ _ _))
        · -- a blank
          obtain ⟨i, hi2⟩ : ∃ i : Nat, Lib.indexByte p 32 = i := ⟨(Lib.indexByte p 32).toNat, by omega⟩
          have hcut : Hid (Lib.cut p [32] = (p.take i, p.drop (i + 1), true)) := Lib.hid (cut_at hi2)
          have hst := Lib.hid (stepOk_at (n := c) hi2)
          have hwh := Lib.hid (whole_eq (a := Lib.itoa (chkF c (p.drop (i + 1)))) hi2)
          have hil := (piece_split hi2).1
          have hll : (p.drop (i + 1)).length ≤ p.length := by rw [List.length_drop]; omega
          clear hi2 hsy
          generalize p.take i = pre at *
          generalize p.drop (i + 1) = line at *
          go_wp2_with (go_at_call 38; refine (idx_is _ _ hix _).mono ?_; rintro e w' ⟨rfl, hw0⟩; obtain rfl := hw0.symm)
          refine (cut_is p (by omega) hcut wr (Hl.out.below Hb.out)).mono ?_
          rintro e w1 ⟨rfl, hb1⟩
          have Hb1 := Lib.hid hb1
          clear hb1
          go_wp2_with fail
          refine (check_any c hc0 hc1 line (by omega) w1).mono ?_
          rintro e w' ⟨rfl, hw0⟩
          obtain rfl := hw0.symm
          clear hw0
          have hr := chkF_bound line c hc0 hc1
          obtain ⟨r, hr0⟩ : ∃ r, r = chkF c line := ⟨_, rfl⟩
          rw [← hr0] at hr hst hwh ⊢
          have HR := Lib.hid hr0
          clear hr0
          have hit := Lib.itoa_length_le r (by omega) (by omega)
          have Hl1 := Lib.hid ((Hl.out.below Hb.out).below Hb1.out)
          obtain ⟨m, hm⟩ := Hl1.out.1
          have hml : 0 < w1.heap.size := lt_of_cell hm
          have g1 : ¬ 9223372036854775807 < (bs (Lib.itoa r)).size + 1 := by rw [bs_size]; omega
          have g2 : ¬ 9223372036854775807 < (bs (Lib.itoa r)).size + 1 + (bs line).size := by rw [bs_size, bs_size]; omega
          have e1 : (bs (Lib.itoa r)) ++ (⟨#[32]⟩ : ByteArray) ++ bs line = bs (Lib.itoa r ++ 32 :: line) := by
            have e1 : (⟨#[32]⟩ : ByteArray) = bs [32] := rfl
            rw [e1, bs_append, bs_append, List.append_assoc]; rfl
          have E1 := Lib.hid e1
          clear e1
          by_cases hok : pre = Lib.itoa r
          · have hneq : ((bs (Lib.itoa r) ++ (⟨#[32]⟩ : ByteArray) ++ bs line).toList == (bs p).toList) = true := by
              rw [E1.out, hwh.out.2 hok]; simp
            have Hneq := Lib.hid hneq
            clear hneq
            have Hok := Lib.hid hok
            clear hok
            go_wp2_with fail
            obtain ⟨B, hB⟩ : ∃ B, B = A + p.length := ⟨_, rfl⟩
            have hs1 : IntKind.i64.wrap ((A : Int) + (p.length : Int)) = (B : Int) := by rw [IntWalk.i64_in _ (by omega)]; omega
            have hs2 : (A : Int) ≤ (B : Int) := by omega
            have hs3 : (B : Int) ≤ (s.size : Int) := by omega
            have hs4 : (0 : Int) ≤ (A : Int) := by omega
            have hs5 : (0 : Int) ≤ (B : Int) := by omega
            have hPc2 : s.extract A B = bs p := by rw [hB]; exact hPc
            have HB := Lib.hid hB
            clear hB
            go_region_held3 (fun w' => w'.cell? ⟨0, 0, none⟩ = some (.int .i64 m))
              (first | go_keep | (rw [hcx _ _ hml]; assumption))
              ((go_at_call 35; refine (decimal_any r (by omega) (by omega) _ ?_).mono ?_; (first | exact Hl1.out | exact Hl1.out.below ((Below.refl _ _).drew)); rintro e w2 ⟨rfl, hb2⟩; obtain ⟨hcx, hfx⟩ := bcell hb2; have Hb2 := Lib.hid hb2; clear hb2))
            all_goals
              have Hb12 : Hid (Below wr.heap.size wr w2) := Lib.hid (Hb1.out.drew.trans (Hb2.out.mono (by simpa using Hb1.out.size)))
              have Hb0 : Hid (Below w.heap.size w w2) := Lib.hid (Hb.out.trans (Hb12.out.mono hz))
              have Hn2 := Lib.hid (ownsRow_below Hown.out Hb12.out)
              have hzw := Hb0.out.size
              simp only [bne, Hneq.out, Bool.not_true]
              go_wp2_with (at_builtin; go_loud (refine wpList_append_own _ rfl (.tmp 57) (.tmp 59) 25 rfl w.heap.size 9 i0 (.string ByteArray.empty) 1 16 Tryd.underlying25 hi hz0 hz1 hz2 rfl (by decide) _ R.length (R.map sv) rfl ?c0 ⟨w2.heap.size, 0, none⟩ 1 1 [.string (bs line)] rfl rfl ?c1 ?c2 ?c3 ?c4 ?c5 ?_))
              case c0 => exact ownsRow_alloc Hn2.out _
              case c1 => exact cell_one _ _ _
              case c2 => intro u hu; simp at hu; subst hu; rfl
              case c3 => unfold maxLen; omega
              case c4 => omega
              case c5 => simp; omega
              intro v' w3 hown1 hgrow _
              have Hown3 := Lib.hid hown1
              clear hown1
              go_wp2
              refine ⟨⟨j + 1, r, R ++ [line], by rw [HR.out]; exact Hrec.out.step hlt (by rw [Hp.out, hst.out, if_pos Hok.out]), by rw [HLs.out]; have hB2 := HB.out; go_num, rfl, by simpa [sv] using Hown3.out, (Hb0.out.alloc (by omega) _).grown hgrow (by simp <;> omega) (fun k hk => (Hn2.out.lt k hk).1)⟩, by have hB2 := HB.out; simp [intOf] <;> omega⟩
          · have hneq : ((bs (Lib.itoa r) ++ (⟨#[32]⟩ : ByteArray) ++ bs line).toList == (bs p).toList) = false := by
              rw [E1.out, beq_eq_false_iff_ne, bytes_toList, bytes_toList, bs_data, bs_data]
              exact fun h => hok (hwh.out.1 h)
            have Hneq := Lib.hid hneq
            clear hneq
            have Hok := Lib.hid hok
            clear hok
            go_wp2_with fail
            obtain ⟨B, hB⟩ : ∃ B, B = A + p.length := ⟨_, rfl⟩
            have hs1 : IntKind.i64.wrap ((A : Int) + (p.length : Int)) = (B : Int) := by rw [IntWalk.i64_in _ (by omega)]; omega
            have hs2 : (A : Int) ≤ (B : Int) := by omega
            have hs3 : (B : Int) ≤ (s.size : Int) := by omega
            have hs4 : (0 : Int) ≤ (A : Int) := by omega
            have hs5 : (0 : Int) ≤ (B : Int) := by omega
            have hPc2 : s.extract A B = bs p := by rw [hB]; exact hPc
            have HB := Lib.hid hB
            clear hB
            go_region_held3 (fun w' => w'.cell? ⟨0, 0, none⟩ = some (.int .i64 m))
              (first | go_keep | (rw [hcx _ _ hml]; assumption))
              ((go_at_call 35; refine (decimal_any r (by omega) (by omega) _ ?_).mono ?_; (first | exact Hl1.out | exact Hl1.out.below ((Below.refl _ _).drew)); rintro e w2 ⟨rfl, hb2⟩; obtain ⟨hcx, hfx⟩ := bcell hb2; have Hb2 := Lib.hid hb2; clear hb2))
            all_goals
              simp only [bne, Hneq.out, Bool.not_false]
              go_wp2_with fail
              go_ret3
              exact Fin.out (Hrec.out.stop hlt (by rw [Hp.out, hst.out, if_neg Hok.out])) _ (Hb1.out.drew.trans (Hb2.out.mono (by simpa using Hb1.out.size)))
      · have hno : Hid (Lib.indexByte (s.data.toList.drop A) 10 = -1) := Lib.hid (by
          have e : j = (linesL s.data.toList).length := by omega
          rw [HA.out, drop_lenTo _ _ hjl, e, List.drop_length]
          exact indexByte_no _ _ (rest_noMark _))
        go_wp2_with (go_at_call 38; refine (idx_is _ _ hno _).mono ?_; rintro e w' ⟨rfl, hw0⟩; obtain rfl := hw0.symm)
        go_ret3
        exact Fin.out (Hrec.out |> fun h => by have e : j = (linesL s.data.toList).length := by omega
                                               subst e; exact h.done) _ (Below.refl _ _)
end Go.Proofs.YtljkgemkolmihaaDoor
