/- The reference's parts of a text between marks. -/
import Derived.Test.YtljkgemkolmihaaDoorProg
import Derived.Test.YtljkgemkolmihaaDoorMem
import Derived.Test.YtljkgemkolmihaaDoorQ1
import Derived.WalkLawsBesides
import Derived.WalkSpells
import Derived.OwnWalk
import Derived.Lib.Hide
import Derived.Lib.AppendStr
import Derived.Laws.IdiomStrings
import Derived.Outline
import Derived.Deep.QuietTactic
import Derived.BigQuiet
namespace Go.Proofs.YtljkgemkolmihaaDoor
open Go.RowKit

theorem infoS : (Tryd.prog.info? 9).map (fun i => (i.zero, i.size, i.bytes)) = some (some (.string ByteArray.empty), 1, 16) := by kernel_rfl
/-- a text as a value -/
def sv (l : List UInt8) : Value := .string (bs l)
theorem ownsRow_alloc {w : World} {B : Nat} {e : TypeId} {n : Nat} {v : Value} {xs : List Value} (h : w.ownsRow B e 1 v n xs) (o : Obj) : (w.alloc o).ownsRow B e 1 v n xs :=
  h.kept (row := none) ⟨rfl, rfl, rfl, by simp, fun k hk _ => Below.heap_alloc _ _ _ hk⟩ (by by_cases h0 : v.ownBlock = none; exact Or.inl h0; exact Or.inr h0)
theorem cell_one (w : World) (v : Value) (t : TypeId) : ∀ j u, [v][j]? = some u → (w.alloc (.cells #[v] t)).cell? ((⟨w.heap.size, 0, none⟩ : Addr).add j) = some u := by
  intro j u h
  match j with
  | 0 => simp at h; subst h; simp [Addr.add, go_sem]
  | _ + 1 => simp at h
/-- the state of the reference's loop -/
def CutRel (c : UInt8) (s : ByteArray) (w : World) (out fr i : Value) (wr : World) : Prop :=
  ∃ (k f : Nat) (P : List (List UInt8)), i = .int .i64 k ∧ fr = .int .i64 f ∧ (CutTo c s.data.toList k f P ∨ (k = s.size + 1 ∧ P = cutL c s.data.toList)) ∧ P.length ≤ k ∧ k ≤ s.size + 1 ∧
    wr.ownsRow w.heap.size 9 1 out P.length (P.map sv) ∧ Below w.heap.size w wr
/-- the kit's word for a row of the call's own, said by mine, with its room -/
theorem Wr.ofOwnsCap {w : World} {base : Nat} {e : TypeId} {n : Nat} {v : Value} {xs : List Value} (h : w.ownsRow base e 1 v n xs) : ∃ a c, v = .slice a n c ∧ n ≤ c ∧ Wr (fun b => base ≤ b ∧ b < w.heap.size) w a xs := by
  have hl := h.lt
  rcases h.2 with ⟨rfl, rfl⟩ | ⟨g, cap, cur, rfl, hb, hg, hnc, hcm, hcs, htake⟩
  · have : xs = [] := List.eq_nil_of_length_eq_zero (by simpa using h.1)
    subst this
    exact ⟨none, 0, rfl, Nat.le_refl _, Wr.nil⟩
  · exact ⟨some ⟨g, 0, none⟩, cap, rfl, hnc, (Wr.ofOwns h).mono (fun k hk => by subst hk; exact hl _ rfl)⟩
/-- a list of texts of the call's own -/
def FreshS (L : List (List UInt8)) (w : World) (e : Ending) (w' : World) : Prop :=
  ∃ a c, e = .returned (.slice a L.length c) ∧ L.length ≤ c ∧ Wr (fun b => w.heap.size ≤ b ∧ b < w'.heap.size) w' a (L.map sv) ∧ Below w.heap.size w w'

set_option maxRecDepth 100000 in
set_option maxHeartbeats 2000000 in
theorem sCut_any (s : ByteArray) (hs : s.size ≤ 1073741824) (c : UInt8) (m : Int) (hm : m = c.toNat) (w : World) :
    Calls Tryd.prog 52 #[.string s, .int .u8 m] w (FreshS (cutL c s.data.toList) w) := by
  obtain ⟨i0, hi, hz0, hz1, hz2⟩ := info_parts infoS
  have Hm := Lib.hid hm
  clear hm
  have hsz : s.data.toList.length = s.size := by rw [Array.length_toList]; rfl
  have Hsz := Lib.hid hsz
  clear hsz
  go_enter Tryd.func52, Tryd.ntmps52
  go_wp2_with fail
  go_loopw [5, 6, 7] (fun v fr i wr => CutRel c s w v fr i wr) (fun _ _ i _ => s.size + 1 - (intOf i).toNat)
  case atStart => exact ⟨0, 0, [], rfl, rfl, Or.inl (CutTo.start _ _), Nat.zero_le _, by omega, by simpa using (World.ownsRow_made (e := 9) (size := 1) (base := w.heap.size) w #[] 0 (by simp) (by decide) (by simp)), (Below.refl _ _).alloc (Nat.le_refl _) _⟩
  case round =>
    obtain ⟨k, f, P, rfl, rfl, hcut, hP, hk, hown, hb⟩ := hrel
    have hz := hb.size
    have Hw := Lib.hid hown
    have Ho := Lib.hid hb
    clear hown hb
    rcases hcut with hcut | ⟨rfl, hcut⟩
    · have hil : k ≤ s.size := Hsz.out ▸ hcut.il
      have hfk := hcut.fi
      have Hc := Lib.hid hcut
      clear hcut
      by_cases hlt : k < s.size
      · have hlt' : k < s.data.toList.length := by rw [Hsz.out]; exact hlt
        have hge : s[k] = s.data.toList[k] := rfl
        have Hge := Lib.hid hge
        clear hge
        have hne : ((k : Int) == (s.size : Int)) = false := by rw [beq_eq_false_iff_ne]; omega
        by_cases hc : s.data.toList[k]'hlt' = c
        · have hq : ((s[k].toNat : Int) == m) = true := by rw [Hm.out, Hge.out, hc]; exact beq_self_eq_true _
          have H1 := Lib.hid (Hc.out.hit hlt' hc)
          have hex : Hid (s.extract f k = bs ((s.data.toList.drop f).take (k - f))) := Lib.hid (bs_extract s f k)
          clear hc Hge
          go_wp2_with (at_builtin; go_loud (refine wpList_append_own _ rfl (.tmp 26) (.tmp 31) 25 rfl w.heap.size 9 i0 (.string ByteArray.empty) 1 16 Tryd.underlying25 hi hz0 hz1 hz2 rfl (by decide) _ P.length (P.map sv) rfl ?c0 ⟨wr.heap.size, 0, none⟩ 1 1 [.string (s.extract f k)] rfl rfl ?c1 ?c2 ?c3 ?c4 ?c5 ?_))
          case c0 => exact ownsRow_alloc Hw.out _
          case c1 => exact cell_one _ _ _
          case c2 => intro u hu; simp at hu; subst hu; rfl
          case c3 => unfold maxLen; omega
          case c4 => omega
          case c5 => simp; omega
          intro v' w1 hown1 hgrow _
          have Hown := Lib.hid hown1
          clear hown1
          go_wp2
          refine ⟨⟨k + 1, k + 1, P ++ [(s.data.toList.drop f).take (k - f)], by go_num, by go_num, Or.inl H1.out, by simp <;> omega, by omega, ?_, (Ho.out.alloc (by omega) _).grown hgrow (by simp <;> omega) (fun k hk => (Hw.out.lt k hk).1)⟩, by simp [intOf] <;> omega⟩
          have := Hown.out
          rw [hex.out] at this
          simpa [sv] using this
        · have hq : ((s[k].toNat : Int) == m) = false := by
            rw [Hm.out, Hge.out, beq_eq_false_iff_ne]
            intro h
            exact hc (UInt8.toNat_inj.1 (by omega))
          have H1 := Lib.hid (Hc.out.skip hlt' hc)
          clear hc Hge
          go_wp2_with fail
          refine ⟨⟨k + 1, f, P, by go_num, rfl, Or.inl H1.out, by omega, by omega, Hw.out, Ho.out⟩, by simp [intOf] <;> omega⟩
      · obtain rfl : k = s.size := by omega
        have hex : Hid (s.extract f s.size = bs ((s.data.toList.drop f).take (s.size - f))) := Lib.hid (bs_extract s f s.size)
        have H1 : Hid (P ++ [(s.data.toList.drop f).take (s.size - f)] = cutL c s.data.toList) := Lib.hid (by
          have hh := Hc.out
          have hh2 : CutTo c s.data.toList s.data.toList.length f P := by rw [Hsz.out]; exact hh
          have := hh2.done
          rw [Hsz.out] at this
          exact this)
        go_wp2_with (at_builtin; go_loud (refine wpList_append_own _ rfl (.tmp 26) (.tmp 31) 25 rfl w.heap.size 9 i0 (.string ByteArray.empty) 1 16 Tryd.underlying25 hi hz0 hz1 hz2 rfl (by decide) _ P.length (P.map sv) rfl ?d0 ⟨wr.heap.size, 0, none⟩ 1 1 [.string (s.extract f s.size)] rfl rfl ?d1 ?d2 ?d3 ?d4 ?d5 ?_))
        case d0 => exact ownsRow_alloc Hw.out _
        case d1 => exact cell_one _ _ _
        case d2 => intro u hu; simp at hu; subst hu; rfl
        case d3 => unfold maxLen; omega
        case d4 => omega
        case d5 => simp; omega
        intro v' w1 hown1 hgrow _
        have Hown := Lib.hid hown1
        clear hown1
        go_wp2
        refine ⟨⟨s.size + 1, s.size + 1, P ++ [(s.data.toList.drop f).take (s.size - f)], by go_num, by go_num, Or.inr ⟨rfl, H1.out⟩, by simp <;> omega, by omega, ?_, (Ho.out.alloc (by omega) _).grown hgrow (by simp <;> omega) (fun k hk => (Hw.out.lt k hk).1)⟩, by simp [intOf] <;> omega⟩
        have := Hown.out
        rw [hex.out] at this
        simpa [sv] using this
    · have Hc := Lib.hid hcut
      clear hcut
      obtain ⟨a, cc, rfl, hcap, hw⟩ := Wr.ofOwnsCap Hw.out
      have Hw2 := Lib.hid hw
      clear hw
      go_wp2_with fail
      go_ret
      refine ⟨a, cc, by show Ending.returned (Value.slice a P.length cc) = _; rw [Hc.out], by rw [← Hc.out]; exact hcap, ?_, Ho.out⟩
      rw [← Hc.out]
      exact Hw2.out
end Go.Proofs.YtljkgemkolmihaaDoor
