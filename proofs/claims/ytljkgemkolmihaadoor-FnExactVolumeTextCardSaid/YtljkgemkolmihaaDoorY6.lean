/- The program's VolumeText: numbers, sizes, the whole. -/
import Derived.Test.YtljkgemkolmihaaDoorY5
namespace Go.Proofs.YtljkgemkolmihaaDoor
open Go.RowKit

/-- what NumbersText returns -/
def ntV (xs : List Nat) : Value := if xs.length ≤ 256 then .tuple #[.string (bs (textP (xs.map hexF))), .bool true] else .tuple #[.string (bs []), .bool false]
theorem listOk_any (a : Option Addr) (n c : Nat) (w : World) : Calls Tryd.prog 84 #[.slice a n c] w fun e w' => e = .returned (.bool (decide ((n : Int) ≤ 256))) ∧ w' = w := by
  go_enter Tryd.func84, Tryd.ntmps84
  go_wp2_with fail
  go_ret
  exact ⟨rfl, rfl⟩

set_option maxRecDepth 100000 in
set_option maxHeartbeats 4000000 in
theorem numbersText_any (a : Option Addr) (c : Nat) (xs : List Nat) (w : World) (hx : ∀ x ∈ xs, okF x) (h : Rd (· < w.heap.size) w a (xs.map fl)) :
    Calls Tryd.prog 69 #[.slice a xs.length c] w fun e w' => e = .returned (ntV xs) ∧ Below w.heap.size w w' := by
  obtain ⟨i0, hi, hz0, hz1, hz2⟩ := info_parts infoS
  obtain ⟨i1, hi', hy0, hy1, hy2⟩ := info_parts infoB
  by_cases hn : xs.length ≤ 256
  · have Hr := Lib.hid (show ntV xs = .tuple #[.string (bs (textP (xs.map hexF))), .bool true] by simp [ntV, hn])
    have hd : decide ((xs.length : Int) ≤ 256) = true := decide_eq_true (by omega)
    have Hd := Lib.hid hd
    obtain ⟨P, hP⟩ : ∃ P, P = xs.map hexF := ⟨_, rfl⟩
    have hPl : P.length = xs.length := by rw [hP]; simp
    have hP8 : Hid (∀ p ∈ P, p.length ≤ 1000) := Lib.hid (by
      intro p hp
      rw [hP] at hp
      obtain ⟨x, hx2, rfl⟩ := List.mem_map.1 hp
      rw [hexF_length]; omega)
    have hPg : Hid (∀ k (h : k < xs.length) (h2 : k < P.length), P[k] = hexF xs[k]) := Lib.hid (by intro k h h2; simp [hP])
    have hc : Hid (∀ k (hk : k < xs.length), ∃ b o, a = some ⟨b, o, none⟩ ∧ b < w.heap.size ∧ w.cell? ⟨b, o + k, none⟩ = some (.float .f32 xs[k])) := Lib.hid (fun k hk => by
      rcases h with h | ⟨b, o, rfl, hS, h⟩
      · simp at h; subst h; simp at hk
      · exact ⟨b, o, rfl, hS, by rw [h k (by simpa using hk)]; simp⟩)
    rw [← hP] at Hr
    clear hP h hd
    have Hx := Lib.hid hx
    have HPl := Lib.hid hPl
    clear hx hPl
    go_enter Tryd.func69, Tryd.ntmps69
    go_wp2_with (go_at_call 84; refine (listOk_any _ _ _ _).mono ?_; rintro e w' ⟨rfl, hw0⟩; obtain rfl := hw0.symm; clear hw0; rw [Hd.out])
    go_loopw [4, 15] (fun v i wr => GatherRel P w v i wr) (fun _ i _ => xs.length - (intOf i).toNat)
    case atStart => exact GatherRel.start
    case round =>
      obtain ⟨k, a2, c2, hk, rfl, rfl, hown, hb⟩ := hrel
      obtain ⟨x0, hx0⟩ : ∃ x0, x0 = wr := ⟨_, rfl⟩
      subst hx0
      have hzr := hb.size
      have Hown := Lib.hid hown
      have Hb := Lib.hid hb
      clear hown hb
      by_cases hlt : k < xs.length
      · obtain ⟨b, o, rfl, hS, hc0⟩ := hc.out k hlt
        have hcell : x0.cell? ⟨b, o + k, none⟩ = some (.float .f32 xs[k]) := by rw [Hb.out.cell (p := ⟨b, o + k, none⟩) hS]; exact hc0
        have hPk : k < P.length := by rw [HPl.out]; exact hlt
        have hg := Lib.hid (hPg.out k hlt hPk)
        have Hxk := Lib.hid (Hx.out xs[k] (List.getElem_mem hlt))
        clear hc0
        generalize xs[k] = x at *
        have hbb := bitsOf_bound Hxk.out
        obtain ⟨n, hn2⟩ : ∃ n : Nat, bitsOf x = n := ⟨(bitsOf x).toNat, by omega⟩
        have Hn := Lib.hid hn2
        have hnl : n < 4294967296 := by omega
        have HF : Hid (hexTo n 8 = hexF x) := Lib.hid (by rw [hexF, hn2]; rfl)
        clear hn2 hbb
        go_wp2_with fail
        go_loopw [7, 8] (fun t s wq => HexRel n x0 t s wq) (fun _ s _ => (intOf s + 4).toNat)
        case atStart => exact ⟨0, some ⟨x0.heap.size, 0, none⟩, 0, by omega, rfl, rfl, by simpa [Lib.byteCells, hexTo] using (World.ownsRow_made (e := 5) (size := 1) (base := x0.heap.size) x0 #[] 0 (by simp) (by decide) (by simp)), (Below.refl _ _).alloc (Nat.le_refl _) _⟩
        case round =>
          obtain ⟨j, a3, c3, hj, rfl, rfl, hownq, hbq⟩ := hrel
          have hzq := hbq.size
          have Hownq := Lib.hid hownq
          have Hbq := Lib.hid hbq
          clear hownq hbq
          by_cases hlt8 : j < 8
          · have hd := digN_lt n j
            have hv := lit_at (digN n j) hd
            have hda : bits .and .i64 ((n : Int) / 2 ^ (28 - 4 * j)) 15 = ((digN n j : Nat) : Int) := by
              have e : ((n : Int) / 2 ^ (28 - 4 * j)) = ((n / 2 ^ (28 - 4 * j) : Nat) : Int) := by push_cast; rfl
              rw [e, and_i64_15 _ (by have := Nat.div_le_self n (2 ^ (28 - 4 * j)); omega)]
              rfl
            have Hs := Lib.hid (hexTo_succ n j)
            have Hdig : Hid (dig n j = hexD.getD (digN n j) 0) := Lib.hid rfl
            generalize digN n j = d at *
            generalize hexD.getD d 0 = u at *
            rw [Hdig.out] at Hs
            have hj2 : (0 : Int) ≤ 28 - 4 * (j : Int) := by omega
            have hd2 : (d : Int) < 16 := by omega
            go_wp2_with (first
              | (go_at_call 85; refine (bitsOf_any _ Hxk.out _).mono ?_; rintro e w' ⟨rfl, hw0⟩; obtain rfl := hw0.symm; clear hw0; rw [Hn.out])
              | (at_builtin; go_loud (refine wpList_append_own _ rfl (.tmp 24) (.tmp 31) 43 rfl x0.heap.size 5 i1 (.int .u8 0) 1 1 Tryd.underlying43 hi' hy0 hy1 hy2 rfl (by decide) _ j (Lib.byteCells (hexTo n j)) rfl ?c0 ⟨wr.heap.size, 0, none⟩ 1 1 [.int .u8 (u.toNat : Int)] rfl rfl ?c1 ?c2 ?c3 ?c4 ?c5 ?_)))
            case c0 => exact ownsRow_alloc Hownq.out _
            case c1 => exact cell_one _ _ _
            case c2 => intro u hu; simp at hu; subst hu; rfl
            case c3 => unfold maxLen; omega
            case c4 => omega
            case c5 => simp; omega
            intro v' w1 hown1 hgrow _
            have Hown1 := Lib.hid hown1
            clear hown1
            go_wp2
            obtain ⟨a', c', rfl, _⟩ := Wr.ofOwns' Hown1.out
            refine ⟨⟨j + 1, a', c', by omega, by go_num, rfl, ?_, (Hbq.out.alloc (by omega) _).grown hgrow (by simp <;> omega) (fun k hk => (Hownq.out.lt k hk).1)⟩, by simp [intOf] <;> omega⟩
            rw [Hs.out]
            simpa [Lib.byteCells] using Hown1.out
          · obtain rfl : j = 8 := by omega
            have hcv := run_str wr 43 9 5 x0.heap.size (.slice a3 8 c3) (hexTo n 8) Tryd.underlying43 Tryd.underlying5 Tryd.underlying9 (by rw [hexTo_length]; exact Hownq.out)
            have Hb0 : Hid (Below w.heap.size w wr) := Lib.hid (Hb.out.trans (Hbq.out.mono hzr))
            have Hn2 := Lib.hid (ownsRow_below Hown.out Hbq.out)
            have hzw := Hb0.out.size
            have hcv2 : (convert 43 9 (.slice a3 8 c3)).run Tryd.prog wr = .ok (.string (bs (hexF x))) wr := by rw [← HF.out]; exact hcv
            clear hcv
            go_wp2_with (at_builtin; go_loud (refine wpList_append_own _ rfl (.tmp 33) (.tmp 36) 25 rfl w.heap.size 9 i0 (.string ByteArray.empty) 1 16 Tryd.underlying25 hi hz0 hz1 hz2 rfl (by decide) _ k ((P.take k).map sv) rfl ?d0 ⟨wr.heap.size, 0, none⟩ 1 1 [.string (bs (hexF x))] rfl rfl ?d1 ?d2 ?d3 ?d4 ?d5 ?_))
            case d0 => exact ownsRow_alloc Hn2.out _
            case d1 => exact cell_one _ _ _
            case d2 => intro u hu; simp at hu; subst hu; rfl
            case d3 => unfold maxLen; omega
            case d4 => omega
            case d5 => simp; omega
            intro v' w3 hown1 hgrow _
            have Hown3 := Lib.hid hown1
            clear hown1
            go_wp2
            refine ⟨?_, by simp [intOf] <;> omega⟩
            have h3 := GatherRel.step (w := w) hPk hg.out Hown3.out ((Hb0.out.alloc (by omega) _).grown hgrow (by simp <;> omega) (fun k hk => (Hn2.out.lt k hk).1))
            rwa [show (((k + 1 : Nat) : Int)) = (k : Int) + 1 by omega] at h3
      · have hkP : k = P.length := by have := HPl.out; omega
        obtain ⟨hcap, hrd⟩ := GatherRel.done rfl Hown.out hkP
        have Hrd := Lib.hid hrd
        have HkP := Lib.hid hkP
        clear hrd hkP hk
        go_wp2_with fail
        rw [HkP.out]
        refine (joined_any a2 c2 P x0 (by rw [← HkP.out]; exact hcap) (by have := HPl.out; omega) hP8.out Hrd.out).mono ?_
        rintro e w2 ⟨rfl, hb2⟩
        have Hb2 := Lib.hid hb2
        clear hb2
        go_wp2_with fail
        go_ret2
        exact ⟨by rw [Hr.out]; rfl, Hb.out.trans (Hb2.out.mono hzr)⟩
  · have Hr := Lib.hid (show ntV xs = .tuple #[.string (bs []), .bool false] by simp [ntV, hn])
    have hd : decide ((xs.length : Int) ≤ 256) = false := decide_eq_false (by omega)
    have Hd := Lib.hid hd
    clear hd h hx
    go_enter Tryd.func69, Tryd.ntmps69
    go_wp2_with (go_at_call 84; refine (listOk_any _ _ _ _).mono ?_; rintro e w' ⟨rfl, hw0⟩; obtain rfl := hw0.symm; clear hw0; rw [Hd.out])
    go_ret2
    exact ⟨by rw [Hr.out]; rfl, Below.refl _ _⟩
end Go.Proofs.YtljkgemkolmihaaDoor
