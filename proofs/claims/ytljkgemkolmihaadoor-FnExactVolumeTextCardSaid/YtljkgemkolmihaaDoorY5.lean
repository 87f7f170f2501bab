/- The program's VolumeText. -/
import Derived.Test.YtljkgemkolmihaaDoorY4
import Derived.Test.YtljkgemkolmihaaDoorE2
namespace Go.Proofs.YtljkgemkolmihaaDoor
open Go.RowKit

set_option maxRecDepth 100000 in
theorem joined_any (a : Option Addr) (c : Nat) (P : List (List UInt8)) (w : World) (hcap : P.length ≤ c) (hn : P.length ≤ 1048576) (hm : ∀ p ∈ P, p.length ≤ 1000) (h : Rd (· < w.heap.size) w a (P.map sv)) :
    Calls Tryd.prog 83 #[.slice a P.length c] w (TextOf (textP P) w) := by
  by_cases h0 : P.length = 0
  · have hP0 : P = [] := List.length_eq_zero_iff.1 h0
    subst hP0
    clear h h0 hm hcap
    go_enter Tryd.func83, Tryd.ntmps83
    go_wp2_with fail
    go_ret
    exact ⟨rfl, Below.refl _ _⟩
  · have hpos : 0 < P.length := by omega
    obtain ⟨b, o, rfl, hS, _⟩ := h.strAt 0 hpos
    have hb := join_bound hm
    have hb2 := Nat.mul_le_mul_right (1000 + 1) hn
    have hmap : (P.map bs).map (·.data.toList) = P := by rw [List.map_map]; exact (List.map_congr_left (fun x _ => bs_data x)).trans (List.map_id P)
    have hj := Tryd.strings_Join b o c (P.map bs) ⟨#[44]⟩ w (by
      intro j x hx
      rw [List.getElem?_map] at hx
      obtain ⟨p, hp, rfl⟩ := Option.map_eq_some_iff.1 hx
      obtain ⟨hj, rfl⟩ := List.getElem?_eq_some_iff.1 hp
      obtain ⟨b2, o2, e, _, hc⟩ := h.strAt j hj
      simp only [Option.some.injEq, Addr.mk.injEq] at e
      obtain ⟨rfl, rfl, _⟩ := e
      exact hc) hS (by simp; omega) (by simpa using hcap) (by rw [hmap]; exact Nat.le_trans hb (by omega))
    rw [hmap, List.length_map] at hj
    have hne : ((P.length : Int) == 0) = false := by rw [beq_eq_false_iff_ne]; omega
    have ht : Hid (bs (Lib.join P [44]) = bs (textP P)) := Lib.hid (by rw [textP_pos (by omega)])
    have Hj := Lib.hid hj
    clear h h0 hm hb hb2 hmap hj hcap
    go_enter Tryd.func83, Tryd.ntmps83
    go_wp2_with fail
    refine Hj.out.mono ?_
    rintro e w1 ⟨rfl, hb1⟩
    have Hb1 := Lib.hid hb1
    clear hb1
    go_wp2_with fail
    go_ret
    exact ⟨by rw [← ht.out]; rfl, Hb1.out⟩

/-- the state of a loop that gathers texts -/
def GatherRel (P : List (List UInt8)) (w : World) (v i : Value) (wr : World) : Prop :=
  ∃ (k : Nat) (a : Option Addr) (c : Nat), k ≤ P.length ∧ i = .int .i64 k ∧ v = .slice a k c ∧ wr.ownsRow w.heap.size 9 1 v k ((P.take k).map sv) ∧ Below w.heap.size w wr
theorem GatherRel.start {P : List (List UInt8)} {w : World} : GatherRel P w (.slice (some ⟨w.heap.size, 0, none⟩) 0 0) (.int .i64 0) (w.alloc (.cells #[] 9)) :=
  ⟨0, some ⟨w.heap.size, 0, none⟩, 0, Nat.zero_le _, rfl, rfl, by simpa using (World.ownsRow_made (e := 9) (size := 1) (base := w.heap.size) w #[] 0 (by simp) (by decide) (by simp)), (Below.refl _ _).alloc (Nat.le_refl _) _⟩
theorem GatherRel.step {P : List (List UInt8)} {w : World} {k : Nat} {p : List UInt8} {v' : Value} {w3 : World} (hk : k < P.length) (hp : P[k] = p) (h : w3.ownsRow w.heap.size 9 1 v' (k + 1) ((P.map sv).take k ++ [sv p])) (hb : Below w.heap.size w w3) : GatherRel P w v' (.int .i64 ((k + 1 : Nat) : Int)) w3 := by
  obtain ⟨a', c', rfl, _⟩ := Wr.ofOwns' h
  refine ⟨k + 1, a', c', hk, rfl, rfl, ?_, hb⟩
  rw [List.take_succ_eq_append_getElem hk, List.map_append, hp, List.map_take]
  exact h
theorem GatherRel.done {P : List (List UInt8)} {w wr : World} {v : Value} {k : Nat} {a : Option Addr} {c : Nat} (hv : v = .slice a k c) (h : wr.ownsRow w.heap.size 9 1 v k ((P.take k).map sv)) (hk : k = P.length) : k ≤ c ∧ Rd (· < wr.heap.size) wr a (P.map sv) := by
  obtain ⟨a2, c2, e, hcap, hw⟩ := Wr.ofOwnsCap h
  rw [hv] at e
  simp only [Value.slice.injEq] at e
  obtain ⟨rfl, _, rfl⟩ := e
  rw [hk, List.take_length] at hw
  exact ⟨hcap, hw.rd.mono (fun _ hh => hh.2)⟩

set_option maxRecDepth 100000 in
set_option maxHeartbeats 4000000 in
theorem listText_any (a : Option Addr) (c : Nat) (xs : List Int) (w : World) (hl : Lid w) (hn : xs.length ≤ 64) (hx : ∀ x ∈ xs, -1000000000000000 ≤ x ∧ x ≤ 1000000000000000) (h : Rd (· < w.heap.size) w a (xs.map iv)) :
    Calls Tryd.prog 68 #[.slice a xs.length c] w fun e w' => e = .returned (.tuple #[.string (bs (textP (xs.map Lib.itoa))), .bool true]) ∧ Below w.heap.size w w' := by
  obtain ⟨i0, hi, hz0, hz1, hz2⟩ := info_parts infoS
  obtain ⟨P, hP⟩ : ∃ P, P = xs.map Lib.itoa := ⟨_, rfl⟩
  have hPl : P.length = xs.length := by rw [hP]; simp
  have hP8 : Hid (∀ p ∈ P, p.length ≤ 1000) := Lib.hid (by
    intro p hp
    rw [hP] at hp
    obtain ⟨x, hx2, rfl⟩ := List.mem_map.1 hp
    have h2 := hx x hx2
    have := Lib.itoa_length_le x (by omega) (by omega)
    omega)
  have hPg : Hid (∀ k (h : k < xs.length) (h2 : k < P.length), P[k] = Lib.itoa xs[k]) := Lib.hid (by intro k h h2; simp [hP])
  have hc : Hid (∀ k (hk : k < xs.length), ∃ b o, a = some ⟨b, o, none⟩ ∧ b < w.heap.size ∧ w.cell? ⟨b, o + k, none⟩ = some (.int .i64 xs[k])) := Lib.hid (fun k hk => by
    rcases h with h | ⟨b, o, rfl, hS, h⟩
    · simp at h; subst h; simp at hk
    · exact ⟨b, o, rfl, hS, by rw [h k (by simpa using hk)]; simp [iv]⟩)
  rw [← hP]
  clear hP h
  have Hx := Lib.hid hx
  have HPl := Lib.hid hPl
  have Hl := Lib.hid hl
  clear hx hPl hl
  go_enter Tryd.func68, Tryd.ntmps68
  go_wp2_with fail
  go_loopw [4, 10] (fun v i wr => GatherRel P w v i wr) (fun _ i _ => xs.length - (intOf i).toNat)
  case atStart => exact GatherRel.start
  case round =>
    obtain ⟨k, a2, c2, hk, rfl, rfl, hown, hb⟩ := hrel
    have hzr := hb.size
    have Hown := Lib.hid hown
    have Hb := Lib.hid hb
    clear hown hb
    by_cases hlt : k < xs.length
    · obtain ⟨b, o, rfl, hS, hc0⟩ := hc.out k hlt
      have hcell : wr.cell? ⟨b, o + k, none⟩ = some (.int .i64 xs[k]) := by rw [Hb.out.cell (p := ⟨b, o + k, none⟩) hS]; exact hc0
      have hPk : k < P.length := by rw [HPl.out]; exact hlt
      have hg := Lib.hid (hPg.out k hlt hPk)
      have hxk := Hx.out xs[k] (List.getElem_mem hlt)
      clear hc0
      generalize xs[k] = x at *
      have hin : inB x (-1000000000000000) 1000000000000000 = true := inB_iff.2 hxk
      have Hin := Lib.hid hin
      have h64 : ((k : Int) == 64) = false := by rw [beq_eq_false_iff_ne]; omega
      clear hin
      go_wp2_with (go_at_call 58; refine (in_any _ _ _ _).mono ?_; rintro e w' ⟨rfl, hw0⟩; obtain rfl := hw0; rw [Hin.out])
      refine (decimal_any x (by omega) (by omega) wr (Hl.out.below Hb.out)).mono ?_
      rintro e w2 ⟨rfl, hb2⟩
      have Hb0 : Hid (Below w.heap.size w w2) := Lib.hid (Hb.out.trans (hb2.mono hzr))
      have Hn2 := Lib.hid (ownsRow_below Hown.out hb2)
      have hzw := Hb0.out.size
      clear hb2
      go_wp2_with (at_builtin; go_loud (refine wpList_append_own _ rfl (.tmp 22) (.tmp 25) 25 rfl w.heap.size 9 i0 (.string ByteArray.empty) 1 16 Tryd.underlying25 hi hz0 hz1 hz2 rfl (by decide) _ k ((P.take k).map sv) rfl ?c0 ⟨w2.heap.size, 0, none⟩ 1 1 [.string (bs (Lib.itoa x))] rfl rfl ?c1 ?c2 ?c3 ?c4 ?c5 ?_))
      case c0 => exact ownsRow_alloc Hn2.out _
      case c1 => exact cell_one _ _ _
      case c2 => intro u hu; simp at hu; subst hu; rfl
      case c3 => unfold maxLen; omega
      case c4 => omega
      case c5 => simp; omega
      intro v' w3 hown1 hgrow _
      have Hown3 := Lib.hid hown1
      clear hown1
      go_wp2
      refine ⟨?_, by simp [intOf] <;> omega⟩
      have h3 := GatherRel.step (w := w) hPk hg.out Hown3.out ((Hb0.out.alloc (by omega) _).grown hgrow (by simp <;> omega) (fun k hk => (Hn2.out.lt k hk).1))
      rwa [show (((k + 1 : Nat) : Int)) = (k : Int) + 1 by omega] at h3
    · have hkP : k = P.length := by have := HPl.out; omega
      obtain ⟨hcap, hrd⟩ := GatherRel.done rfl Hown.out hkP
      have Hrd := Lib.hid hrd
      have HkP := Lib.hid hkP
      clear hrd hkP hk
      go_wp2_with fail
      rw [HkP.out]
      refine (joined_any a2 c2 P wr (by rw [← HkP.out]; exact hcap) (by have := HPl.out; omega) hP8.out Hrd.out).mono ?_
      rintro e w2 ⟨rfl, hb2⟩
      have Hb2 := Lib.hid hb2
      clear hb2
      go_wp2_with fail
      go_ret2
      exact ⟨rfl, Hb.out.trans (Hb2.out.mono hzr)⟩
end Go.Proofs.YtljkgemkolmihaaDoor
