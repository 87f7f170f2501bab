/- Decimals: the library's and the reference's. -/
import Derived.Test.YtljkgemkolmihaaDoorD1
import Derived.Lib.ItoaLen
import Derived.Lib.ItoaMem
import Derived.Lib.AppendIntMem
namespace Go.Proofs.YtljkgemkolmihaaDoor
open Go.RowKit

/-- the two variables of the library that are read -/
def Lid (w : World) : Prop := (∃ m : Int, w.cell? ⟨0, 0, none⟩ = some (.int .i64 m)) ∧ Lib.TabIs Tryd.prog w "internal/strconv.uint64pow10" .u64 Lib.pow10Tab
theorem Lid.below {w w' : World} (h : Lid w) (hb : Below w.heap.size w w') : Lid w' := by
  obtain ⟨⟨m, hm⟩, ht⟩ := h
  exact ⟨⟨m, by rw [hb.cell (p := ⟨0, 0, none⟩) (lt_of_cell hm)]; exact hm⟩, Lib.tabBelow_of_tabIs ht w' hb⟩

/-- a text -/
def TextOf (l : List UInt8) (w : World) (e : Ending) (w' : World) : Prop := e = .returned (.string (bs l)) ∧ Below w.heap.size w w'

theorem decimal_any (n : Int) (h0 : -9223372036854775808 ≤ n) (h1 : n ≤ 9223372036854775807) (w : World) (h : Lid w) :
    Calls Tryd.prog 35 #[.int .i64 n] w (TextOf (Lib.itoa n) w) := by
  have H := Lib.hid (Tryd.strconv_FormatInt_10 n h0 h1 w h.2)
  clear h
  go_enter Tryd.func35, Tryd.ntmps35
  go_wp2_with fail
  refine H.out.mono ?_
  rintro e w1 ⟨rfl, k, os, hw⟩
  have Hw := Lib.hid hw
  clear hw
  go_wp2_with fail
  go_ret
  refine ⟨rfl, ?_⟩
  rw [Hw.out]
  exact ⟨rfl, rfl, rfl, by show w.heap.size ≤ (w.heap ++ os).size; rw [Array.size_append]; omega, fun _ hj => Sort.heap_grow_old (w.drewN k) os hj⟩

/-- the digits ahead of those that are there -/
def ahead (r : Nat) : List UInt8 := if r = 0 then [] else Lib.decDigits r
theorem decDigits_step (r : Nat) : Lib.decDigits r = ahead (r / 10) ++ [UInt8.ofNat (48 + r % 10)] := by
  unfold ahead
  by_cases h : r < 10
  · rw [if_pos (by omega), Lib.decDigits_one h, Nat.mod_eq_of_lt h]; rfl
  · rw [if_neg (by omega)]
    conv => lhs; unfold Lib.decDigits
    rw [dif_neg h]
/-- the state of the reference's loop -/
def DecTo (n : Int) (u : Nat) (k : List UInt8) : Prop := (k = [] ∧ u = n.natAbs) ∨ (k ≠ [] ∧ Lib.decDigits n.natAbs = ahead u ++ k)
theorem DecTo.step {n : Int} {u : Nat} {k : List UInt8} (h : DecTo n u k) (hk : k = [] ∨ u ≠ 0) : DecTo n (u / 10) (UInt8.ofNat (48 + u % 10) :: k) := by
  refine Or.inr ⟨by simp, ?_⟩
  have e : Lib.decDigits n.natAbs = Lib.decDigits u ++ k := by
    rcases h with ⟨rfl, rfl⟩ | ⟨h1, h2⟩
    · simp
    · rcases hk with hk | hk
      · exact absurd hk h1
      · rw [h2, ahead, if_neg hk]
  rw [e, decDigits_step u]
  simp
theorem DecTo.len {n : Int} {u : Nat} {k : List UInt8} (h : DecTo n u k) (h0 : -9223372036854775808 ≤ n) (h1 : n ≤ 9223372036854775807) : k.length ≤ 21 := by
  rcases h with ⟨rfl, _⟩ | ⟨_, h2⟩
  · simp
  · have hl := Lib.itoa_length_le n h0 h1
    have : k.length ≤ (Lib.decDigits n.natAbs).length := by rw [h2]; simp
    have : (Lib.decDigits n.natAbs).length ≤ (Lib.itoa n).length := by
      unfold Lib.itoa
      split
      · simp
      · rw [show n.natAbs = n.toNat by omega]; exact Nat.le_refl _
    omega
theorem DecTo.done {n : Int} {k : List UInt8} (h : DecTo n 0 k) (hk : k ≠ []) : Lib.decDigits n.natAbs = k := by
  rcases h with ⟨h, _⟩ | ⟨_, h⟩
  · exact absurd h hk
  · rw [h]; simp [ahead]
theorem itoa_of (n : Int) : Lib.itoa n = if n < 0 then 45 :: Lib.decDigits n.natAbs else Lib.decDigits n.natAbs := by
  unfold Lib.itoa
  by_cases h : n < 0
  · rw [if_pos h, if_pos h]
  · rw [if_neg h, if_neg h, show n.natAbs = n.toNat by omega]
/-- a slice of no elements counts one -/
def noneYet : Value → Nat
  | .slice _ 0 _ => 1
  | _ => 0
theorem noneYet_succ (a : Option Addr) (k c : Nat) : noneYet (.slice a (k + 1) c) = 0 := rfl
theorem neg_tmod (u : Nat) : (-(u : Int)).tmod 10 = -((u % 10 : Nat) : Int) := by rw [Int.neg_tmod, Int.tmod_eq_emod_of_nonneg (by omega)]; omega
theorem neg_tdiv (u : Nat) : (-(u : Int)).tdiv 10 = -((u / 10 : Nat) : Int) := by rw [Int.neg_tdiv, Int.tdiv_eq_ediv_of_nonneg (by omega)]; omega

def DecRel (n : Int) (w : World) (v q : Value) (wr : World) : Prop :=
  ∃ (u : Nat) (k : List UInt8) (a : Addr) (c : Nat), DecTo n u k ∧ q = .int .i64 (if n < 0 then -(u : Int) else u) ∧ u ≤ 9223372036854775808 ∧ (0 ≤ n → u ≤ 9223372036854775807) ∧ v = .slice (some a) k.length c ∧
    wr.ownsRow w.heap.size 5 1 v k.length (Lib.byteCells k) ∧ Below w.heap.size w wr
theorem row_some {w : World} {B : Nat} {e : TypeId} {n : Nat} {v : Value} {xs : List Value} (h : w.ownsRow B e 1 v n xs) (hn : n ≠ 0) : ∃ a c, v = .slice (some a) n c := by
  rcases h.2 with ⟨_, h0⟩ | ⟨g, cap, cur, rfl, _⟩
  · exact absurd h0 hn
  · exact ⟨_, _, rfl⟩
theorem own_news {w : World} {B : Nat} {e : TypeId} {n c : Nat} {a : Addr} {xs : List Value} (h : w.ownsRow B e 1 (.slice (some a) n c) n xs) (o : Obj) : ∀ j u, xs[j]? = some u → (w.alloc o).cell? (a.add j) = some u := by
  obtain ⟨a', c', e, hw⟩ := Wr.ofOwns' h
  simp only [Value.slice.injEq] at e
  obtain ⟨rfl, _, rfl⟩ := e
  exact (hw.rd.alloc o).news
theorem one_row {w : World} {B : Nat} (t : TypeId) (v : Value) (hB : B ≤ w.heap.size) : (w.alloc (.cells #[v] t)).ownsRow B t 1 (.slice (some ⟨w.heap.size, 0, none⟩) 1 1) 1 [v] := by
  exact ⟨rfl, .inr ⟨w.heap.size, 1, #[v], rfl, hB, heap_alloc_new w _, Nat.le_refl _, by decide, rfl, rfl⟩⟩

set_option maxRecDepth 100000 in
set_option maxHeartbeats 2000000 in
theorem sdec_pos (n : Int) (h0 : 0 ≤ n) (h1 : n ≤ 9223372036854775807) (w : World) :
    Calls Tryd.prog 56 #[.int .i64 n] w (TextOf (Lib.itoa n) w) := by
  obtain ⟨i0, hi, hz0, hz1, hz2⟩ := info_parts infoB
  go_enter Tryd.func56, Tryd.ntmps56
  go_wp2_with fail
  go_loopw [3, 4, 5] (fun v q d wr => DecRel n w v q wr) (fun v q _ _ => (intOf q).natAbs + noneYet v)
  case atStart => exact ⟨n.natAbs, [], ⟨w.heap.size, 0, none⟩, 0, Or.inl ⟨rfl, rfl⟩, by rw [if_neg (by omega), Int.natAbs_of_nonneg h0], by omega, fun _ => by omega, rfl, by simpa [Lib.byteCells] using (World.ownsRow_made (e := 5) (size := 1) (base := w.heap.size) w #[] 0 (by simp) (by decide) (by simp)), (Below.refl _ _).alloc (Nat.le_refl _) _⟩
  case round =>
    obtain ⟨u, k, a, c, hd, rfl, hu, hun, rfl, hown, hb⟩ := hrel
    rw [if_neg (by omega)]
    have hu2 := hun h0
    have hz := hb.size
    have hk := hd.len (by omega) h1
    have Hd := Lib.hid hd
    have Hw := Lib.hid hown
    have Ho := Lib.hid hb
    clear hd hown hb hun
    by_cases hgo : k = [] ∨ u ≠ 0
    · have Hs := Lib.hid (Hd.out.step hgo)
      have fin : Hid (∀ (v' : Value) (w1 : World), w1.ownsRow w.heap.size 5 1 v' (1 + k.length) ([.int .u8 (48 + ((u % 10 : Nat) : Int))] ++ Lib.byteCells k) → Below w.heap.size w w1 → DecRel n w v' (.int .i64 ((u / 10 : Nat) : Int)) w1 ∧ ((u : Int)).natAbs + noneYet (.slice (some a) k.length c) > ((u / 10 : Nat) : Int).natAbs + noneYet v') := Lib.hid (by
        intro v' w1 hr hb
        obtain ⟨a', c', rfl⟩ := row_some hr (by omega)
        refine ⟨⟨u / 10, UInt8.ofNat (48 + u % 10) :: k, a', c', Hs.out, by rw [if_neg (by omega)], by omega, fun _ => by omega, by simp [Nat.add_comm], ?_, hb⟩, ?_⟩
        · have e1 : Lib.byteCells (UInt8.ofNat (48 + u % 10) :: k) = [.int .u8 (48 + ((u % 10 : Nat) : Int))] ++ Lib.byteCells k := by
            have : (UInt8.ofNat (48 + u % 10)).toNat = 48 + u % 10 := by rw [UInt8.toNat_ofNat']; omega
            simp [Lib.byteCells, this]; omega
          rw [e1, List.length_cons, Nat.add_comm k.length 1]; exact hr
        · rw [Nat.add_comm 1 k.length, noneYet_succ]
          rcases hgo with rfl | hgo
          · simp [noneYet]; omega
          · simp; omega)
      have hm0 : ((u : Int) % 10 : Int) = ((u % 10 : Nat) : Int) := by omega
      have hm1 : u % 10 < 10 := Nat.mod_lt _ (by decide)
      generalize u % 10 = m at *
      by_cases hk0 : k = []
      · subst hk0
        simp only [List.length_nil] at *
        clear hgo hu
        go_wp2_with (at_builtin; go_loud (refine wpList_append_own _ rfl (.tmp 24) (.tmp 25) 43 rfl w.heap.size 5 i0 (.int .u8 0) 1 1 Tryd.underlying43 hi hz0 hz1 hz2 rfl (by decide) _ 1 [.int .u8 (48 + (m : Int))] rfl ?c0 a 0 c [] rfl rfl ?c1 ?c2 ?c3 ?c4 ?c5 ?_))
        case c0 => exact one_row _ _ hz
        case c1 => intro j u h; simp at h
        case c2 => intro u h; simp at h
        case c3 => unfold maxLen; omega
        case c4 => omega
        case c5 => simp; omega
        intro v' w1 hown1 hgrow _
        have Hown := Lib.hid hown1
        clear hown1
        go_wp2
        refine (fin.out _ _ Hown.out ?_)
        exact (Ho.out.alloc hz _).grown hgrow (by simp <;> omega) (fun k hk => by cases hk; exact hz)
      · have hkl : 1 ≤ k.length := by cases k <;> simp_all
        have hun0 : u ≠ 0 := by rcases hgo with h | h; exact absurd h hk0; exact h
        have e1 : ((k.length : Int) == 0) = false := by rw [beq_eq_false_iff_ne]; omega
        have e2 : ((u : Int) != 0) = true := by rw [bne_iff_ne]; omega
        have hnews := Lib.hid (fun o => own_news Hw.out o)
        clear hgo hun0 hk0
        go_wp2_with (at_builtin; go_loud (refine wpList_append_own _ rfl (.tmp 24) (.tmp 25) 43 rfl w.heap.size 5 i0 (.int .u8 0) 1 1 Tryd.underlying43 hi hz0 hz1 hz2 rfl (by decide) _ 1 [.int .u8 (48 + (m : Int))] rfl ?d0 a k.length c (Lib.byteCells k) rfl ?dl ?d1 ?d2 ?d3 ?d4 ?d5 ?_))
        case d0 => exact one_row _ _ hz
        case dl => simp [Lib.byteCells]
        case d1 => exact hnews.out _
        case d2 => exact byteCells_one k
        case d3 => unfold maxLen; omega
        case d4 => omega
        case d5 => simp; omega
        intro v' w1 hown1 hgrow _
        have Hown := Lib.hid hown1
        clear hown1
        go_wp2
        refine (fin.out _ _ Hown.out ?_)
        exact (Ho.out.alloc hz _).grown hgrow (by simp <;> omega) (fun k hk => by cases hk; exact hz)
    · have hkne : k ≠ [] := fun e => hgo (Or.inl e)
      obtain rfl : u = 0 := by
        rcases Nat.eq_zero_or_pos u with h | h
        · exact h
        · exact absurd (Or.inr (by omega)) hgo
      have hkl : 1 ≤ k.length := by cases k <;> simp_all
      have e1 : ((k.length : Int) == 0) = false := by rw [beq_eq_false_iff_ne]; omega
      have hlt : ¬ n < 0 := by omega
      have Hit : Hid (Lib.itoa n = k) := Lib.hid (by rw [itoa_of, if_neg hlt]; exact Hd.out.done hkne)
      have hcv := run_str wr 43 9 5 w.heap.size (.slice (some a) k.length c) k Tryd.underlying43 Tryd.underlying5 Tryd.underlying9 Hw.out
      clear hgo hkne
      go_wp2_with fail
      go_ret
      exact ⟨by rw [Hit.out]; rfl, Ho.out⟩

set_option maxRecDepth 100000 in
set_option maxHeartbeats 2000000 in
theorem sdec_neg (n : Int) (h0 : n < 0) (h1 : -9223372036854775808 ≤ n) (w : World) :
    Calls Tryd.prog 56 #[.int .i64 n] w (TextOf (Lib.itoa n) w) := by
  obtain ⟨i0, hi, hz0, hz1, hz2⟩ := info_parts infoB
  go_enter Tryd.func56, Tryd.ntmps56
  go_wp2_with fail
  go_loopw [3, 4, 5] (fun v q d wr => DecRel n w v q wr) (fun v q _ _ => (intOf q).natAbs + noneYet v)
  case atStart => exact ⟨n.natAbs, [], ⟨w.heap.size, 0, none⟩, 0, Or.inl ⟨rfl, rfl⟩, by rw [if_pos h0]; congr 1; omega, by omega, fun _ => by omega, rfl, by simpa [Lib.byteCells] using (World.ownsRow_made (e := 5) (size := 1) (base := w.heap.size) w #[] 0 (by simp) (by decide) (by simp)), (Below.refl _ _).alloc (Nat.le_refl _) _⟩
  case round =>
    obtain ⟨u, k, a, c, hd, rfl, hu, hun, rfl, hown, hb⟩ := hrel
    rw [if_pos h0]
    have hz := hb.size
    have hk := hd.len h1 (by omega)
    have Hd := Lib.hid hd
    have Hw := Lib.hid hown
    have Ho := Lib.hid hb
    clear hd hown hb hun
    by_cases hgo : k = [] ∨ u ≠ 0
    · have Hs := Lib.hid (Hd.out.step hgo)
      have fin : Hid (∀ (v' : Value) (w1 : World), w1.ownsRow w.heap.size 5 1 v' (1 + k.length) ([.int .u8 (48 + ((u % 10 : Nat) : Int))] ++ Lib.byteCells k) → Below w.heap.size w w1 → DecRel n w v' (.int .i64 (-((u / 10 : Nat) : Int))) w1 ∧ (-(u : Int)).natAbs + noneYet (.slice (some a) k.length c) > (-((u / 10 : Nat) : Int)).natAbs + noneYet v') := Lib.hid (by
        intro v' w1 hr hb
        obtain ⟨a', c', rfl⟩ := row_some hr (by omega)
        refine ⟨⟨u / 10, UInt8.ofNat (48 + u % 10) :: k, a', c', Hs.out, by rw [if_pos h0], by omega, fun _ => by omega, by simp [Nat.add_comm], ?_, hb⟩, ?_⟩
        · have e1 : Lib.byteCells (UInt8.ofNat (48 + u % 10) :: k) = [.int .u8 (48 + ((u % 10 : Nat) : Int))] ++ Lib.byteCells k := by
            have : (UInt8.ofNat (48 + u % 10)).toNat = 48 + u % 10 := by rw [UInt8.toNat_ofNat']; omega
            simp [Lib.byteCells, this]; omega
          rw [e1, List.length_cons, Nat.add_comm k.length 1]; exact hr
        · rw [Nat.add_comm 1 k.length, noneYet_succ]
          rcases hgo with rfl | hgo
          · simp [noneYet]; omega
          · simp; omega)
      have hm0 := neg_tmod u
      have hq0 := neg_tdiv u
      have hm1 : u % 10 < 10 := Nat.mod_lt _ (by decide)
      have hub : u / 10 ≤ 922337203685477581 := by omega
      generalize u % 10 = m at *
      generalize hu10 : u / 10 = u10 at *
      have Hu10 := Lib.hid hu10
      clear hu10
      rcases Nat.eq_zero_or_pos m with hm00 | hmp
      · subst hm00
        have hm2 : (-(u : Int)).tmod 10 = 0 := by simpa using hm0
        have fin2 : Hid (∀ (v' : Value) (w1 : World), w1.ownsRow w.heap.size 5 1 v' (1 + k.length) ([.int .u8 48] ++ Lib.byteCells k) → Below w.heap.size w w1 → DecRel n w v' (.int .i64 (-(u10 : Int))) w1 ∧ (-(u : Int)).natAbs + noneYet (.slice (some a) k.length c) > (-(u10 : Int)).natAbs + noneYet v') := Lib.hid (fun v' w1 h1 h2 => fin.out v' w1 (by simpa using h1) h2)
        clear hm0 fin
        by_cases hk0 : k = []
        · subst hk0
          simp only [List.length_nil] at *
          clear hgo hu
          go_wp2_with (at_builtin; go_loud (refine wpList_append_own _ rfl (.tmp 24) (.tmp 25) 43 rfl w.heap.size 5 i0 (.int .u8 0) 1 1 Tryd.underlying43 hi hz0 hz1 hz2 rfl (by decide) _ 1 [.int .u8 48] rfl ?zc0 a 0 c [] rfl rfl ?zc1 ?zc2 ?zc3 ?zc4 ?zc5 ?_))
          case zc0 => exact one_row _ _ hz
          case zc1 => intro j u h; simp at h
          case zc2 => intro u h; simp at h
          case zc3 => unfold maxLen; omega
          case zc4 => omega
          case zc5 => simp; omega
          intro v' w1 hown1 hgrow _
          have Hown := Lib.hid hown1
          clear hown1
          go_wp2
          refine (fin2.out _ _ Hown.out ?_)
          exact (Ho.out.alloc hz _).grown hgrow (by simp <;> omega) (fun k hk => by cases hk; exact hz)
        · have hkl : 1 ≤ k.length := by cases k <;> simp_all
          have hun0 : u ≠ 0 := by rcases hgo with h | h; exact absurd h hk0; exact h
          have e1 : ((k.length : Int) == 0) = false := by rw [beq_eq_false_iff_ne]; omega
          have e2 : ((-(u : Int)) != 0) = true := by rw [bne_iff_ne]; omega
          have e3 : ¬ u = 0 := hun0
          have hnews := Lib.hid (fun o => own_news Hw.out o)
          clear hgo hun0 hk0
          go_wp2_with (at_builtin; go_loud (refine wpList_append_own _ rfl (.tmp 24) (.tmp 25) 43 rfl w.heap.size 5 i0 (.int .u8 0) 1 1 Tryd.underlying43 hi hz0 hz1 hz2 rfl (by decide) _ 1 [.int .u8 48] rfl ?zd0 a k.length c (Lib.byteCells k) rfl ?zdl ?zd1 ?zd2 ?zd3 ?zd4 ?zd5 ?_))
          case zd0 => exact one_row _ _ hz
          case zdl => simp [Lib.byteCells]
          case zd1 => exact hnews.out _
          case zd2 => exact byteCells_one k
          case zd3 => unfold maxLen; omega
          case zd4 => omega
          case zd5 => simp; omega
          intro v' w1 hown1 hgrow _
          have Hown := Lib.hid hown1
          clear hown1
          go_wp2
          refine (fin2.out _ _ Hown.out ?_)
          exact (Ho.out.alloc hz _).grown hgrow (by simp <;> omega) (fun k hk => by cases hk; exact hz)
      · have hmn : ¬ (m = 0) := by omega
        by_cases hk0 : k = []
        · subst hk0
          simp only [List.length_nil] at *
          clear hgo hu
          go_wp2_with (at_builtin; go_loud (refine wpList_append_own _ rfl (.tmp 24) (.tmp 25) 43 rfl w.heap.size 5 i0 (.int .u8 0) 1 1 Tryd.underlying43 hi hz0 hz1 hz2 rfl (by decide) _ 1 [.int .u8 (48 + (m : Int))] rfl ?c0 a 0 c [] rfl rfl ?c1 ?c2 ?c3 ?c4 ?c5 ?_))
          case c0 => exact one_row _ _ hz
          case c1 => intro j u h; simp at h
          case c2 => intro u h; simp at h
          case c3 => unfold maxLen; omega
          case c4 => omega
          case c5 => simp; omega
          intro v' w1 hown1 hgrow _
          have Hown := Lib.hid hown1
          clear hown1
          go_wp2
          refine (fin.out _ _ Hown.out ?_)
          exact (Ho.out.alloc hz _).grown hgrow (by simp <;> omega) (fun k hk => by cases hk; exact hz)
        · have hkl : 1 ≤ k.length := by cases k <;> simp_all
          have hun0 : u ≠ 0 := by rcases hgo with h | h; exact absurd h hk0; exact h
          have e1 : ((k.length : Int) == 0) = false := by rw [beq_eq_false_iff_ne]; omega
          have e2 : ((-(u : Int)) != 0) = true := by rw [bne_iff_ne]; omega
          have e3 : ¬ u = 0 := hun0
          have hnews := Lib.hid (fun o => own_news Hw.out o)
          clear hgo hun0 hk0
          go_wp2_with (at_builtin; go_loud (refine wpList_append_own _ rfl (.tmp 24) (.tmp 25) 43 rfl w.heap.size 5 i0 (.int .u8 0) 1 1 Tryd.underlying43 hi hz0 hz1 hz2 rfl (by decide) _ 1 [.int .u8 (48 + (m : Int))] rfl ?d0 a k.length c (Lib.byteCells k) rfl ?dl ?d1 ?d2 ?d3 ?d4 ?d5 ?_))
          case d0 => exact one_row _ _ hz
          case dl => simp [Lib.byteCells]
          case d1 => exact hnews.out _
          case d2 => exact byteCells_one k
          case d3 => unfold maxLen; omega
          case d4 => omega
          case d5 => simp; omega
          intro v' w1 hown1 hgrow _
          have Hown := Lib.hid hown1
          clear hown1
          go_wp2
          refine (fin.out _ _ Hown.out ?_)
          exact (Ho.out.alloc hz _).grown hgrow (by simp <;> omega) (fun k hk => by cases hk; exact hz)
    · have hkne : k ≠ [] := fun e => hgo (Or.inl e)
      obtain rfl : u = 0 := by
        rcases Nat.eq_zero_or_pos u with h | h
        · exact h
        · exact absurd (Or.inr (by omega)) hgo
      have hkl : 1 ≤ k.length := by cases k <;> simp_all
      have e1 : ((k.length : Int) == 0) = false := by rw [beq_eq_false_iff_ne]; omega
      have Hit : Hid (Lib.itoa n = 45 :: k) := Lib.hid (by rw [itoa_of, if_pos h0, Hd.out.done hkne])
      have hnews := Lib.hid (fun o => own_news Hw.out o)
      clear hgo hkne
      go_wp2_with (at_builtin; go_loud (refine wpList_append_own _ rfl (.tmp 31) (.tmp 32) 43 rfl w.heap.size 5 i0 (.int .u8 0) 1 1 Tryd.underlying43 hi hz0 hz1 hz2 rfl (by decide) _ 1 [.int .u8 45] rfl ?e0 a k.length c (Lib.byteCells k) rfl ?el ?e1 ?e2 ?e3 ?e4 ?e5 ?_))
      case e0 => exact one_row _ _ hz
      case el => simp [Lib.byteCells]
      case e1 => exact hnews.out _
      case e2 => exact byteCells_one k
      case e3 => unfold maxLen; omega
      case e4 => omega
      case e5 => simp; omega
      intro v' w1 hown1 hgrow _
      have hown2 : w1.ownsRow w.heap.size 5 1 v' (45 :: k).length (Lib.byteCells (45 :: k)) := by
        have e1 : Lib.byteCells (45 :: k) = [.int .u8 45] ++ Lib.byteCells k := rfl
        rw [e1, List.length_cons, Nat.add_comm k.length 1]; exact hown1
      have hcv := run_str w1 43 9 5 w.heap.size v' (45 :: k) Tryd.underlying43 Tryd.underlying5 Tryd.underlying9 hown2
      clear hown1 hown2
      go_wp2
      go_ret
      exact ⟨by rw [Hit.out]; rfl, (Ho.out.alloc hz _).grown hgrow (by simp <;> omega) (fun k hk => by cases hk; exact hz)⟩
theorem sdec_any (n : Int) (h0 : -9223372036854775808 ≤ n) (h1 : n ≤ 9223372036854775807) (w : World) :
    Calls Tryd.prog 56 #[.int .i64 n] w (TextOf (Lib.itoa n) w) := by
  by_cases h : 0 ≤ n
  · exact sdec_pos n h h1 w
  · exact sdec_neg n (by omega) h0 w
end Go.Proofs.YtljkgemkolmihaaDoor
