/- The eight digits of a number's bits; the reference's l01Hex; texts with commas between. -/
import Derived.Test.YtljkgemkolmihaaDoorY1
import Derived.Test.YtljkgemkolmihaaDoorD3
import Derived.Lib.Join
namespace Go.Proofs.YtljkgemkolmihaaDoor
open Go.RowKit

theorem and_i64_15 (a : Nat) (ha : a < 9223372036854775808) : bits .and .i64 (a : Int) 15 = ((a % 16 : Nat) : Int) := by
  have hx : a &&& 15 = a % 16 := Nat.and_two_pow_sub_one_eq_mod a 4
  have h1 : (BitVec.ofInt 64 (a : Int)).toNat = a := by
    rw [BitVec.ofInt_natCast, BitVec.toNat_ofNat]; exact Nat.mod_eq_of_lt (by omega)
  have h2 : (BitVec.ofInt 64 (15 : Int)).toNat = 15 := by decide
  show IntKind.i64.wrap ((BitVec.ofInt 64 (a : Int) &&& BitVec.ofInt 64 (15 : Int)).toNat : Int) = _
  rw [BitVec.toNat_and, h1, h2, hx, IntWalk.i64_in _ (by omega)]

/-- the digits -/
def hexD : List UInt8 := [48, 49, 50, 51, 52, 53, 54, 55, 56, 57, 97, 98, 99, 100, 101, 102]
def digN (n j : Nat) : Nat := n / 2 ^ (28 - 4 * j) % 16
theorem digN_lt (n j : Nat) : digN n j < 16 := Nat.mod_lt _ (by decide)
def dig (n j : Nat) : UInt8 := hexD.getD (digN n j) 0
theorem lit_at (d : Nat) (h : d < 16) : ((⟨#[48, 49, 50, 51, 52, 53, 54, 55, 56, 57, 97, 98, 99, 100, 101, 102]⟩ : ByteArray)[d]'h).toNat = (hexD.getD d 0).toNat := by
  have key : ∀ k : Fin 16, ((⟨#[48, 49, 50, 51, 52, 53, 54, 55, 56, 57, 97, 98, 99, 100, 101, 102]⟩ : ByteArray)[k.val]'k.isLt).toNat = (hexD.getD k.val 0).toNat := by decide
  exact key ⟨d, h⟩
def hexTo (n k : Nat) : List UInt8 := (List.range k).map (dig n)
theorem hexTo_length (n k : Nat) : (hexTo n k).length = k := by simp [hexTo]
theorem hexTo_succ (n k : Nat) : hexTo n (k + 1) = hexTo n k ++ [dig n k] := by simp [hexTo, List.range_succ]
/-- the text of a number -/
def hexF (x : Nat) : List UInt8 := hexTo (bitsOf x).toNat 8
theorem hexF_length (x : Nat) : (hexF x).length = 8 := hexTo_length _ _

/-- texts with commas between -/
def textP (P : List (List UInt8)) : List UInt8 := if P.isEmpty then [110, 111, 110, 101] else Lib.join P [44]
theorem join_snoc {P : List (List UInt8)} (q : List UInt8) (h : P ≠ []) : Lib.join (P ++ [q]) [44] = Lib.join P [44] ++ ([44] ++ q) := by
  obtain ⟨x, r, rfl⟩ : ∃ x r, P = x :: r := by cases P with
    | nil => exact absurd rfl h
    | cons x r => exact ⟨x, r, rfl⟩
  rw [List.cons_append, Lib.join_cons, Lib.join_cons]
  simp [Lib.joinTail]
theorem join_bound {P : List (List UInt8)} {b : Nat} (h : ∀ p ∈ P, p.length ≤ b) : (Lib.join P [44]).length ≤ P.length * (b + 1) := by
  induction P with
  | nil => simp [Lib.join_nil]
  | cons x r ih =>
    rw [Lib.join_cons, List.length_append, List.length_cons, Nat.add_mul]
    have hx := h x (by simp)
    have h2 : ∀ R : List (List UInt8), (∀ p ∈ R, p.length ≤ b) → (Lib.joinTail [44] R).length ≤ R.length * (b + 1) := by
      intro R hR
      induction R with
      | nil => simp [Lib.joinTail]
      | cons y R ih2 =>
        have h3 := ih2 (fun p hp => hR p (by simp [hp]))
        have h4 := hR y (by simp)
        simp only [Lib.joinTail, List.map_cons, List.flatten_cons, List.length_append, List.length_cons, Nat.add_mul, List.length_nil] at h3 ⊢
        omega
    have := h2 r (fun p hp => h p (by simp [hp]))
    omega

def HexRel (n : Nat) (w : World) (v s : Value) (wr : World) : Prop :=
  ∃ (j : Nat) (a : Option Addr) (c : Nat), j ≤ 8 ∧ s = .int .i64 (28 - 4 * (j : Int)) ∧ v = .slice a j c ∧ wr.ownsRow w.heap.size 5 1 v j (Lib.byteCells (hexTo n j)) ∧ Below w.heap.size w wr

set_option maxRecDepth 100000 in
set_option maxHeartbeats 2000000 in
theorem shex_any (x : Nat) (hx : okF x) (w : World) :
    Calls Tryd.prog 72 #[.float .f32 x] w (TextOf (hexF x) w) := by
  obtain ⟨i0, hi, hz0, hz1, hz2⟩ := info_parts infoB
  have hbb := bitsOf_bound hx
  obtain ⟨n, hn⟩ : ∃ n : Nat, bitsOf x = n := ⟨(bitsOf x).toNat, by omega⟩
  have Hn := Lib.hid hn
  have Hx := Lib.hid hx
  have hnl : n < 4294967296 := by omega
  clear hn hbb hx
  go_enter Tryd.func72, Tryd.ntmps72
  go_wp2_with (go_at_call 86; refine (sbits_any _ Hx.out _).mono ?_; rintro e w' ⟨rfl, hw0⟩; obtain rfl := hw0.symm; clear hw0; rw [Hn.out])
  go_loopw [4, 5] (fun v s wr => HexRel n w v s wr) (fun _ s _ => (intOf s + 4).toNat)
  case atStart => exact ⟨0, some ⟨w.heap.size, 0, none⟩, 0, by omega, rfl, rfl, by simpa [Lib.byteCells, hexTo] using (World.ownsRow_made (e := 5) (size := 1) (base := w.heap.size) w #[] 0 (by simp) (by decide) (by simp)), (Below.refl _ _).alloc (Nat.le_refl _) _⟩
  case round =>
    obtain ⟨j, a, c, hj, rfl, rfl, hown, hb⟩ := hrel
    have hz := hb.size
    have Hown := Lib.hid hown
    have Hb := Lib.hid hb
    clear hown hb
    by_cases hlt : j < 8
    · have hd := digN_lt n j
      have hv := lit_at (digN n j) hd
      have hda : bits .and .i64 ((n : Int) / 2 ^ (28 - 4 * j)) 15 = ((digN n j : Nat) : Int) := by
        have e : ((n : Int) / 2 ^ (28 - 4 * j)) = ((n / 2 ^ (28 - 4 * j) : Nat) : Int) := by push_cast; rfl
        rw [e, and_i64_15 _ (by have := Nat.div_le_self n (2 ^ (28 - 4 * j)); omega)]
        rfl
      have Hs := Lib.hid (hexTo_succ n j)
      have Hdig : Hid (dig n j = hexD.getD (digN n j) 0) := Lib.hid rfl
      generalize digN n j = d at *
      generalize hexD.getD d 0 = u at *
      rw [Hdig.out] at Hs
      have hj2 : (0 : Int) ≤ 28 - 4 * (j : Int) := by omega
      have hd2 : (d : Int) < 16 := by omega
      go_wp2_with (at_builtin; go_loud (refine wpList_append_own _ rfl (.tmp 13) (.tmp 20) 43 rfl w.heap.size 5 i0 (.int .u8 0) 1 1 Tryd.underlying43 hi hz0 hz1 hz2 rfl (by decide) _ j (Lib.byteCells (hexTo n j)) rfl ?c0 ⟨wr.heap.size, 0, none⟩ 1 1 [.int .u8 (u.toNat : Int)] rfl rfl ?c1 ?c2 ?c3 ?c4 ?c5 ?_))
      case c0 => exact ownsRow_alloc Hown.out _
      case c1 => exact cell_one _ _ _
      case c2 => intro u hu; simp at hu; subst hu; rfl
      case c3 => unfold maxLen; omega
      case c4 => omega
      case c5 => simp; omega
      intro v' w1 hown1 hgrow _
      have Hown1 := Lib.hid hown1
      clear hown1
      go_wp2
      obtain ⟨a', c', rfl, _⟩ := Wr.ofOwns' Hown1.out
      refine ⟨⟨j + 1, a', c', by omega, by go_num, rfl, ?_, (Hb.out.alloc (by omega) _).grown hgrow (by simp <;> omega) (fun k hk => (Hown.out.lt k hk).1)⟩, by simp [intOf] <;> omega⟩
      rw [Hs.out]
      simpa [Lib.byteCells] using Hown1.out
    · obtain rfl : j = 8 := by omega
      have hcv := run_str wr 43 9 5 w.heap.size (.slice a 8 c) (hexTo n 8) Tryd.underlying43 Tryd.underlying5 Tryd.underlying9 (by rw [hexTo_length]; exact Hown.out)
      go_wp2_with fail
      go_ret
      exact ⟨by rw [hexF, Hn.out]; rfl, Hb.out⟩
end Go.Proofs.YtljkgemkolmihaaDoor
