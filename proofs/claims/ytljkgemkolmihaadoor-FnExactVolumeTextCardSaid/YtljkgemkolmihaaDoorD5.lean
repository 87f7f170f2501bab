/- The laws' helpers on lists of texts. -/
import Derived.Test.YtljkgemkolmihaaDoorD4
import Derived.Test.YtljkgemkolmihaaDoorQ3
import Derived.Deep.RegionHeld3
import Derived.IntWalk
namespace Go.Proofs.YtljkgemkolmihaaDoor
open Go.RowKit

theorem Rd.strAt {S : Nat → Prop} {w : World} {a : Option Addr} {L : List (List UInt8)} (h : Rd S w a (L.map sv)) (k : Nat) (hk : k < L.length) : ∃ b o, a = some ⟨b, o, none⟩ ∧ S b ∧ w.cell? ⟨b, o + k, none⟩ = some (.string (bs L[k])) := by
  rcases h with h | ⟨b, o, e, hS, h⟩
  · simp at h; subst h; simp at hk
  · exact ⟨b, o, e, hS, by rw [h k (by simpa using hk)]; simp [sv]⟩

/-- what a size check says -/
def SzS (L : List (List UInt8)) (l : Int) (w : World) (e : Ending) (w' : World) : Prop :=
  ∃ r : Int, e = .returned (.int .i64 r) ∧ -1 ≤ r ∧ r ≤ l ∧ (0 ≤ r → (L.length : Int) ≤ l ∧ ∀ p ∈ L, (p.length : Int) ≤ l) ∧ w' = w

set_option maxRecDepth 100000 in
set_option maxHeartbeats 1000000 in
theorem szS (S : Nat → Prop) (a : Option Addr) (c : Nat) (L : List (List UInt8)) (l : Int) (w : World) (hn : L.length ≤ maxLen) (hm : ∀ p ∈ L, p.length ≤ maxLen) (hl : l ≤ 1048576) (hl0 : 0 ≤ l) (h : Rd S w a (L.map sv)) :
    Calls Tryd.prog 10 #[.slice a L.length c, .int .i64 l] w (SzS L l w) := by
  unfold maxLen at hn
  by_cases hneg : l - (L.length : Int) < 0
  · clear hm h
    go_enter Tryd.func10, Tryd.ntmps10
    go_wp2
    go_ret
    exact ⟨-1, rfl, by omega, by omega, fun h => by omega, rfl⟩
  · have Hm := Lib.hid hm
    have Hr := Lib.hid h
    clear hm h
    go_enter Tryd.func10, Tryd.ntmps10
    go_wp2
    go_loopw [1, 5] (fun q i wr => ∃ (j : Nat) (r : Int), j ≤ L.length ∧ i = .int .i64 j ∧ q = .int .i64 r ∧ 0 ≤ r ∧ r ≤ l - L.length ∧ (∀ p ∈ L.take j, (p.length : Int) ≤ l) ∧ wr = w) (fun _ i _ => L.length - (intOf i).toNat)
    case atStart => exact ⟨0, l - L.length, Nat.zero_le _, rfl, rfl, by omega, by omega, by simp, rfl⟩
    case round =>
      obtain ⟨j, r, hj, rfl, rfl, hr0, hr1, hp, rfl⟩ := hrel
      by_cases hlt : j < L.length
      · obtain ⟨b, o, rfl, _, hc⟩ := Hr.out.strAt j hlt
        have hxl : (bs L[j]).size ≤ maxLen := by rw [bs_size]; exact Hm.out _ (List.getElem_mem hlt)
        unfold maxLen at hxl
        have hsz : ((bs L[j]).size : Int) = (L[j].length : Int) := by rw [bs_size]
        have Hsz := Lib.hid hsz
        have Hp := Lib.hid hp
        have HT := Lib.hid (fun (q : List UInt8) (hq : q ∈ L.take (j + 1)) => (by
          rw [List.take_succ_eq_append_getElem hlt] at hq; simpa only [List.mem_append, List.mem_singleton] using hq : q ∈ L.take j ∨ q = L[j]))
        clear hp hsz
        by_cases hx : r - ((bs L[j]).size : Int) < 0
        · go_wp2
          go_ret
          exact ⟨-1, rfl, by omega, by omega, fun h => by omega, rfl⟩
        · go_wp2
          go_roundw
          case rel =>
            refine ⟨j + 1, r - (bs L[j]).size, by omega, by go_num, rfl, by omega, by omega, ?_, trivial⟩
            intro q hq
            rcases HT.out q hq with hq | rfl
            · exact Hp.out q hq
            · have := Hsz.out; omega
          case measure => simp [intOf]; omega
      · go_wp2
        go_ret
        obtain rfl : j = L.length := by omega
        rw [List.take_length] at hp
        exact ⟨r, rfl, by omega, by omega, fun _ => ⟨by omega, hp⟩, rfl⟩

/-- the list of which k elements have been copied -/
def copV (z : Value) (xs : List Value) (k : Nat) : List Value := xs.take k ++ List.replicate (xs.length - k) z
theorem copV_zero (z : Value) (xs : List Value) : copV z xs 0 = List.replicate xs.length z := by simp [copV]
theorem copV_all (z : Value) (xs : List Value) : copV z xs xs.length = xs := by simp [copV]
theorem copV_length (z : Value) (xs : List Value) (k : Nat) : (copV z xs k).length = xs.length := by simp [copV]; omega
theorem copV_set (z : Value) (xs : List Value) (k : Nat) (h : k < xs.length) : (copV z xs k).set k xs[k] = copV z xs (k + 1) := by
  apply List.ext_getElem
  · simp [copV_length]
  · intro i h1 h2
    simp only [List.getElem_set]
    split
    · rename_i e; subst e
      simp only [copV, List.getElem_append, List.length_take, List.getElem_take]
      rw [dif_pos (by omega)]
    · rename_i e
      simp only [copV, List.getElem_append, List.length_take, List.getElem_take, List.getElem_replicate]
      have h3 : min k xs.length = k := by omega
      have h4 : min (k + 1) xs.length = k + 1 := by omega
      simp only [h3, h4]
      by_cases h5 : i < k
      · simp [h5, show i < k + 1 by omega]
      · simp [h5, show ¬ i < k + 1 by omega]

set_option maxRecDepth 100000 in
set_option maxHeartbeats 1000000 in
theorem toS (S : Nat → Prop) (a : Option Addr) (c : Nat) (L : List (List UInt8)) (w : World) (hn : L.length ≤ 1048576) (h : Rd S w a (L.map sv)) (hS : ∀ k, S k → k < w.heap.size) :
    Calls Tryd.prog 12 #[.slice a L.length c] w fun e w' => e = .returned (.slice (some ⟨w.heap.size, 0, none⟩) L.length L.length) ∧
      Wr (· = w.heap.size) w' (some ⟨w.heap.size, 0, none⟩) (L.map sv) ∧ Below w.heap.size w w' := by
  obtain ⟨i0, hi, hz0, hz1, hz2⟩ := info_parts infoS
  have Hr := Lib.hid h
  have HS := Lib.hid hS
  clear h hS
  go_enter Tryd.func12, Tryd.ntmps12
  go_wp2_with (at_make; refine wpList_make_full _ rfl _ _ 25 rfl w.heap.size 9 i0 (.string ByteArray.empty) 1 Tryd.underlying25 hi hz0 hz1 _ _ _ _ L.length rfl rfl rfl rfl ?b2 ?b3 (Nat.le_refl _) ?_)
  case b2 => rw [hz2]; omega
  case b3 => unfold maxLen; omega
  intro w0 hown0 hgrow0
  go_wp2
  go_loopw [4] (fun i wr => ∃ k : Nat, k ≤ L.length ∧ i = .int .i64 k ∧ wr.ownsRow w.heap.size 9 1 (.slice (some ⟨w.heap.size, 0, none⟩) L.length L.length) L.length (copV (.string ByteArray.empty) (L.map sv) k) ∧ Below w.heap.size w wr) (fun i _ => L.length - (intOf i).toNat)
  case atStart => exact ⟨0, Nat.zero_le _, rfl, by rw [copV_zero]; simpa [toList_madeCells_one] using hown0, (Below.refl _ _).grown hgrow0 (Nat.le_refl _) (fun k h => by cases h)⟩
  case round =>
    obtain ⟨k, hk, rfl, hown, hb⟩ := hrel
    by_cases hlt : k < L.length
    · obtain ⟨b, o, rfl, hSb, hc0⟩ := Hr.out.strAt k hlt
      have hc : wr.cell? ⟨b, o + k, none⟩ = some (.string (bs L[k])) := by
        rw [hb.cell (p := ⟨b, o + k, none⟩) (HS.out b hSb)]; exact hc0
      obtain ⟨v0, hd⟩ : ∃ v0, wr.cell? ⟨w.heap.size, k, none⟩ = some v0 ∧ (∃ s, v0 = .string s) := by
        rw [hown.cellAt k (by omega)]
        have hl : k < (copV (.string ByteArray.empty) (L.map sv) k).length := by rw [copV_length]; simpa using hlt
        refine ⟨_, List.getElem?_eq_getElem hl, ?_⟩
        simp only [copV, List.getElem_append, List.length_take, List.length_map]
        rw [dif_neg (by omega)]
        exact ⟨_, by simp; rfl⟩
      obtain ⟨hd, s0, rfl⟩ := hd
      have hf := hown.frozenAt k
      have hst := hown.stored k (.string (bs L[k]))
      have e2 : (copV (.string ByteArray.empty) (L.map sv) k).set k (.string (bs L[k])) = copV (.string ByteArray.empty) (L.map sv) (k + 1) := by
        have := copV_set (.string ByteArray.empty) (L.map sv) k (by simpa using hlt)
        rw [← this]; simp [sv]
      rw [e2] at hst
      have Hst := Lib.hid hst
      have Hb := Lib.hid hb
      clear hst hown hb hc0 e2
      go_wp2
      go_roundw
      case rel => exact ⟨k + 1, by omega, by go_num, Hst.out.1, Hb.out.grown Hst.out.2 Hb.out.size (fun j hj => by cases hj; exact Nat.le_refl _)⟩
      case measure => simp [intOf]; omega
    · obtain rfl : k = L.length := by omega
      have e2 : copV (.string ByteArray.empty) (L.map sv) L.length = L.map sv := by
        have := copV_all (.string ByteArray.empty) (L.map sv)
        rwa [List.length_map] at this
      rw [e2] at hown
      have Hw := Lib.hid hown
      have Hb := Lib.hid hb
      clear hown hb e2
      go_wp2
      go_ret
      exact ⟨rfl, Wr.ofOwns Hw.out, Hb.out⟩

/-- equal lists are equal -/
theorem eqS (S T : Nat → Prop) (a b : Option Addr) (c d : Nat) (L : List (List UInt8)) (w : World) (hn : L.length ≤ 1048576) (ha : Rd S w a (L.map sv)) (hb : Rd T w b (L.map sv)) :
    Calls Tryd.prog 14 #[.slice a L.length c, .slice b L.length d] w fun e w' => e = .returned (.bool true) ∧ Below w.heap.size w w' := by
  have Ha := Lib.hid ha
  have Hb := Lib.hid hb
  clear ha hb
  go_enter Tryd.func14, Tryd.ntmps14
  go_wp2
  go_loopw [5] (fun i wr => ∃ k : Nat, k ≤ L.length ∧ i = .int .i64 k ∧ ∃ n, wr = w.drewN n) (fun i _ => L.length - (intOf i).toNat)
  case atStart => exact ⟨0, Nat.zero_le _, rfl, 0, rfl⟩
  case round =>
    obtain ⟨k, hk, rfl, n, rfl⟩ := hrel
    by_cases hlt : k < L.length
    · obtain ⟨b1, o1, rfl, _, hc1⟩ := Ha.out.strAt k hlt
      obtain ⟨b2, o2, rfl, _, hc2⟩ := Hb.out.strAt k hlt
      have hk0 : (0 : Int) ≤ (k : Int) := by omega
      have hk1 : (k : Int) < (L.length : Int) := by omega
      have hne : ((bs L[k]).toList != (bs L[k]).toList) = false := by simp
      go_wp2
      go_quiet (fail)
      go_wp2
      go_roundw
      case rel => exact ⟨k + 1, by omega, by go_num, _, rfl⟩
      case measure => simp [intOf]; omega
    · go_wp2
      go_ret
      exact ⟨rfl, Below.drewN' _ _ _⟩

/-- a mark -/
def markL (k : Int) : List UInt8 := if k ≤ 0 then [109, 48] else 109 :: Lib.decDigits k.natAbs
theorem bs_append (a b : List UInt8) : bs a ++ bs b = bs (a ++ b) := by
  unfold bs
  apply ByteArray.ext
  rw [ByteArray.data_append]
  simp
set_option maxRecDepth 100000 in
set_option maxHeartbeats 1000000 in
theorem markText_any (k : Int) (h1 : k ≤ 1125899906842624) (w : World) :
    Calls Tryd.prog 40 #[.int .i64 k] w (TextOf (markL k) w) := by
  by_cases hk : k ≤ 0
  · have hm : Hid (markL k = [109, 48]) := Lib.hid (by unfold markL; rw [if_pos hk])
    go_enter Tryd.func40, Tryd.ntmps40
    go_wp2_with fail
    go_ret
    exact ⟨by rw [hm.out]; rfl, Below.refl _ _⟩
  · have hm : Hid (markL k = 109 :: Lib.decDigits k.natAbs) := Lib.hid (by unfold markL; rw [if_neg hk])
    go_enter Tryd.func40, Tryd.ntmps40
    go_wp2_with fail
    go_loopw [0, 3] (fun q v wr => ∃ (u : Nat) (t : List UInt8), DecTo k u t ∧ (t = [] → u ≠ 0) ∧ q = .int .i64 (u : Int) ∧ (u : Int) ≤ k ∧ v = .string (bs t) ∧ Below w.heap.size w wr) (fun q _ _ => (intOf q).natAbs)
    case atStart => exact ⟨k.natAbs, [], Or.inl ⟨rfl, rfl⟩, fun _ => by omega, by rw [Int.natAbs_of_nonneg (by omega)], by omega, rfl, Below.refl _ _⟩
    case round =>
      obtain ⟨u, t, hd, hnil, rfl, hu, rfl, hb⟩ := hrel
      have hl := hd.len (by omega) (by omega)
      have hz := hb.size
      have Hd := Lib.hid hd
      have Hb := Lib.hid hb
      have Hnil := Lib.hid hnil
      clear hd hb hnil
      by_cases hu0 : u = 0
      · subst hu0
        have hcs : ¬ 9223372036854775807 < 1 + (bs t).size := by rw [bs_size]; omega
        have ht : Hid (Lib.decDigits k.natAbs = t) := Lib.hid (Hd.out.done (fun e => Hnil.out e rfl))
        go_wp2_with fail
        go_ret
        refine ⟨?_, Hb.out⟩
        rw [hm.out, ht.out]
        have e : (⟨#[109]⟩ : ByteArray) = bs [109] := rfl
        show Ending.returned (Value.string ((⟨#[109]⟩ : ByteArray) ++ bs t)) = _
        rw [e, bs_append]; rfl
      · have Hs := Lib.hid (Hd.out.step (Or.inr hu0))
        have hup : 0 < u := by omega
        have hm0 : ((u : Int) % 10 : Int) = ((u % 10 : Nat) : Int) := by omega
        have hm1 : u % 10 < 10 := Nat.mod_lt _ (by decide)
        have hcat : Hid (bs [UInt8.ofNat (48 + u % 10)] ++ bs t = bs (UInt8.ofNat (48 + u % 10) :: t)) := Lib.hid (by rw [bs_append]; rfl)
        have hcv : ∀ W : World, (convert 43 9 (.slice (some ⟨wr.heap.size, 0, none⟩) 1 1)).run Tryd.prog (wr.alloc (.cells #[.int .u8 (48 + ((u % 10 : Nat) : Int))] 5)) = .ok (.string (bs [UInt8.ofNat (48 + u % 10)])) (wr.alloc (.cells #[.int .u8 (48 + ((u % 10 : Nat) : Int))] 5)) := fun W => by
          refine run_str _ 43 9 5 wr.heap.size _ [UInt8.ofNat (48 + u % 10)] Tryd.underlying43 Tryd.underlying5 Tryd.underlying9 ?_
          have e1 : Lib.byteCells [UInt8.ofNat (48 + u % 10)] = [.int .u8 (48 + ((u % 10 : Nat) : Int))] := by
            have : (UInt8.ofNat (48 + u % 10)).toNat = 48 + u % 10 := by rw [UInt8.toNat_ofNat']; omega
            simp [Lib.byteCells, this]; omega
          rw [e1]
          exact one_row _ _ (Nat.le_refl _)
        have hcv1 := hcv w
        clear hcv
        generalize UInt8.ofNat (48 + u % 10) = ch at *
        generalize u % 10 = m at *
        have hcs : ¬ 9223372036854775807 < (bs [ch]).size + (bs t).size := by rw [bs_size, bs_size]; simp; omega
        go_wp2_with fail
        refine ⟨⟨u / 10, ch :: t, Hs.out, fun h => by simp at h, by go_num, by omega, by rw [hcat.out], Hb.out.alloc hz _⟩, by simp [intOf]; omega⟩

/-- A store into a row that may be written. -/
theorem Wr.set {S : Nat → Prop} {w : World} {b o : Nat} {xs : List Value} (h : ∀ i (h : i < xs.length), w.cell? ⟨b, o + i, none⟩ = some xs[i] ∧ w.frozen? ⟨b, o + i, none⟩ = false) (hS : S b) (j : Nat) (u : Value) :
    Wr S (w.setCell ⟨b, o + j, none⟩ u) (some ⟨b, o, none⟩) (xs.set j u) := by
  refine Or.inr ⟨b, o, rfl, hS, fun i hi => ?_⟩
  have hi' : i < xs.length := by simpa using hi
  obtain ⟨h1, h2⟩ := h i hi'
  refine ⟨?_, ?_⟩
  · by_cases e : j = i
    · subst e
      rw [World.cell?_setCell_same (h := h1)]; simp
    · rw [World.cell?_setCell_other]
      · rw [h1]; simp [e]
      · simp
  · rw [World.frozen?_setCell]; exact h2


def marksS (k : Int) (n : Nat) : List (List UInt8) := (List.range n).map fun (i : Nat) => markL (k + (i : Int))
theorem marksS_length (k : Int) (n : Nat) : (marksS k n).length = n := by simp [marksS]
theorem marksS_get (k : Int) (n i : Nat) (h : i < (marksS k n).length) : (marksS k n)[i] = markL (k + i) := by simp [marksS]
/-- the list of which j texts are marked -/
def markedS (k : Int) (L : List (List UInt8)) (j : Nat) : List (List UInt8) := marksS k j ++ L.drop j
theorem markedS_length (k : Int) (L : List (List UInt8)) (j : Nat) (h : j ≤ L.length) : (markedS k L j).length = L.length := by simp [markedS, marksS_length]; omega
theorem markedS_set (k : Int) (L : List (List UInt8)) (j : Nat) (h : j < L.length) : ((markedS k L j).map sv).set j (sv (markL (k + j))) = (markedS k L (j + 1)).map sv := by
  apply List.ext_getElem
  · simp [markedS_length _ _ _ (Nat.le_of_lt h), markedS_length _ _ (j+1) h]
  · intro i h1 h2
    simp only [List.getElem_set, List.getElem_map]
    split
    · rename_i e; subst e
      simp only [markedS, List.getElem_append, marksS_length]
      rw [dif_pos (by omega), marksS_get]
    · rename_i e
      congr 1
      simp only [markedS, List.getElem_append, marksS_length, marksS_get, List.getElem_drop]
      by_cases h5 : i < j
      · simp [h5, show i < j + 1 by omega]
      · simp only [h5, show ¬ i < j + 1 by omega, dif_neg, not_false_eq_true]
        congr 1; omega
theorem Only.call {S : Nat → Prop} {a b c : World} (h : Only S a b) (hb : Below b.heap.size b c) : Only S a c :=
  h.trans ((Only.below hb).mono (fun k hk hn => by omega))

set_option maxRecDepth 100000 in
set_option maxHeartbeats 1000000 in
theorem markS (S : Nat → Prop) (a : Option Addr) (c : Nat) (L : List (List UInt8)) (k : Int) (w : World) (hn : L.length ≤ 1048576) (hk0 : 0 ≤ k) (hk1 : k ≤ 1099511627776) (hS : ∀ k, S k → k < w.heap.size) (h : Wr S w a (L.map sv)) :
    Calls Tryd.prog 17 #[.slice a L.length c, .int .i64 k] w fun e w' => e = .returned (.int .i64 (k + L.length)) ∧ Wr S w' a ((marksS k L.length).map sv) ∧ Only S w w' := by
  rcases h with h | ⟨b, o, rfl, hSb, h⟩
  · simp at h; subst h
    go_enter Tryd.func17, Tryd.ntmps17
    go_wp2
    refine wp_loop_rounds 1 ?_; rw [rounds_succ]
    go_wp2
    go_ret
    exact ⟨by simp, by simp [marksS]; exact Wr.nil, Only.refl _ _⟩
  have HS := Lib.hid hS
  clear hS
  go_enter Tryd.func17, Tryd.ntmps17
  go_wp2
  go_loopw [1, 5] (fun q i wr => ∃ j : Nat, j ≤ L.length ∧ i = .int .i64 j ∧ q = .int .i64 (k + j) ∧ Wr S wr (some ⟨b, o, none⟩) ((markedS k L j).map sv) ∧ Only S w wr) (fun _ i _ => L.length - (intOf i).toNat)
  case atStart => exact ⟨0, Nat.zero_le _, rfl, by simp, Or.inr ⟨b, o, rfl, hSb, by simpa [markedS, marksS] using h⟩, Only.refl _ _⟩
  case round =>
    obtain ⟨j, hj, rfl, rfl, hw, ho⟩ := hrel
    have hz := ho.size
    have Ho := Lib.hid ho
    clear ho
    by_cases hlt : j < L.length
    · have Hw := Lib.hid hw
      clear hw h
      go_wp2_with fail
      refine (markText_any (k + j) (by omega) wr).mono ?_
      rintro e w1 ⟨rfl, hb1⟩
      have hw1 : Wr S w1 (some ⟨b, o, none⟩) ((markedS k L j).map sv) := Hw.out.keep (Only.below hb1) (fun x hx hn => by have := HS.out x hx; omega)
      rcases hw1 with hw1 | ⟨b', o', e, _, hw1⟩
      · exfalso
        have := congrArg List.length hw1
        rw [List.length_map, markedS_length _ _ _ hj, List.length_nil] at this; omega
      simp only [Option.some.injEq, Addr.mk.injEq, and_true] at e
      obtain ⟨rfl, rfl⟩ := e
      have hl : j < ((markedS k L j).map sv).length := by simpa [markedS_length _ _ _ hj] using hlt
      obtain ⟨hc, hf⟩ := hw1 j hl
      obtain ⟨v0, hc'⟩ : ∃ v0, w1.cell? ⟨b, o + j, none⟩ = some (.string v0) := ⟨_, by rw [hc]; simp [sv]; rfl⟩
      have Hs := Lib.hid (Wr.set hw1 hSb j (sv (markL (k + j))))
      rw [markedS_set k L j hlt] at Hs
      have Ho1 := Lib.hid (Ho.out.call hb1)
      clear hc hw1 hl hb1
      go_wp2
      go_roundw
      case rel => exact ⟨j + 1, by omega, by go_num, by go_num, Hs.out, Ho1.out.setCell hSb _⟩
      case measure => simp [intOf]; omega
    · obtain rfl : j = L.length := by omega
      have Hw := Lib.hid hw
      clear hw h
      go_wp2
      go_ret
      exact ⟨rfl, by simpa [markedS] using Hw.out, Ho.out⟩

set_option maxRecDepth 100000 in
set_option maxHeartbeats 1000000 in
theorem heldS (S : Nat → Prop) (a : Option Addr) (c n : Nat) (k : Int) (w : World) (hn : n ≤ 1048576) (hk0 : 0 ≤ k) (hk1 : k ≤ 1099511627776) (hS : ∀ k, S k → k < w.heap.size) (h : Rd S w a ((marksS k n).map sv)) :
    Calls Tryd.prog 18 #[.slice a n c, .int .i64 k] w fun e w' => e = .returned (.int .i64 (k + n)) ∧ Below w.heap.size w w' := by
  have Hr := Lib.hid h
  have HS := Lib.hid hS
  clear hS h
  go_enter Tryd.func18, Tryd.ntmps18
  go_wp2
  go_loopw [1, 5] (fun q i wr => ∃ j : Nat, j ≤ n ∧ i = .int .i64 j ∧ q = .int .i64 (k + j) ∧ Below w.heap.size w wr) (fun _ i _ => n - (intOf i).toNat)
  case atStart => exact ⟨0, Nat.zero_le _, rfl, by simp, Below.refl _ _⟩
  case round =>
    obtain ⟨j, hj, rfl, rfl, hb⟩ := hrel
    have hz := hb.size
    have Hb := Lib.hid hb
    clear hb
    by_cases hlt : j < n
    · have hrd : Rd S wr a ((marksS k n).map sv) := Hr.out.keep (Only.below Hb.out) (fun x hx hn => by have := HS.out x hx; omega)
      obtain ⟨b, o, rfl, hSb, hc⟩ := hrd.strAt j (by rw [marksS_length]; exact hlt)
      rw [marksS_get] at hc
      have hbz := HS.out b hSb
      have hk2 : (0 : Int) ≤ (j : Int) := by omega
      have hk3 : (j : Int) < (n : Int) := by omega
      have hwr : IntKind.i64.wrap (k + (j : Int)) = k + (j : Int) := IntWalk.i64_in _ (by omega)
      have hne : ((bs (markL (k + j))).toList != (bs (markL (k + j))).toList) = false := by simp
      have hbz2 : b < wr.drew.heap.size := by simp; omega
      clear hrd
      go_wp2_with fail
      go_region_held3 (fun w' => w'.cell? ⟨b, o + j, none⟩ = some (.string (bs (markL (k + j)))))
        (first | go_keep | (rw [hcx _ _ hbz2]; assumption))
        ((go_at_call 40; refine (markText_any (k + j) (by omega) _).mono ?_; rintro e w1 ⟨rfl, hb1⟩; obtain ⟨hcx, hfx⟩ := bcell hb1; have Hb1 := Lib.hid hb1; clear hb1))
      go_wp2_with fail
      exact ⟨⟨j + 1, by omega, by go_num, by go_num, Hb.out.drew.trans (Hb1.out.mono (by simp; omega))⟩, by simp [intOf]; omega⟩
    · obtain rfl : j = n := by omega
      go_wp2
      go_ret
      exact ⟨rfl, Hb.out⟩
end Go.Proofs.YtljkgemkolmihaaDoor
