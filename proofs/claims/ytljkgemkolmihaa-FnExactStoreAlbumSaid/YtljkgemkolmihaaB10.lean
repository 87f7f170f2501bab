/- The law on StoreAlbum, walked. -/
import Derived.Test.YtljkgemkolmihaaB9
namespace Go.Proofs.Ytljkgemkolmihaa
open Go.RowKit

/-- what stands through the law -/
structure Std (w : World) (a : Option Addr) (c : Nat) (ps : List PV) (x : World) : Prop where
  pics : Pics (· < w.heap.size) x a ps
  cell : x.cell? ⟨w.heap.size, 0, none⟩ = some (.slice a ps.length c)
  below : Below w.heap.size w x
  size : w.heap.size + 1 ≤ x.heap.size
theorem Std.next {w : World} {a : Option Addr} {c : Nat} {ps : List PV} {x y : World} (h : Std w a c ps x) (hb : Below x.heap.size x y) : Std w a c ps y := by
  have hz := h.size
  refine ⟨h.pics.below (hb.mono (by omega)), ?_, h.below.trans (hb.mono (by omega)), Nat.le_trans hz hb.size⟩
  rw [hb.cell (p := ⟨w.heap.size, 0, none⟩) (by simp; omega)]
  exact h.cell
theorem Std.now {w : World} {a : Option Addr} {c : Nat} {ps : List PV} {x : World} (h : Std w a c ps x) : Pics (· < x.heap.size) x a ps := h.pics.mono (fun k hk => by have := h.size; omega)

theorem store_copy {ps qs : List PV} (hc : Copies ps qs ps.length) (hn : ps.length ≤ 1048576) (hm : ∀ p ∈ ps, p.xs.length ≤ 1048576) (hok : ∀ p ∈ ps, ∀ x ∈ p.xs, okF x) (a : Option Addr) (c : Nat) (s : ByteArray) (ok : Bool) (hs : storeV ps = .tuple #[.string s, .bool ok]) (w : World) (h : Pics (· < w.heap.size) w a qs) :
    Calls Try.prog 17 #[.agg #[.slice a ps.length c]] w (fun e w' => e = .returned (.tuple #[.string s, .bool ok]) ∧ Below w.heap.size w w') ∧
    Calls Try.prog 18 #[.agg #[.slice a ps.length c]] w (fun e w' => e = .returned (.tuple #[.string s, .bool ok]) ∧ Below w.heap.size w w') := by
  have h1 := sstoreA_any a c qs w (by rw [hc.1]; exact hn) (fun p hp => Nat.le_trans (hc.len hm p hp) (by decide)) (hc.okF hok) h
  have h2 := store_any a c qs w (by rw [hc.1]; exact hn) (fun p hp => Nat.le_trans (hc.len hm p hp) (by decide)) (hc.okF hok) h
  rw [hc.storeV, hs, hc.1] at h1 h2
  exact ⟨h1, h2⟩
theorem storeV_is (ps : List PV) : ∃ s ok, storeV ps = .tuple #[.string s, .bool ok] := by
  unfold storeV
  split
  · exact ⟨_, _, rfl⟩
  · exact ⟨_, _, rfl⟩

set_option maxRecDepth 100000 in
set_option maxHeartbeats 4000000 in
theorem law_store (a : Option Addr) (c : Nat) (ps : List PV) (w : World) (hn : ps.length ≤ maxLen) (hm : ∀ p ∈ ps, p.xs.length ≤ maxLen) (hok : ∀ p ∈ ps, ∀ x ∈ p.xs, okF x) (h : Pics (· < w.heap.size) w a ps) :
    Calls Try.prog 4 #[.agg #[.slice a ps.length c]] w fun e w' => e = .returned (.bool true) ∧ Below w.heap.size w w' := by
  have Hm := Lib.hid hm
  have Hok := Lib.hid hok
  obtain ⟨s, ok, hs⟩ := storeV_is ps
  have Hs := Lib.hid hs
  have S0 : Hid (Std w a c ps (w.alloc (.cells #[.slice a ps.length c] 24))) := Lib.hid ⟨h.keep ((Only.refl (fun _ => False) w).alloc _) (fun _ _ h => h), by simp [go_sem], (Below.refl _ _).alloc (Nat.le_refl _) _, by simp⟩
  clear hm hok h hs
  go_enter Try.func4, Try.ntmps4
  go_wp2_with fail
  refine (szA a c ps 1048576 _ hn Hm.out (Int.le_refl _) (by omega) S0.out.now).mono ?_
  rintro e x1 ⟨r, rfl, hr1, hr2, hr3, hb1⟩
  have S1 := Lib.hid (S0.out.next hb1)
  have Hr3 := Lib.hid hr3
  clear S0 hb1 hr3
  by_cases hr : r < 0
  · go_wp2
    go_ret
    exact ⟨rfl, S1.out.below⟩
  have h3 := Hr3.out (by omega)
  have hps : ps.length ≤ 1048576 := by omega
  have hpm : ∀ p ∈ ps, p.xs.length ≤ 1048576 := fun p hp => by have := h3.2 p hp; omega
  have Hpm := Lib.hid hpm
  clear h3 hpm Hr3 Hm
  have k1 := S1.out.cell
  go_wp2_with fail
  refine (toA a c ps x1 hps Hpm.out S1.out.now).mono ?_
  rintro e x2 ⟨g2, q2, rfl, hc2, ho2, hs2, hb2⟩
  have S2 := Lib.hid (S1.out.next hb2)
  have Hc2 := Lib.hid hc2
  have Ho2 := Lib.hid ho2
  clear hc2 ho2 hs2 hb2 S1 k1
  go_wp2_with fail
  refine (store_copy Hc2.out hps Hpm.out Hok.out (some ⟨g2, 0, none⟩) ps.length s ok Hs.out x2 (Ho2.out.pics.mono (fun k hk => hk.2))).1.mono ?_
  rintro e x3 ⟨rfl, hb3⟩
  have S3 := Lib.hid (S2.out.next hb3)
  clear hb3 S2 Hc2 Ho2
  have k1 := S3.out.cell
  go_wp2_with fail
  refine (toA a c ps x3 hps Hpm.out S3.out.now).mono ?_
  rintro e x4 ⟨g4, q4, rfl, hc4, ho4, hs4, hb4⟩
  have S4 := Lib.hid (S3.out.next hb4)
  have S5 := Lib.hid (S4.out.next (below_alloc x4 (.cells #[.slice (some ⟨g4, 0, none⟩) ps.length ps.length] 32)))
  have Hc4 := Lib.hid hc4
  have Ho4 := Lib.hid ho4
  have Ho5 := Lib.hid (ho4.step' (below_alloc x4 (.cells #[.slice (some ⟨g4, 0, none⟩) ps.length ps.length] 32)))
  clear hc4 ho4 hs4 hb4 S3 k1
  go_wp2_with fail
  refine (store_copy Hc4.out hps Hpm.out Hok.out (some ⟨g4, 0, none⟩) ps.length s ok Hs.out (x4.alloc (.cells #[.slice (some ⟨g4, 0, none⟩) ps.length ps.length] 32)) (Ho5.out.pics.mono (fun k hk => by have := hk.2; simp; omega))).2.mono ?_
  rintro e x6 ⟨rfl, hb6⟩
  have S6 := Lib.hid (S5.out.next hb6)
  have Ho6 := Lib.hid (Ho5.out.step' hb6)
  have hz6 := hb6.size
  simp only [World.size_alloc] at hz6
  have hv6 : x6.cell? ⟨x4.heap.size, 0, none⟩ = some (.slice (some ⟨g4, 0, none⟩) ps.length ps.length) := by rw [hb6.cell (p := ⟨x4.heap.size, 0, none⟩) (by simp)]; simp [go_sem]
  clear hb6 S4 S5 Ho4 Ho5
  have k1 := S6.out.cell
  go_wp2_with fail
  have D6 := Lib.hid (S6.out.next (below_drew x6))
  have Hv6 := Lib.hid (show x6.drew.cell? ⟨x4.heap.size, 0, none⟩ = some (.slice (some ⟨g4, 0, none⟩) ps.length ps.length) from hv6)
  go_region_held3 (fun w' => w'.cell? ⟨x4.heap.size, 0, none⟩ = some (.slice (some ⟨g4, 0, none⟩) ps.length ps.length) ∧ w'.cell? ⟨w.heap.size, 0, none⟩ = some (.slice a ps.length c))
    (first | exact ⟨F8.out, S8.out.cell⟩ | exact ⟨F7.out, S7.out.cell⟩ | exact ⟨Hv6.out, D6.out.cell⟩ | go_keep)
    ((first
      | (go_at_call 9
         refine (toA a c ps x6.drew hps Hpm.out D6.out.now).mono ?_
         rintro e y7 ⟨g7, q7, rfl, hc7, ho7, hs7, hb7⟩
         have S7 := Lib.hid (D6.out.next hb7)
         have F7 := Lib.hid (show y7.cell? ⟨x4.heap.size, 0, none⟩ = some (.slice (some ⟨g4, 0, none⟩) ps.length ps.length) from by rw [hb7.cell (p := ⟨x4.heap.size, 0, none⟩) (by simp [World.size_drew]; omega)]; exact Hv6.out)
         have Hc7 := Lib.hid hc7
         have Ho7 := Lib.hid ho7
         have Hb7 := Lib.hid hb7
         have hz7 : x6.heap.size ≤ y7.heap.size := hb7.size
         clear hc7 ho7 hs7 hb7)
      | (go_at_call 12
         refine (show Calls Try.prog 12 #[.agg #[.slice (some ⟨g4, 0, none⟩) ps.length ps.length], .agg #[.slice (some ⟨g7, 0, none⟩) ps.length ps.length]] y7 _ from by
           have hh := eqA (some ⟨g4, 0, none⟩) (some ⟨g7, 0, none⟩) ps.length ps.length q4 q7 y7 (by rw [Hc4.out.1]; exact hps) (Hc4.out.len Hpm.out) (Hc4.out.peq Hc7.out).1 (Hc4.out.peq Hc7.out).2 (((Ho6.out.step' (below_drew x6)).step' Hb7.out).pics.mono (fun k hk => by have := hk.2; omega)) (Ho7.out.pics.mono (fun k hk => hk.2))
           rw [Hc4.out.1, Hc7.out.1] at hh
           exact hh).mono ?_
         rintro e y8 ⟨rfl, hb8⟩
         have S8 := Lib.hid (S7.out.next hb8)
         have F8 := Lib.hid (show y8.cell? ⟨x4.heap.size, 0, none⟩ = some (.slice (some ⟨g4, 0, none⟩) ps.length ps.length) from by rw [hb8.cell (p := ⟨x4.heap.size, 0, none⟩) (by simp; omega)]; exact F7.out)
         clear hb8)))
  go_wp2_with fail
  go_ret
  exact ⟨rfl, S8.out.below⟩
end Go.Proofs.Ytljkgemkolmihaa
