/- The law on StoreAlbum. -/
import Derived.Test.YtljkgemkolmihaaB8
import Derived.Test.YtljkgemkolmihaaL3
namespace Go.Proofs.Ytljkgemkolmihaa
open Go.RowKit

theorem Copies.list {ps ds : List PV} (h : Copies ps ds ps.length) : ds.map (fun p => (p.W, p.H, p.xs)) = ps.map (fun p => (p.W, p.H, p.xs)) := by
  obtain ⟨hl, h⟩ := h
  apply List.ext_getElem
  · simp [hl]
  · intro i h1 h2
    have := h i (by simpa using h1) (by simpa using h2)
    simp [this.1, this.2.1, this.2.2]
theorem albL_map (ps : List PV) : albL ps = (ps.map (fun p => (p.W, p.H, p.xs))).foldl (fun out q => out ++ picL q.1 q.2.1 q.2.2 ++ bytesL (chk (out ++ picL q.1 q.2.1 q.2.2)) 2) [] := by
  unfold albL
  rw [List.foldl_map]
  rfl
theorem Copies.storeV {ps ds : List PV} (h : Copies ps ds ps.length) : storeV ds = storeV ps := by
  unfold Ytljkgemkolmihaa.storeV
  rw [h.albB, albL_map, albL_map, h.list]
theorem Copies.okF {ps ds : List PV} (h : Copies ps ds ps.length) (hok : ∀ p ∈ ps, ∀ x ∈ p.xs, okF x) : ∀ p ∈ ds, ∀ x ∈ p.xs, okF x := by
  intro p hp x hx
  obtain ⟨i, hi, rfl⟩ := List.getElem_of_mem hp
  have hi2 : i < ps.length := by rw [← h.1]; exact hi
  rw [(h.2 i hi hi2).2.2] at hx
  exact hok _ (List.getElem_mem hi2) x hx

set_option maxRecDepth 100000 in
set_option maxHeartbeats 4000000 in
theorem sstoreA_any (a : Option Addr) (c : Nat) (ps : List PV) (w : World) (hn : ps.length ≤ 1048576) (hm : ∀ p ∈ ps, p.xs.length ≤ maxLen) (hok : ∀ p ∈ ps, ∀ x ∈ p.xs, okF x) (h : Pics (· < w.heap.size) w a ps) :
    Calls Try.prog 17 #[.agg #[.slice a ps.length c]] w fun e w' => e = .returned (storeV ps) ∧ Below w.heap.size w w' := by
  have Hm := Lib.hid hm
  have Hok := Lib.hid hok
  have H1 := Lib.hid (h.keep ((Only.refl (fun _ => False) w).alloc (.cells #[.slice a ps.length c] 32)) (fun _ _ h => h))
  have hp : (w.alloc (.cells #[.slice a ps.length c] 32)).cell? ⟨w.heap.size, 0, none⟩ = some (.slice a ps.length c) := by simp [go_sem]
  have Hp := Lib.hid hp
  clear hm hok h hp
  cases hv : albB ps
  · have hs : storeV ps = .tuple #[.string ⟨#[]⟩, .bool false] := by simp [storeV, hv]
    rw [hs]
    have Hv := Lib.hid hv
    clear hv hs
    go_enter Try.func17, Try.ntmps17
    go_wp2_with (go_at_call 30; go_must (refine (sAlbum_any w.heap.size w.heap.size a c ps _ hn Hm.out H1.out Hp.out).mono ?_); rw [Hv.out]; rintro e w1 ⟨rfl, hd1⟩)
    go_ret2
    exact ⟨rfl, ((Below.refl _ _).alloc (Nat.le_refl _) _).trans hd1.below⟩
  · have hs : storeV ps = .tuple #[.string ⟨(albL ps).toArray⟩, .bool true] := by simp [storeV, hv]
    rw [hs]
    have HL := Lib.hid (albB_len hv)
    have Hv := Lib.hid hv
    clear hv hs
    go_enter Try.func17, Try.ntmps17
    go_wp2_with (first
      | (go_at_call 30; go_must (refine (sAlbum_any w.heap.size w.heap.size a c ps _ hn Hm.out H1.out Hp.out).mono ?_); rw [Hv.out]; rintro e w1 ⟨rfl, hd1⟩; have B1 : Below (w.heap.size + 1) (w.alloc (.cells #[.slice a ps.length c] 32)) w1 := hd1.below)
      | (go_at_call 44
         go_must (refine (sbytes_any w.heap.size a c ps _ HL.out.1 HL.out.2 Hok.out ((H1.out.keep (Only.below B1) (fun k hk hn => by omega)).mono (fun k hk => by have := B1.size; simp at this; omega)) (by have := B1.size; simp at this; omega) (by rw [B1.cell (p := ⟨w.heap.size, 0, none⟩) (by simp)]; exact Hp.out)).mono ?_)
         rintro e w2 ⟨rfl, hb2⟩))
    go_ret2
    exact ⟨rfl, (((Below.refl _ _).alloc (Nat.le_refl _) _).trans (B1.mono (by omega))).trans (hb2.mono (by have := B1.size; simp at this; omega))⟩
end Go.Proofs.Ytljkgemkolmihaa
