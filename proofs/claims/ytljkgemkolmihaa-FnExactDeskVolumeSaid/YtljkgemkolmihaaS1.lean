/- The reference's copies of pictures and albums. -/
import Derived.Test.YtljkgemkolmihaaC4
namespace Go.Proofs.Ytljkgemkolmihaa
open Go.RowKit

theorem ownsRow_ofHeap {w w' : World} {lo : Nat} {e : TypeId} {size n : Nat} {v : Value} {xs : List Value} (h : w.ownsRow lo e size v n xs) (hh : w'.heap = w.heap) : w'.ownsRow lo e size v n xs := by
  unfold World.ownsRow at *
  rw [hh]; exact h

/-- append of a row that is read to a row of the call's own, as a step of a region -/
theorem step_append_any {P : Program} {w : World} {ops : Array Oper} {o : Oper} {a : Act} {K : Act → World → Prop} {Q : Exit → Act → World → Prop} {E : Prop} (hgd : o.guard = none) (s x : Operand) (t : TypeId)
    (ho : o.op = .call { callee := .builtin .append, args := #[s, x], argTypes := #[t, t] })
    (base : Nat) (e : TypeId) (i : TypeInfo) (z : Value) (size bytes : Nat) (ht : P.underlying t = some (.slice e)) (hi : P.info? e = some i) (hz : i.zero = some z)
    (hsize : i.size = size) (hby : i.bytes = bytes) (hzs : z.cells.size = size) (hsz : 0 < size)
    (v : Value) (n : Nat) (xs : List Value) (hs : a.eval s = v) (hown : w.ownsRow base e size v n xs)
    (ad : Addr) (m c : Nat) (news : List Value) (hx : a.eval x = .slice (some ad) m c) (hl : news.length = m * size) (hnews : ∀ j u, news[j]? = some u → w.cell? (ad.add j) = some u) (h1 : ∀ u ∈ news, u.oneCell' = true)
    (h63 : n + m ≤ maxLen) (hbytes : (n + m) * bytes ≤ 140737488355328) (hbase : base ≤ w.heap.size)
    (h : ∀ v' w', w'.ownsRow base e size v' (n + m) (xs ++ news) → w.grownBy w' v.ownBlock → K (a.put o.dst v') w') :
    if Region.wanted o (yielded ops a.tmps) = true then Oper.wp P o a w K Q else E := by
  have hw : Region.wanted o (yielded ops a.tmps) = true := by simp [Region.wanted, hgd]
  rw [if_pos hw]
  exact wp_append_own w s x t ho base e i z size bytes ht hi hz hsize hby hzs hsz v n xs hs hown ad m c news hx hl hnews h1 h63 hbytes hbase (fun v' w' h2 h3 _ => h v' w' h2 h3)

set_option maxRecDepth 100000 in
set_option maxHeartbeats 1600000 in
theorem sOwn_any (B : Nat) (b o : Nat) (W H : Int) (ad : Addr) (c : Nat) (xs : List Nat) (w : World) (hn : xs.length ≤ 1048576) (h : Rd (· < B) w (some ad) (xs.map fl)) (hB : B ≤ w.heap.size)
    (hb : b < w.heap.size) (c0 : w.cell? ⟨b, o, none⟩ = some (.int .i64 W)) (c1 : w.cell? ⟨b, o + 1, none⟩ = some (.int .i64 H)) (c2 : w.cell? ⟨b, o + 2, none⟩ = some (.slice (some ad) xs.length c)) :
    Calls Try.prog 33 #[.pointer (some ⟨b, o, none⟩)] w (FreshP W H xs w) := by
  obtain ⟨i0, hi, hz0, hz1, hz2⟩ := info_parts infoF
  have hne : b ≠ w.heap.size := by omega
  have hne' : w.heap.size ≠ b := by omega
  have hnews : Hid (∀ W' : World, W'.heap = ((w.alloc (.cells #[.int .i64 0, .int .i64 0, .slice none 0 0] 36)).alloc (.cells #[] 95)).heap → ∀ j u, (xs.map fl)[j]? = some u → W'.cell? (ad.add j) = some u) := fun W' hW => (((h.alloc _).alloc _).ofHeap hW).news
  have hown0 : Hid (∀ W' : World, W'.heap = ((w.alloc (.cells #[.int .i64 0, .int .i64 0, .slice none 0 0] 36)).alloc (.cells #[] 95)).heap → W'.ownsRow (w.heap.size + 1) 95 1 (.slice (some ⟨w.heap.size + 1, 0, none⟩) 0 0) 0 []) := fun W' hW =>
    ownsRow_ofHeap (by simpa using (World.ownsRow_made (e := 95) (size := 1) (base := w.heap.size + 1) (w.alloc (.cells #[.int .i64 0, .int .i64 0, .slice none 0 0] 36)) #[] 0 (by simp) (by decide) (by simp))) hW
  go_enter Try.func33, Try.ntmps33
  go_wp2_with fail
  go_region_held3 (fun w' => w'.cell? ⟨b, o, none⟩ = some (.int .i64 W) ∧ w'.cell? ⟨b, o + 1, none⟩ = some (.int .i64 H) ∧ w'.cell? ⟨b, o + 2, none⟩ = some (.slice (some ad) xs.length c))
    (first | (go_split_ands; refine ⟨?_, ?_, ?_⟩ <;> (rw [hgrow.cell_far _ (by simp; omega) (by simp [Value.ownBlock]; omega)]; assumption)) | (go_split_ands; refine ⟨?_, ?_, ?_⟩ <;> (rw [World.cell?_setCell_far _ _ _ _ hne', World.cell?_setCell_far _ _ _ _ hne', World.cell?_setCell_far _ _ _ _ hne']; assumption)) | go_keep)
    ((refine step_append_any (by rfl) (.tmp 11) (.tmp 15) 25 (by rfl) (w.heap.size + 1) 95 i0 (.float .f32 0) 1 4 Try.underlying25 hi hz0 hz1 hz2 rfl (by omega) (.slice (some ⟨w.heap.size + 1, 0, none⟩) 0 0) 0 [] (by rfl) (hown0.out _ rfl) ad xs.length c (xs.map fl) (by rfl) (by simp) (hnews.out _ rfl) (fl_one xs) (by unfold maxLen; omega) (by omega) (by simp) ?_
      intro v' w1 hown1 hgrow
      obtain ⟨a', c', rfl, hw1⟩ := Wr.ofOwns' hown1
      have hb1 : Below (w.heap.size + 1) ((w.alloc (.cells #[.int .i64 0, .int .i64 0, .slice none 0 0] 36)).alloc (.cells #[] 95)).drew w1 := (Below.refl _ _).grown hgrow (by simp) (fun k hk => by cases hk; exact Nat.le_refl _)
      obtain ⟨cB, fB⟩ := belowAt hb1
      have k0 : w1.cell? ⟨w.heap.size, 0, none⟩ = some (.int .i64 0) := by rw [cB _ _ (by omega)]; simp [go_sem]
      have k1 : w1.cell? ⟨w.heap.size, 1, none⟩ = some (.int .i64 0) := by rw [cB _ _ (by omega)]; simp [go_sem]
      have k2 : w1.cell? ⟨w.heap.size, 2, none⟩ = some (.slice none 0 0) := by rw [cB _ _ (by omega)]; simp [go_sem]
      have f0 : w1.frozen? ⟨w.heap.size, 0, none⟩ = false := by rw [fB _ _ (by omega)]; simp [go_sem]
      have f1 : w1.frozen? ⟨w.heap.size, 1, none⟩ = false := by rw [fB _ _ (by omega)]; simp [go_sem]
      have f2 : w1.frozen? ⟨w.heap.size, 2, none⟩ = false := by rw [fB _ _ (by omega)]; simp [go_sem]
      clear cB fB))
  go_wp2
  refine bodyPost_ret (v := .agg #[.int .i64 W, .int .i64 H, .slice a' xs.length c']) (by simp [results, Try.results33, go_sem, k0, k1, k2]) rfl ⟨a', c', rfl, ?_, ?_⟩
  · simp only [List.nil_append] at hw1
    have hw2 := ((hw1.setCell (p := ⟨w.heap.size, 0, none⟩) (by simp; omega) (.int .i64 W)).setCell (p := ⟨w.heap.size, 1, none⟩) (by simp; omega) (.int .i64 H)).setCell (p := ⟨w.heap.size, 2, none⟩) (by simp; omega) (.slice a' xs.length c')
    exact hw2.mono (fun k hk => by simp at hk ⊢; omega)
  · refine ((((((Below.refl w.heap.size w).alloc (Nat.le_refl _) _).alloc (by simp) _).drew.trans (hb1.mono (by omega))).setCell ?_ _).setCell ?_ _).setCell ?_ _ <;> simp
end Go.Proofs.Ytljkgemkolmihaa
