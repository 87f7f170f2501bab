/- Plain words for the laws' long walks: variables in memory, copies of copies. -/
import Derived.Test.YtljkgemkolmihaaL1
namespace Go.Proofs.Ytljkgemkolmihaa
open Go.RowKit

/-- variables: cells that hold what they hold -/
def Cells (w : World) : List (Nat × Nat × Value) → Prop
  | [] => True
  | x :: r => w.cell? ⟨x.1, x.2.1, none⟩ = some x.2.2 ∧ Cells w r
theorem Cells.keep {w w' : World} {T : Nat → Prop} (ho : Only T w w') : ∀ {l : List (Nat × Nat × Value)}, Cells w l → (∀ x ∈ l, ¬ T x.1) → Cells w' l
  | [], _, _ => trivial
  | x :: r, h, hd => ⟨(World.cell?_of_block (w := w) (ho.block x.1 (lt_of_cell h.1) (hd x (by simp)))).trans h.1, Cells.keep ho h.2 (fun y hy => hd y (by simp [hy]))⟩
theorem Cells.below {w w' : World} (hb : Below w.heap.size w w') {l : List (Nat × Nat × Value)} (h : Cells w l) : Cells w' l :=
  Cells.keep (Only.ofBelow hb (Nat.le_refl _)) h (fun _ _ h => h)
theorem Cells.alloc {w : World} {l : List (Nat × Nat × Value)} (h : Cells w l) (o : Obj) : Cells (w.alloc o) l :=
  Cells.keep ((Only.refl (fun _ => False) w).alloc o) h (fun _ _ h => h)
theorem Cells.drew {w : World} {l : List (Nat × Nat × Value)} (h : Cells w l) : Cells w.drew l :=
  Cells.keep ((Only.refl (fun _ => False) w).drew) h (fun _ _ h => h)

theorem Copies.trans {ps qs ds : List PV} (h : Copies ps qs ps.length) (g : Copies qs ds qs.length) : Copies ps ds ps.length := by
  obtain ⟨h1, h2⟩ := h
  obtain ⟨g1, g2⟩ := g
  refine ⟨by omega, fun i a b => ?_⟩
  have x := g2 i a (by omega)
  have y := h2 i (by omega) b
  exact ⟨x.1.trans y.1, x.2.1.trans y.2.1, x.2.2.trans y.2.2⟩
theorem Copies.peq {ps ds es : List PV} (h : Copies ps ds ps.length) (g : Copies ps es ps.length) : ds.length = es.length ∧ ∀ i (h1 : i < ds.length) (h2 : i < es.length), PEq ds[i] es[i] := by
  obtain ⟨h1, h2⟩ := h
  obtain ⟨g1, g2⟩ := g
  refine ⟨by omega, fun i a b => ?_⟩
  have x := h2 i a (by omega)
  have y := g2 i b (by omega)
  refine ⟨x.1.trans y.1.symm, x.2.1.trans y.2.1.symm, by rw [x.2.2, y.2.2], fun k h1 h2 => ?_⟩
  have e : ds[i].xs = es[i].xs := x.2.2.trans y.2.2.symm
  have : ds[i].xs[k] = es[i].xs[k] := by simp only [e]
  rw [this]; exact FEq.refl _ _
theorem Copies.len {ps ds : List PV} (h : Copies ps ds ps.length) {B : Nat} (hm : ∀ p ∈ ps, p.xs.length ≤ B) : ∀ p ∈ ds, p.xs.length ≤ B := by
  intro p hp
  obtain ⟨i, hi, rfl⟩ := List.getElem_of_mem hp
  have := h.2 i hi (by rw [← h.1]; exact hi)
  rw [this.2.2]
  exact hm _ (List.getElem_mem _)
theorem Copies.self (ps : List PV) : Copies ps ps ps.length := ⟨rfl, fun _ _ _ => ⟨rfl, rfl, rfl⟩⟩
/-- adding to copies gives copies of what adding gives -/
theorem Copies.addB {ps qs : List PV} (h : Copies ps qs ps.length) (p q : PV) (hq : q.W = p.W ∧ q.H = p.H ∧ q.xs = p.xs) : addB qs q = addB ps p := by
  unfold Ytljkgemkolmihaa.addB
  rw [h.albB, (h.both p q hq).albB]
theorem Copies.addL {ps qs ds : List PV} (h : Copies ps qs ps.length) (p q : PV) (hq : q.W = p.W ∧ q.H = p.H ∧ q.xs = p.xs) (g : Copies (addL qs q) ds (addL qs q).length) : Copies (addL ps p) ds (addL ps p).length := by
  have e := h.addB p q hq
  unfold Ytljkgemkolmihaa.addL at *
  rw [e] at g
  cases hb : Ytljkgemkolmihaa.addB ps p
  · rw [hb] at g; exact g
  · rw [hb] at g; exact (h.both p q hq).trans g
theorem addL_len {ps : List PV} {p : PV} (hn : ps.length ≤ 1048576) (hm : ∀ x ∈ ps, x.xs.length ≤ 1048576) (hp : p.xs.length ≤ 1048576) : (addL ps p).length ≤ 8 ∧ ∀ x ∈ addL ps p, x.xs.length ≤ 1048576 := by
  unfold addL
  cases h : addB ps p
  · simp
  · simp only [if_true]
    have h8 : (ps ++ [p]).length ≤ 8 := by
      simp only [addB, Bool.and_eq_true, albB, decide_eq_true_eq] at h; exact h.2.1
    refine ⟨h8, fun x hx => ?_⟩
    rw [List.mem_append, List.mem_singleton] at hx
    rcases hx with hx | rfl
    · exact hm x hx
    · exact hp
end Go.Proofs.Ytljkgemkolmihaa
