/- A row of pictures that is built by appending. -/
import Derived.Test.YtljkgemkolmihaaC1
import Derived.Test.YtljkgemkolmihaaP6
import Derived.Deep.RegionLaw
import Derived.Deep.AppendLies
namespace Go.Proofs.Ytljkgemkolmihaa
open Go.RowKit

/-- A row of pictures of the call's own, to which more can be appended. -/
structure Alb (lo : Nat) (w : World) (v : Value) (ds : List PV) : Prop where
  row : w.ownsRow lo 36 3 v ds.length (ds.flatMap PV.cells)
  nums : ∀ d ∈ ds, Wr d.own w d.a (d.xs.map fl)
  numsIn : ∀ d ∈ ds, d.xs ≠ [] → lo ≤ d.blk ∧ d.blk < w.heap.size ∧ some d.blk ≠ v.ownBlock
  apart : ds.Pairwise (fun p q => p.xs ≠ [] → q.xs ≠ [] → p.blk ≠ q.blk)

theorem Alb.nil (lo : Nat) (w : World) : Alb lo w (.slice none 0 0) [] :=
  ⟨World.ownsRow_nil _ _ _ _, by simp, by simp, by simp⟩

theorem Wr.own_of {S : Nat → Prop} {w : World} {p : PV} (h : Wr S w p.a (p.xs.map fl)) : Wr p.own w p.a (p.xs.map fl) ∧ (p.xs ≠ [] → S p.blk) := by
  rcases h with h | ⟨b, o, e, hs, h⟩
  · have : p.xs = [] := by simpa using h
    exact ⟨Or.inl (by rw [this]; rfl), fun hx => (hx this).elim⟩
  · have hb : p.blk = b := by simp [PV.blk, e]
    by_cases hx : p.xs = []
    · exact ⟨Or.inl (by rw [hx]; rfl), fun h => (h hx).elim⟩
    · exact ⟨Or.inr ⟨b, o, e, ⟨hb.symm, hx⟩, h⟩, fun _ => hb ▸ hs⟩

/-- One picture more: it was made from block number H on, behind all of the row's. -/
theorem Alb.push {lo : Nat} {w w1 w' : World} {v : Value} {ds : List PV} {p : PV} {g cap K : Nat} {T : Nat → Prop}
    (h : Alb lo w v ds) (hb : Only T w w1) (hT : ∀ k, T k → k < lo)
    (hp : Wr (fun b => w.heap.size ≤ b ∧ b < w1.heap.size) w1 p.a (p.xs.map fl)) (hlo : lo ≤ w.heap.size)
    (hg : w1.grownBy w' v.ownBlock) (hK : v.ownBlock = some g ∨ g = K) (hKs : w1.heap.size ≤ K)
    (hr : w'.ownsRow lo 36 3 (.slice (some ⟨g, 0, none⟩) (ds.length + 1) cap) (ds.length + 1) (ds.flatMap PV.cells ++ p.cells)) :
    Alb lo w' (.slice (some ⟨g, 0, none⟩) (ds.length + 1) cap) (ds ++ [p]) := by
  obtain ⟨hp1, hp2⟩ := hp.own_of
  have hvl := h.row.lt
  have hog : Only (fun b => some b = v.ownBlock) w1 w' := ⟨hg.os, hg.tape, hg.output, hg.size, fun k hk hn => hg.block k hk hn⟩
  have hgo : ∀ b, b < w1.heap.size → some b ≠ v.ownBlock → some b ≠ some g := fun b hb hne e => by
    rcases hK with hK | hK
    · exact hne (by rw [hK, e])
    · cases e; omega
  refine ⟨?_, ?_, ?_, ?_⟩
  · rw [List.flatMap_append]
    simpa using hr
  · intro d hd
    rw [List.mem_append, List.mem_singleton] at hd
    rcases hd with hd | rfl
    · refine ((h.nums d hd).keep hb (fun k hk hn => ?_)).keep hog (fun k hk hn => ?_)
      · obtain ⟨rfl, hx⟩ := hk
        have := (h.numsIn d hd hx).1; have := hT _ hn; omega
      · obtain ⟨rfl, hx⟩ := hk
        exact (h.numsIn d hd hx).2.2 hn
    · refine hp1.keep hog (fun k hk hn => ?_)
      obtain ⟨rfl, hx⟩ := hk
      have := (hvl _ hn.symm).2
      have := (hp2 hx).1; omega
  · intro d hd hx
    have hs2 := hog.size
    have hs1 := hb.size
    rw [List.mem_append, List.mem_singleton] at hd
    rcases hd with hd | rfl
    · obtain ⟨h1, h2, h3⟩ := h.numsIn d hd hx
      exact ⟨h1, by omega, hgo _ (by omega) h3⟩
    · obtain ⟨h1, h2⟩ := hp2 hx
      refine ⟨by omega, by omega, hgo _ h2 (fun e => ?_)⟩
      have := (hvl _ e.symm).2; omega
  · rw [List.pairwise_append]
    refine ⟨h.apart, by simp, fun a ha b hb hx hy => ?_⟩
    rw [List.mem_singleton] at hb
    subst hb
    have h1 := (h.numsIn a ha hx).2.1
    have h2 := (hp2 hy).1
    omega

/-- a row that is built is a row of the call's own -/
theorem Alb.own {lo : Nat} {w : World} {v : Value} {ds : List PV} (h : Alb lo w v ds) : ∃ a c gb, v = .slice a ds.length c ∧ Own lo w.heap.size gb w a ds := by
  have hl := h.row.lt
  rcases h.row.2 with ⟨rfl, h0⟩ | ⟨g, cap, cur, rfl, hb, hg, hnc, hcm, hcs, htake⟩
  · have : ds = [] := List.eq_nil_of_length_eq_zero h0
    subst this
    exact ⟨none, 0, 0, rfl, Wr.nil, fun h => (h rfl).elim, by simp, by simp, by simp⟩
  · refine ⟨some ⟨g, 0, none⟩, cap, g, rfl, ?_, fun _ => hl g rfl, h.nums, fun d hd hx => ?_, h.apart⟩
    · exact Or.inr ⟨g, 0, rfl, rfl, fun i hi => ⟨by rw [Nat.zero_add, h.row.cellAt i (by rw [flat_length PV.cells 3 PV.cells_length] at hi; exact hi)]; simp [hi], by rw [Nat.zero_add]; exact h.row.frozenAt i⟩⟩
    · obtain ⟨h1, h2, h3⟩ := h.numsIn d hd hx
      exact ⟨h1, h2, fun e => h3 (by simp [Value.ownBlock, e])⟩
theorem Alb.setCell {lo : Nat} {w : World} {v : Value} {ds : List PV} (h : Alb lo w v ds) {p : Addr} (hp : p.block < lo) (u : Value) : Alb lo (w.setCell p u) v ds := by
  refine ⟨ownsRow_setCell_below h.row hp u, fun d hd => (h.nums d hd).setCell (fun hh => ?_) u, fun d hd hx => ?_, h.apart⟩
  · have := (h.numsIn d hd hh.2).1; have := hh.1; omega
  · have := h.numsIn d hd hx
    simpa using this
theorem Alb.low {lo lo' : Nat} {w : World} {v : Value} {ds : List PV} (h : Alb lo w v ds) (hl : lo' ≤ lo) : Alb lo' w v ds := by
  refine ⟨⟨h.row.1, ?_⟩, h.nums, fun d hd hx => ?_, h.apart⟩
  · rcases h.row.2 with h | ⟨g, cap, cur, h1, h2, h3⟩
    · exact Or.inl h
    · exact Or.inr ⟨g, cap, cur, h1, Nat.le_trans hl h2, h3⟩
  · obtain ⟨h1, h2⟩ := h.numsIn d hd hx
    exact ⟨Nat.le_trans hl h1, h2⟩
theorem Alb.shape {lo : Nat} {w : World} {v : Value} {ds : List PV} (h : Alb lo w v ds) : ∃ a c, v = .slice a ds.length c := by
  obtain ⟨a, c, _, hv, _⟩ := h.own
  exact ⟨a, c, hv⟩
theorem Only.ofBelow {w w1 : World} {B : Nat} (h : Below B w w1) (hB : w.heap.size ≤ B) : Only (fun _ => False) w w1 :=
  (Only.below h).mono (fun k hk hn => by omega)

/-- what is owned stays so behind a call that only makes blocks, and behind a new block -/
theorem ownsRow_below {w w1 : World} {lo : Nat} {e : TypeId} {size n : Nat} {v : Value} {xs : List Value} (h : w.ownsRow lo e size v n xs) (hb : Below w.heap.size w w1) : w1.ownsRow lo e size v n xs :=
  h.kept (row := none) ⟨hb.os, hb.tape, hb.output, hb.size, fun k hk _ => hb.block k hk⟩ (by
    cases hv : v.ownBlock
    · exact Or.inl rfl
    · exact Or.inr (by simp))
/-- the block of a variable behind an append to another row -/
theorem one_grown {w w' : World} {q : Nat} {v u : Value} {t : TypeId} (hg : w.grownBy w' v.ownBlock) (hq : w.heap[q]? = some (.cells #[u] t (0, 0))) (hne : v.ownBlock ≠ some q) : w'.heap[q]? = some (.cells #[u] t (0, 0)) := by
  rw [hg.block q (lt_of_block hq) (fun e => hne e.symm)]; exact hq
theorem one_below {B : Nat} {w w' : World} {q : Nat} {u : Value} {t : TypeId} (hb : Below B w w') (hq : w.heap[q]? = some (.cells #[u] t (0, 0))) (hlt : q < B) : w'.heap[q]? = some (.cells #[u] t (0, 0)) := by
  rw [hb.block q hlt]; exact hq
theorem one_alloc {w : World} {q : Nat} {u : Value} {t : TypeId} (hq : w.heap[q]? = some (.cells #[u] t (0, 0))) (o : Obj) : (w.alloc o).heap[q]? = some (.cells #[u] t (0, 0)) := by
  rw [Below.heap_alloc _ _ _ (lt_of_block hq)]; exact hq
end Go.Proofs.Ytljkgemkolmihaa
