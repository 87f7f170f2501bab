/- A row of pictures of the call's own: an element stored whole. -/
import Derived.Test.YtljkgemkolmihaaP4
namespace Go.Proofs.Ytljkgemkolmihaa
open Go.RowKit

theorem Own.grow {lo hi hi' gb : Nat} {w : World} {a : Option Addr} {ds : List PV} (h : Own lo hi gb w a ds) (hh : hi ≤ hi') : Own lo hi' gb w a ds :=
  ⟨h.row, fun e => ⟨(h.rowIn e).1, Nat.lt_of_lt_of_le (h.rowIn e).2 hh⟩, h.nums, fun d hd hx => ⟨(h.numsIn d hd hx).1, Nat.lt_of_lt_of_le (h.numsIn d hd hx).2.1 hh, (h.numsIn d hd hx).2.2⟩, h.apart⟩

theorem Own.low {lo lo' hi gb : Nat} {w : World} {a : Option Addr} {ds : List PV} (h : Own lo hi gb w a ds) (hh : lo' ≤ lo) : Own lo' hi gb w a ds :=
  ⟨h.row, fun e => ⟨Nat.le_trans hh (h.rowIn e).1, (h.rowIn e).2⟩, h.nums, fun d hd hx => ⟨Nat.le_trans hh (h.numsIn d hd hx).1, (h.numsIn d hd hx).2⟩, h.apart⟩

/-- three cells stored one after another -/
def set3 (w : World) (b o : Nat) (p : PV) : World :=
  ((w.setCell ⟨b, o, none⟩ (.int .i64 p.W)).setCell ⟨b, o + 1, none⟩ (.int .i64 p.H)).setCell ⟨b, o + 2, none⟩ (.slice p.a p.xs.length p.c)

theorem Own.put {lo hi hi' gb : Nat} {w : World} {b o : Nat} {A B : List PV} {d p : PV}
    (h : Own lo hi gb w (some ⟨b, o, none⟩) (A ++ d :: B)) (hb : b = gb) (hh : hi ≤ hi')
    (hw : Wr p.own w p.a (p.xs.map fl)) (hp : p.xs ≠ [] → hi ≤ p.blk ∧ p.blk < hi') (hlo : lo ≤ hi) :
    Own lo hi' gb (set3 w b (o + A.length * 3) p) (some ⟨b, o, none⟩) (A ++ p :: B) := by
  subst hb
  have hne : A ++ d :: B ≠ [] := by simp
  have hin := h.rowIn hne
  have hrow := h.row
  rcases hrow with hrow | ⟨b', o', e, _, hrow⟩
  · exfalso
    have := congrArg List.length hrow
    rw [flat_length PV.cells 3 PV.cells_length] at this; simp at this
  simp only [Option.some.injEq, Addr.mk.injEq, and_true] at e
  obtain ⟨rfl, rfl⟩ := e
  have hL : ((A ++ d :: B).flatMap PV.cells).length = (A ++ d :: B).length * 3 := flat_length PV.cells 3 PV.cells_length _
  have hset : A ++ p :: B = (A ++ d :: B).set A.length p := by simp
  have hAl : A.length < (A ++ d :: B).length := by simp
  have hAi : A.length * 3 + 2 < ((A ++ d :: B).flatMap PV.cells).length := by rw [hL]; simp; omega
  have ne3 : ∀ q : PV, (q.xs ≠ [] → q.blk ≠ b) → Wr q.own w q.a (q.xs.map fl) → Wr q.own (set3 w b (o + A.length * 3) p) q.a (q.xs.map fl) := by
    intro q hq hwq
    refine ((hwq.setCell ?_ _).setCell ?_ _).setCell ?_ _
    all_goals (intro hh; exact hq hh.2 hh.1.symm)
  refine ⟨?_, fun _ => ⟨hin.1, Nat.lt_of_lt_of_le hin.2 hh⟩, ?_, ?_, ?_⟩
  · have h1 := Wr.set hrow (S := (· = b)) rfl (A.length * 3) (.int .i64 p.W)
    rcases h1 with h1 | ⟨b2, o2, e2, _, h1⟩
    · exfalso
      have := congrArg List.length h1
      rw [List.length_set, hL] at this; simp at this
    simp only [Option.some.injEq, Addr.mk.injEq, and_true] at e2
    obtain ⟨rfl, rfl⟩ := e2
    have h2 := Wr.set h1 (S := (· = b)) rfl (A.length * 3 + 1) (.int .i64 p.H)
    rcases h2 with h2 | ⟨b3, o3, e3, _, h2⟩
    · exfalso
      have := congrArg List.length h2
      rw [List.length_set, List.length_set, hL] at this; simp at this
    simp only [Option.some.injEq, Addr.mk.injEq, and_true] at e3
    obtain ⟨rfl, rfl⟩ := e3
    have h3 := Wr.set h2 (S := (· = b)) rfl (A.length * 3 + 2) (.slice p.a p.xs.length p.c)
    have e4 : ((((A ++ d :: B).flatMap PV.cells).set (A.length * 3) (.int .i64 p.W)).set (A.length * 3 + 1) (.int .i64 p.H)).set (A.length * 3 + 2) (.slice p.a p.xs.length p.c) = (A ++ p :: B).flatMap PV.cells := by
      apply List.ext_getElem?
      intro i
      rw [hset, flat_set PV.cells 3 PV.cells_length _ _ _ hAl i]
      simp only [List.getElem?_set, List.length_set]
      by_cases c3 : i = A.length * 3 + 2
      · subst c3
        rw [if_pos rfl, if_pos (by omega), if_pos (by omega)]
        have : A.length * 3 + 2 - A.length * 3 = 2 := by omega
        rw [this]; rfl
      · rw [if_neg (by omega)]
        by_cases c1 : i = A.length * 3 + 1
        · subst c1
          rw [if_pos rfl, if_pos (by omega), if_pos (by omega)]
          have : A.length * 3 + 1 - A.length * 3 = 1 := by omega
          rw [this]; rfl
        · rw [if_neg (by omega)]
          by_cases c2 : i = A.length * 3
          · subst c2
            rw [if_pos rfl, if_pos (by omega), if_pos (by omega)]
            simp [PV.cells]
          · rw [if_neg (by omega), if_neg (by omega)]
    rw [e4] at h3
    exact h3
  · intro q hq
    simp only [List.mem_append, List.mem_cons] at hq
    rcases hq with hq | rfl | hq
    · exact ne3 q (fun hx => (h.numsIn q (by simp [hq]) hx).2.2) (h.nums q (by simp [hq]))
    · exact ne3 _ (fun hx e => by have := (hp hx).1; omega) hw
    · exact ne3 q (fun hx => (h.numsIn q (by simp [hq]) hx).2.2) (h.nums q (by simp [hq]))
  · intro q hq hx
    simp only [List.mem_append, List.mem_cons] at hq
    have other : ∀ q, q ∈ A ++ d :: B → q.xs ≠ [] → lo ≤ q.blk ∧ q.blk < hi' ∧ q.blk ≠ b := fun q hq hx => by
      have := h.numsIn q hq hx
      exact ⟨this.1, by omega, this.2.2⟩
    rcases hq with hq | rfl | hq
    · exact other q (by simp [hq]) hx
    · have := hp hx
      exact ⟨by omega, this.2, by omega⟩
    · exact other q (by simp [hq]) hx
  · have hap := h.apart
    rw [List.pairwise_append] at hap ⊢
    obtain ⟨p1, p2, p3⟩ := hap
    rw [List.pairwise_cons] at p2 ⊢
    refine ⟨p1, ⟨fun q hq a b' => ?_, p2.2⟩, fun q hq r hr => ?_⟩
    · have h1 := h.numsIn q (by simp [hq]) b'
      have h2 := hp a
      omega
    · simp only [List.mem_cons] at hr
      rcases hr with rfl | hr
      · intro a b'
        have h1 := h.numsIn q (by simp [hq]) a
        have h2 := hp b'
        omega
      · exact p3 q hq r (by simp [hr])

/-- the zero picture -/
def zeroPV : PV := ⟨0, 0, none, 0, []⟩
theorem own_zeros {w : World} {base : Nat} {e : TypeId} {g n cap : Nat} (h : w.ownsRow base e 3 (.slice (some ⟨g, 0, none⟩) n cap) n (madeCells (Value.cells (.agg #[.int .i64 0, .int .i64 0, .slice none 0 0])) (n * 3)).toList) :
    Own g (g + 1) g w (some ⟨g, 0, none⟩) (List.replicate n zeroPV) := by
  have hz : ∀ i, i < n * 3 → (madeCells (Value.cells (.agg #[.int .i64 0, .int .i64 0, .slice none 0 0])) (n * 3)).toList[i]? = ((List.replicate n zeroPV).flatMap PV.cells)[i]? := by
    intro i hi
    have h1 : i = (i / 3) * 3 + i % 3 := by omega
    rw [h1, flat_get PV.cells 3 PV.cells_length _ (i / 3) (i % 3) (by simp; omega) (by omega)]
    simp only [List.getElem_replicate]
    simp only [madeCells, Value.cells, Array.toList_map, List.getElem?_map, Array.toList_range]
    rw [List.getElem?_range (by omega)]
    have h2 : (i / 3 * 3 + i % 3) % 3 = i % 3 := by omega
    have h3 : i % 3 = 0 ∨ i % 3 = 1 ∨ i % 3 = 2 := by omega
    rcases h3 with h3 | h3 | h3 <;> simp [h2, h3, zeroPV, PV.cells]
  have hl := flat_length PV.cells 3 PV.cells_length (List.replicate n zeroPV)
  rw [List.length_replicate] at hl
  refine ⟨Or.inr ⟨g, 0, rfl, rfl, fun i hi => ⟨?_, ?_⟩⟩, fun _ => ⟨Nat.le_refl _, Nat.lt_succ_self _⟩, ?_, ?_, ?_⟩
  · rw [Nat.zero_add, h.cellAt i (by omega), hz i (by omega)]; simp [hi]
  · rw [Nat.zero_add]; exact h.frozenAt i
  · intro d hd; rw [List.eq_of_mem_replicate hd]; exact Wr.nil
  · intro d hd hx; rw [List.eq_of_mem_replicate hd] at hx; exact (hx rfl).elim
  · refine List.Pairwise.imp_of_mem (R := fun _ _ => True) ?_ (List.pairwise_of_forall (by simp))
    intro a b ha _ _ hx
    rw [List.eq_of_mem_replicate ha] at hx; exact (hx rfl).elim
/-- the cells of one picture of the row, and that they may be written -/
theorem Own.at3 {lo hi gb : Nat} {w : World} {b o : Nat} {A B : List PV} {d : PV} (h : Own lo hi gb w (some ⟨b, o, none⟩) (A ++ d :: B)) :
    b = gb ∧ ∀ t, t < 3 → w.cell? ⟨b, o + A.length * 3 + t, none⟩ = d.cells[t]? ∧ w.frozen? ⟨b, o + A.length * 3 + t, none⟩ = false := by
  rcases h.row with hrow | ⟨b', o', e, hb, hrow⟩
  · exfalso
    have := congrArg List.length hrow
    rw [flat_length PV.cells 3 PV.cells_length] at this; simp at this
  simp only [Option.some.injEq, Addr.mk.injEq, and_true] at e
  obtain ⟨rfl, rfl⟩ := e
  refine ⟨hb, fun t ht => ?_⟩
  have hL : ((A ++ d :: B).flatMap PV.cells).length = (A ++ d :: B).length * 3 := flat_length PV.cells 3 PV.cells_length _
  have hAl : A.length < (A ++ d :: B).length := by simp
  have := hrow (A.length * 3 + t) (by rw [hL]; simp; omega)
  rw [← Nat.add_assoc] at this
  refine ⟨?_, this.2⟩
  rw [this.1, ← List.getElem?_eq_getElem, flat_get PV.cells 3 PV.cells_length _ _ _ hAl ht]
  simp
theorem set3_size (w : World) (b o : Nat) (p : PV) : (set3 w b o p).heap.size = w.heap.size := by simp [set3]
theorem set3_below {B : Nat} {a w : World} (h : Below B a w) {b : Nat} (hb : B ≤ b) (o : Nat) (p : PV) : Below B a (set3 w b o p) :=
  ((h.setCell hb _).setCell hb _).setCell hb _
end Go.Proofs.Ytljkgemkolmihaa
