/- What the reading of an argument says of the memory behind it: rows of numbers, rows of pictures. -/
import Derived.Test.YtljkgemkolmihaaP2
import Derived.ProofKit
import Derived.Deep.Fields
import Derived.Deep.Strs
import Derived.Lib.SmallJoins
namespace Go.Proofs.Ytljkgemkolmihaa
open Go.ChangeShapes Go.WideShapes Go.ChangeAt Go.RowKit Go.Deep

section
variable {H : Type} {enc : TypeId × Value → H} {P : Program} {w : World}

theorem trod_fl {base : Nat} {sp : Nat → Bool} {held : Bool} {fuel : Nat} {t : TypeId} {cs : List Value} {x : DataW H × List MemPlace} {k : FloatKind} (ht : P.underlying t = some (.float k)) (h : DataW.trod enc P w base sp held fuel t cs = some x) : ∃ n, cs = [.float k n] := by
  cases fuel with
  | zero => simp [DataW.trod] at h
  | succ n =>
    unfold DataW.trod at h
    rw [ht] at h
    split at h <;> simp_all

theorem rd_of (a : Addr) (xs : List Value) (h : ∀ i (h : i < xs.length), w.cell? (a.add i) = some xs[i]) : Rd (· < w.heap.size) w (some a) xs := by
  by_cases hx : xs = []
  · exact Or.inl hx
  · have hp : 0 < xs.length := by cases xs <;> simp_all
    have h0 := h 0 hp
    obtain ⟨b, o, s⟩ := a
    have hs : s = none := by simpa [Addr.add] using World.cell?_spot h0
    subst hs
    have key : ∀ i (h : i < xs.length), w.cell? ⟨b, o + i, none⟩ = some xs[i] := fun i hi => by
      rw [← h i hi]
      unfold Addr.add
      split
      · rename_i h0; subst h0; rfl
      · rfl
    exact Or.inr ⟨b, o, rfl, lt_of_cell (key 0 hp), key⟩

theorem open_fls {t e : TypeId} {fuel : Nat} {cs : List Value} {x : DataW H × List MemPlace} (ht : P.underlying t = some (.slice e)) (he : P.underlying e = some (.float .f32)) (hc : P.cellsOf e = 1)
    (h : DataW.trod enc P w 0 (fun _ => true) true fuel t cs = some x) :
    ∃ a c, ∃ xs : List Nat, cs = [.slice a xs.length c] ∧ xs.length ≤ maxLen ∧ Rd (· < w.heap.size) w a (xs.map fl) := by
  rcases open_slice1 ht hc h with ⟨rfl, _⟩ | ⟨a, len, cap, m, n, V, D, Pl, rfl, hb, hl, hm, hmm, _, hx⟩
  · exact ⟨none, 0, [], rfl, Nat.zero_le _, Rd.nil⟩
  · simp only [if_true] at hmm
    obtain ⟨f, hf⟩ := choose_lt (α := Nat) (n := len) (p := fun i k => w.cell? (a.add i) = some (fl k)) (fun i hi => by
      obtain ⟨h1, h2⟩ := hx i (by omega)
      obtain ⟨k, hk⟩ := trod_fl he h2
      simp only [List.cons.injEq, and_true] at hk
      exact ⟨k, by rw [h1, hk]⟩)
    refine ⟨some a, cap, (List.range len).map f, by simp, by simp; omega, rd_of a _ fun i hi => ?_⟩
    have hi' : i < len := by simpa using hi
    rw [hf i hi']
    simp

/-- a picture taken by value -/
theorem open_pic {r : Reach} {b0 : Nat} {t : TypeId} {f0 f1 f2 : Field} {v : Value} {d : DataW H} {p : List MemPlace} {e : TypeId} (hs : P.underlying t = some (.struct #[f0, f1, f2])) (hone : oneCellFields P #[f0, f1, f2] = true) (hC : P.cellsOf t = 3)
    (h0 : P.underlying f0.type = some (.int .i64)) (h1 : P.underlying f1.type = some (.int .i64)) (h2 : P.underlying f2.type = some (.slice e)) (he : P.underlying e = some (.float .f32)) (hc : P.cellsOf e = 1)
    (hv : Value.okWide P w r b0 t v) (h : DataW.Trod enc P w 0 (fun _ => true) true t v d p) :
    ∃ W H a c, ∃ xs : List Nat, v = .agg #[.int .i64 W, .int .i64 H, .slice a xs.length c] ∧ (Lit.int .i64 W).wf = true ∧ (Lit.int .i64 H).wf = true ∧ xs.length ≤ maxLen ∧ Rd (· < w.heap.size) w a (xs.map fl) := by
  obtain ⟨v0, v1, v2, y0, y1, y2, n, rfl, rfl, rfl, g0, g1, g2⟩ := Joins.open_agg3 hs hone hC hv h
  obtain ⟨W, e0, _, w0⟩ := DataW.trod_int h0 g0
  obtain ⟨H, e1, _, w1⟩ := DataW.trod_int h1 g1
  obtain ⟨a, c, xs, e2, hm, hr⟩ := open_fls h2 he hc g2
  simp only [List.cons.injEq, and_true] at e0 e1 e2
  subst e0 e1 e2
  exact ⟨W, H, a, c, xs, rfl, w0, w1, hm, hr⟩

instance : Inhabited PV := ⟨⟨0, 0, none, 0, []⟩⟩

/-- a row of pictures -/
theorem open_pics {t : TypeId} {fuel : Nat} {cs : List Value} {x : DataW H × List MemPlace} {f0 f1 f2 : Field} {e' e : TypeId} (ht : P.underlying t = some (.slice e')) (hs : P.underlying e' = some (.struct #[f0, f1, f2])) (hone : oneCellFields P #[f0, f1, f2] = true) (hC : P.cellsOf e' = 3)
    (h0 : P.underlying f0.type = some (.int .i64)) (h1 : P.underlying f1.type = some (.int .i64)) (h2 : P.underlying f2.type = some (.slice e)) (he : P.underlying e = some (.float .f32)) (hc : P.cellsOf e = 1)
    (h : DataW.trod enc P w 0 (fun _ => true) true fuel t cs = some x) :
    ∃ a c, ∃ ps : List PV, cs = [.slice a ps.length c] ∧ ps.length ≤ maxLen ∧ (∀ p ∈ ps, p.xs.length ≤ maxLen) ∧ Pics (· < w.heap.size) w a ps := by
  rcases open_slice ht h with ⟨rfl, _⟩ | ⟨a, len, cap, m, n, D, Pl, rfl, hb, hl, hm, hmm, _, hx⟩
  · exact ⟨none, 0, [], rfl, Nat.zero_le _, fun p hp => by simp at hp, Rd.nil, fun p hp => by simp at hp⟩
  · simp only [if_true] at hmm
    rw [hC] at hx
    obtain ⟨f, hf⟩ := choose_lt (α := PV) (n := len) (p := fun i q => (∀ k (hk : k < 3), w.cell? (a.add (i * 3 + k)) = q.cells[k]?) ∧ q.xs.length ≤ maxLen ∧ Rd (· < w.heap.size) w q.a (q.xs.map fl)) (fun i hi => by
      obtain ⟨cs', k1, k2⟩ := hx i (by omega)
      obtain ⟨_, hlen, hcell⟩ := World.cells?_some k1
      obtain ⟨y0, y1, y2, n', _, _, g0, g1, g2⟩ := trod_struct3 hs k2
      obtain ⟨o0, c0⟩ := hone_of hone 0 f0 rfl
      obtain ⟨o1, c1⟩ := hone_of hone 1 f1 rfl
      obtain ⟨o2, c2⟩ := hone_of hone 2 f2 rfl
      match cs', hlen with
      | [v0, v1, v2], _ =>
        simp only [o0, o1, o2, c0, c1, c2, List.drop_zero, List.take_succ_cons, List.take_zero, List.drop_succ_cons] at g0 g1 g2
        obtain ⟨W, e0, _, w0⟩ := DataW.trod_int h0 g0
        obtain ⟨H, e1, _, w1⟩ := DataW.trod_int h1 g1
        obtain ⟨qa, qc, xs, e2, hm2, hr⟩ := open_fls h2 he hc g2
        simp only [List.cons.injEq, and_true] at e0 e1 e2
        subst e0 e1 e2
        refine ⟨⟨W, H, qa, qc, xs⟩, fun k hk => ?_, hm2, hr⟩
        have := hcell k hk
        rw [add_add] at this
        rw [this]
        rfl)
    refine ⟨some a, cap, (List.range len).map f, by simp, by simp; omega, fun p hp => ?_, rd_of a _ fun i hi => ?_, fun p hp => ?_⟩
    · obtain ⟨i, hi, rfl⟩ := List.mem_map.1 hp
      exact (hf i (by simpa using hi)).2.1
    · rw [flat_length PV.cells 3 PV.cells_length] at hi
      have hi' : i / 3 < len := by simp at hi; omega
      have e1 : i = i / 3 * 3 + i % 3 := by omega
      have k := (hf (i / 3) hi').1 (i % 3) (by omega)
      rw [← e1] at k
      have k2 := flat_get PV.cells 3 PV.cells_length ((List.range len).map f) (i / 3) (i % 3) (by simpa using hi') (by omega)
      rw [← e1] at k2
      rw [k, ← List.getElem?_eq_getElem, k2]
      simp
    · obtain ⟨i, hi, rfl⟩ := List.mem_map.1 hp
      exact (hf i (by simpa using hi)).2.2

/-- an album taken by value -/
theorem open_album {r : Reach} {b0 : Nat} {t : TypeId} {f : Field} {v : Value} {d : DataW H} {p : List MemPlace} {f0 f1 f2 : Field} {e' e : TypeId} (hS : P.underlying t = some (.struct #[f])) (hO : oneCellFields P #[f] = true) (hT : P.cellsOf t = 1)
    (ht : P.underlying f.type = some (.slice e')) (hs : P.underlying e' = some (.struct #[f0, f1, f2])) (hone : oneCellFields P #[f0, f1, f2] = true) (hC : P.cellsOf e' = 3)
    (h0 : P.underlying f0.type = some (.int .i64)) (h1 : P.underlying f1.type = some (.int .i64)) (h2 : P.underlying f2.type = some (.slice e)) (he : P.underlying e = some (.float .f32)) (hc : P.cellsOf e = 1)
    (hv : Value.okWide P w r b0 t v) (h : DataW.Trod enc P w 0 (fun _ => true) true t v d p) :
    ∃ a c, ∃ ps : List PV, v = .agg #[.slice a ps.length c] ∧ ps.length ≤ maxLen ∧ (∀ p ∈ ps, p.xs.length ≤ maxLen) ∧ Pics (· < w.heap.size) w a ps := by
  obtain ⟨cs, rfl, hsz⟩ := okWide_struct hS hv
  obtain ⟨fuel, hf⟩ := h
  obtain ⟨xs, n, _, _, _, hxl, hff⟩ := DataW.trod_struct hS hf
  match xs, hxl with
  | [y], _ =>
    have g := hff 0 f rfl
    obtain ⟨o0, c0⟩ := hone_of hO 0 f rfl
    rw [hT] at hsz
    have hsz' : cs.toList.length = 1 := by simpa using hsz
    have hcs : ∃ v0, cs = #[v0] := by
      obtain ⟨l⟩ := cs
      match l, hsz' with
      | [v0], _ => exact ⟨v0, rfl⟩
    obtain ⟨v0, rfl⟩ := hcs
    simp only [o0, c0, Value.cells, List.drop_zero] at g
    obtain ⟨a, c, ps, e0, r1, r2, r3⟩ := open_pics ht hs hone hC h0 h1 h2 he hc (cs := [v0]) (by simpa using g)
    simp only [List.cons.injEq, and_true] at e0
    subst e0
    exact ⟨a, c, ps, rfl, r1, r2, r3⟩
end
end Go.Proofs.Ytljkgemkolmihaa
