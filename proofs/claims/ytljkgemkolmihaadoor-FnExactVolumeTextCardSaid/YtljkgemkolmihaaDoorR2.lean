/- A volume taken by value: what its reading says, with the numbers' bits. -/
import Derived.Test.YtljkgemkolmihaaDoorY7
import Derived.Test.YtljkgemkolmihaaDoorR1
import Derived.Deep.Fields
import Derived.Deep.Strs
import Derived.Lib.SmallJoins
namespace Go.Proofs.YtljkgemkolmihaaDoor
open Go.ChangeShapes Go.WideShapes Go.ChangeAt Go.RowKit Go.Deep

section
variable {H : Type} {enc : TypeId × Value → H} {P : Program} {w : World}
theorem trod_fl_wf {base : Nat} {sp : Nat → Bool} {held : Bool} {fuel : Nat} {t : TypeId} {cs : List Value} {x : DataW H × List MemPlace} {k : FloatKind} (ht : P.underlying t = some (.float k)) (h : DataW.trod enc P w base sp held fuel t cs = some x) : ∃ n, cs = [.float k n] ∧ x = (.lit (.float k n), []) ∧ (Lit.float k n).wf = true := by
  cases fuel with
  | zero => simp [DataW.trod] at h
  | succ n =>
    unfold DataW.trod at h
    rw [ht] at h
    split at h <;> simp_all
theorem trod_fl_b {base : Nat} {sp : Nat → Bool} {held : Bool} {fuel : Nat} {t : TypeId} {cs : List Value} {x : DataW H × List MemPlace} (ht : P.underlying t = some (.float .f32)) (h : DataW.trod enc P w base sp held fuel t cs = some x) : ∃ n, cs = [.float .f32 n] ∧ n < 4294967296 := by
  obtain ⟨n, h1, _, h2⟩ := trod_fl_wf ht h
  exact ⟨n, h1, by simpa [Lit.wf] using h2⟩
theorem open_fls_b {t e : TypeId} {fuel : Nat} {cs : List Value} {x : DataW H × List MemPlace} (ht : P.underlying t = some (.slice e)) (he : P.underlying e = some (.float .f32)) (hc : P.cellsOf e = 1)
    (h : DataW.trod enc P w 0 (fun _ => true) true fuel t cs = some x) :
    ∃ a c, ∃ xs : List Nat, cs = [.slice a xs.length c] ∧ (xs.length ≤ maxLen ∧ ∀ x ∈ xs, x < 4294967296) ∧ Rd (· < w.heap.size) w a (xs.map fl) := by
  rcases open_slice1 ht hc h with ⟨rfl, _⟩ | ⟨a, len, cap, m, n, V, D, Pl, rfl, hb, hl, hm, hmm, _, hx⟩
  · exact ⟨none, 0, [], rfl, ⟨Nat.zero_le _, by simp⟩, Rd.nil⟩
  · simp only [if_true] at hmm
    obtain ⟨f, hf⟩ := choose_lt (α := Nat) (n := len) (p := fun i k => w.cell? (a.add i) = some (fl k) ∧ k < 4294967296) (fun i hi => by
      obtain ⟨h1, h2⟩ := hx i (by omega)
      obtain ⟨k, hk, hk2⟩ := trod_fl_b he h2
      simp only [List.cons.injEq, and_true] at hk
      exact ⟨k, by rw [h1, hk], hk2⟩)
    refine ⟨some a, cap, (List.range len).map f, by simp, ⟨by simp; omega, fun x hx => ?_⟩, rd_of a _ fun i hi => ?_⟩
    · obtain ⟨i, hi, rfl⟩ := List.mem_map.1 hx
      exact (hf i (by simpa using hi)).2
    have hi' : i < len := by simpa using hi
    rw [(hf i hi').1]
    simp
/-- a volume taken by value -/
theorem open_vol {r : Reach} {b0 : Nat} {t : TypeId} {f0 f1 f2 f3 : Field} {v : Value} {d : DataW H} {p : List MemPlace} {e : TypeId} (hs : P.underlying t = some (.struct #[f0, f1, f2, f3])) (hone : oneCellFields P #[f0, f1, f2, f3] = true) (hC : P.cellsOf t = 4)
    (h0 : P.underlying f0.type = some (.int .i64)) (h1 : P.underlying f1.type = some (.int .i64)) (h2 : P.underlying f2.type = some (.int .i64)) (h3 : P.underlying f3.type = some (.slice e)) (he : P.underlying e = some (.float .f32)) (hc : P.cellsOf e = 1)
    (hv : Value.okWide P w r b0 t v) (h : DataW.Trod enc P w 0 (fun _ => true) true t v d p) :
    ∃ W H D a c, ∃ xs : List Nat, v = .agg #[.int .i64 W, .int .i64 H, .int .i64 D, .slice a xs.length c] ∧ (xs.length ≤ maxLen ∧ ∀ x ∈ xs, x < 4294967296) ∧ Rd (· < w.heap.size) w a (xs.map fl) := by
  obtain ⟨v0, v1, v2, v3, y0, y1, y2, y3, n, rfl, rfl, rfl, g0, g1, g2, g3⟩ := Joins.open_agg4 hs hone hC hv h
  obtain ⟨W, e0, _, _⟩ := DataW.trod_int h0 g0
  obtain ⟨H, e1, _, _⟩ := DataW.trod_int h1 g1
  obtain ⟨D, e2, _, _⟩ := DataW.trod_int h2 g2
  obtain ⟨a, c, xs, e3, hm, hr⟩ := open_fls_b h3 he hc g3
  simp only [List.cons.injEq, and_true] at e0 e1 e2 e3
  subst e0 e1 e2 e3
  exact ⟨W, H, D, a, c, xs, rfl, hm, hr⟩
end
end Go.Proofs.YtljkgemkolmihaaDoor
