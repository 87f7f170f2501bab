/- A desk taken by value: what its reading says. -/
import Derived.Test.YtljkgemkolmihaaO1
import Derived.Test.YtljkgemkolmihaaM4
namespace Go.Proofs.Ytljkgemkolmihaa
open Go.ChangeShapes Go.WideShapes Go.ChangeAt Go.RowKit Go.Deep

section
variable {H : Type} {enc : TypeId × Value → H} {P : Program} {w : World}
/-- the three cells of a picture -/
theorem open_pic3 {t : TypeId} {f0 f1 f2 : Field} {e : TypeId} {fuel : Nat} {v0 v1 v2 : Value} {x : DataW H × List MemPlace} (hs : P.underlying t = some (.struct #[f0, f1, f2])) (hone : oneCellFields P #[f0, f1, f2] = true)
    (h0 : P.underlying f0.type = some (.int .i64)) (h1 : P.underlying f1.type = some (.int .i64)) (h2 : P.underlying f2.type = some (.slice e)) (he : P.underlying e = some (.float .f32)) (hc : P.cellsOf e = 1)
    (h : DataW.trod enc P w 0 (fun _ => true) true fuel t [v0, v1, v2] = some x) :
    ∃ W H a c, ∃ xs : List Nat, v0 = .int .i64 W ∧ v1 = .int .i64 H ∧ v2 = .slice a xs.length c ∧ xs.length ≤ maxLen ∧ Rd (· < w.heap.size) w a (xs.map fl) := by
  obtain ⟨y0, y1, y2, n', _, _, g0, g1, g2⟩ := trod_struct3 hs h
  obtain ⟨o0, c0⟩ := hone_of hone 0 f0 rfl
  obtain ⟨o1, c1⟩ := hone_of hone 1 f1 rfl
  obtain ⟨o2, c2⟩ := hone_of hone 2 f2 rfl
  simp only [o0, o1, o2, c0, c1, c2, List.drop_zero, List.take_succ_cons, List.take_zero, List.drop_succ_cons] at g0 g1 g2
  obtain ⟨W, e0, _, w0⟩ := DataW.trod_int h0 g0
  obtain ⟨H, e1, _, w1⟩ := DataW.trod_int h1 g1
  obtain ⟨qa, qc, xs, e2, hm2, hr⟩ := open_fls h2 he hc g2
  simp only [List.cons.injEq, and_true] at e0 e1 e2
  exact ⟨W, H, qa, qc, xs, e0, e1, e2, hm2, hr⟩
theorem open_desk {r : Reach} {b0 : Nat} {t : TypeId} {d0 d1 d2 : Field} {v : Value} {d : DataW H} {p : List MemPlace} {f0 f1 f2 g0 g1 g2 : Field} {e : TypeId}
    (hS : P.underlying t = some (.struct #[d0, d1, d2])) (hT : P.cellsOf t = 9) (o0 : d0.offset = 0) (o1 : d1.offset = 3) (o2 : d2.offset = 6) (k0 : P.cellsOf d0.type = 3) (k1 : P.cellsOf d1.type = 3) (k2 : P.cellsOf d2.type = 3)
    (hs0 : P.underlying d0.type = some (.struct #[f0, f1, f2])) (hs1 : P.underlying d1.type = some (.struct #[f0, f1, f2])) (hone : oneCellFields P #[f0, f1, f2] = true) (hs2 : P.underlying d2.type = some (.struct #[g0, g1, g2])) (hone2 : oneCellFields P #[g0, g1, g2] = true)
    (h0 : P.underlying f0.type = some (.int .i64)) (h1 : P.underlying f1.type = some (.int .i64)) (h2 : P.underlying f2.type = some (.slice e)) (j0 : P.underlying g0.type = some (.int .i64)) (j1 : P.underlying g1.type = some (.int .i64)) (j2 : P.underlying g2.type = some (.slice e)) (he : P.underlying e = some (.float .f32)) (hc : P.cellsOf e = 1)
    (hv : Value.okWide P w r b0 t v) (h : DataW.Trod enc P w 0 (fun _ => true) true t v d p) :
    ∃ l r m : PV, v = deskV l r m ∧ l.xs.length ≤ maxLen ∧ r.xs.length ≤ maxLen ∧ m.xs.length ≤ maxLen ∧ Rd3 (· < w.heap.size) w l r m := by
  obtain ⟨cs, rfl, hsz⟩ := okWide_struct hS hv
  obtain ⟨fuel, hf⟩ := h
  rw [hT] at hsz
  obtain ⟨lst⟩ := cs
  match lst, hsz with
  | [c0, c1, c2, c3, c4, c5, c6, c7, c8], _ =>
    obtain ⟨y0, y1, y2, n', _, _, q0, q1, q2⟩ := trod_struct3 hS hf
    simp only [o0, o1, o2, k0, k1, k2, Value.cells, List.drop_zero, List.take_succ_cons, List.take_zero, List.drop_succ_cons] at q0 q1 q2
    obtain ⟨W1, H1, a1, b1, x1, rfl, rfl, rfl, m1, r1⟩ := open_pic3 hs0 hone h0 h1 h2 he hc q0
    obtain ⟨W2, H2, a2, b2, x2, rfl, rfl, rfl, m2, r2⟩ := open_pic3 hs1 hone h0 h1 h2 he hc q1
    obtain ⟨W3, H3, a3, b3, x3, rfl, rfl, rfl, m3, r3⟩ := open_pic3 hs2 hone2 j0 j1 j2 he hc q2
    exact ⟨⟨W1, H1, a1, b1, x1⟩, ⟨W2, H2, a2, b2, x2⟩, ⟨W3, H3, a3, b3, x3⟩, rfl, m1, m2, m3, r1, r2, r3⟩
end
end Go.Proofs.Ytljkgemkolmihaa
