/- FnExactAddPicture returns true: the statements that call both sides. -/
import Derived.Test.YtljkgemkolmihaaL3
import Derived.Deep.RegionHeld3
import Derived.Deep.DeepCutAuto
namespace Go.Proofs.Ytljkgemkolmihaa
open Go.RowKit

def LawPost (w : World) (e : Ending) (w' : World) : Prop := e = .returned (.bool true) ∧ Below w.heap.size w w'

/-- what the arguments' boxes hold -/
def boxes (B : Nat) (a : Option Addr) (n c : Nat) (W H : Int) (pa : Option Addr) (m pc : Nat) : List (Nat × Nat × Value) :=
  [(B, 0, .slice a n c), (B + 1, 0, .int .i64 W), (B + 1, 1, .int .i64 H), (B + 1, 2, .slice pa m pc)]

theorem Alb.keepOnly {lo : Nat} {w w' : World} {v : Value} {ds : List PV} {T : Nat → Prop} (h : Alb lo w v ds) (ho : Only T w w') (hT : ∀ k, lo ≤ k → ¬ T k) : Alb lo w' v ds := by
  have hs := ho.size
  refine ⟨⟨h.row.1, ?_⟩, fun d hd => (h.nums d hd).keep ho (fun k hk => ?_), fun d hd hx => ?_, h.apart⟩
  · rcases h.row.2 with h2 | ⟨g, cap, cur, hv, hb, hg, hr⟩
    · exact Or.inl h2
    · exact Or.inr ⟨g, cap, cur, hv, hb, by rw [ho.block g (lt_of_block hg) (hT g hb)]; exact hg, hr⟩
  · obtain ⟨rfl, hx⟩ := hk
    exact hT _ (h.numsIn d hd hx).1
  · have := h.numsIn d hd hx
    exact ⟨this.1, by omega, this.2.2⟩

theorem boxes_ne {B : Nat} {a : Option Addr} {n c : Nat} {W H : Int} {pa : Option Addr} {m pc N : Nat} (h : B + 2 ≤ N) : ∀ x ∈ boxes B a n c W H pa m pc, x.1 ≠ N := by
  intro x hx
  simp only [boxes, List.mem_cons, List.not_mem_nil, or_false] at hx
  rcases hx with rfl | rfl | rfl | rfl <;> simp only <;> omega
theorem stand4 {B : Nat} {w0 : World} {a : Option Addr} {ps : List PV} {pa : Option Addr} {xs : List Nat} {n c : Nat} {W H : Int} {m pc : Nat} {w : World} (h : Stand B w0 a ps pa xs (boxes B a n c W H pa m pc) w) :
    w.cell? ⟨B, 0, none⟩ = some (.slice a n c) ∧ w.cell? ⟨B + 1, 0, none⟩ = some (.int .i64 W) ∧ w.cell? ⟨B + 1, 1, none⟩ = some (.int .i64 H) ∧ w.cell? ⟨B + 1, 2, none⟩ = some (.slice pa m pc) :=
  ⟨h.cells.1, h.cells.2.1, h.cells.2.2.1, h.cells.2.2.2.1⟩
theorem stand4s {B : Nat} {w0 : World} {a : Option Addr} {ps : List PV} {pa : Option Addr} {xs : List Nat} {n c : Nat} {W H : Int} {m pc : Nat} {w : World} (h : Stand B w0 a ps pa xs (boxes B a n c W H pa m pc) w) {N : Nat} (hN : B + 2 ≤ N) {u : Value} :
    (w.setCell ⟨N, 0, none⟩ u).cell? ⟨B, 0, none⟩ = some (.slice a n c) ∧ (w.setCell ⟨N, 0, none⟩ u).cell? ⟨B + 1, 0, none⟩ = some (.int .i64 W) ∧ (w.setCell ⟨N, 0, none⟩ u).cell? ⟨B + 1, 1, none⟩ = some (.int .i64 H) ∧ (w.setCell ⟨N, 0, none⟩ u).cell? ⟨B + 1, 2, none⟩ = some (.slice pa m pc) :=
  stand4 (h.store (by omega) (boxes_ne hN) u)

theorem Stand.sub {B : Nat} {w0 : World} {a : Option Addr} {ps : List PV} {pa : Option Addr} {xs : List Nat} {cs cs' : List (Nat × Nat × Value)} {w : World} (h : Stand B w0 a ps pa xs cs w) (hc : Cells w cs') : Stand B w0 a ps pa xs cs' w := ⟨h.args, hc, h.below, h.size⟩
theorem cs31_ne {B : Nat} {a : Option Addr} {n c : Nat} {W H : Int} {pa : Option Addr} {m pc N p q : Nat} {u v : Value} (h : B + 2 ≤ N) (hp : p ≠ N) (hq : q ≠ N) : ∀ x ∈ (p, 0, u) :: (q, 0, v) :: boxes B a n c W H pa m pc, x.1 ≠ N := by
  intro x hx
  rw [List.mem_cons, List.mem_cons] at hx
  rcases hx with rfl | rfl | hx
  · exact hp
  · exact hq
  · exact boxes_ne h x hx
theorem stand6 {B : Nat} {w0 : World} {a : Option Addr} {ps : List PV} {pa : Option Addr} {xs : List Nat} {n c : Nat} {W H : Int} {m pc p q : Nat} {u v : Value} {w : World} (h : Stand B w0 a ps pa xs ((p, 0, u) :: (q, 0, v) :: boxes B a n c W H pa m pc) w) :
    w.cell? ⟨B, 0, none⟩ = some (.slice a n c) ∧ w.cell? ⟨B + 1, 0, none⟩ = some (.int .i64 W) ∧ w.cell? ⟨B + 1, 1, none⟩ = some (.int .i64 H) ∧ w.cell? ⟨B + 1, 2, none⟩ = some (.slice pa m pc) :=
  stand4 (h.sub h.cells.2.2)
theorem stand6s {B : Nat} {w0 : World} {a : Option Addr} {ps : List PV} {pa : Option Addr} {xs : List Nat} {n c : Nat} {W H : Int} {m pc p q : Nat} {u v : Value} {w : World} (h : Stand B w0 a ps pa xs ((p, 0, u) :: (q, 0, v) :: boxes B a n c W H pa m pc) w) {N : Nat} (hN : B + 2 ≤ N) {y : Value} :
    (w.setCell ⟨N, 0, none⟩ y).cell? ⟨B, 0, none⟩ = some (.slice a n c) ∧ (w.setCell ⟨N, 0, none⟩ y).cell? ⟨B + 1, 0, none⟩ = some (.int .i64 W) ∧ (w.setCell ⟨N, 0, none⟩ y).cell? ⟨B + 1, 1, none⟩ = some (.int .i64 H) ∧ (w.setCell ⟨N, 0, none⟩ y).cell? ⟨B + 1, 2, none⟩ = some (.slice pa m pc) :=
  stand4s (h.sub h.cells.2.2) hN

/-- .. and that the world is as it was but for new blocks -/
def CutR2 (B : Nat) (w0 : World) (a : Option Addr) (ps : List PV) (pa : Option Addr) (xs : List Nat) (cs : List (Nat × Nat × Value)) (L : List PV) (ok : Bool) (x : World) (s s' : Value) (wx : World) : Prop :=
  CutR B w0 a ps pa xs cs L ok s s' wx ∧ Below x.heap.size x wx

set_option maxRecDepth 100000 in
set_option maxHeartbeats 8000000 in
theorem law_any (a : Option Addr) (c : Nat) (ps : List PV) (W H : Int) (pa : Option Addr) (pc : Nat) (xs : List Nat) (w : World) (hn : ps.length ≤ maxLen) (hm : ∀ p ∈ ps, p.xs.length ≤ maxLen) (hxl : xs.length ≤ maxLen) (h : ArgsA a ps pa xs w) :
    Calls Try.prog 3 #[.agg #[.slice a ps.length c], .agg #[.int .i64 W, .int .i64 H, .slice pa xs.length pc]] w (LawPost w) := by
  have Hm := Lib.hid hm
  have hB0 : Below w.heap.size w ((w.alloc (.cells #[.slice a ps.length c] 24)).alloc (.cells #[.int .i64 W, .int .i64 H, .slice pa xs.length pc] 27)) := ((Below.refl _ _).alloc (Nat.le_refl _) _).alloc (by simp) _
  have H0 : Hid (Stand w.heap.size w a ps pa xs (boxes w.heap.size a ps.length c W H pa xs.length pc) ((w.alloc (.cells #[.slice a ps.length c] 24)).alloc (.cells #[.int .i64 W, .int .i64 H, .slice pa xs.length pc] 27))) :=
    ⟨ArgsB.next (w := w) ⟨h.1, h.2⟩ hB0, by simp [boxes, Cells, go_sem], hB0, by simp⟩
  clear hm h hB0
  go_enter Try.func3, Try.ntmps3
  go_wp2_with fail
  obtain ⟨x0, hx0⟩ : ∃ x0, x0 = (w.alloc (.cells #[.slice a ps.length c] 24)).alloc (.cells #[.int .i64 W, .int .i64 H, .slice pa xs.length pc] 27) := ⟨_, rfl⟩
  rw [← hx0] at H0 ⊢
  clear hx0
  -- the sizes
  refine (szA a c ps 1048576 x0 hn Hm.out (Int.le_refl _) (by omega) H0.out.now.1).mono ?_
  rintro e x1 ⟨r, rfl, hr1, hr2, hr3, hb1⟩
  have H1 := Lib.hid (H0.out.next hb1)
  have Hr3 := Lib.hid hr3
  clear H0 hb1 hr3
  by_cases hr : r < 0
  · go_wp2
    go_ret
    exact ⟨rfl, H1.out.below⟩
  obtain ⟨k0, k1, k2, k3, _⟩ := H1.out.cells
  have hrd : decide (r < 0) = false := by simp; omega
  by_cases hr' : r - (xs.length : Int) < 0
  · go_wp2_with fail
    refine (szP W H pa xs.length pc r x1 hxl (by omega) (by omega)).mono ?_
    rw [if_pos hr']
    rintro e x2 ⟨rfl, hb2⟩
    have H2 := Lib.hid (H1.out.next hb2)
    clear H1 hb2 k0 k1 k2 k3
    go_wp2
    all_goals (go_ret; exact ⟨rfl, H2.out.below⟩)
  go_wp2_with fail
  refine (szP W H pa xs.length pc r x1 hxl (by omega) (by omega)).mono ?_
  rw [if_neg (by omega)]
  rintro e x2 ⟨rfl, hb2⟩
  have H2 := Lib.hid (H1.out.next hb2)
  clear H1 hb2 k0 k1 k2 k3
  have h3 := Hr3.out (by omega)
  have hps : ps.length ≤ 1048576 := by omega
  have hpm : ∀ p ∈ ps, p.xs.length ≤ 1048576 := fun p hp => by have := h3.2 p hp; omega
  have hpx : xs.length ≤ 1048576 := by omega
  obtain ⟨L, hL⟩ : ∃ L, L = addL ps ⟨W, H, pa, pc, xs⟩ := ⟨_, rfl⟩
  obtain ⟨ok, hok⟩ : ∃ ok, ok = addB ps ⟨W, H, pa, pc, xs⟩ := ⟨_, rfl⟩
  have hLl := addL_len (p := ⟨W, H, pa, pc, xs⟩) hps hpm hpx
  rw [← hL] at hLl
  have Hpm := Lib.hid hpm
  have HL := Lib.hid hL
  have Hok := Lib.hid hok
  have HLl := Lib.hid hLl
  clear h3 hpm hL hok hLl Hr3 Hm
  obtain ⟨k0, k1, k2, k3, _⟩ := H2.out.cells
  go_upto_region 8 with fail
  go_cut [6, 7] (fun s6 s7 wx => CutR w.heap.size w a ps pa xs (boxes w.heap.size a ps.length c W H pa xs.length pc) L ok s6 s7 wx)
  case first =>
    go_region_held3 (fun w' => w'.cell? ⟨w.heap.size, 0, none⟩ = some (.slice a ps.length c) ∧ w'.cell? ⟨w.heap.size + 1, 0, none⟩ = some (.int .i64 W) ∧ w'.cell? ⟨w.heap.size + 1, 1, none⟩ = some (.int .i64 H) ∧ w'.cell? ⟨w.heap.size + 1, 2, none⟩ = some (.slice pa xs.length pc))
      (first | exact stand4 S3.out | exact stand4 (S3.out.alloc _) | exact stand4s S3.out S2.out.size | exact stand4s S3.out S1.out.size | exact stand4s S3.out H2.out.size | exact stand4 S2.out | exact stand4 (S2.out.alloc _) | exact stand4 S1.out | exact stand4 (S1.out.alloc _) | exact stand4 (H2.out.drew.alloc _) | go_keep)
      ((first
        | (go_at_call 9
           first
             | refine (toA a c ps x2.drew hps Hpm.out H2.out.drew.now.1).mono ?_
             | refine (toA a c ps (x2.drew.alloc (.cells #[.slice none 0 0] 32)) hps Hpm.out (H2.out.drew.alloc _).now.1).mono ?_
           rintro e y1 ⟨g1, q1, rfl, hc1, ho1, hs1, hb1⟩
           have S1 := Lib.hid (show Stand w.heap.size w a ps pa xs (boxes w.heap.size a ps.length c W H pa xs.length pc) y1 from by first | exact H2.out.drew.next hb1 | exact (H2.out.drew.alloc _).next hb1)
           try have T1 := Lib.hid (show y1.heap[x2.heap.size]? = some (.cells #[.slice none 0 0] 32 (0, 0)) from one_below hb1 (heap_alloc_new x2.drew (.cells #[.slice none 0 0] 32)) (by simp))
           have Hc1 := Lib.hid hc1
           have Ho1 := Lib.hid ho1
           have Hs1 := Lib.hid hs1
           clear hc1 ho1 hs1 hb1)
        | (go_at_call 10
           first
             | refine (toP_law y1 hpx S1.out.now.2).mono ?_
             | refine (toP_law (y1.alloc (.cells #[.slice none 0 0] 32)) hpx (S1.out.alloc _).now.2).mono ?_
           rintro e y2 ⟨g2, rfl, hw2, hb2⟩
           have S2 := Lib.hid (show Stand w.heap.size w a ps pa xs (boxes w.heap.size a ps.length c W H pa xs.length pc) y2 from by first | exact S1.out.next hb2 | exact (S1.out.alloc _).next hb2)
           first
             | have T2 := Lib.hid (one_below hb2 T1.out (lt_of_block T1.out))
             | have T2 := Lib.hid (one_below hb2 (heap_alloc_new y1 (.cells #[.slice none 0 0] 32)) (by simp))
             | skip
           have Ho2 := Lib.hid (show Own _ _ _ y2 _ _ from by first | exact Ho1.out.keep (Only.ofBelow hb2 (Nat.le_refl _)) (fun _ _ _ h => h) | exact (Ho1.out.keep ((Only.refl (fun _ => False) _).alloc _) (fun _ _ _ h => h)).keep (Only.ofBelow hb2 (Nat.le_refl _)) (fun _ _ _ h => h))
           have hz2 : y1.heap.size ≤ y2.heap.size := by first | exact hb2.size | (have := hb2.size; simp at this; omega)
           have Hw2 := Lib.hid hw2
           clear hw2 hb2)
        | (go_at_call 8
           first
             | refine (sAdd_law y2 hps Hpm.out hpx Hc1.out Hs1.out Ho2.out hz2 (Hw2.out.rd.mono (fun k hk => hk.2)) HL.out Hok.out).mono ?_
             | refine (sAdd_law (y2.alloc (.cells #[.slice none 0 0] 32)) hps Hpm.out hpx Hc1.out Hs1.out (Ho2.out.keep ((Only.refl (fun _ => False) _).alloc _) (fun _ _ _ h => h)) (by simp; omega) ((Hw2.out.rd.alloc _).mono (fun k hk => by simp; omega)) HL.out Hok.out).mono ?_
           rintro e y3 ⟨va, vc, ds, rfl, hcp, halb, hb3⟩
           have S3 := Lib.hid (show Stand w.heap.size w a ps pa xs (boxes w.heap.size a ps.length c W H pa xs.length pc) y3 from by first | exact S2.out.next hb3 | exact (S2.out.alloc _).next hb3)
           first
             | have T3 := Lib.hid (one_below hb3 T2.out (lt_of_block T2.out))
             | have T3 := Lib.hid (one_below hb3 (heap_alloc_new y2 (.cells #[.slice none 0 0] 32)) (by simp))
             | skip
           try have t3 := cell_of_one T3.out
           try have t3f := free_of_one T3.out
           have Hcp := Lib.hid hcp
           have Halb := Lib.hid halb
           clear hcp halb hb3)))
    all_goals
      have z2 := S2.out.size
      have z1 := S1.out.size
      have z0 := H2.out.size
      go_wp2_with fail
      go_meet
      first
        | exact cutR_alloc S3.out Hcp.out Halb.out
        | exact cutR_store S3.out Hcp.out Halb.out (by first | exact lt_of_block T2.out | simp) (by omega) (boxes_ne (by omega)) T3.out
  case rest =>
    obtain ⟨n6, va, vc, ds, rfl, rfl, hcp, hpics, hst⟩ := hcut
    have Hcp := Lib.hid hcp
    have Hds := Lib.hid hpics
    have H8 := Lib.hid hst
    clear hcp hpics hst H2 k0 k1 k2 k3
    obtain ⟨k6, k0, k1, k2, k3, _⟩ := H8.out.cells
    have hwc : w.heap.size + 2 ≤ wc.heap.size := H8.out.size
    have hn6 : n6 < wc.heap.size := lt_of_cell k6
    go_wp2_with fail
    -- x0, x1 := toAlbum(aA), toPicture(aP)
    refine (toA a c ps wc hps Hpm.out H8.out.now.1).mono ?_
    rintro e x3 ⟨g3, q3, rfl, hc3, ho3, hs3, hb3⟩
    have hz3 := hb3.size
    have H9 := Lib.hid (((H8.out.next hb3).alloc (.cells #[.slice (some ⟨g3, 0, none⟩) ps.length ps.length] 32)).var (n := x3.heap.size) (o := 0) (v := .slice (some ⟨g3, 0, none⟩) ps.length ps.length) (by simp))
    have Hd9 := Lib.hid ((Hds.out.step hb3).step (below_alloc x3 (.cells #[.slice (some ⟨g3, 0, none⟩) ps.length ps.length] 32)))
    have Hc3 := Lib.hid hc3
    have Hs3 := Lib.hid hs3
    have Ho9 := Lib.hid (ho3.step' (below_alloc x3 (.cells #[.slice (some ⟨g3, 0, none⟩) ps.length ps.length] 32)))
    clear hc3 ho3 hs3 hb3 Hds H8 k6 k0 k1 k2 k3
    obtain ⟨k8, k6, k0, k1, k2, k3, _⟩ := H9.out.cells
    go_wp2_with fail
    obtain ⟨x3a, hx3a⟩ : ∃ x3a, x3a = x3.alloc (.cells #[.slice (some ⟨g3, 0, none⟩) ps.length ps.length] 32) := ⟨_, rfl⟩
    have hz3a : x3a.heap.size = x3.heap.size + 1 := by rw [hx3a]; simp
    rw [← hx3a] at H9 Hd9 Ho9 k8 k6 k0 k1 k2 k3 ⊢
    clear hx3a
    refine (toP_law x3a hpx H9.out.now.2).mono ?_
    rintro e x4 ⟨g4, rfl, hw4, hb4⟩
    have hz4 := hb4.size
    rw [hz3a] at hz4
    have H10 := Lib.hid (((((H9.out.next hb4).alloc (.cells #[.int .i64 W, .int .i64 H, .slice (some ⟨g4, 0, none⟩) xs.length xs.length] 36)).var (n := x4.heap.size) (o := 2) (v := .slice (some ⟨g4, 0, none⟩) xs.length xs.length) (by simp)).var (n := x4.heap.size) (o := 1) (v := .int .i64 H) (by simp)).var (n := x4.heap.size) (o := 0) (v := .int .i64 W) (by simp))
    have Hd10 := Lib.hid ((Hd9.out.step hb4).step (below_alloc x4 (.cells #[.int .i64 W, .int .i64 H, .slice (some ⟨g4, 0, none⟩) xs.length xs.length] 36)))
    have Ho10 := Lib.hid ((Ho9.out.step' hb4).step' (below_alloc x4 (.cells #[.int .i64 W, .int .i64 H, .slice (some ⟨g4, 0, none⟩) xs.length xs.length] 36)))
    have Hw10 := Lib.hid (hw4.alloc (.cells #[.int .i64 W, .int .i64 H, .slice (some ⟨g4, 0, none⟩) xs.length xs.length] 36))
    clear hw4 hb4 Hd9 Ho9 H9 k8 k6 k0 k1 k2 k3
    obtain ⟨k90, k91, k92, k8, k6, k0, k1, k2, k3, _⟩ := H10.out.cells
    go_wp2_with fail
    obtain ⟨x4a, hx4a⟩ : ∃ x4a, x4a = x4.alloc (.cells #[.int .i64 W, .int .i64 H, .slice (some ⟨g4, 0, none⟩) xs.length xs.length] 36) := ⟨_, rfl⟩
    have hz4a : x4a.heap.size = x4.heap.size + 1 := by rw [hx4a]; simp
    rw [← hx4a] at H10 Hd10 Ho10 Hw10 k90 k91 k92 k8 k6 k0 k1 k2 k3 ⊢
    clear hx4a
    -- g0, g1 := impl.AddPicture(x0, x1)
    refine (iAdd_law x4a hps Hpm.out hpx Hc3.out Hs3.out Ho10.out (by omega) (Hw10.out.rd.mono (fun k hk => by omega)) HL.out Hok.out).mono ?_
    rintro e x5 ⟨vb, vd, es, rfl, hce, halb, hb5⟩
    have hz5 := hb5.size
    obtain ⟨vb', vd', gb, hve, hown5⟩ := halb.own
    simp only [Value.slice.injEq, true_and] at hve
    obtain ⟨rfl, rfl⟩ := hve
    have H11 := Lib.hid (((H10.out.next hb5).alloc (.cells #[.slice vb es.length vd] 32)).var (n := x5.heap.size) (o := 0) (v := .slice vb es.length vd) (by simp))
    have Hd11 := Lib.hid ((Hd10.out.step hb5).step (below_alloc x5 (.cells #[.slice vb es.length vd] 32)))
    have Ho11 := Lib.hid ((Ho10.out.step' hb5).step' (below_alloc x5 (.cells #[.slice vb es.length vd] 32)))
    have Hw11 := Lib.hid ((Hw10.out.step' hb5).alloc (.cells #[.slice vb es.length vd] 32))
    have Ha11 := Lib.hid (hown5.step' (below_alloc x5 (.cells #[.slice vb es.length vd] 32)))
    have Hce := Lib.hid hce
    clear hce halb hown5 hb5 Hd10 Ho10 Hw10 H10 k90 k91 k92 k8 k6 k0 k1 k2 k3
    obtain ⟨k10, k90, k91, k92, k8, k6, k0, k1, k2, k3, _⟩ := H11.out.cells
    have hoo : (ok != ok) = false := by simp
    go_wp2_with fail
    obtain ⟨x5a, hx5a⟩ : ∃ x5a, x5a = x5.alloc (.cells #[.slice vb es.length vd] 32) := ⟨_, rfl⟩
    have hz5a : x5a.heap.size = x5.heap.size + 1 := by rw [hx5a]; simp
    rw [← hx5a] at H11 Hd11 Ho11 Hw11 Ha11 k10 k90 k91 k92 k8 k6 k0 k1 k2 k3 ⊢
    clear hx5a
    -- !eqAlbum(g0, w0) || g1 != w1
    have hLe : es.length ≤ 1048576 := by have := HLl.out.1; have := Hce.out.1; omega
    refine (eqA vb va vd vc es ds x5a hLe (Hce.out.len HLl.out.2) (Hce.out.peq Hcp.out).1 (Hce.out.peq Hcp.out).2 (Ha11.out.pics.mono (fun k hk => by omega)) (Hd11.out.mono (fun k hk => by omega))).mono ?_
    rintro e x6 ⟨rfl, hb6⟩
    have hz6 := hb6.size
    have H12 := Lib.hid (H11.out.next hb6)
    have Hd12 := Lib.hid (Hd11.out.step hb6)
    have Ho12 := Lib.hid (Ho11.out.step' hb6)
    have Hw12 := Lib.hid (Hw11.out.step' hb6)
    have Ha12 := Lib.hid (Ha11.out.step' hb6)
    clear hb6 Hd11 Ho11 Hw11 Ha11 H11 k10 k90 k91 k92 k8 k6 k0 k1 k2 k3
    obtain ⟨k10, k90, k91, k92, k8, k6, k0, k1, k2, k3, _⟩ := H12.out.cells
    go_wp2_with fail
    -- !eqAlbum(x0, toAlbum(aA))
    have D12 := Lib.hid H12.out.drew
    go_region_held3 (fun w' => w'.cell? ⟨x3.heap.size, 0, none⟩ = some (.slice (some ⟨g3, 0, none⟩) ps.length ps.length) ∧ w'.cell? ⟨w.heap.size, 0, none⟩ = some (.slice a ps.length c))
      (first | exact ⟨F8.out.cells.2.2.2.2.1, F8.out.cells.2.2.2.2.2.2.1⟩ | exact ⟨F7.out.cells.2.2.2.2.1, F7.out.cells.2.2.2.2.2.2.1⟩ | exact ⟨D12.out.cells.2.2.2.2.1, D12.out.cells.2.2.2.2.2.2.1⟩ | go_keep)
      ((first
        | (go_at_call 9
           refine (toA a c ps x6.drew hps Hpm.out D12.out.now.1).mono ?_
           rintro e y7 ⟨g7, q7, rfl, hc7, ho7, hs7, hb7⟩
           have F7 := Lib.hid (D12.out.next hb7)
           have Hc7 := Lib.hid hc7
           have Ho7 := Lib.hid ho7
           have Hb7 := Lib.hid hb7
           have hz7 : x6.heap.size ≤ y7.heap.size := hb7.size
           clear hc7 ho7 hs7 hb7)
        | (go_at_call 12
           refine (show Calls Try.prog 12 #[.agg #[.slice (some ⟨g3, 0, none⟩) ps.length ps.length], .agg #[.slice (some ⟨g7, 0, none⟩) ps.length ps.length]] y7 _ from by
             have hh := eqA (some ⟨g3, 0, none⟩) (some ⟨g7, 0, none⟩) ps.length ps.length q3 q7 y7 (by rw [Hc3.out.1]; exact hps) (Hc3.out.len Hpm.out) (Hc3.out.peq Hc7.out).1 (Hc3.out.peq Hc7.out).2 (((Ho12.out.step' (below_drew x6)).step' Hb7.out).pics.mono (fun k hk => by omega)) (Ho7.out.pics.mono (fun k hk => hk.2))
             rw [Hc3.out.1, Hc7.out.1] at hh
             exact hh).mono ?_
           rintro e y8 ⟨rfl, hb8⟩
           have F8 := Lib.hid (F7.out.next hb8)
           have hB8 := Lib.hid (((below_drew x6).trans Hb7.out).trans (hb8.mono (by simpa [World.size_drew] using hz7)))
           clear hb8)))
    have hz8 := hB8.out.size
    have H13 := F8
    have Hd13 := Lib.hid (Hd12.out.step hB8.out)
    have Ho13 := Lib.hid (Ho12.out.step' hB8.out)
    have Hw13 := Lib.hid (Hw12.out.step' hB8.out)
    have Ha13 := Lib.hid (Ha12.out.step' hB8.out)
    clear hB8 F7 F8 D12 Hb7 Ho7 Hc7 Hd12 Ho12 Hw12 Ha12 H12 k10 k90 k91 k92 k8 k6 k0 k1 k2 k3
    obtain ⟨k10, k90, k91, k92, k8, k6, k0, k1, k2, k3, _⟩ := H13.out.cells
    go_wp2_with fail
    -- !eqPicture(x1, toPicture(aP))
    have D13 := Lib.hid H13.out.drew
    go_region_held3 (fun w' => (w'.cell? ⟨x4.heap.size, 0, none⟩ = some (.int .i64 W) ∧ w'.cell? ⟨x4.heap.size, 1, none⟩ = some (.int .i64 H) ∧ w'.cell? ⟨x4.heap.size, 2, none⟩ = some (.slice (some ⟨g4, 0, none⟩) xs.length xs.length)) ∧ w'.cell? ⟨w.heap.size + 1, 0, none⟩ = some (.int .i64 W) ∧ w'.cell? ⟨w.heap.size + 1, 1, none⟩ = some (.int .i64 H) ∧ w'.cell? ⟨w.heap.size + 1, 2, none⟩ = some (.slice pa xs.length pc))
      (first | exact ⟨⟨F10.out.cells.2.1, F10.out.cells.2.2.1, F10.out.cells.2.2.2.1⟩, F10.out.cells.2.2.2.2.2.2.2.1, F10.out.cells.2.2.2.2.2.2.2.2.1, F10.out.cells.2.2.2.2.2.2.2.2.2.1⟩ | exact ⟨⟨F9.out.cells.2.1, F9.out.cells.2.2.1, F9.out.cells.2.2.2.1⟩, F9.out.cells.2.2.2.2.2.2.2.1, F9.out.cells.2.2.2.2.2.2.2.2.1, F9.out.cells.2.2.2.2.2.2.2.2.2.1⟩ | exact ⟨⟨D13.out.cells.2.1, D13.out.cells.2.2.1, D13.out.cells.2.2.2.1⟩, D13.out.cells.2.2.2.2.2.2.2.1, D13.out.cells.2.2.2.2.2.2.2.2.1, D13.out.cells.2.2.2.2.2.2.2.2.2.1⟩ | go_keep)
      ((first
        | (go_at_call 10
           refine (toP_law y8.drew hpx D13.out.now.2).mono ?_
           rintro e y9 ⟨g9, rfl, hw9, hb9⟩
           have F9 := Lib.hid (D13.out.next hb9)
           have Hw9 := Lib.hid hw9
           have Hb9 := Lib.hid hb9
           have hz9 : y8.heap.size ≤ y9.heap.size := hb9.size
           clear hw9 hb9)
        | (go_at_call 13
           refine (eqP W H W H (fun b => x3a.heap.size ≤ b ∧ b < x4.heap.size) (fun b => y8.drew.heap.size ≤ b ∧ b < y9.heap.size) (some ⟨g4, 0, none⟩) (some ⟨g9, 0, none⟩) xs.length xs.length xs xs y9 rfl rfl hpx rfl (fun _ _ _ => FEq.refl _ _) ((Hw13.out.step' (below_drew y8)).step' Hb9.out).rd Hw9.out.rd).mono ?_
           rintro e y10 ⟨rfl, hb10⟩
           have F10 := Lib.hid (F9.out.next hb10)
           have hB10 := Lib.hid (((below_drew y8).trans Hb9.out).trans (hb10.mono (by simpa [World.size_drew] using hz9)))
           clear hb10)))
    have hz10 := hB10.out.size
    have H14 := F10
    have Hd14 := Lib.hid (Hd13.out.step hB10.out)
    have Ho14 := Lib.hid (Ho13.out.step' hB10.out)
    have Hw14 := Lib.hid (Hw13.out.step' hB10.out)
    have Ha14 := Lib.hid (Ha13.out.step' hB10.out)
    clear hB10 F9 F10 D13 Hb9 Hw9 Hd13 Ho13 Hw13 Ha13 H13 k10 k90 k91 k92 k8 k6 k0 k1 k2 k3
    obtain ⟨k10, k90, k91, k92, k8, k6, k0, k1, k2, k3, _⟩ := H14.out.cells
    go_wp2_with fail
    -- k = markAlbum(x0, 1)
    have hq3l := Hc3.out.1
    have hmk := mkOf_le 1 q3 (Hc3.out.len Hpm.out)
    have hm1 : mkOf 1 q3 ≤ 1099513724929 := by omega
    have hm0 : 1 ≤ mkOf 1 q3 := hmk.1
    have Hm1 := Lib.hid hm1
    refine (show Calls Try.prog 14 #[.agg #[.slice (some ⟨g3, 0, none⟩) ps.length ps.length], .int .i64 1] y10 _ from by
      have hh := markA wc.heap.size x3.heap.size g3 (some ⟨g3, 0, none⟩) ps.length q3 1 y10 (by omega) (Hc3.out.len Hpm.out) (by omega) (by omega) Ho14.out (by omega)
      rw [hq3l] at hh
      exact hh).mono ?_
    rintro e x11 ⟨rfl, _, ho11⟩
    have hz11 := ho11.size
    have H15 := Lib.hid (H14.out.only ho11 (fun k hk => by omega) (fun x hx => by
      simp only [boxes, List.mem_cons, List.not_mem_nil, or_false] at hx
      rcases hx with rfl | rfl | rfl | rfl | rfl | rfl | rfl | rfl | rfl | rfl <;> simp only <;> omega))
    have Hd15 := Lib.hid (Hd14.out.keep ho11 (fun k hk hn => by omega))
    have Hw15 := Lib.hid (Hw14.out.keep ho11 (fun k hk hn => by omega))
    have Ha15 := Lib.hid (Ha14.out.keep ho11 (fun k h1 h2 hn => by omega))
    clear ho11 Hd14 Ho14 Hw14 Ha14 H14 k10 k90 k91 k92 k8 k6 k0 k1 k2 k3 hmk hq3l
    obtain ⟨k10, k90, k91, k92, k8, k6, k0, k1, k2, k3, _⟩ := H15.out.cells
    go_wp2_with fail
    -- k = markPicture(x1, k)
    obtain ⟨K, hK⟩ : ∃ K, K = mkOf 1 q3 := ⟨_, rfl⟩
    rw [← hK] at hm0 hm1 ⊢
    clear hK Hm1
    refine (markP W H (fun b => x3a.heap.size ≤ b ∧ b < x4.heap.size) (some ⟨g4, 0, none⟩) xs.length xs K x11 hpx (by omega) (by omega) Hw15.out).mono ?_
    rintro e x12 ⟨rfl, _, ho12⟩
    have hz12 := ho12.size
    have H16 := Lib.hid (H15.out.only ho12 (fun k hk => by omega) (fun x hx => by
      simp only [boxes, List.mem_cons, List.not_mem_nil, or_false] at hx
      rcases hx with rfl | rfl | rfl | rfl | rfl | rfl | rfl | rfl | rfl | rfl <;> simp only <;> omega))
    have Hd16 := Lib.hid (Hd15.out.keep ho12 (fun k hk hn => by omega))
    have Ha16 := Lib.hid (Ha15.out.keep ho12 (fun k h1 h2 hn => by omega))
    clear ho12 Hd15 Hw15 Ha15 H15 k10 k90 k91 k92 k8 k6 k0 k1 k2 k3
    obtain ⟨k10, k90, k91, k92, k8, k6, k0, k1, k2, k3, _⟩ := H16.out.cells
    have hkd : decide (K + (xs.length : Int) < 0) = false := by simp; omega
    go_wp2_with fail
    -- k < 0 || !eqAlbum(g0, w0) || g1 != w1
    refine (eqA vb va vd vc es ds x12 hLe (Hce.out.len HLl.out.2) (Hce.out.peq Hcp.out).1 (Hce.out.peq Hcp.out).2 (Ha16.out.pics.mono (fun k hk => by omega)) (Hd16.out.mono (fun k hk => by omega))).mono ?_
    rintro e x13 ⟨rfl, hb13⟩
    have hz13 := hb13.size
    have H17 := Lib.hid (H16.out.next hb13)
    have Hd17 := Lib.hid (Hd16.out.step hb13)
    have Ha17 := Lib.hid (Ha16.out.step' hb13)
    clear hb13 Hd16 Ha16 H16 k10 k90 k91 k92 k8 k6 k0 k1 k2 k3 hkd
    obtain ⟨k10, k90, k91, k92, k8, k6, k0, k1, k2, k3, _⟩ := H17.out.cells
    go_wp2_with fail
    -- m = markAlbum(g0, 1)
    have hel := Hce.out.1
    have hel8 : es.length ≤ 8 := by have := HLl.out.1; omega
    have hme := mkOf_le 1 es (Hce.out.len HLl.out.2)
    obtain ⟨M, hM⟩ : ∃ M, M = mkOf 1 es := ⟨_, rfl⟩
    refine (markA x4a.heap.size x5.heap.size gb vb vd es 1 x13 hLe (Hce.out.len HLl.out.2) (by omega) (by omega) Ha17.out (by omega)).mono ?_
    rw [← hM]
    rintro e x14 ⟨rfl, hown14, ho14⟩
    have hz14 := ho14.size
    have H18 := Lib.hid (H17.out.only ho14 (fun k hk => by omega) (fun x hx => by
      simp only [boxes, List.mem_cons, List.not_mem_nil, or_false] at hx
      rcases hx with rfl | rfl | rfl | rfl | rfl | rfl | rfl | rfl | rfl | rfl <;> simp only <;> omega))
    have Hd18 := Lib.hid (Hd17.out.keep ho14 (fun k hk hn => by omega))
    have Ha18 := Lib.hid hown14
    have HM := Lib.hid hM
    have hM0 : 1 ≤ M := by omega
    have hM1 : M ≤ 8388625 := by omega
    clear ho14 hown14 Hd17 Ha17 H17 k10 k90 k91 k92 k8 k6 k0 k1 k2 k3 hM hme hel
    obtain ⟨k10, k90, k91, k92, k8, k6, k0, k1, k2, k3, _⟩ := H18.out.cells
    have hMd : decide (M < 0) = false := by simp; omega
    have hMM : (M != M) = false := by simp
    go_wp2_with fail
    -- q = heldAlbum(g0, 1)
    refine (heldA vb vd es 1 x14 hLe (Hce.out.len HLl.out.2) (by omega) (by have := HM.out; omega) (Ha18.out.pics.mono (fun k hk => by omega))).mono ?_
    rw [← HM.out]
    rintro e x15 ⟨rfl, hb15⟩
    have hz15 := hb15.size
    have H19 := Lib.hid (H18.out.next hb15)
    have Hd19 := Lib.hid (Hd18.out.step hb15)
    have Ha19 := Lib.hid (Ha18.out.step' hb15)
    clear hb15 Hd18 Ha18 H18 k10 k90 k91 k92 k8 k6 k0 k1 k2 k3
    obtain ⟨k10, k90, k91, k92, k8, k6, k0, k1, k2, k3, _⟩ := H19.out.cells
    go_upto_region 31 with fail
    have H20 := Lib.hid (Stand.sub H19.out (cs' := (x5.heap.size, 0, .slice vb es.length vd) :: (n6, 0, .slice va ds.length vc) :: boxes w.heap.size a ps.length c W H pa xs.length pc) ⟨H19.out.cells.1, H19.out.cells.2.2.2.2.2⟩)
    clear H19
    go_cut [15, 16] (fun s15 s16 wx => CutR2 w.heap.size w a ps pa xs ((x5.heap.size, 0, .slice vb es.length vd) :: (n6, 0, .slice va ds.length vc) :: boxes w.heap.size a ps.length c W H pa xs.length pc) L ok x15 s15 s16 wx)
    case first =>
      go_region_held3 (fun w' => w'.cell? ⟨w.heap.size, 0, none⟩ = some (.slice a ps.length c) ∧ w'.cell? ⟨w.heap.size + 1, 0, none⟩ = some (.int .i64 W) ∧ w'.cell? ⟨w.heap.size + 1, 1, none⟩ = some (.int .i64 H) ∧ w'.cell? ⟨w.heap.size + 1, 2, none⟩ = some (.slice pa xs.length pc))
        (first | exact stand6 S3.out | exact stand6 (S3.out.alloc _) | exact stand6s S3.out S2.out.size | exact stand6s S3.out S1.out.size | exact stand6s S3.out H20.out.size | exact stand6 S2.out | exact stand6 (S2.out.alloc _) | exact stand6 S1.out | exact stand6 (S1.out.alloc _) | exact stand6 (H20.out.drew.alloc _) | go_keep)
      ((first
        | (go_at_call 9
           first
             | refine (toA a c ps x15.drew hps Hpm.out H20.out.drew.now.1).mono ?_
             | refine (toA a c ps (x15.drew.alloc (.cells #[.slice none 0 0] 32)) hps Hpm.out (H20.out.drew.alloc _).now.1).mono ?_
           rintro e y1 ⟨g1, q1, rfl, hc1, ho1, hs1, hb1⟩
           have S1 := Lib.hid (show Stand w.heap.size w a ps pa xs ((x5.heap.size, 0, .slice vb es.length vd) :: (n6, 0, .slice va ds.length vc) :: boxes w.heap.size a ps.length c W H pa xs.length pc) y1 from by first | exact H20.out.drew.next hb1 | exact (H20.out.drew.alloc _).next hb1)
           try have T1 := Lib.hid (show y1.heap[x15.heap.size]? = some (.cells #[.slice none 0 0] 32 (0, 0)) from one_below hb1 (heap_alloc_new x15.drew (.cells #[.slice none 0 0] 32)) (by simp))
           have Hc1 := Lib.hid hc1
           have Ho1 := Lib.hid ho1
           have Hs1 := Lib.hid hs1
           have E1 := Lib.hid (show Below x15.heap.size x15 y1 from by first | exact (below_drew x15).trans hb1 | exact ((below_drew x15).alloc (Nat.le_refl _) _).trans (hb1.mono (by simp [World.size_drew])))
           clear hc1 ho1 hs1 hb1)
        | (go_at_call 10
           first
             | refine (toP_law y1 hpx S1.out.now.2).mono ?_
             | refine (toP_law (y1.alloc (.cells #[.slice none 0 0] 32)) hpx (S1.out.alloc _).now.2).mono ?_
           rintro e y2 ⟨g2, rfl, hw2, hb2⟩
           have S2 := Lib.hid (show Stand w.heap.size w a ps pa xs ((x5.heap.size, 0, .slice vb es.length vd) :: (n6, 0, .slice va ds.length vc) :: boxes w.heap.size a ps.length c W H pa xs.length pc) y2 from by first | exact S1.out.next hb2 | exact (S1.out.alloc _).next hb2)
           first
             | have T2 := Lib.hid (one_below hb2 T1.out (lt_of_block T1.out))
             | have T2 := Lib.hid (one_below hb2 (heap_alloc_new y1 (.cells #[.slice none 0 0] 32)) (by simp))
             | skip
           have Ho2 := Lib.hid (show Own _ _ _ y2 _ _ from by first | exact Ho1.out.keep (Only.ofBelow hb2 (Nat.le_refl _)) (fun _ _ _ h => h) | exact (Ho1.out.keep ((Only.refl (fun _ => False) _).alloc _) (fun _ _ _ h => h)).keep (Only.ofBelow hb2 (Nat.le_refl _)) (fun _ _ _ h => h))
           have hz2 : y1.heap.size ≤ y2.heap.size := by first | exact hb2.size | (have := hb2.size; simp at this; omega)
           have E2 := Lib.hid (show Below x15.heap.size x15 y2 from by first | exact E1.out.trans (hb2.mono E1.out.size) | exact (E1.out.alloc E1.out.size _).trans (hb2.mono (by have := E1.out.size; simp; omega)))
           have Hw2 := Lib.hid hw2
           clear hw2 hb2)
        | (go_at_call 11
           first
             | refine (iAdd_law y2 hps Hpm.out hpx Hc1.out Hs1.out Ho2.out hz2 (Hw2.out.rd.mono (fun k hk => hk.2)) HL.out Hok.out).mono ?_
             | refine (iAdd_law (y2.alloc (.cells #[.slice none 0 0] 32)) hps Hpm.out hpx Hc1.out Hs1.out (Ho2.out.keep ((Only.refl (fun _ => False) _).alloc _) (fun _ _ _ h => h)) (by simp; omega) ((Hw2.out.rd.alloc _).mono (fun k hk => by simp; omega)) HL.out Hok.out).mono ?_
           rintro e y3 ⟨va3, vc3, ds3, rfl, hcp, halb, hb3⟩
           have S3 := Lib.hid (show Stand w.heap.size w a ps pa xs ((x5.heap.size, 0, .slice vb es.length vd) :: (n6, 0, .slice va ds.length vc) :: boxes w.heap.size a ps.length c W H pa xs.length pc) y3 from by first | exact S2.out.next hb3 | exact (S2.out.alloc _).next hb3)
           first
             | have T3 := Lib.hid (one_below hb3 T2.out (lt_of_block T2.out))
             | have T3 := Lib.hid (one_below hb3 (heap_alloc_new y2 (.cells #[.slice none 0 0] 32)) (by simp))
             | skip
           try have t3 := cell_of_one T3.out
           try have t3f := free_of_one T3.out
           have E3 := Lib.hid (show Below x15.heap.size x15 y3 from by first | exact E2.out.trans (hb3.mono E2.out.size) | exact (E2.out.alloc E2.out.size _).trans (hb3.mono (by have := E2.out.size; simp; omega)))
           have Hcp3 := Lib.hid hcp
           have Halb := Lib.hid halb
           clear hcp halb hb3)))
      all_goals
        have z2 := S2.out.size
        have z1 := S1.out.size
        have z0 := H20.out.size
        have e2 := E2.out.size
        have e1 := E1.out.size
        have e3 := E3.out.size
        go_wp2_with fail
        go_meet
        first
          | exact ⟨cutR_alloc S3.out Hcp3.out Halb.out, E3.out.alloc E3.out.size _⟩
          | exact ⟨cutR_store S3.out Hcp3.out Halb.out (by first | exact lt_of_block T2.out | simp) (by omega) (cs31_ne (by omega) (by omega) (by omega)) T3.out, E3.out.setCell (by first | (simp; done) | (simp; omega)) _⟩
    case rest =>
      obtain ⟨⟨n15, vf, vg, fs, rfl, rfl, hcf, hpf, hst⟩, hbx⟩ := hcut
      have hzx := hbx.size
      have H21 := Lib.hid hst
      have Hf21 := Lib.hid hpf
      have Hcf := Lib.hid hcf
      have Hd21 := Lib.hid (Hd19.out.step hbx)
      have Ha21 := Lib.hid (Ha19.out.step' hbx)
      clear hst hpf hcf hbx Hd19 Ha19 H20 k10 k90 k91 k92 k8 k6 k0 k1 k2 k3
      obtain ⟨k15, k10, k6, k0, k1, k2, k3, _⟩ := H21.out.cells
      have hlf : fs.length ≤ 1048576 := by have := HLl.out.1; have := Hcf.out.1; omega
      go_wp2_with fail
      refine (eqA vf va vg vc fs ds wc hlf (Hcf.out.len HLl.out.2) (Hcf.out.peq Hcp.out).1 (Hcf.out.peq Hcp.out).2 Hf21.out (Hd21.out.mono (fun k hk => by omega))).mono ?_
      rintro e x17 ⟨rfl, hb17⟩
      have hz17 := hb17.size
      have H22 := Lib.hid (H21.out.next hb17)
      have Ha22 := Lib.hid (Ha21.out.step' hb17)
      clear hb17 Hd21 Ha21 Hf21 H21 k15 k10 k6 k0 k1 k2 k3
      obtain ⟨k15, k10, k6, k0, k1, k2, k3, _⟩ := H22.out.cells
      go_wp2_with fail
      refine (heldA vb vd es 1 x17 hLe (Hce.out.len HLl.out.2) (by omega) (by have := HM.out; omega) (Ha22.out.pics.mono (fun k hk => by omega))).mono ?_
      rw [← HM.out]
      rintro e x18 ⟨rfl, hb18⟩
      have H23 := Lib.hid (H22.out.next hb18)
      clear hb18 H22 Ha22 k15 k10 k6 k0 k1 k2 k3
      go_wp2
      go_ret
      exact ⟨rfl, H23.out.below⟩
end Go.Proofs.Ytljkgemkolmihaa
