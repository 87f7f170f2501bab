/- AddPicture in the law's setting: both sides' answers as copies of one list. -/
import Derived.Test.YtljkgemkolmihaaL2
namespace Go.Proofs.Ytljkgemkolmihaa
open Go.RowKit

/-- what both sides' AddPicture leave: copies of L, and ok -/
def FreshR (L : List PV) (ok : Bool) (w : World) (e : Ending) (w' : World) : Prop :=
  ∃ va vc ds, e = .returned (.tuple #[.agg #[.slice va ds.length vc], .bool ok]) ∧ Copies L ds L.length ∧ Alb w.heap.size w' (.slice va ds.length vc) ds ∧ Below w.heap.size w w'

theorem FreshAdd.r {ps qs : List PV} (h : Copies ps qs ps.length) {p q : PV} (hq : q.W = p.W ∧ q.H = p.H ∧ q.xs = p.xs) {L : List PV} {ok : Bool} (hL : L = addL ps p) (hok : ok = addB ps p) {w : World} {e : Ending} {w' : World} (g : FreshAdd qs q w e w') : FreshR L ok w e w' := by
  obtain ⟨v, ds, he, hc, ha, hb⟩ := g
  obtain ⟨va, vc, rfl⟩ := ha.shape
  refine ⟨va, vc, ds, ?_, ?_, ha, hb⟩
  · rw [he, h.addB p q hq, hok]
  · subst hL; exact h.addL p q hq hc

theorem sAdd_law {lo hi g : Nat} {ps qs : List PV} {W H : Int} {pa : Option Addr} {pc g2 : Nat} {xs : List Nat} {L : List PV} {ok : Bool} (w : World) (hn : ps.length ≤ 1048576) (hm : ∀ p ∈ ps, p.xs.length ≤ 1048576) (hx : xs.length ≤ 1048576)
    (hc : Copies ps qs ps.length) (hsm : ∀ d ∈ qs, d.a ≠ none) (ho : Own lo hi g w (some ⟨g, 0, none⟩) qs) (hhi : hi ≤ w.heap.size) (hp : Rd (· < w.heap.size) w (some ⟨g2, 0, none⟩) (xs.map fl)) (hL : L = addL ps ⟨W, H, pa, pc, xs⟩) (hok : ok = addB ps ⟨W, H, pa, pc, xs⟩) :
    Calls Try.prog 8 #[.agg #[.slice (some ⟨g, 0, none⟩) ps.length ps.length], .agg #[.int .i64 W, .int .i64 H, .slice (some ⟨g2, 0, none⟩) xs.length xs.length]] w (FreshR L ok w) := by
  have hl : ps.length = qs.length := hc.1.symm
  have h := sAddPicture_any w.heap.size (some ⟨g, 0, none⟩) qs.length qs W H ⟨g2, 0, none⟩ xs.length xs w (by omega) (hc.len hm) hsm (ho.pics.mono (fun k hk => by omega)) (Nat.le_refl _) hx hp
  rw [← hl] at h
  exact h.mono fun e w' g => g.r hc (p := ⟨W, H, pa, pc, xs⟩) (q := ⟨W, H, some ⟨g2, 0, none⟩, xs.length, xs⟩) ⟨rfl, rfl, rfl⟩ hL hok

theorem iAdd_law {lo hi g : Nat} {ps qs : List PV} {W H : Int} {pa : Option Addr} {pc g2 : Nat} {xs : List Nat} {L : List PV} {ok : Bool} (w : World) (hn : ps.length ≤ 1048576) (hm : ∀ p ∈ ps, p.xs.length ≤ 1048576) (hx : xs.length ≤ 1048576)
    (hc : Copies ps qs ps.length) (hsm : ∀ d ∈ qs, d.a ≠ none) (ho : Own lo hi g w (some ⟨g, 0, none⟩) qs) (hhi : hi ≤ w.heap.size) (hp : Rd (· < w.heap.size) w (some ⟨g2, 0, none⟩) (xs.map fl)) (hL : L = addL ps ⟨W, H, pa, pc, xs⟩) (hok : ok = addB ps ⟨W, H, pa, pc, xs⟩) :
    Calls Try.prog 11 #[.agg #[.slice (some ⟨g, 0, none⟩) ps.length ps.length], .agg #[.int .i64 W, .int .i64 H, .slice (some ⟨g2, 0, none⟩) xs.length xs.length]] w (FreshR L ok w) := by
  have hl : ps.length = qs.length := hc.1.symm
  have h := addPicture_any w.heap.size (some ⟨g, 0, none⟩) qs.length qs W H (some ⟨g2, 0, none⟩) xs.length xs w (by omega) (hc.len hm) (fun p hp e => (hsm p hp e).elim) (ho.pics.mono (fun k hk => by omega)) (Nat.le_refl _) hx hp (fun e => by cases e)
  rw [← hl] at h
  exact h.mono fun e w' g => g.r hc (p := ⟨W, H, pa, pc, xs⟩) (q := ⟨W, H, some ⟨g2, 0, none⟩, xs.length, xs⟩) ⟨rfl, rfl, rfl⟩ hL hok

/-- what is read of the arguments -/
def ArgsA (a : Option Addr) (ps : List PV) (pa : Option Addr) (xs : List Nat) (w : World) : Prop := Pics (· < w.heap.size) w a ps ∧ Rd (· < w.heap.size) w pa (xs.map fl)
theorem Pics.next {w w' : World} {a : Option Addr} {ps : List PV} (h : Pics (· < w.heap.size) w a ps) (hb : Below w.heap.size w w') : Pics (· < w'.heap.size) w' a ps :=
  (h.below hb).mono (fun k hk => Nat.lt_of_lt_of_le hk hb.size)
theorem Rd.next {w w' : World} {a : Option Addr} {xs : List Value} (h : Rd (· < w.heap.size) w a xs) (hb : Below w.heap.size w w') : Rd (· < w'.heap.size) w' a xs :=
  (h.below hb).mono (fun k hk => Nat.lt_of_lt_of_le hk hb.size)
theorem ArgsA.next {a : Option Addr} {ps : List PV} {pa : Option Addr} {xs : List Nat} {w w' : World} (h : ArgsA a ps pa xs w) (hb : Below w.heap.size w w') : ArgsA a ps pa xs w' := ⟨h.1.next hb, h.2.next hb⟩
theorem below_alloc (w : World) (o : Obj) : Below w.heap.size w (w.alloc o) := (Below.refl _ _).alloc (Nat.le_refl _) _
theorem below_drew (w : World) : Below w.heap.size w w.drew := (Below.refl _ _).drew

/-- what is read of the arguments, all of it below block B -/
def ArgsB (B : Nat) (a : Option Addr) (ps : List PV) (pa : Option Addr) (xs : List Nat) (w : World) : Prop := Pics (· < B) w a ps ∧ Rd (· < B) w pa (xs.map fl)
theorem ArgsB.keep {B : Nat} {a : Option Addr} {ps : List PV} {pa : Option Addr} {xs : List Nat} {w w' : World} {T : Nat → Prop} (h : ArgsB B a ps pa xs w) (ho : Only T w w') (hT : ∀ k, T k → B ≤ k) : ArgsB B a ps pa xs w' :=
  ⟨h.1.keep ho (fun k hk ht => by have := hT k ht; omega), h.2.keep ho (fun k hk ht => by have := hT k ht; omega)⟩
theorem ArgsB.next {B : Nat} {a : Option Addr} {ps : List PV} {pa : Option Addr} {xs : List Nat} {w w' : World} (h : ArgsB B a ps pa xs w) (hb : Below w.heap.size w w') : ArgsB B a ps pa xs w' :=
  h.keep (Only.ofBelow hb (Nat.le_refl _)) (fun _ h => h.elim)
theorem ArgsB.now {B : Nat} {a : Option Addr} {ps : List PV} {pa : Option Addr} {xs : List Nat} {w : World} (h : ArgsB B a ps pa xs w) (hB : B ≤ w.heap.size) : ArgsA a ps pa xs w :=
  ⟨h.1.mono (fun k hk => Nat.lt_of_lt_of_le hk hB), h.2.mono (fun k hk => Nat.lt_of_lt_of_le hk hB)⟩

/-- what stands at a point of the law's walk: B is where the call began, cs the variables -/
structure Stand (B : Nat) (w0 : World) (a : Option Addr) (ps : List PV) (pa : Option Addr) (xs : List Nat) (cs : List (Nat × Nat × Value)) (w : World) : Prop where
  args : ArgsB B a ps pa xs w
  cells : Cells w cs
  below : Below B w0 w
  size : B + 2 ≤ w.heap.size
theorem Stand.next {B : Nat} {w0 : World} {a : Option Addr} {ps : List PV} {pa : Option Addr} {xs : List Nat} {cs : List (Nat × Nat × Value)} {w w' : World} (h : Stand B w0 a ps pa xs cs w) (hb : Below w.heap.size w w') : Stand B w0 a ps pa xs cs w' :=
  ⟨h.args.next hb, h.cells.below hb, h.below.trans (hb.mono (by have := h.size; omega)), Nat.le_trans h.size hb.size⟩
theorem Stand.alloc {B : Nat} {w0 : World} {a : Option Addr} {ps : List PV} {pa : Option Addr} {xs : List Nat} {cs : List (Nat × Nat × Value)} {w : World} (h : Stand B w0 a ps pa xs cs w) (o : Obj) : Stand B w0 a ps pa xs cs (w.alloc o) := h.next (below_alloc w o)
theorem Stand.drew {B : Nat} {w0 : World} {a : Option Addr} {ps : List PV} {pa : Option Addr} {xs : List Nat} {cs : List (Nat × Nat × Value)} {w : World} (h : Stand B w0 a ps pa xs cs w) : Stand B w0 a ps pa xs cs w.drew := h.next (below_drew w)
theorem Stand.now {B : Nat} {w0 : World} {a : Option Addr} {ps : List PV} {pa : Option Addr} {xs : List Nat} {cs : List (Nat × Nat × Value)} {w : World} (h : Stand B w0 a ps pa xs cs w) : ArgsA a ps pa xs w := h.args.now (by have := h.size; omega)
/-- a variable is written: the others hold what they held -/
theorem Stand.store {B : Nat} {w0 : World} {a : Option Addr} {ps : List PV} {pa : Option Addr} {xs : List Nat} {cs : List (Nat × Nat × Value)} {w : World} (h : Stand B w0 a ps pa xs cs w) {n : Nat} (hn : B ≤ n) (hcs : ∀ x ∈ cs, x.1 ≠ n) (u : Value) : Stand B w0 a ps pa xs cs (w.setCell ⟨n, 0, none⟩ u) := by
  have ho : Only (· = n) w (w.setCell ⟨n, 0, none⟩ u) := (Only.refl (· = n) w).setCell (p := ⟨n, 0, none⟩) rfl u
  exact ⟨h.args.keep ho (fun k hk => by omega), h.cells.keep ho hcs, h.below.setCell hn u, by simpa using h.size⟩
/-- one variable more -/
theorem Stand.var {B : Nat} {w0 : World} {a : Option Addr} {ps : List PV} {pa : Option Addr} {xs : List Nat} {cs : List (Nat × Nat × Value)} {w : World} (h : Stand B w0 a ps pa xs cs w) {n o : Nat} {v : Value} (hv : w.cell? ⟨n, o, none⟩ = some v) : Stand B w0 a ps pa xs ((n, o, v) :: cs) w :=
  ⟨h.args, ⟨hv, h.cells⟩, h.below, h.size⟩

theorem Stand.only {B : Nat} {w0 : World} {a : Option Addr} {ps : List PV} {pa : Option Addr} {xs : List Nat} {cs : List (Nat × Nat × Value)} {w w' : World} {T : Nat → Prop} (h : Stand B w0 a ps pa xs cs w) (ho : Only T w w') (hT : ∀ k, T k → B ≤ k) (hcs : ∀ x ∈ cs, ¬ T x.1) : Stand B w0 a ps pa xs cs w' :=
  ⟨h.args.keep ho hT, h.cells.keep ho hcs, h.below.trans (ho.toBelow (by have := h.size; omega) hT), Nat.le_trans h.size ho.size⟩
theorem Pics.step {S : Nat → Prop} {w w' : World} {a : Option Addr} {ps : List PV} (h : Pics S w a ps) (hb : Below w.heap.size w w') : Pics S w' a ps := h.keep (Only.ofBelow hb (Nat.le_refl _)) (fun _ _ h => h)
theorem Own.step' {lo hi gb : Nat} {w w' : World} {a : Option Addr} {ds : List PV} (h : Own lo hi gb w a ds) (hb : Below w.heap.size w w') : Own lo hi gb w' a ds := h.keep (Only.ofBelow hb (Nat.le_refl _)) (fun _ _ _ h => h)
theorem Wr.step' {S : Nat → Prop} {w w' : World} {a : Option Addr} {xs : List Value} (h : Wr S w a xs) (hb : Below w.heap.size w w') : Wr S w' a xs := h.keep (Only.ofBelow hb (Nat.le_refl _)) (fun _ _ h => h)

/-- what a statement 'v, ok := AddPicture(..)' leaves -/
def CutR (B : Nat) (w0 : World) (a : Option Addr) (ps : List PV) (pa : Option Addr) (xs : List Nat) (cs : List (Nat × Nat × Value)) (L : List PV) (ok : Bool) (s s' : Value) (wx : World) : Prop :=
  ∃ n va vc ds, s = .pointer (some ⟨n, 0, none⟩) ∧ s' = .bool ok ∧ Copies L ds L.length ∧ Pics (· < wx.heap.size) wx va ds ∧ Stand B w0 a ps pa xs ((n, 0, .slice va ds.length vc) :: cs) wx
theorem cutR_alloc {B : Nat} {w0 : World} {a : Option Addr} {ps : List PV} {pa : Option Addr} {xs : List Nat} {cs : List (Nat × Nat × Value)} {L ds : List PV} {ok : Bool} {va : Option Addr} {vc lo : Nat} {w : World}
    (hs : Stand B w0 a ps pa xs cs w) (hc : Copies L ds L.length) (ha : Alb lo w (.slice va ds.length vc) ds) : CutR B w0 a ps pa xs cs L ok (.pointer (some ⟨w.heap.size, 0, none⟩)) (.bool ok) (w.alloc (.cells #[.slice va ds.length vc] 32)) :=
  ⟨w.heap.size, va, vc, ds, rfl, rfl, hc, ha.pics.next (below_alloc _ _), (hs.alloc _).var (by simp)⟩
theorem cutR_store {B : Nat} {w0 : World} {a : Option Addr} {ps : List PV} {pa : Option Addr} {xs : List Nat} {cs : List (Nat × Nat × Value)} {L ds : List PV} {ok : Bool} {va : Option Addr} {vc lo N : Nat} {w : World} {u : Value}
    (hs : Stand B w0 a ps pa xs cs w) (hc : Copies L ds L.length) (ha : Alb lo w (.slice va ds.length vc) ds) (hN : N < lo) (hB : B ≤ N) (hcs : ∀ x ∈ cs, x.1 ≠ N) (hq : w.heap[N]? = some (.cells #[u] 32 (0, 0))) :
    CutR B w0 a ps pa xs cs L ok (.pointer (some ⟨N, 0, none⟩)) (.bool ok) (w.setCell ⟨N, 0, none⟩ (.slice va ds.length vc)) :=
  ⟨N, va, vc, ds, rfl, rfl, hc, by simpa using (ha.setCell (p := ⟨N, 0, none⟩) hN _).pics, (hs.store hB hcs _).var (cell_of_one (one_setCell hq))⟩

/-- toPicture in the law's setting -/
def ToP (W H : Int) (xs : List Nat) (w : World) (e : Ending) (w' : World) : Prop :=
  ∃ g, e = .returned (.agg #[.int .i64 W, .int .i64 H, .slice (some ⟨g, 0, none⟩) xs.length xs.length]) ∧ Wr (fun b => w.heap.size ≤ b ∧ b < w'.heap.size) w' (some ⟨g, 0, none⟩) (xs.map fl) ∧ Below w.heap.size w w'
theorem toP_law {W H : Int} {pa : Option Addr} {pc : Nat} {xs : List Nat} (w : World) (hx : xs.length ≤ 1048576) (hp : Rd (· < w.heap.size) w pa (xs.map fl)) :
    Calls Try.prog 10 #[.agg #[.int .i64 W, .int .i64 H, .slice pa xs.length pc]] w (ToP W H xs w) :=
  (toP W H (· < w.heap.size) pa pc xs w hx hp (fun _ h => h)).mono fun e w' ⟨g, hg, he, hw, hb⟩ => ⟨g, he, hw.tight.mono (fun k hk => ⟨by rw [hk.1]; exact hg, hk.2⟩), hb⟩
end Go.Proofs.Ytljkgemkolmihaa
