/- A row of pictures of the call's own: what marking it leaves. -/
import Derived.Test.YtljkgemkolmihaaP3
namespace Go.Proofs.Ytljkgemkolmihaa
open Go.RowKit

def PV.blk (p : PV) : Nat := match p.a with | some a => a.block | none => 0
/-- the block in which its numbers lie, if it has any -/
def PV.own (p : PV) : Nat → Prop := fun b => b = p.blk ∧ p.xs ≠ []

/-- A row of pictures in blocks from lo to hi, all of them apart, which may be written. -/
structure Own (lo hi gb : Nat) (w : World) (a : Option Addr) (ds : List PV) : Prop where
  row : Wr (· = gb) w a (ds.flatMap PV.cells)
  rowIn : ds ≠ [] → lo ≤ gb ∧ gb < hi
  nums : ∀ d ∈ ds, Wr d.own w d.a (d.xs.map fl)
  numsIn : ∀ d ∈ ds, d.xs ≠ [] → lo ≤ d.blk ∧ d.blk < hi ∧ d.blk ≠ gb
  apart : ds.Pairwise (fun p q => p.xs ≠ [] → q.xs ≠ [] → p.blk ≠ q.blk)

theorem Own.pics {lo hi gb : Nat} {w : World} {a : Option Addr} {ds : List PV} (h : Own lo hi gb w a ds) : Pics (fun k => lo ≤ k ∧ k < hi) w a ds := by
  refine ⟨?_, fun d hd => ?_⟩
  · by_cases e : ds = []
    · subst e; exact Rd.nil
    · exact h.row.rd.mono (fun k hk => by subst hk; exact h.rowIn e)
  · exact (h.nums d hd).rd.mono (fun k hk => by
      obtain ⟨rfl, hx⟩ := hk
      exact ⟨(h.numsIn d hd hx).1, (h.numsIn d hd hx).2.1⟩)
theorem Own.keep {lo hi gb : Nat} {w w' : World} {a : Option Addr} {ds : List PV} {T : Nat → Prop} (h : Own lo hi gb w a ds) (ho : Only T w w') (hT : ∀ k, lo ≤ k → k < hi → ¬ T k) : Own lo hi gb w' a ds := by
  refine ⟨?_, h.rowIn, fun d hd => ?_, h.numsIn, h.apart⟩
  · by_cases e : ds = []
    · subst e; exact Wr.nil
    · exact h.row.keep ho (fun k hk => by subst hk; exact hT _ (h.rowIn e).1 (h.rowIn e).2)
  · exact (h.nums d hd).keep ho (fun k hk => by
      obtain ⟨rfl, hx⟩ := hk
      have := h.numsIn d hd hx
      exact hT _ this.1 this.2.1)

/-- marking: what pictures hold behind it, and the next mark -/
def msOf : Int → List PV → List PV
  | _, [] => []
  | k, d :: r => ⟨k, k + 1, d.a, d.c, marks (k + 1 + 1) d.xs.length⟩ :: msOf (k + 1 + 1 + d.xs.length) r
def mkOf : Int → List PV → Int
  | k, [] => k
  | k, d :: r => mkOf (k + 1 + 1 + d.xs.length) r
theorem msOf_length (k : Int) (ds : List PV) : (msOf k ds).length = ds.length := by
  induction ds generalizing k with
  | nil => rfl
  | cons d r ih => simp [msOf, ih]
theorem msOf_append (k : Int) (xs ys : List PV) : msOf k (xs ++ ys) = msOf k xs ++ msOf (mkOf k xs) ys := by
  induction xs generalizing k with
  | nil => rfl
  | cons d r ih => simp [msOf, mkOf, ih]
theorem mkOf_append (k : Int) (xs ys : List PV) : mkOf k (xs ++ ys) = mkOf (mkOf k xs) ys := by
  induction xs generalizing k with
  | nil => rfl
  | cons d r ih => simp [mkOf, ih]
theorem mkOf_le (k : Int) (ds : List PV) (hm : ∀ d ∈ ds, d.xs.length ≤ 1048576) : k ≤ mkOf k ds ∧ mkOf k ds ≤ k + ds.length * 1048578 := by
  induction ds generalizing k with
  | nil => simp [mkOf]
  | cons d r ih =>
    have h1 := hm d (by simp)
    have h2 := ih (k + 1 + 1 + d.xs.length) (fun x hx => hm x (by simp [hx]))
    simp only [mkOf, List.length_cons]
    omega

theorem marks_ne {k : Int} {n : Nat} : marks k n ≠ [] ↔ n ≠ 0 := by
  simp [marks]

/-- One picture of the row marked. -/
theorem Own.step {lo hi gb : Nat} {w w3 : World} {b o : Nat} {A B : List PV} {d : PV} {k k' : Int} {ys : List Nat}
    (h : Own lo hi gb w (some ⟨b, o, none⟩) (A ++ d :: B)) (hb : b = gb)
    (hw : Wr d.own w3 d.a (ys.map fl)) (hl : ys.length = d.xs.length)
    (ho : Only d.own ((w.setCell ⟨b, o + A.length * 3, none⟩ (.int .i64 k)).setCell ⟨b, o + A.length * 3 + 1, none⟩ (.int .i64 k')) w3) :
    Own lo hi gb w3 (some ⟨b, o, none⟩) (A ++ ⟨k, k', d.a, d.c, ys⟩ :: B) := by
  subst hb
  have hne : A ++ d :: B ≠ [] := by simp
  have hys : ys ≠ [] ↔ d.xs ≠ [] := by
    rw [← List.length_pos_iff, ← List.length_pos_iff, hl]
  have hmem : d ∈ A ++ d :: B := by simp
  have hrow := h.row
  rcases hrow with hrow | ⟨b', o', e, _, hrow⟩
  · exfalso
    have := congrArg List.length hrow
    rw [flat_length PV.cells 3 PV.cells_length] at this; simp at this
  simp only [Option.some.injEq, Addr.mk.injEq, and_true] at e
  obtain ⟨rfl, rfl⟩ := e
  have hL : ((A ++ d :: B).flatMap PV.cells).length = (A ++ d :: B).length * 3 := flat_length PV.cells 3 PV.cells_length _
  have hL' : ((A ++ (⟨k, k', d.a, d.c, ys⟩ : PV) :: B).flatMap PV.cells).length = (A ++ d :: B).length * 3 := by rw [flat_length PV.cells 3 PV.cells_length]; simp
  have hset : A ++ (⟨k, k', d.a, d.c, ys⟩ : PV) :: B = (A ++ d :: B).set A.length ⟨k, k', d.a, d.c, ys⟩ := by simp
  have hAl : A.length < (A ++ d :: B).length := by simp
  refine ⟨?_, fun _ => h.rowIn hne, ?_, ?_, ?_⟩
  · -- the outer row
    have h1 := Wr.set hrow (S := (· = b)) rfl (A.length * 3) (.int .i64 k)
    rcases h1 with h1 | ⟨b2, o2, e2, _, h1⟩
    · exfalso
      have := congrArg List.length h1
      rw [List.length_set, hL] at this; simp at this
    simp only [Option.some.injEq, Addr.mk.injEq, and_true] at e2
    obtain ⟨rfl, rfl⟩ := e2
    have h2 := Wr.set h1 (S := (· = b)) rfl (A.length * 3 + 1) (.int .i64 k')
    have h3 := h2.keep ho (fun j hj hd => by
      obtain ⟨e, hx⟩ := hd
      exact (h.numsIn d hmem hx).2.2 (e ▸ hj))
    have e4 : (((A ++ d :: B).flatMap PV.cells).set (A.length * 3) (.int .i64 k)).set (A.length * 3 + 1) (.int .i64 k') = (A ++ (⟨k, k', d.a, d.c, ys⟩ : PV) :: B).flatMap PV.cells := by
      apply List.ext_getElem?
      intro i
      rw [hset, flat_set PV.cells 3 PV.cells_length _ _ _ hAl i]
      have hd := fun t (ht : t < 3) => flat_get PV.cells 3 PV.cells_length (A ++ d :: B) A.length t hAl ht
      have hdd : (A ++ d :: B)[A.length] = d := by simp
      rw [hdd] at hd
      have hAi : A.length * 3 + 2 < ((A ++ d :: B).flatMap PV.cells).length := by rw [hL]; simp; omega
      simp only [List.getElem?_set, List.length_set]
      by_cases c1 : i = A.length * 3 + 1
      · subst c1
        rw [if_pos rfl, if_pos (by omega), if_pos (by omega)]
        have : A.length * 3 + 1 - A.length * 3 = 1 := by omega
        rw [this]; rfl
      · rw [if_neg (by omega)]
        by_cases c2 : i = A.length * 3
        · subst c2
          rw [if_pos rfl, if_pos (by omega), if_pos (by omega)]
          simp [PV.cells]
        · rw [if_neg (by omega)]
          by_cases c3 : i = A.length * 3 + 2
          · subst c3
            rw [if_pos (by omega)]
            have : A.length * 3 + 2 - A.length * 3 = 2 := by omega
            rw [this, hd 2 (by omega)]
            simp [PV.cells, hl]
          · rw [if_neg (by omega)]
    rw [Nat.add_assoc] at ho
    have h5 := h2.keep ho (fun j hj hd => by
      obtain ⟨e, hx⟩ := hd
      exact (h.numsIn d hmem hx).2.2 (e ▸ hj))
    rw [e4] at h5
    exact h5
  · intro p hp
    simp only [List.mem_append, List.mem_cons] at hp
    have other : ∀ p, p ∈ A ++ d :: B → (p.xs ≠ [] → d.xs ≠ [] → p.blk ≠ d.blk) → Wr p.own w3 p.a (p.xs.map fl) := by
      intro p hp hne2
      refine (((h.nums p hp).setCell ?_ _).setCell ?_ _).keep ho ?_
      · intro hh; exact (h.numsIn p hp hh.2).2.2 hh.1.symm
      · intro hh; exact (h.numsIn p hp hh.2).2.2 hh.1.symm
      · intro j hj hd; exact hne2 hj.2 hd.2 (hj.1.symm.trans hd.1)
    have hap := h.apart
    rw [List.pairwise_append] at hap
    obtain ⟨_, hap2, hap3⟩ := hap
    rw [List.pairwise_cons] at hap2
    rcases hp with hp | rfl | hp
    · exact other p (by simp [hp]) (fun a b => hap3 p hp d (by simp) a b)
    · exact hw.mono (fun j hj => ⟨hj.1, hys.2 hj.2⟩)
    · exact other p (by simp [hp]) (fun a b => (hap2.1 p hp b a).symm)
  · intro p hp hx
    simp only [List.mem_append, List.mem_cons] at hp
    rcases hp with hp | rfl | hp
    · exact h.numsIn p (by simp [hp]) hx
    · exact h.numsIn d hmem (hys.1 hx)
    · exact h.numsIn p (by simp [hp]) hx
  · have hap := h.apart
    rw [List.pairwise_append] at hap ⊢
    obtain ⟨p1, p2, p3⟩ := hap
    rw [List.pairwise_cons] at p2 ⊢
    refine ⟨p1, ⟨fun q hq a b => p2.1 q hq (hys.1 a) b, p2.2⟩, fun p hp q hq => ?_⟩
    simp only [List.mem_cons] at hq
    rcases hq with rfl | hq
    · exact fun a b => p3 p hp d (by simp) a (hys.1 b)
    · exact p3 p hp q (by simp [hq])
end Go.Proofs.Ytljkgemkolmihaa
