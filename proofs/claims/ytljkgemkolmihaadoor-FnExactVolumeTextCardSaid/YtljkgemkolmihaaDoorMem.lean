/- Memory in plain words, over any program: rows of cells that are read, rows that may be written, and what a call leaves as it was. -/
import Derived.WalkKit
namespace Go.Proofs.YtljkgemkolmihaaDoor
open Go.RowKit

/-- w' is w but for blocks in S and new ones. -/
structure Only (S : Nat → Prop) (w w' : World) : Prop where
  os : w'.os = w.os
  tape : w'.tape = w.tape
  output : w'.output = w.output
  size : w.heap.size ≤ w'.heap.size
  block : ∀ k, k < w.heap.size → ¬ S k → w'.heap[k]? = w.heap[k]?

theorem Only.refl (S : Nat → Prop) (w : World) : Only S w w := ⟨rfl, rfl, rfl, Nat.le_refl _, fun _ _ _ => rfl⟩
theorem Only.trans {S : Nat → Prop} {a b c : World} (h : Only S a b) (k : Only S b c) : Only S a c :=
  ⟨k.os.trans h.os, k.tape.trans h.tape, k.output.trans h.output, Nat.le_trans h.size k.size, fun i hi hn => (k.block i (Nat.lt_of_lt_of_le hi h.size) hn).trans (h.block i hi hn)⟩
theorem Only.mono {S T : Nat → Prop} {a b : World} (h : Only S a b) (hs : ∀ k, k < a.heap.size → S k → T k) : Only T a b :=
  ⟨h.os, h.tape, h.output, h.size, fun i hi hn => h.block i hi (fun s => hn (hs i hi s))⟩
theorem Only.drew {S : Nat → Prop} {a w : World} (h : Only S a w) : Only S a w.drew := ⟨h.os, h.tape, h.output, h.size, h.block⟩
theorem Only.alloc {S : Nat → Prop} {a w : World} (h : Only S a w) (o : Obj) : Only S a (w.alloc o) :=
  h.trans ⟨rfl, rfl, rfl, by simp, fun k hk _ => Below.heap_alloc _ _ _ (by omega)⟩
theorem Only.setCell {S : Nat → Prop} {a w : World} (h : Only S a w) {p : Addr} (hp : S p.block) (u : Value) : Only S a (w.setCell p u) :=
  h.trans ⟨rfl, rfl, rfl, by simp [World.setCell], fun k hk hn => Below.heap_setCell _ _ _ _ (fun e => hn (e ▸ hp))⟩
theorem Only.below {B : Nat} {a w : World} (h : Below B a w) : Only (B ≤ ·) a w :=
  ⟨h.os, h.tape, h.output, h.size, fun k _ hn => h.block k (by omega)⟩
theorem Only.toBelow {S : Nat → Prop} {B : Nat} {a w : World} (h : Only S a w) (hB : B ≤ a.heap.size) (hS : ∀ k, S k → B ≤ k) : Below B a w :=
  ⟨h.os, h.tape, h.output, h.size, fun k hk => h.block k (by omega) (fun s => by have := hS k s; omega)⟩

/-- The cells xs are read from a on, in a block in S. -/
def Rd (S : Nat → Prop) (w : World) (a : Option Addr) (xs : List Value) : Prop :=
  xs = [] ∨ ∃ b o, a = some ⟨b, o, none⟩ ∧ S b ∧ ∀ i (h : i < xs.length), w.cell? ⟨b, o + i, none⟩ = some xs[i]

/-- and they may be written -/
def Wr (S : Nat → Prop) (w : World) (a : Option Addr) (xs : List Value) : Prop :=
  xs = [] ∨ ∃ b o, a = some ⟨b, o, none⟩ ∧ S b ∧ ∀ i (h : i < xs.length), w.cell? ⟨b, o + i, none⟩ = some xs[i] ∧ w.frozen? ⟨b, o + i, none⟩ = false

theorem Rd.nil {S : Nat → Prop} {w : World} {a : Option Addr} : Rd S w a [] := Or.inl rfl
theorem Wr.nil {S : Nat → Prop} {w : World} {a : Option Addr} : Wr S w a [] := Or.inl rfl
theorem Wr.rd {S : Nat → Prop} {w : World} {a : Option Addr} {xs : List Value} (h : Wr S w a xs) : Rd S w a xs := by
  rcases h with h | ⟨b, o, e, s, h⟩
  · exact Or.inl h
  · exact Or.inr ⟨b, o, e, s, fun i hi => (h i hi).1⟩
theorem Rd.mono {S T : Nat → Prop} {w : World} {a : Option Addr} {xs : List Value} (h : Rd S w a xs) (hs : ∀ k, S k → T k) : Rd T w a xs := by
  rcases h with h | ⟨b, o, e, s, h⟩
  · exact Or.inl h
  · exact Or.inr ⟨b, o, e, hs b s, h⟩
theorem Wr.mono {S T : Nat → Prop} {w : World} {a : Option Addr} {xs : List Value} (h : Wr S w a xs) (hs : ∀ k, S k → T k) : Wr T w a xs := by
  rcases h with h | ⟨b, o, e, s, h⟩
  · exact Or.inl h
  · exact Or.inr ⟨b, o, e, hs b s, h⟩
theorem lt_of_cell {w : World} {b o : Nat} {v : Value} (h : w.cell? ⟨b, o, none⟩ = some v) : b < w.heap.size := World.block_lt_of_cell? w _ h
/-- Blocks of S that have not turned: what was read is read. -/
theorem Rd.keep {S T : Nat → Prop} {w w' : World} {a : Option Addr} {xs : List Value} (h : Rd S w a xs) (ho : Only T w w') (hd : ∀ k, S k → ¬ T k) : Rd S w' a xs := by
  rcases h with h | ⟨b, o, e, s, h⟩
  · exact Or.inl h
  · exact Or.inr ⟨b, o, e, s, fun i hi => (World.cell?_of_block (w := w) (ho.block b (lt_of_cell (h i hi)) (hd b s))).trans (h i hi)⟩
theorem Wr.keep {S T : Nat → Prop} {w w' : World} {a : Option Addr} {xs : List Value} (h : Wr S w a xs) (ho : Only T w w') (hd : ∀ k, S k → ¬ T k) : Wr S w' a xs := by
  rcases h with h | ⟨b, o, e, s, h⟩
  · exact Or.inl h
  · exact Or.inr ⟨b, o, e, s, fun i hi => ⟨(World.cell?_of_block (w := w) (ho.block b (lt_of_cell (h i hi).1) (hd b s))).trans (h i hi).1, (World.frozen?_of_block (w := w) (ho.block b (lt_of_cell (h i hi).1) (hd b s))).trans (h i hi).2⟩⟩
/-- behind a call that only makes blocks -/
theorem Rd.below {B : Nat} {w w' : World} {a : Option Addr} {xs : List Value} (h : Rd (· < B) w a xs) (ho : Below B w w') : Rd (· < B) w' a xs :=
  h.keep (Only.below ho) (fun k hk hn => by omega)
theorem Rd.tight {S : Nat → Prop} {w : World} {a : Option Addr} {xs : List Value} (h : Rd S w a xs) : Rd (fun k => S k ∧ k < w.heap.size) w a xs := by
  rcases h with h | ⟨b, o, e, s, h⟩
  · exact Or.inl h
  · by_cases hx : xs = []
    · exact Or.inl hx
    · have : 0 < xs.length := by cases xs <;> simp_all
      exact Or.inr ⟨b, o, e, ⟨s, lt_of_cell (h 0 this)⟩, h⟩
theorem Wr.tight {S : Nat → Prop} {w : World} {a : Option Addr} {xs : List Value} (h : Wr S w a xs) : Wr (fun k => S k ∧ k < w.heap.size) w a xs := by
  rcases h with h | ⟨b, o, e, s, h⟩
  · exact Or.inl h
  · by_cases hx : xs = []
    · exact Or.inl hx
    · have : 0 < xs.length := by cases xs <;> simp_all
      exact Or.inr ⟨b, o, e, ⟨s, lt_of_cell (h 0 this).1⟩, h⟩

/-- A single-precision number in a cell. -/
abbrev fl (x : Nat) : Value := .float .f32 x

theorem ret_int {k : IntKind} {a b : Int} (h : a = b) : Ending.returned (.int k a) = .returned (.int k b) := by rw [h]
theorem ret_bool {a b : Bool} (h : a = b) : Ending.returned (.bool a) = .returned (.bool b) := by rw [h]

/-- Behind a call that only makes blocks, all elder cells and marks read as before. -/
theorem bcell {W w1 : World} (hb : Below W.heap.size W w1) : (∀ b o, b < W.heap.size → w1.cell? ⟨b, o, none⟩ = W.cell? ⟨b, o, none⟩) ∧ (∀ b o, b < W.heap.size → w1.frozen? ⟨b, o, none⟩ = W.frozen? ⟨b, o, none⟩) :=
  ⟨fun b o h => hb.cell (p := ⟨b, o, none⟩) h, fun b o h => hb.frozen (p := ⟨b, o, none⟩) h⟩
/-- new blocks leave elder rows as they were -/
theorem Rd.alloc {S : Nat → Prop} {w : World} {a : Option Addr} {xs : List Value} (h : Rd S w a xs) (o : Obj) : Rd S (w.alloc o) a xs := h.keep ((Only.refl (fun _ => False) w).alloc o) (fun _ _ h => h)
theorem Wr.alloc {S : Nat → Prop} {w : World} {a : Option Addr} {xs : List Value} (h : Wr S w a xs) (o : Obj) : Wr S (w.alloc o) a xs := h.keep ((Only.refl (fun _ => False) w).alloc o) (fun _ _ h => h)
theorem Rd.setCell {S : Nat → Prop} {w : World} {a : Option Addr} {xs : List Value} (h : Rd S w a xs) {p : Addr} (hp : ¬ S p.block) (u : Value) : Rd S (w.setCell p u) a xs := h.keep ((Only.refl (· = p.block) w).setCell (p := p) rfl u) (fun k hk e => hp (e ▸ hk))
theorem Wr.setCell {S : Nat → Prop} {w : World} {a : Option Addr} {xs : List Value} (h : Wr S w a xs) {p : Addr} (hp : ¬ S p.block) (u : Value) : Wr S (w.setCell p u) a xs := h.keep ((Only.refl (· = p.block) w).setCell (p := p) rfl u) (fun k hk e => hp (e ▸ hk))

/-- what the kit's words on a row of the call's own give -/
theorem Wr.ofOwns {w : World} {base : Nat} {e : TypeId} {g n cap : Nat} {xs : List Value} (h : w.ownsRow base e 1 (.slice (some ⟨g, 0, none⟩) n cap) n xs) : Wr (· = g) w (some ⟨g, 0, none⟩) xs := by
  have hl : xs.length = n := by have := h.1; omega
  exact Or.inr ⟨g, 0, rfl, rfl, fun i hi => ⟨by rw [Nat.zero_add, h.cellAt i (by omega)]; simp [hi], by rw [Nat.zero_add]; exact h.frozenAt i⟩⟩

/-- the cells of a row as the laws on append ask for them -/
theorem Rd.news {S : Nat → Prop} {w : World} {ad : Addr} {xs : List Value} (h : Rd S w (some ad) xs) : ∀ j u, xs[j]? = some u → w.cell? (ad.add j) = some u := by
  intro j u hj
  rcases h with h | ⟨b, o, e, _, h⟩
  · subst h; simp at hj
  · cases e
    obtain ⟨hl, rfl⟩ := List.getElem?_eq_some_iff.1 hj
    rw [← h j hl]
    unfold Addr.add
    split
    · rename_i h0; subst h0; simp
    · rfl
theorem fl_one (xs : List Nat) : ∀ u ∈ xs.map fl, u.oneCell' = true := by
  intro u hu
  obtain ⟨x, _, rfl⟩ := List.mem_map.1 hu
  rfl
/-- the kit's word for a row of the call's own, said by mine -/
theorem Wr.ofOwns' {w : World} {base : Nat} {e : TypeId} {n : Nat} {v : Value} {xs : List Value} (h : w.ownsRow base e 1 v n xs) : ∃ a c, v = .slice a n c ∧ Wr (fun b => base ≤ b ∧ b < w.heap.size) w a xs := by
  have hl := h.lt
  rcases h.2 with ⟨rfl, rfl⟩ | ⟨g, cap, cur, rfl, hb, hg, hnc, hcm, hcs, htake⟩
  · have : xs = [] := List.eq_nil_of_length_eq_zero (by simpa using h.1)
    subst this
    exact ⟨none, 0, rfl, Wr.nil⟩
  · exact ⟨some ⟨g, 0, none⟩, cap, rfl, (Wr.ofOwns h).mono (fun k hk => by subst hk; exact hl _ rfl)⟩

theorem Rd.ofHeap {S : Nat → Prop} {w w' : World} {a : Option Addr} {xs : List Value} (h : Rd S w a xs) (hh : w'.heap = w.heap) : Rd S w' a xs := by
  rcases h with h | ⟨b, o, e, s, h⟩
  · exact Or.inl h
  · exact Or.inr ⟨b, o, e, s, fun i hi => by simp only [World.cell?, hh]; exact h i hi⟩
theorem World.size_drew (w : World) : w.drew.heap.size = w.heap.size := rfl

section
variable {P : Program} {w : World} {a : Addr} {m : Mode}
@[go_sem] theorem run_store_float (k : FloatKind) (n : Nat) : (store a (.float k n) m).run P w = stored P w a (.float k n) m := run_store P w a _ m rfl
end
end Go.Proofs.YtljkgemkolmihaaDoor
