/- An append to a row that is full. -/
import Derived.Test.YtljkgemkolmihaaB6
import Derived.Test.YtljkgemkolmihaaS1
import Derived.Lib.SlBytesConst
import Derived.Laws.BitsLemmas
namespace Go.Proofs.Ytljkgemkolmihaa
open Go.RowKit

theorem keep3 {w w' : World} {b o : Nat} {u0 u1 u2 : Value} (hb : b < w.heap.size) (c0 : w.cell? ⟨b, o, none⟩ = some u0) (c1 : w.cell? ⟨b, o + 1, none⟩ = some u1) (c2 : w.cell? ⟨b, o + 2, none⟩ = some u2) (h : Below w.heap.size w w') :
    w'.cell? ⟨b, o, none⟩ = some u0 ∧ w'.cell? ⟨b, o + 1, none⟩ = some u1 ∧ w'.cell? ⟨b, o + 2, none⟩ = some u2 := by
  obtain ⟨c, _⟩ := bcell h
  rw [c _ _ hb, c _ _ hb, c _ _ hb]
  exact ⟨c0, c1, c2⟩

/-- append to a row that is full, whatever its mark: a row of the call's own -/
theorem run_append_full {P : Program} (w : World) (base : Nat) (t ty : TypeId) (e : TypeId) (i : TypeInfo) (z : Value) (bytes : Nat) (ht : P.underlying t = some (.slice e)) (hi : P.info? e = some i) (hz : i.zero = some z)
    (hsize : i.size = 1) (hby : i.bytes = bytes) (hzs : z.cells.size = 1) (b : Addr) (n : Nat) (xs : List Value) (hxl : xs.length = n) (hold : ∀ j u, xs[j]? = some u → w.cell? (b.add j) = some u)
    (ad : Addr) (m c : Nat) (news : List Value) (hl : news.length = m) (hnews : ∀ j u, news[j]? = some u → w.cell? (ad.add j) = some u) (hm0 : 0 < m)
    (h63 : n + m ≤ maxLen) (hbytes : (n + m) * bytes ≤ 140737488355328) (hbase : base ≤ w.heap.size) :
    ∃ v' w', (Builtin.append_ #[t, t] ty #[.slice (some b) n n, .slice (some ad) m c]).run P w = .ok v' w' ∧ w'.ownsRow base e 1 v' (n + m) (xs ++ news) ∧ w.grownBy w' none := by
  subst hby
  have hsmall : n + m ≤ 9223372036854775807 := by simp only [maxLen] at h63; omega
  have hlen : (xs ++ news).length = (n + m) * 1 := by rw [List.length_append, hxl, hl]; omega
  have hr := run_append_grow (P := P) w t ty e i z ht hi hz b n n xs (by rw [hsize]; omega) hold ad m c news (by rw [hsize]; omega) hnews (by omega) (by omega) (growslice_fits (by omega) hbytes)
  have hge := grownCap_ge w (n + m) n e
  have hcm : grownCap w (n + m) n e ≤ maxLen := grownCap_le_maxLen w (n + m) n e h63
  refine ⟨_, _, hr, ⟨hlen, .inr ⟨w.heap.size, _, _, rfl, hbase, heap_alloc_new w.drew _, hge, hcm, ?_, ?_⟩⟩, ⟨rfl, rfl, rfl, by simp, fun k hk _ => Below.heap_alloc w.drew _ _ hk⟩⟩
  · simp only [Array.size_append, List.size_toArray, size_zeroCells, hzs, hxl, hl]
    omega
  · simp only [Array.toList_append, List.append_assoc]
    rw [← List.append_assoc, ← hlen]
    exact List.take_left
theorem step_append_full {P : Program} {w : World} {ops : Array Oper} {o : Oper} {a : Act} {K : Act → World → Prop} {Q : Exit → Act → World → Prop} {E : Prop} (hgd : o.guard = none) (s x : Operand) (t : TypeId)
    (ho : o.op = .call { callee := .builtin .append, args := #[s, x], argTypes := #[t, t] })
    (base : Nat) (e : TypeId) (i : TypeInfo) (z : Value) (bytes : Nat) (ht : P.underlying t = some (.slice e)) (hi : P.info? e = some i) (hz : i.zero = some z)
    (hsize : i.size = 1) (hby : i.bytes = bytes) (hzs : z.cells.size = 1) (b : Addr) (n : Nat) (xs : List Value) (hs : a.eval s = .slice (some b) n n) (hxl : xs.length = n) (hold : ∀ j u, xs[j]? = some u → w.cell? (b.add j) = some u)
    (ad : Addr) (m c : Nat) (news : List Value) (hx : a.eval x = .slice (some ad) m c) (hl : news.length = m) (hnews : ∀ j u, news[j]? = some u → w.cell? (ad.add j) = some u) (hm0 : 0 < m)
    (h63 : n + m ≤ maxLen) (hbytes : (n + m) * bytes ≤ 140737488355328) (hbase : base ≤ w.heap.size)
    (h : ∀ v' w', w'.ownsRow base e 1 v' (n + m) (xs ++ news) → w.grownBy w' none → K (a.put o.dst v') w') :
    if Region.wanted o (yielded ops a.tmps) = true then Oper.wp P o a w K Q else E := by
  have hw : Region.wanted o (yielded ops a.tmps) = true := by simp [Region.wanted, hgd]
  rw [if_pos hw]
  obtain ⟨v', w', hr, h2, h3⟩ := run_append_full (P := P) w base t o.type e i z bytes ht hi hz hsize hby hzs b n xs hxl hold ad m c news hl hnews hm0 h63 hbytes hbase
  unfold Oper.wp execOp
  simp only [ho, resolve, invoke, builtin, Sem.run_bind, Sem.run_pure, Result.andThen_ok, List.map_toArray, List.map_cons, List.map_nil, hs, hx, hr]
  exact h v' w' h2 h3

theorem cell_row {w : World} (cs : List Value) (t : TypeId) (fr : Nat × Nat) (B : Nat) (hB : w.heap.size = B) : ∀ j u, cs[j]? = some u → (w.alloc (.cells cs.toArray t fr)).cell? ((⟨B, 0, none⟩ : Addr).add j) = some u := by
  subst hB
  intro j u h
  exact World.news_of_block (heap_alloc_new w _) j u (by simpa using h)
theorem wrapB (n : Int) : IntKind.u8.wrap n = ((byteOf n).toNat : Int) := by rw [byteOf_nat]; rfl
theorem and255 {x : Int} (h0 : 0 ≤ x) (h1 : x < 4294967296) : bits .and .i64 x 255 = x % 256 := by
  have h := bits_mask .i64 63 (by decide) (fun n h0 h1 => by rw [IntKind.wrap_i64]; omega) 8 (by decide) x h0 (by omega)
  have e : ((2 : Int) ^ 8 - 1) = 255 := by decide
  have e2 : ((2 : Int) ^ 8) = 256 := by decide
  rwa [e, e2] at h
/-- the reference's bytes of a number are the program's -/
theorem and_bytes {x : Int} (h0 : 0 ≤ x) (h1 : x < 4294967296) : bits .and .i64 x 255 % 256 = ((byteOf x).toNat : Int) := by
  rw [and255 h0 h1, byteOf_nat]; omega
theorem bytes2 {x : Int} (h0 : 0 ≤ x) (h1 : x < 4294967296) : [Value.int .u8 (bits .and .i64 x 255 % 256), .int .u8 (bits .and .i64 (x / 256) 255 % 256)] = Lib.byteCells (bytesL x 2) := by
  rw [and_bytes h0 h1, and_bytes (by omega) (by omega)]
  simp [bytesL, List.range_succ, Lib.byteCells]
theorem bytes4 {x : Int} (h0 : 0 ≤ x) (h1 : x < 4294967296) : [Value.int .u8 (bits .and .i64 x 255 % 256), .int .u8 (bits .and .i64 (x / 256) 255 % 256), .int .u8 (bits .and .i64 (x / 65536) 255 % 256), .int .u8 (bits .and .i64 (x / 16777216) 255 % 256)] = Lib.byteCells (bytesL x 4) := by
  rw [and_bytes h0 h1, and_bytes (by omega) (by omega), and_bytes (by omega) (by omega), and_bytes (by omega) (by omega)]
  simp [bytesL, List.range_succ, Lib.byteCells]
end Go.Proofs.Ytljkgemkolmihaa
