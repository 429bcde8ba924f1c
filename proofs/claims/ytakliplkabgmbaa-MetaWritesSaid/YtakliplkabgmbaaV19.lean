/- Layer 05: the walk of Few. -/
import Derived.Test.YtakliplkabgmbaaV18
import Derived.Test.YtakliplkabgmbaaW1
import Derived.Deep.RegionLaw
set_option maxRecDepth 20000
namespace Go.Proofs.Ytakliplkabgmbaa
open Go.RowKit Go.Hd
attribute [local go_sem ↓] h_ldV h_stV h_alV
attribute [local go_sem] r_ldV r_stV r_alV

section
variable (ρ : Operand → Value) (dst : Option Tmp) (ty : TypeId) (pos : String) (after : Array Edge) (guard : Option (Nat × Bool))
theorem h_bsV (n : Nat) (parts : Array (Nat × Operand)) : execOp ρ { dst, op := .buildSlice 61 n parts, type := ty, pos, after, guard } = (do pure (.value (← bsOp 61 n (parts.map fun (i, x) => (i, ρ x))))) := rfl
end
theorem r_bsV {w : World} {cs : Array Value} (hc : cs.size = 6) : (bsOp 61 1 #[(0, .agg cs)]).run Try.prog w = .ok (.slice (some ⟨w.heap.size, 0, none⟩) 1 1) (w.alloc (.cells cs 63)) :=
  bsOp_one (z := .agg zV) (s := 6) Try.underlying61 (by kernel_rfl) (by decide) (by decide) rfl hc
attribute [local go_sem ↓] h_bsV
attribute [local go_sem] r_bsV
/-- What Few answers. -/
def FewP (w : World) (p : Nat) (r : PV × Nat) (e : Ending) (w' : World) : Prop :=
  ∃ cs', e = .returned (.agg (List.toArray cs')) ∧ VAtP (fun b => w.heap.size ≤ b) w' cs' r.1 ∧ Blk w' p 3 [.int .i64 (r.2 : Int)] ∧ w.grownBy w' (some p)
/-- The state of its walk. -/
structure FewI (w : World) (p q : Nat) (box : List Value) (m : Nat) (wr : World) (v : PV) (uB uK uL : Value) : Prop where
  arg : Blk wr w.heap.size 63 box
  res : Blk wr (w.heap.size + 1) 63 zV.toList
  left : Blk wr p 3 [.int .i64 (m : Int)]
  gr : w.grownBy wr (some p)
  vb : VB (w.heap.size + 2) q wr v uB uK uL
theorem oneC6 (k n : Int) (a1 a2 a3 : Option Addr) (n1 n2 n3 c1 c2 c3 : Nat) (s : ByteArray) : OneC #[.int .i64 k, .int .i64 n, .slice a1 n1 c1, .string s, .slice a2 n2 c2, .slice a3 n3 c3] := by
  refine all_oneCell_toArray (cs := [.int .i64 k, .int .i64 n, .slice a1 n1 c1, .string s, .slice a2 n2 c2, .slice a3 n3 c3]) ?_
  intro u hu
  simp only [List.mem_cons, List.not_mem_nil, or_false] at hu
  rcases hu with rfl | rfl | rfl | rfl | rfl | rfl <;> rfl
theorem st_row {w : World} {q : Nat} {T : TypeId} {old : List Value} (h : Blk w q T old) (ho : old.length = 6) : ∀ cs : Array Value, cs.size = 6 → OneC cs → (stoOp 63 (.pointer (some ⟨q, 0, none⟩)) (.agg cs)).run Try.prog w = .ok () (w.setRow q cs) := by
  intro cs h6 h1
  unfold stoOp
  simp only [Instr.storeAt, Instr.sureAddr, Sem.run_bind, Sem.run_pure, Result.andThen]
  rw [run_storeVar_row w q T 63 old.toArray cs h (by rw [h6]; exact sizeV) (by simp [ho, h6]) h1]
theorem setRow_blk {w : World} {q : Nat} {T : TypeId} {old : List Value} (h : Blk w q T old) (cs : List Value) : Blk (w.setRow q cs.toArray) q T cs := by
  have := setRow_heap w q old.toArray cs.toArray T (0, 0) h
  simpa [Blk] using this
theorem setRow_gr (w : World) (q : Nat) (cs : Array Value) : w.grownBy (w.setRow q cs) (some q) := ⟨rfl, rfl, rfl, by simp, fun k _ hk => setRow_other w q k _ (fun e => hk (by rw [e]))⟩
theorem VB.new {base q : Nat} {w : World} {k n : Int} {b t : List UInt8} {ab : Option Addr} {cb : Nat} (hB : Blk w q 63 [.int .i64 k, .int .i64 n, .slice ab b.length cb, .string (str t), .slice none 0 0, .slice none 0 0]) (hq : base ≤ q) (hle : base ≤ w.heap.size) (hk : in64 k) (hn : in64 n) (ht : t.length ≤ maxLen)
    (hc : b.length ≤ cb ∧ cb ≤ maxLen) (hr : Row w ab (b.map b8)) (ho : 0 < b.length → base ≤ (hd ab).block ∧ (hd ab).block ≠ q) : VB base q w (.mk k n b t [] []) (.slice ab b.length cb) (.slice none 0 0) (.slice none 0 0) :=
  ⟨hB, hq, hle, ⟨hk, hn, ht, by simp [PV.keys]⟩, ⟨ab, cb, rfl, hc.1, hc.2, hr, fun h => ⟨(ho h).1, (ho h).2, by simp [Value.ownBlock], by simp [Value.ownBlock]⟩⟩, World.ownsRow_nil _ _ _ _, by simp [Value.ownBlock], VsAt.nil _ _ _, by simp [Value.ownBlock], by simp [Value.ownBlock]⟩

theorem fresh_open {w w' : World} {v : Value} {l : List UInt8} (h : Fresh w w' v l) : ∃ a c, v = .slice a l.length c ∧ Row w' a (l.map b8) ∧ Below w.heap.size w w' ∧ c ≤ maxLen ∧ l.length ≤ c := by
  obtain ⟨h1, h2⟩ := h
  obtain ⟨a, c, rfl, h3, h4, h5, _⟩ := Own.at (E := 5) h1
  exact ⟨a, c, rfl, h5, h2, h4, h3⟩
theorem fresh_at {w w' : World} {a : Option Addr} {n c : Nat} {l : List UInt8} (h : Fresh w w' (.slice a n c) l) (h0 : 0 < l.length) : w.heap.size ≤ (hd a).block ∧ (hd a).block < w'.heap.size := by
  obtain ⟨h1, h2⟩ := h
  obtain ⟨a', c', he, h3, h4, h5, h6⟩ := Own.at (E := 5) h1
  simp only [Value.slice.injEq] at he
  obtain ⟨rfl, _, _⟩ := he
  exact h6 h0
theorem few_new {w W w3 wx : World} {p q m : Nat} {box : List Value} {k n : Int} {b t : List UInt8} {a : Option Addr} {c : Nat} (hplt : p < w.heap.size) (A1 : Blk W w.heap.size 63 box) (R1 : Blk W (w.heap.size + 1) 63 zV.toList) (L1 : Blk W p 3 [.int .i64 (m : Int)]) (G1 : w.grownBy W (some p)) (S1 : W.heap.size = w.heap.size + 2)
    (hb : Below W.heap.size W w3) (hgr : w3.grownBy wx (some q)) (hq : W.heap.size ≤ q) (hB : Blk wx q 63 [.int .i64 k, .int .i64 n, .slice a b.length c, .string (str t), .slice none 0 0, .slice none 0 0]) (hk : in64 k) (hn : in64 n) (ht : t.length ≤ maxLen) (hc : b.length ≤ c ∧ c ≤ maxLen)
    (hr : Row w3 a (b.map b8)) (hrb : 0 < b.length → W.heap.size ≤ (hd a).block ∧ (hd a).block ≠ q) : FewI w p q box m wx (.mk k n b t [] []) (.slice a b.length c) (.slice none 0 0) (.slice none 0 0) := by
  have hsz := hb.size
  refine ⟨(A1.below hb).grown hgr (by omega), (R1.below hb).grown hgr (by omega), (L1.below hb).grown hgr (by omega), ?_, ?_⟩
  · have h1 : w.grownBy w3 (some p) := grownBy_trans G1 ⟨hb.os, hb.tape, hb.output, hb.size, fun i hi _ => hb.block i hi⟩
    refine ⟨hgr.os.trans h1.os, hgr.tape.trans h1.tape, hgr.output.trans h1.output, Nat.le_trans h1.size hgr.size, fun i hi hne => ?_⟩
    rw [hgr.block i (Nat.lt_of_lt_of_le hi h1.size) (by simp; omega)]
    exact h1.block i hi hne
  · refine VB.new hB (by omega) (by have := hgr.size; omega) hk hn ht hc (Row.keptFar hr hgr (fun h0 => ?_)) (fun h0 => ?_)
    · have := (hrb (by simpa using h0)).2
      simp; omega
    · have := hrb h0
      exact ⟨by omega, this.2⟩

theorem FewI.next {w wr w2 : World} {p q m : Nat} {box : List Value} {v v2 : PV} {uB uK uL uB2 uK2 uL2 : Value} (h : FewI w p q box m wr v uB uK uL) (hplt : p < w.heap.size) (e1 : w2.os = wr.os) (e2 : w2.tape = wr.tape) (e3 : w2.output = wr.output) (e4 : wr.heap.size ≤ w2.heap.size)
    (hf : ∀ b, b < w.heap.size + 2 → w2.heap[b]? = wr.heap[b]?) (hv : VB (w.heap.size + 2) q w2 v2 uB2 uK2 uL2) : FewI w p q box m w2 v2 uB2 uK2 uL2 := by
  refine ⟨?_, ?_, ?_, ⟨e1.trans h.gr.os, e2.trans h.gr.tape, e3.trans h.gr.output, Nat.le_trans h.gr.size e4, fun i hi hne => (hf i (by omega)).trans (h.gr.block i hi hne)⟩, hv⟩
  · have := h.arg; unfold Blk at *; rw [hf _ (by omega)]; exact this
  · have := h.res; unfold Blk at *; rw [hf _ (by omega)]; exact this
  · have := h.left; unfold Blk at *; rw [hf _ (by omega)]; exact this
theorem FewI.below {w wr : World} {p q m base : Nat} {box : List Value} {v : PV} {uB uK uL : Value} (h : FewI w p q box m wr v uB uK uL) (hp : base ≤ p) (hb : base ≤ w.heap.size) : Below base w wr :=
  Below.grown (Below.refl _ _) h.gr hb (fun k hk => by cases hk; exact hp)
theorem FewI.call {w wr w5 : World} {p q m m2 : Nat} {box : List Value} {v : PV} {uB uK uL : Value} (h : FewI w p q box m wr v uB uK uL) (hplt : p < w.heap.size) (hB : Blk w5 p 3 [.int .i64 (m2 : Int)]) (hg : wr.grownBy w5 (some p)) : FewI w p q box m2 w5 v uB uK uL :=
  ⟨h.arg.grown hg (by omega), h.res.grown hg (by omega), hB, grownBy_trans h.gr hg, h.vb.keep hg.size (fun b hb hlt => hg.block b hlt (by simp; omega))⟩
theorem FewI.drew {w wr : World} {p q m : Nat} {box : List Value} {v : PV} {uB uK uL : Value} (h : FewI w p q box m wr v uB uK uL) : FewI w p q box m wr.drew v uB uK uL :=
  ⟨h.arg, h.res, h.left, ⟨h.gr.os, h.gr.tape, h.gr.output, h.gr.size, h.gr.block⟩, h.vb.keep (Nat.le_refl _) (fun _ _ _ => rfl)⟩
theorem VsAt.mono {ok ok' : Nat → Prop} {base : Nat} {w : World} {u : Value} {vs : List PV} (h : VsAt ok base w u vs) (hk : ∀ b, ok b → ok' b) : VsAt ok' base w u vs := by
  obtain ⟨css, h1, h2, h3, h4⟩ := h
  exact ⟨css, h1, h2, h3, fun i c v hc hv => (h4 i c v hc hv).mono (fun b hb _ => hk b hb)⟩
theorem VB.kown {base q : Nat} {w : World} {v : PV} {uB uK uL : Value} (h : VB base q w v uB uK uL) : (∀ b, uK.ownBlock = some b → base ≤ b ∧ b < w.heap.size) ∧ (∀ b, uL.ownBlock = some b → base ≤ b ∧ b < w.heap.size) := by
  refine ⟨fun b hb => World.ownsRow.lt h.keys b hb, ?_⟩
  obtain ⟨css, _, _, hO, _⟩ := h.list
  exact fun b hb => World.ownsRow.lt hO b hb
/-- A key more. -/
theorem VB.stepK {base q : Nat} {w : World} {k n : Int} {b t : List UInt8} {ks : List (List UInt8)} {l : List PV} {uB uK uL : Value} {ty : TypeId} (h : VB base q w (.mk k n b t ks l) uB uK uL) {x : List UInt8} (hx : x.length ≤ maxLen) (hn : ks.length ≤ 1000000000) :
    ∃ a' c' w', (Builtin.append_ #[60, 60] ty #[uK, .slice (some ⟨w.heap.size, 0, none⟩) 1 1]).run Try.prog (w.alloc (.cells #[.string (str x)] 9)) = .ok (.slice a' (ks.length + 1) c') w' ∧ w'.cell? ⟨q, 4, none⟩ = some uK ∧ w'.frozen? ⟨q, 4, none⟩ = false ∧
      VB base q (w'.setCell ⟨q, 4, none⟩ (.slice a' (ks.length + 1) c')) (.mk k n b t (ks ++ [x]) l) uB (.slice a' (ks.length + 1) c') uL ∧ Gro w w' uK (.slice a' (ks.length + 1) c') ∧ w.heap.size ≤ w'.heap.size := by
  obtain ⟨a', c', w', h1, h2, h3⟩ := own_app1 (ty := ty) eS h.keys (.string (str x)) rfl (by unfold maxLen; simp [PV.keys]; omega) (by simp [PV.keys]; omega) h.le
  have hB := (h3.blk h.blk h.kq).1
  exact ⟨a', c', w', h1, hB.cell rfl, hB.free 4, h.addK hx h2 rfl h3, h3, h3.size⟩
/-- A value more. -/
theorem VB.stepL {base q : Nat} {w : World} {k n : Int} {b t : List UInt8} {ks : List (List UInt8)} {l : List PV} {uB uK uL : Value} {ty : TypeId} (h : VB base q w (.mk k n b t ks l) uB uK uL) {x : PV} {c : List Value} (hx : VAtP (okB base q uK uL) w c x) (hn : l.length ≤ 1000000000) :
    ∃ a' c' w', (Builtin.append_ #[61, 61] ty #[uL, .slice (some ⟨w.heap.size, 0, none⟩) 1 1]).run Try.prog (w.alloc (.cells c.toArray 63)) = .ok (.slice a' (l.length + 1) c') w' ∧ w'.cell? ⟨q, 5, none⟩ = some uL ∧ w'.frozen? ⟨q, 5, none⟩ = false ∧
      VB base q (w'.setCell ⟨q, 5, none⟩ (.slice a' (l.length + 1) c')) (.mk k n b t ks (l ++ [x])) uB uK (.slice a' (l.length + 1) c') ∧ Gro w w' uL (.slice a' (l.length + 1) c') ∧ w.heap.size ≤ w'.heap.size := by
  obtain ⟨a', c', w', h1, h2, h3⟩ := VsAt.app (ty := ty) (ok' := fun z => okB base q uK uL z ∧ z < w.heap.size) h.list (fun z hz => hz.2.2.2) hx (fun z hz hlt => ⟨hz, hlt⟩) hn h.le
  have hB := (h3.blk h.blk h.lq).1
  have h2' := h2.mono (ok' := okB base q uK (.slice a' (l.length + 1) c')) (fun z hz => ⟨hz.1.1, hz.1.2.1, hz.1.2.2.1, fun e => by
    rcases h3.own z e with h4 | h4
    · exact hz.1.2.2.2 h4
    · have := hz.2; omega⟩)
  exact ⟨a', c', w', h1, hB.cell rfl, hB.free 5, h.addL h2' h3, h3, h3.size⟩
theorem fresh_okB {base q z : Nat} {w : World} {v : PV} {uB uK uL : Value} (h : VB base q w v uB uK uL) (hz : w.heap.size ≤ z) : okB base q uK uL z := by
  have h1 := h.kown
  have h2 := h.blk.lt
  have h3 := h.le
  exact ⟨by omega, by omega, fun e => by have := (h1.1 z e).2; omega, fun e => by have := (h1.2 z e).2; omega⟩
theorem FewI.addK {w wr w' : World} {p q m : Nat} {box : List Value} {v v2 : PV} {uB uK uL u2 : Value} {a : Addr} (h : FewI w p q box m wr v uB uK uL) (hplt : p < w.heap.size) (ha : a.block = q) (hg : Gro wr w' uK u2 ∨ Gro wr w' uL u2) {uK2 uL2 x : Value} (hv : VB (w.heap.size + 2) q (w'.setCell a x) v2 uB uK2 uL2) : FewI w p q box m (w'.setCell a x) v2 uB uK2 uL2 := by
  have hk := h.vb.kown
  have hq := h.vb.hq
  have e : ∀ b, b < w.heap.size + 2 → (w'.setCell a x).heap[b]? = w'.heap[b]? := fun b hb => Below.heap_setCell w' _ _ b (by omega)
  rcases hg with hg | hg
  · exact h.next hplt hg.gr.os hg.gr.tape hg.gr.output (by simpa using hg.size) (fun b hb => (e b hb).trans (hg.gr.block b (by have := h.vb.le; omega) (fun he => by have := (hk.1 b he.symm).1; omega))) hv
  · exact h.next hplt hg.gr.os hg.gr.tape hg.gr.output (by simpa using hg.size) (fun b hb => (e b hb).trans (hg.gr.block b (by have := h.vb.le; omega) (fun he => by have := (hk.2 b he.symm).1; omega))) hv

end Go.Proofs.Ytakliplkabgmbaa
