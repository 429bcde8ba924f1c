/- Joined: what one statement of this layer stands on, part 4 of 17; nothing is assumed. -/
import Derived.Test.YtpchogicdnfggaaDoorRows
import Derived.Deep.RegionLaw
import Derived.Test.YtpchogicdnfggaaDoorKX1
import Derived.Test.YtpchogicdnfggaaDoorKX2
import Derived.Test.YtpchogicdnfggaaDoorKX3
set_option maxRecDepth 20000
namespace Go.Proofs.YtpchogicdnfggaaDoor
open Go.RowKit Go.Hd
attribute [local go_sem ↓] h_ldV h_stV h_alV
attribute [local go_sem] r_ldV r_stV r_alV

section
variable (ρ : Operand → Value) (dst : Option Tmp) (ty : TypeId) (pos : String) (after : Array Edge) (guard : Option (Nat × Bool))
theorem h_bsV (n : Nat) (parts : Array (Nat × Operand)) : execOp ρ { dst, op := .buildSlice 28 n parts, type := ty, pos, after, guard } = (do pure (.value (← bsOp 28 n (parts.map fun (i, x) => (i, ρ x))))) := rfl
end
theorem r_bsV {w : World} {cs : Array Value} (hc : cs.size = 6) : (bsOp 28 1 #[(0, .agg cs)]).run Tryd.prog w = .ok (.slice (some ⟨w.heap.size, 0, none⟩) 1 1) (w.alloc (.cells cs 30)) :=
  bsOp_one (z := .agg zV) (s := 6) Tryd.underlying28 (by kernel_rfl) (by decide) (by decide) rfl hc
attribute [local go_sem ↓] h_bsV
attribute [local go_sem] r_bsV
/-- What Few answers. -/
def FewP (w : World) (p : Nat) (r : PV × Nat) (e : Ending) (w' : World) : Prop :=
  ∃ cs', e = .returned (.agg (List.toArray cs')) ∧ VAtP (fun b => w.heap.size ≤ b) w' cs' r.1 ∧ Blk w' p 3 [.int .i64 (r.2 : Int)] ∧ w.grownBy w' (some p)
/-- The state of its walk. -/
structure FewI (w : World) (p q : Nat) (box : List Value) (m : Nat) (wr : World) (v : PV) (uB uK uL : Value) : Prop where
  arg : Blk wr w.heap.size 30 box
  res : Blk wr (w.heap.size + 1) 30 zV.toList
  left : Blk wr p 3 [.int .i64 (m : Int)]
  gr : w.grownBy wr (some p)
  vb : VB (w.heap.size + 2) q wr v uB uK uL
theorem oneC6 (k n : Int) (a1 a2 a3 : Option Addr) (n1 n2 n3 c1 c2 c3 : Nat) (s : ByteArray) : OneC #[.int .i64 k, .int .i64 n, .slice a1 n1 c1, .string s, .slice a2 n2 c2, .slice a3 n3 c3] := by
  refine all_oneCell_toArray (cs := [.int .i64 k, .int .i64 n, .slice a1 n1 c1, .string s, .slice a2 n2 c2, .slice a3 n3 c3]) ?_
  intro u hu
  simp only [List.mem_cons, List.not_mem_nil, or_false] at hu
  rcases hu with rfl | rfl | rfl | rfl | rfl | rfl <;> rfl
theorem st_row {w : World} {q : Nat} {T : TypeId} {old : List Value} (h : Blk w q T old) (ho : old.length = 6) : ∀ cs : Array Value, cs.size = 6 → OneC cs → (stoOp 30 (.pointer (some ⟨q, 0, none⟩)) (.agg cs)).run Tryd.prog w = .ok () (w.setRow q cs) := by
  intro cs h6 h1
  unfold stoOp
  simp only [Instr.storeAt, Instr.sureAddr, Sem.run_bind, Sem.run_pure, Result.andThen]
  rw [run_storeVar_row w q T 30 old.toArray cs h (by rw [h6]; exact sizeV) (by simp [ho, h6]) h1]
theorem setRow_blk {w : World} {q : Nat} {T : TypeId} {old : List Value} (h : Blk w q T old) (cs : List Value) : Blk (w.setRow q cs.toArray) q T cs := by
  have := setRow_heap w q old.toArray cs.toArray T (0, 0) h
  simpa [Blk] using this
theorem setRow_gr (w : World) (q : Nat) (cs : Array Value) : w.grownBy (w.setRow q cs) (some q) := ⟨rfl, rfl, rfl, by simp, fun k _ hk => setRow_other w q k _ (fun e => hk (by rw [e]))⟩
theorem VB.new {base q : Nat} {w : World} {k n : Int} {b t : List UInt8} {ab : Option Addr} {cb : Nat} (hB : Blk w q 30 [.int .i64 k, .int .i64 n, .slice ab b.length cb, .string (str t), .slice none 0 0, .slice none 0 0]) (hq : base ≤ q) (hle : base ≤ w.heap.size) (hk : in64 k) (hn : in64 n) (ht : t.length ≤ maxLen)
    (hc : b.length ≤ cb ∧ cb ≤ maxLen) (hr : Row w ab (b.map b8)) (ho : 0 < b.length → base ≤ (hd ab).block ∧ (hd ab).block ≠ q) : VB base q w (.mk k n b t [] []) (.slice ab b.length cb) (.slice none 0 0) (.slice none 0 0) :=
  ⟨hB, hq, hle, ⟨hk, hn, ht, by simp [PV.keys]⟩, ⟨ab, cb, rfl, hc.1, hc.2, hr, fun h => ⟨(ho h).1, (ho h).2, by simp [Value.ownBlock], by simp [Value.ownBlock]⟩⟩, World.ownsRow_nil _ _ _ _, by simp [Value.ownBlock], VsAt.nil _ _ _, by simp [Value.ownBlock], by simp [Value.ownBlock]⟩

theorem fresh_open {w w' : World} {v : Value} {l : List UInt8} (h : Fresh w w' v l) : ∃ a c, v = .slice a l.length c ∧ Row w' a (l.map b8) ∧ Below w.heap.size w w' ∧ c ≤ maxLen ∧ l.length ≤ c := by
  obtain ⟨h1, h2⟩ := h
  obtain ⟨a, c, rfl, h3, h4, h5, _⟩ := Own.at (E := 5) h1
  exact ⟨a, c, rfl, h5, h2, h4, h3⟩
theorem fresh_at {w w' : World} {a : Option Addr} {n c : Nat} {l : List UInt8} (h : Fresh w w' (.slice a n c) l) (h0 : 0 < l.length) : w.heap.size ≤ (hd a).block ∧ (hd a).block < w'.heap.size := by
  obtain ⟨h1, h2⟩ := h
  obtain ⟨a', c', he, h3, h4, h5, h6⟩ := Own.at (E := 5) h1
  simp only [Value.slice.injEq] at he
  obtain ⟨rfl, _, _⟩ := he
  exact h6 h0
theorem few_new {w W w3 wx : World} {p q m : Nat} {box : List Value} {k n : Int} {b t : List UInt8} {a : Option Addr} {c : Nat} (hplt : p < w.heap.size) (A1 : Blk W w.heap.size 30 box) (R1 : Blk W (w.heap.size + 1) 30 zV.toList) (L1 : Blk W p 3 [.int .i64 (m : Int)]) (G1 : w.grownBy W (some p)) (S1 : W.heap.size = w.heap.size + 2)
    (hb : Below W.heap.size W w3) (hgr : w3.grownBy wx (some q)) (hq : W.heap.size ≤ q) (hB : Blk wx q 30 [.int .i64 k, .int .i64 n, .slice a b.length c, .string (str t), .slice none 0 0, .slice none 0 0]) (hk : in64 k) (hn : in64 n) (ht : t.length ≤ maxLen) (hc : b.length ≤ c ∧ c ≤ maxLen)
    (hr : Row w3 a (b.map b8)) (hrb : 0 < b.length → W.heap.size ≤ (hd a).block ∧ (hd a).block ≠ q) : FewI w p q box m wx (.mk k n b t [] []) (.slice a b.length c) (.slice none 0 0) (.slice none 0 0) := by
  have hsz := hb.size
  refine ⟨(A1.below hb).grown hgr (by omega), (R1.below hb).grown hgr (by omega), (L1.below hb).grown hgr (by omega), ?_, ?_⟩
  · have h1 : w.grownBy w3 (some p) := grownBy_trans G1 ⟨hb.os, hb.tape, hb.output, hb.size, fun i hi _ => hb.block i hi⟩
    refine ⟨hgr.os.trans h1.os, hgr.tape.trans h1.tape, hgr.output.trans h1.output, Nat.le_trans h1.size hgr.size, fun i hi hne => ?_⟩
    rw [hgr.block i (Nat.lt_of_lt_of_le hi h1.size) (by simp; omega)]
    exact h1.block i hi hne
  · refine VB.new hB (by omega) (by have := hgr.size; omega) hk hn ht hc (Row.keptFar hr hgr (fun h0 => ?_)) (fun h0 => ?_)
    · have := (hrb (by simpa using h0)).2
      simp; omega
    · have := hrb h0
      exact ⟨by omega, this.2⟩

theorem FewI.next {w wr w2 : World} {p q m : Nat} {box : List Value} {v v2 : PV} {uB uK uL uB2 uK2 uL2 : Value} (h : FewI w p q box m wr v uB uK uL) (hplt : p < w.heap.size) (e1 : w2.os = wr.os) (e2 : w2.tape = wr.tape) (e3 : w2.output = wr.output) (e4 : wr.heap.size ≤ w2.heap.size)
    (hf : ∀ b, b < w.heap.size + 2 → w2.heap[b]? = wr.heap[b]?) (hv : VB (w.heap.size + 2) q w2 v2 uB2 uK2 uL2) : FewI w p q box m w2 v2 uB2 uK2 uL2 := by
  refine ⟨?_, ?_, ?_, ⟨e1.trans h.gr.os, e2.trans h.gr.tape, e3.trans h.gr.output, Nat.le_trans h.gr.size e4, fun i hi hne => (hf i (by omega)).trans (h.gr.block i hi hne)⟩, hv⟩
  · have := h.arg; unfold Blk at *; rw [hf _ (by omega)]; exact this
  · have := h.res; unfold Blk at *; rw [hf _ (by omega)]; exact this
  · have := h.left; unfold Blk at *; rw [hf _ (by omega)]; exact this
theorem FewI.below {w wr : World} {p q m base : Nat} {box : List Value} {v : PV} {uB uK uL : Value} (h : FewI w p q box m wr v uB uK uL) (hp : base ≤ p) (hb : base ≤ w.heap.size) : Below base w wr :=
  Below.grown (Below.refl _ _) h.gr hb (fun k hk => by cases hk; exact hp)
theorem FewI.call {w wr w5 : World} {p q m m2 : Nat} {box : List Value} {v : PV} {uB uK uL : Value} (h : FewI w p q box m wr v uB uK uL) (hplt : p < w.heap.size) (hB : Blk w5 p 3 [.int .i64 (m2 : Int)]) (hg : wr.grownBy w5 (some p)) : FewI w p q box m2 w5 v uB uK uL :=
  ⟨h.arg.grown hg (by omega), h.res.grown hg (by omega), hB, grownBy_trans h.gr hg, h.vb.keep hg.size (fun b hb hlt => hg.block b hlt (by simp; omega))⟩
theorem FewI.drew {w wr : World} {p q m : Nat} {box : List Value} {v : PV} {uB uK uL : Value} (h : FewI w p q box m wr v uB uK uL) : FewI w p q box m wr.drew v uB uK uL :=
  ⟨h.arg, h.res, h.left, ⟨h.gr.os, h.gr.tape, h.gr.output, h.gr.size, h.gr.block⟩, h.vb.keep (Nat.le_refl _) (fun _ _ _ => rfl)⟩
theorem VsAt.mono {ok ok' : Nat → Prop} {base : Nat} {w : World} {u : Value} {vs : List PV} (h : VsAt ok base w u vs) (hk : ∀ b, ok b → ok' b) : VsAt ok' base w u vs := by
  obtain ⟨css, h1, h2, h3, h4⟩ := h
  exact ⟨css, h1, h2, h3, fun i c v hc hv => (h4 i c v hc hv).mono (fun b hb _ => hk b hb)⟩
theorem VB.kown {base q : Nat} {w : World} {v : PV} {uB uK uL : Value} (h : VB base q w v uB uK uL) : (∀ b, uK.ownBlock = some b → base ≤ b ∧ b < w.heap.size) ∧ (∀ b, uL.ownBlock = some b → base ≤ b ∧ b < w.heap.size) := by
  refine ⟨fun b hb => World.ownsRow.lt h.keys b hb, ?_⟩
  obtain ⟨css, _, _, hO, _⟩ := h.list
  exact fun b hb => World.ownsRow.lt hO b hb
/-- A key more. -/
theorem VB.stepK {base q : Nat} {w : World} {k n : Int} {b t : List UInt8} {ks : List (List UInt8)} {l : List PV} {uB uK uL : Value} {ty : TypeId} (h : VB base q w (.mk k n b t ks l) uB uK uL) {x : List UInt8} (hx : x.length ≤ maxLen) (hn : ks.length ≤ 1000000000) :
    ∃ a' c' w', (Builtin.append_ #[27, 27] ty #[uK, .slice (some ⟨w.heap.size, 0, none⟩) 1 1]).run Tryd.prog (w.alloc (.cells #[.string (str x)] 9)) = .ok (.slice a' (ks.length + 1) c') w' ∧ w'.cell? ⟨q, 4, none⟩ = some uK ∧ w'.frozen? ⟨q, 4, none⟩ = false ∧
      VB base q (w'.setCell ⟨q, 4, none⟩ (.slice a' (ks.length + 1) c')) (.mk k n b t (ks ++ [x]) l) uB (.slice a' (ks.length + 1) c') uL ∧ Gro w w' uK (.slice a' (ks.length + 1) c') ∧ w.heap.size ≤ w'.heap.size := by
  obtain ⟨a', c', w', h1, h2, h3⟩ := own_app1 (ty := ty) eS h.keys (.string (str x)) rfl (by unfold maxLen; simp [PV.keys]; omega) (by simp [PV.keys]; omega) h.le
  have hB := (h3.blk h.blk h.kq).1
  exact ⟨a', c', w', h1, hB.cell rfl, hB.free 4, h.addK hx h2 rfl h3, h3, h3.size⟩
/-- A value more. -/
theorem VB.stepL {base q : Nat} {w : World} {k n : Int} {b t : List UInt8} {ks : List (List UInt8)} {l : List PV} {uB uK uL : Value} {ty : TypeId} (h : VB base q w (.mk k n b t ks l) uB uK uL) {x : PV} {c : List Value} (hx : VAtP (okB base q uK uL) w c x) (hn : l.length ≤ 1000000000) :
    ∃ a' c' w', (Builtin.append_ #[28, 28] ty #[uL, .slice (some ⟨w.heap.size, 0, none⟩) 1 1]).run Tryd.prog (w.alloc (.cells c.toArray 30)) = .ok (.slice a' (l.length + 1) c') w' ∧ w'.cell? ⟨q, 5, none⟩ = some uL ∧ w'.frozen? ⟨q, 5, none⟩ = false ∧
      VB base q (w'.setCell ⟨q, 5, none⟩ (.slice a' (l.length + 1) c')) (.mk k n b t ks (l ++ [x])) uB uK (.slice a' (l.length + 1) c') ∧ Gro w w' uL (.slice a' (l.length + 1) c') ∧ w.heap.size ≤ w'.heap.size := by
  obtain ⟨a', c', w', h1, h2, h3⟩ := VsAt.app (ty := ty) (ok' := fun z => okB base q uK uL z ∧ z < w.heap.size) h.list (fun z hz => hz.2.2.2) hx (fun z hz hlt => ⟨hz, hlt⟩) hn h.le
  have hB := (h3.blk h.blk h.lq).1
  have h2' := h2.mono (ok' := okB base q uK (.slice a' (l.length + 1) c')) (fun z hz => ⟨hz.1.1, hz.1.2.1, hz.1.2.2.1, fun e => by
    rcases h3.own z e with h4 | h4
    · exact hz.1.2.2.2 h4
    · have := hz.2; omega⟩)
  exact ⟨a', c', w', h1, hB.cell rfl, hB.free 5, h.addL h2' h3, h3, h3.size⟩
theorem fresh_okB {base q z : Nat} {w : World} {v : PV} {uB uK uL : Value} (h : VB base q w v uB uK uL) (hz : w.heap.size ≤ z) : okB base q uK uL z := by
  have h1 := h.kown
  have h2 := h.blk.lt
  have h3 := h.le
  exact ⟨by omega, by omega, fun e => by have := (h1.1 z e).2; omega, fun e => by have := (h1.2 z e).2; omega⟩
theorem FewI.addK {w wr w' : World} {p q m : Nat} {box : List Value} {v v2 : PV} {uB uK uL u2 : Value} {a : Addr} (h : FewI w p q box m wr v uB uK uL) (hplt : p < w.heap.size) (ha : a.block = q) (hg : Gro wr w' uK u2 ∨ Gro wr w' uL u2) {uK2 uL2 x : Value} (hv : VB (w.heap.size + 2) q (w'.setCell a x) v2 uB uK2 uL2) : FewI w p q box m (w'.setCell a x) v2 uB uK2 uL2 := by
  have hk := h.vb.kown
  have hq := h.vb.hq
  have e : ∀ b, b < w.heap.size + 2 → (w'.setCell a x).heap[b]? = w'.heap[b]? := fun b hb => Below.heap_setCell w' _ _ b (by omega)
  rcases hg with hg | hg
  · exact h.next hplt hg.gr.os hg.gr.tape hg.gr.output (by simpa using hg.size) (fun b hb => (e b hb).trans (hg.gr.block b (by have := h.vb.le; omega) (fun he => by have := (hk.1 b he.symm).1; omega))) hv
  · exact h.next hplt hg.gr.os hg.gr.tape hg.gr.output (by simpa using hg.size) (fun b hb => (e b hb).trans (hg.gr.block b (by have := h.vb.le; omega) (fun he => by have := (hk.2 b he.symm).1; omega))) hv

set_option maxHeartbeats 4000000 in
theorem few_any {w0 : World} {cs : List Value} {v : PV} (h : VAt w0 cs v) : ∀ (d m : Nat) (w : World) (p : Nat), m ≤ d → 1 ≤ m → m ≤ 60 → Below w0.heap.size w0 w → w0.heap.size ≤ p → Blk w p 3 [.int .i64 (m : Int)] →
    Calls Tryd.prog 47 #[.agg cs.toArray, .pointer (some ⟨p, 0, none⟩)] w (FewP w p (fewF d v m)) := by
  induction h with
  | @mk k n b t ks l ab ak al cb ck cl css hk hn hb hbc ht hks hkc hkt hl hlc hcs h6 sub ih =>
  intro d m w p hmd hm1 hm60 hbw hp0 hp
  obtain ⟨d, rfl⟩ : ∃ e, d = e + 1 := ⟨d - 1, by omega⟩
  obtain ⟨m, rfl⟩ : ∃ e, m = e + 1 := ⟨m - 1, by omega⟩
  have hplt : p < w.heap.size := hp.lt
  have hsz := hbw.size
  obtain ⟨box, hbox⟩ : ∃ box : List Value, box = [.int .i64 k, .int .i64 n, .slice ab b.length cb, .string (str t), .slice ak ks.length ck, .slice al l.length cl] := ⟨_, rfl⟩
  have hb0 : Below w.heap.size w ((w.alloc (.cells (List.toArray (α := Value) box) 30)).alloc (.cells zV 30)) := ((Below.refl _ _).alloc (Nat.le_refl _) _).alloc (by simp) _
  have A0 : Blk ((w.alloc (.cells (List.toArray (α := Value) box) 30)).alloc (.cells zV 30)) w.heap.size 30 box := by simpa using (Blk.new w 30 box.toArray).alloc (.cells zV 30)
  have R0 : Blk ((w.alloc (.cells (List.toArray (α := Value) box) 30)).alloc (.cells zV 30)) (w.heap.size + 1) 30 zV.toList := by
    have := Blk.new (w.alloc (.cells (List.toArray (α := Value) box) 30)) 30 zV
    simpa using this
  have L0 : Blk ((w.alloc (.cells (List.toArray (α := Value) box) 30)).alloc (.cells zV 30)) p 3 [.int .i64 ((m + 1 : Nat) : Int)] := (hp.alloc _).alloc _
  have S0 : ((w.alloc (.cells (List.toArray (α := Value) box) 30)).alloc (.cells zV 30)).heap.size = w.heap.size + 2 := by simp
  have hbx : [.int .i64 k, .int .i64 n, .slice ab b.length cb, strV t, .slice ak ks.length ck, .slice al l.length cl] = box := hbox.symm
  rw [hbx]
  have HB := Lib.hid hbox
  clear hbx hbox
  have em : ((m + 1 : Nat) : Int) = (m : Int) + 1 := by omega
  rw [em] at L0
  clear em
  go_enter Tryd.func47, Tryd.ntmps47
  go_upto_region 1 with (fail)
  generalize (w.alloc (.cells (List.toArray (α := Value) box) 30)).alloc (.cells zV 30) = W0 at *
  have l0 : W0.cell? ⟨p, 0, none⟩ = some (.int .i64 ((m : Int) + 1)) := L0.cell rfl
  have f0 := L0.free 0
  have ew : IntKind.i64.wrap ((m : Int) + 1 - 1) = (m : Int) := by rw [IntWalk.i64_in _ (by omega)]; omega
  have A1 : Blk (W0.setCell ⟨p, 0, none⟩ (.int .i64 (m : Int))) w.heap.size 30 box := A0.grown (grown_set (World.grownBy.refl _ _) _ _) (by omega)
  have R1 : Blk (W0.setCell ⟨p, 0, none⟩ (.int .i64 (m : Int))) (w.heap.size + 1) 30 zV.toList := R0.grown (grown_set (World.grownBy.refl _ _) _ _) (by omega)
  have L1 : Blk (W0.setCell ⟨p, 0, none⟩ (.int .i64 (m : Int))) p 3 [.int .i64 (m : Int)] := L0.set 0 _
  have G1 : w.grownBy (W0.setCell ⟨p, 0, none⟩ (.int .i64 (m : Int))) (some p) := grown_set (grownBy_below hb0) _ _
  have S1 : (W0.setCell ⟨p, 0, none⟩ (.int .i64 (m : Int))).heap.size = w.heap.size + 2 := by simpa using S0
  clear A0 R0 L0
  go_upto_region 2 with (fail)
  generalize W0.setCell ⟨p, 0, none⟩ (.int .i64 (m : Int)) = W at *
  clear l0 f0 ew S0 hb0 W0
  have b0 : W.cell? ⟨w.heap.size, 0, none⟩ = some (.int .i64 k) := A1.cell (by rw [HB.out]; rfl)
  have b1 : W.cell? ⟨w.heap.size, 1, none⟩ = some (.int .i64 n) := A1.cell (by rw [HB.out]; rfl)
  have b2 : W.cell? ⟨w.heap.size, 2, none⟩ = some (.slice ab b.length cb) := A1.cell (by rw [HB.out]; rfl)
  have b3 : W.cell? ⟨w.heap.size, 3, none⟩ = some (.string (str t)) := A1.cell (by rw [HB.out]; rfl)
  have hbW : Below w0.heap.size w0 W := hbw.trans (Below.grown (Below.refl _ _) G1 hsz (fun k hk => by cases hk; exact hp0))
  have hO6 := oneC6
  have zs := zV_size
  obtain ⟨B7, hB7⟩ : ∃ B7, B7 = b.take 700 := ⟨_, rfl⟩
  obtain ⟨T7, hT7⟩ : ∃ T7, T7 = t.take 700 := ⟨_, rfl⟩
  have hB7l : B7.length ≤ 700 := by rw [hB7]; simp; omega
  have hT7l : T7.length ≤ maxLen := by rw [hT7]; simp; unfold maxLen; omega
  have XS : ∀ w', Calls Tryd.prog 24 #[.string (str t), .int .i64 700] w' fun e w'' => e = .returned (.string (str T7)) ∧ w' = w'' := fun w' => by
    rw [hT7]; exact short_any t 700 w' (by decide)
  have XC : ∀ w', Calls Tryd.prog 29 #[.slice ab b.length cb, .int .i64 700] w' fun e w'' => e = .returned (.slice ab B7.length cb) ∧ w' = w'' := fun w' => by
    have := cut_any ab b.length cb 700 w' (by decide) hbc.1
    rw [show min b.length (700 : Int).toNat = B7.length by rw [hB7, List.length_take]; exact Nat.min_comm _ _] at this
    exact this
  have XP : ∀ w', Below W.heap.size W w' → Calls Tryd.prog 73 #[.slice ab B7.length cb] w' fun e w'' => ∃ v, e = .returned v ∧ Fresh w' w'' v B7 := fun w' hb' => by
    refine copy_any ab B7.length cb B7 w' rfl ?_ (by omega)
    have := (hb.below (hbW.trans (hb'.mono hbW.size))).take 700
    rw [hB7, List.map_take]
    exact this
  have HW1 : Below W.heap.size W W.drew := Gr.drewN W 1
  have HW2 : Below W.heap.size W (W.drew.alloc (.cells zV 30)) := HW1.alloc (by simp) _
  have HC : ∀ w', Below W.heap.size W w' → w'.cell? ⟨w.heap.size, 0, none⟩ = some (.int .i64 k) ∧ w'.cell? ⟨w.heap.size, 1, none⟩ = some (.int .i64 n) ∧ w'.cell? ⟨w.heap.size, 2, none⟩ = some (.slice ab b.length cb) ∧ w'.cell? ⟨w.heap.size, 3, none⟩ = some (.string (str t)) := fun w' hb' => by
    have A2 := A1.below hb'
    exact ⟨A2.cell (by rw [HB.out]; rfl), A2.cell (by rw [HB.out]; rfl), A2.cell (by rw [HB.out]; rfl), A2.cell (by rw [HB.out]; rfl)⟩
  have HCS : ∀ w', Below W.heap.size W w' → ∀ cs : Array Value, (w'.setRow W.heap.size cs).cell? ⟨w.heap.size, 0, none⟩ = some (.int .i64 k) ∧ (w'.setRow W.heap.size cs).cell? ⟨w.heap.size, 1, none⟩ = some (.int .i64 n) ∧ (w'.setRow W.heap.size cs).cell? ⟨w.heap.size, 2, none⟩ = some (.slice ab b.length cb) ∧ (w'.setRow W.heap.size cs).cell? ⟨w.heap.size, 3, none⟩ = some (.string (str t)) := fun w' hb' cs => by
    have A2 := (A1.below hb').grown (setRow_gr w' W.heap.size cs) (by omega)
    exact ⟨A2.cell (by rw [HB.out]; rfl), A2.cell (by rw [HB.out]; rfl), A2.cell (by rw [HB.out]; rfl), A2.cell (by rw [HB.out]; rfl)⟩
  have HBT := Lib.hid (And.intro hB7 hT7)
  have HS1 := Lib.hid S1
  clear hB7 hT7 S1
  go_cut [5] (fun u wx => ∃ (q cb2 : Nat) (ab2 : Option Addr), u = .pointer (some ⟨q, 0, none⟩) ∧ FewI w p q box m wx (.mk k n B7 T7 [] []) (.slice ab2 B7.length cb2) (.slice none 0 0) (.slice none 0 0))
  case first =>
    go_wp2
    go_region_held3 (fun w' => w'.cell? ⟨w.heap.size, 0, none⟩ = some (.int .i64 k) ∧ w'.cell? ⟨w.heap.size, 1, none⟩ = some (.int .i64 n) ∧ w'.cell? ⟨w.heap.size, 2, none⟩ = some (.slice ab b.length cb) ∧ w'.cell? ⟨w.heap.size, 3, none⟩ = some (.string (str t))) (first | go_keep | exact ⟨by assumption, by assumption, by assumption, by assumption⟩ | exact HCSw _) (first
      | (go_at_call 29; refine (XC _).mono ?_; rintro e3 w3 ⟨rfl, rfl⟩)
      | (go_at_call 24; refine (XS _).mono ?_; rintro e3 w3 ⟨rfl, rfl⟩)
      | (go_at_call 73; refine (XP _ (by first | exact HW1 | exact HW2)).mono ?_; rintro e3 w3 ⟨v7, rfl, hF⟩; obtain ⟨a7, c7, rfl, hr7, hb7, hm7, hc7⟩ := fresh_open hF; have hbb : Below W.heap.size W w3 := (by first | exact Gr.trans HW1 hb7 | exact Gr.trans HW2 hb7); obtain ⟨q0, q1, q2, q3⟩ := HC w3 hbb; first | (have HST : ∀ cs : Array Value, cs.size = 6 → OneC cs → (stoOp 30 (.pointer (some ⟨W.heap.size, 0, none⟩)) (.agg cs)).run Tryd.prog w3 = .ok () (w3.setRow W.heap.size cs) := st_row (Blk.below (Blk.new W.drew 30 zV) hb7) (by rfl); have HCSw := HCS w3 hbb) | skip))
    all_goals (try clear HST HCSw)
    all_goals
      go_wp2
      go_meet
    all_goals first
      | exact ⟨_, _, _, rfl, few_new hplt A1 R1 L1 G1 HS1.out hbb (setRow_gr _ _ _) (Nat.le_refl _) (setRow_blk (Blk.below (Blk.new W.drew 30 zV) hb7) _) hk hn hT7l ⟨hc7, by assumption⟩ hr7 (fun h0 => by have := fresh_at hF h0; simp at this; omega)⟩
      | exact ⟨_, _, _, rfl, few_new hplt A1 R1 L1 G1 HS1.out hbb (grownBy_below ((Below.refl _ _).alloc (Nat.le_refl _) _)) hbb.size (Blk.new _ _ _) hk hn hT7l ⟨hc7, by assumption⟩ hr7 (fun h0 => by have := fresh_at hF h0; simp at this; omega)⟩
  case rest =>
    clear A1 R1 L1 G1 XS XC XP HW1 HW2 HC HCS HS1 b0 b1 b2 b3 hO6 hbW hm1
    obtain ⟨q, cb2, ab2, rfl, hI⟩ := hcut
    generalize (Value.slice ab2 B7.length cb2) = uB at *
    go_upto_block 0 with (fail)
    go_cut [6] (fun _ wx => ∃ uK, FewI w p q box m wx (.mk k n B7 T7 ((ks.take 40).map (·.take 100)) []) uB uK (.slice none 0 0))
    case first =>
     go_wp2
     go_loopw [6] (fun i wr => ∃ (j : Nat) (uK : Value), j ≤ ks.length ∧ j ≤ 40 ∧ i = .int .i64 j ∧ FewI w p q box m wr (.mk k n B7 T7 ((ks.take j).map (·.take 100)) []) uB uK (.slice none 0 0)) (fun i _ => ks.length - (intOf i).toNat)
     case atStart => exact ⟨0, _, Nat.zero_le _, Nat.zero_le _, rfl, by rw [List.take_zero]; exact hI⟩
     case round =>
       clear hI
       obtain ⟨j, uK, hj, hj40, rfl, hI⟩ := hrel
       have c4 : wr.cell? ⟨w.heap.size, 4, none⟩ = some (.slice ak ks.length ck) := hI.arg.cell (by rw [HB.out]; rfl)
       have hbr := hbw.trans (hI.below (base := w0.heap.size) hp0 hsz)
       by_cases hlt : j < ks.length ∧ j < 40
       · obtain ⟨hlt, hlt40⟩ := hlt
         have p1 : wr.cell? ((hd ak).add j) = some (strV ks[j]) := (hks.below hbr).cell (by simp [hlt])
         have s1 : ak.isSome = true := (hks.below hbr).isSome (i := j) (by simpa using hlt)
         unfold strV at p1
         have XS : ∀ w', Calls Tryd.prog 24 #[.string (str ks[j]), .int .i64 100] w' fun e w'' => e = .returned (.string (str (ks[j].take 100))) ∧ w' = w'' := fun w' => short_any ks[j] 100 w' (by decide)
         have HT : Hid ((ks.take (j + 1)).map (·.take 100) = (ks.take j).map (·.take 100) ++ [ks[j].take 100]) := by
           show _ = _
           rw [List.take_succ_eq_append_getElem hlt, List.map_append]; rfl
         have hx100 : (ks[j].take 100).length ≤ maxLen := by simp; unfold maxLen; omega
         have hln : ((ks.take j).map (·.take 100)).length = j := by simp; omega
         obtain ⟨KK, hKK⟩ : ∃ KK, KK = (ks.take j).map (fun x => x.take 100) := ⟨_, rfl⟩
         rw [← hKK] at hI hln
         have HT2 : Hid ((ks.take (j + 1)).map (·.take 100) = KK ++ [ks[j].take 100]) := by show _ = _; rw [hKK]; exact HT.out
         clear HT hKK
         generalize ks[j].take 100 = x at *
         obtain ⟨a', c', w', hrun, d4, f4, hVB, hG, hGs⟩ := VB.stepK (ty := 27) hI.drew.vb hx100 (by omega)
         have hI2 : Hid (FewI w p q box m (w'.setCell ⟨q, 4, none⟩ (.slice a' (KK.length + 1) c')) (.mk k n B7 T7 ((ks.take (j + 1)).map (·.take 100)) []) uB (.slice a' (KK.length + 1) c') (.slice none 0 0)) := by
           show FewI _ _ _ _ _ _ _ _ _ _
           rw [HT2.out]
           exact hI.drew.addK hplt rfl (.inl hG) hVB
         have q4 : wr.cell? ⟨q, 4, none⟩ = some uK := hI.vb.blk.cell rfl
         have hqlt := hI.vb.blk.lt
         have hba : Below wr.heap.size wr (wr.drew.alloc (.cells #[.string (str x)] 9)) := (Gr.drewN wr 1).alloc (by simp) _
         have q4a : (wr.drew.alloc (.cells #[.string (str x)] 9)).cell? ⟨q, 4, none⟩ = some uK := by rw [hba.cell hqlt]; exact q4
         have hba' : Below wr.heap.size wr (wr.alloc (.cells #[.string (str x)] 9)) := (Below.refl _ _).alloc (Nat.le_refl _) _
         have q4b : (wr.alloc (.cells #[.string (str x)] 9)).cell? ⟨q, 4, none⟩ = some uK := by rw [hba'.cell hqlt]; exact q4
         have jn : (j : Int) < (ks.length : Int) := by omega
         have j40 : (j : Int) < 40 := by omega
         have j0 : (0 : Int) ≤ (j : Int) := by omega
         have jb : IntKind.i64.wrap ((j : Int) + 1) = (j : Int) + 1 := IntWalk.i64_in _ (by omega)
         clear hVB hG hGs hI hba hba' hqlt hln hbr
         generalize ks[j] = key at *
         go_wp2
         go_region_law ((first
           | (go_simp; go_at_call 24; refine (XS _).mono ?_; rintro e3 w3 ⟨rfl, rfl⟩)
           | (refine step_append_run hrun rfl rfl rfl rfl ?_)))
         all_goals
           clear hrun d4 f4 q4 q4a q4b p1 c4 XS
           go_wp2
           first
             | exact ⟨⟨j + 1, _, by omega, by omega, (by first | rfl | go_num | (congr 1; omega)), hI2.out⟩, by simp [intOf] <;> omega⟩
             | (refine ⟨?_, by simp [intOf] <;> omega⟩; (repeat apply Exists.intro); exact ⟨⟨j + 1, _, by omega, by omega, (by first | rfl | go_num | (congr 1; omega)), hI2.out⟩, rfl⟩)
       · have HK40 : Hid ((ks.take j).map (·.take 100) = (ks.take 40).map (·.take 100)) := by
           show _ = _
           congr 1
           rcases Nat.lt_or_ge j 40 with h | h
           · rw [List.take_of_length_le (by omega), List.take_of_length_le (by omega)]
           · rw [show j = 40 by omega]
         rw [HK40.out] at hI
         have hx : ¬ (j : Int) < (ks.length : Int) ∨ ¬ (j : Int) < 40 := by omega
         clear HK40 hlt hbr
         generalize (ks.take 40).map (fun x => x.take 100) = K40 at *
         rcases Nat.lt_or_ge j ks.length with h | h
         · have i1 : (j : Int) < (ks.length : Int) := by omega
           have i2 : ¬ (j : Int) < 40 := by omega
           clear hx
           go_wp2
           go_meet
           exact ⟨uK, hI⟩
         · have i1 : ¬ (j : Int) < (ks.length : Int) := by omega
           clear hx
           go_wp2
           go_meet
           exact ⟨uK, hI⟩
    case rest =>
      clear hI
      obtain ⟨uK, hI⟩ := hcut
      have HF : Hid (fewF (d + 1) (.mk k n b t ks l) (m + 1) = (.mk k n B7 T7 ((ks.take 40).map (·.take 100)) (fewL (fewF d) (l.take 40) m).1, (fewL (fewF d) (l.take 40) m).2)) := by
        obtain ⟨e1, e2⟩ := HBT.out
        show _ = _
        rw [e1, e2]; rfl
      generalize (ks.take 40).map (fun x => x.take 100) = K40 at *
      clear HBT
      go_wp2
      go_loopw [7] (fun i wr => ∃ (j mj : Nat) (ys : List PV) (uL : Value), j ≤ l.length ∧ j ≤ 40 ∧ i = .int .i64 j ∧ ys.length = j ∧ mj ≤ m ∧ fewL (fewF d) (l.take 40) m = (ys ++ (fewL (fewF d) ((l.take 40).drop j) mj).1, (fewL (fewF d) ((l.take 40).drop j) mj).2) ∧ FewI w p q box mj wr (.mk k n B7 T7 K40 ys) uB uK uL) (fun i _ => l.length - (intOf i).toNat)
      case atStart => exact ⟨0, m, [], _, Nat.zero_le _, Nat.zero_le _, rfl, rfl, Nat.le_refl _, rfl, hI⟩
      case round =>
        clear hI
        obtain ⟨j, mj, ys, uL, hj, hj40, rfl, hys, hmj, hrun0, hI⟩ := hrel
        have c5 : wr.cell? ⟨w.heap.size, 5, none⟩ = some (.slice al l.length cl) := hI.arg.cell (by rw [HB.out]; rfl)
        have c0 : wr.cell? ⟨p, 0, none⟩ = some (.int .i64 (mj : Int)) := hI.left.cell rfl
        have hbr := hbw.trans (hI.below (base := w0.heap.size) hp0 hsz)
        have HR := Lib.hid hrun0
        clear hrun0
        by_cases hlt : (j < l.length ∧ j < 40) ∧ 0 < mj
        · obtain ⟨⟨hlt, hlt40⟩, hmj0⟩ := hlt
          have hcj : css[j]? = some (css[j]'(by omega)) := by simp
          have hvj : l[j]? = some l[j] := by simp [hlt]
          have IH := ih j _ _ hcj hvj d mj wr.drew p (by omega) (by omega) (by omega) (hbr.trans ((Gr.drewN wr 1).mono hbr.size)) hp0 hI.drew.left
          have s1 := (hl.below hbr).elemSome (s := 6) h6 (by decide) (i := j) (by omega)
          have q1 := ldOp_at (P := Tryd.prog) (ty := 30) (w := wr.drew) ((hl.below (hbr.trans ((Gr.drewN wr 1).mono hbr.size))).elem (s := 6) h6 hcj) Tryd.underlying30 rfl (by rw [h6 _ (List.getElem_mem _)]; exact sizeV)
          have HD : Hid ((l.take 40).drop j = l[j] :: (l.take 40).drop (j + 1)) := by
            show _ = _
            have h1 : j < (l.take 40).length := by simp; omega
            rw [List.drop_eq_getElem_cons h1]
            simp
          have HR2 : Hid (fewL (fewF d) (l.take 40) m = ((ys ++ [(fewF d l[j] mj).1]) ++ (fewL (fewF d) ((l.take 40).drop (j + 1)) (fewF d l[j] mj).2).1, (fewL (fewF d) ((l.take 40).drop (j + 1)) (fewF d l[j] mj).2).2)) := by
            show _ = _
            rw [HR.out, HD.out]
            have e : ∀ (x : PV) (r : List PV), fewL (fewF d) (x :: r) mj = ((fewF d x mj).1 :: (fewL (fewF d) r (fewF d x mj).2).1, (fewL (fewF d) r (fewF d x mj).2).2) := fun x r => by simp only [fewL]; rw [if_pos hmj0]
            rw [e]
            simp
          have hle2 := fewF_le d l[j] mj
          have q5 : wr.cell? ⟨q, 5, none⟩ = some uL := hI.vb.blk.cell rfl
          have jn : (j : Int) < (l.length : Int) := by omega
          have j40 : (j : Int) < 40 := by omega
          have j0 : (0 : Int) ≤ (j : Int) := by omega
          have m0 : (0 : Int) < (mj : Int) := by omega
          have jb : IntKind.i64.wrap ((j : Int) + 1) = (j : Int) + 1 := IntWalk.i64_in _ (by omega)
          have hId := hI.drew
          have hy1 : ys.length ≤ 1000000000 := by omega
          have HYS := Lib.hid hys
          generalize css[j]'(by omega) = c at *
          generalize hpr : fewF d l[j] mj = pr at *
          generalize l[j] = v at *
          clear hpr HR HD hcj hvj hbr hys
          obtain ⟨x, m2⟩ := pr
          simp only at hle2 HR2
          go_wp2
          go_region_law ((first
            | (go_simp; go_at_call 47; refine IH.mono ?_; rintro e5 w5 ⟨cs', rfl, hVP, hBp, hgr⟩; have hI5 := FewI.call hId hplt hBp hgr; obtain ⟨a', c', w', hrun, d5, f5, hVB, hG, hGs⟩ := VB.stepL (ty := 28) hI5.vb (hVP.mono (fun z hz _ => fresh_okB hId.vb hz)) hy1; have q5' : w5.cell? ⟨q, 5, none⟩ = some uL := hI5.vb.blk.cell rfl; have hql5 := hI5.vb.blk.lt; have q5b : (w5.alloc (.cells (List.toArray cs') 30)).cell? ⟨q, 5, none⟩ = some uL := Eq.trans (((Below.refl w5.heap.size w5).alloc (Nat.le_refl _) (.cells (List.toArray cs') 30)).cell hql5) q5'; have x6 : (List.toArray cs').size = 6 := hVP.len)
            | (refine step_append_run hrun rfl rfl rfl rfl ?_)))
          all_goals
            have hI6 : FewI w p q box m2 (w'.setCell ⟨q, 5, none⟩ (.slice a' (ys.length + 1) c')) (.mk k n B7 T7 K40 (ys ++ [x])) uB uK (.slice a' (ys.length + 1) c') := FewI.addK hI5 hplt rfl (.inr hG) hVB
            have hl6 : (ys ++ [x]).length = j + 1 := by have := HYS.out; simp; omega
            clear hrun d5 f5 q5 q5' q5b q1 c5 c0 IH hI hI5 hId hVB hG hVP hBp hgr x6 hql5
            go_wp2
            first
              | exact ⟨⟨j + 1, m2, ys ++ [x], _, by omega, by omega, (by first | rfl | go_num | (congr 1; omega)), hl6, by omega, HR2.out, hI6⟩, by simp [intOf] <;> omega⟩
              | (refine ⟨?_, by simp [intOf] <;> omega⟩; (repeat apply Exists.intro); exact ⟨⟨j + 1, m2, ys ++ [x], _, by omega, by omega, (by first | rfl | go_num | (congr 1; omega)), hl6, by omega, HR2.out, hI6⟩, rfl⟩)
        · have HR2 : Hid (fewL (fewF d) (l.take 40) m = (ys, mj)) := by
            have e : fewL (fewF d) ((l.take 40).drop j) mj = ([], mj) := by
              rcases Nat.lt_or_ge j (l.take 40).length with h | h
              · rw [List.drop_eq_getElem_cons h]
                simp only [fewL]
                rw [if_neg (by simp at h; omega)]
              · rw [List.drop_of_length_le h]; rfl
            show _ = _
            rw [HR.out, e]; simp
          have HP := hI.vb.done
          have h1 := hI.vb.blk
          have q1 : (ldOp 30 (.pointer (some ⟨q, 0, none⟩))).run Tryd.prog wr = .ok (.agg (List.toArray (α := Value) [.int .i64 k, .int .i64 n, uB, strV T7, uK, uL])) wr := ldOp_all (P := Tryd.prog) (ty := 30) h1 Tryd.underlying30 rfl sizeV
          have HST := st_row hI.res (by rfl) (List.toArray (α := Value) [.int .i64 k, .int .i64 n, uB, strV T7, uK, uL]) rfl (all_oneCell_toArray HP.one)
          have HB2 := setRow_blk hI.res [.int .i64 k, .int .i64 n, uB, strV T7, uK, uL]
          have HG2 := setRow_gr wr (w.heap.size + 1) (List.toArray (α := Value) [.int .i64 k, .int .i64 n, uB, strV T7, uK, uL])
          have HFW : FewP w p (fewF (d + 1) (.mk k n b t ks l) (m + 1)) (.returned (.agg (List.toArray (α := Value) [.int .i64 k, .int .i64 n, uB, strV T7, uK, uL]))) (wr.setRow (w.heap.size + 1) (List.toArray (α := Value) [.int .i64 k, .int .i64 n, uB, strV T7, uK, uL])) := by
            rw [HF.out, HR2.out]
            have hqb := hI.vb.hq
            have hle := hI.gr.size
            refine ⟨_, rfl, ?_, hI.left.grown HG2 (by omega), ?_⟩
            · exact ((HP.same (w' := wr.setRow (w.heap.size + 1) _) (fun z hz hlt => HG2.block z hlt (by have := hz.1; simp; omega))).mono (fun z hz _ => by have := hz.1; omega))
            · refine ⟨hI.gr.os, hI.gr.tape, hI.gr.output, by simp; exact hI.gr.size, fun i hi hne => ?_⟩
              rw [HG2.block i (by omega) (by simp; omega)]
              exact hI.gr.block i hi hne
          have hx : ¬ (j : Int) < (l.length : Int) ∨ ((j : Int) < (l.length : Int) ∧ ¬ (j : Int) < 40) ∨ ((j : Int) < (l.length : Int) ∧ (j : Int) < 40 ∧ mj = 0) := by omega
          have HFW := Lib.hid HFW
          clear HP h1 HG2 HR2 HR HF hI hlt hys
          generalize strV T7 = sT at *
          rcases hx with h | ⟨h, h2⟩ | ⟨h, h2, h3⟩
          · go_wp2
            refine bodyPost_ret (results_cell_row (fn := Tryd.f47) (by rfl) _ _ (w.heap.size + 1) 30 _ (0, 0) _ (by rfl) HB2 Tryd.underlying30 rfl sizeV) rfl HFW.out
          · go_wp2
            refine bodyPost_ret (results_cell_row (fn := Tryd.f47) (by rfl) _ _ (w.heap.size + 1) 30 _ (0, 0) _ (by rfl) HB2 Tryd.underlying30 rfl sizeV) rfl HFW.out
          · subst h3
            go_wp2
            refine bodyPost_ret (results_cell_row (fn := Tryd.f47) (by rfl) _ _ (w.heap.size + 1) 30 _ (0, 0) _ (by rfl) HB2 Tryd.underlying30 rfl sizeV) rfl HFW.out
end Go.Proofs.YtpchogicdnfggaaDoor
set_option maxRecDepth 20000
namespace Go.Proofs.YtpchogicdnfggaaDoor
open Go.RowKit Go.Hd
/-- A map under construction in the box q: its keys are uK, its values uL; in the box stand cK, cL. The values' own rows lie below base. -/
structure MB (base q : Nat) (w : World) (uK uL cK cL : Value) (KS : List (List UInt8)) (VS : List PV) : Prop where
  blk : Blk w q 30 [.int .i64 7, .int .i64 0, .slice none 0 0, strV [], cK, cL]
  hq : base ≤ q
  le : base ≤ w.heap.size
  klen : ∀ x ∈ KS, x.length ≤ maxLen
  keys : w.ownsRow base 9 1 uK KS.length (KS.map strV)
  list : VsAt (fun b => b < base) base w uL VS
  kq : uK.ownBlock ≠ some q
  lq : uL.ownBlock ≠ some q
  kl : ∀ b, uK.ownBlock = some b → uL.ownBlock ≠ some b
/-- The blocks that are the map's own. -/
def Ob (q : Nat) (uK uL : Value) (b : Nat) : Prop := b = q ∨ uK.ownBlock = some b ∨ uL.ownBlock = some b
theorem MB.olt {base q : Nat} {w : World} {uK uL cK cL : Value} {KS : List (List UInt8)} {VS : List PV} (h : MB base q w uK uL cK cL KS VS) : ∀ b, Ob q uK uL b → base ≤ b ∧ b < w.heap.size := by
  rintro b (rfl | hb | hb)
  · exact ⟨h.hq, h.blk.lt⟩
  · exact World.ownsRow.lt h.keys b hb
  · obtain ⟨css, _, _, hO, _⟩ := h.list
    exact World.ownsRow.lt hO b hb
/-- What changes lies elsewhere. -/
theorem MB.far {base q : Nat} {w w' : World} {uK uL cK cL : Value} {KS : List (List UInt8)} {VS : List PV} (h : MB base q w uK uL cK cL KS VS) (hs : w.heap.size ≤ w'.heap.size) (hb : ∀ b, b < w.heap.size → (b < base ∨ Ob q uK uL b) → w'.heap[b]? = w.heap[b]?) : MB base q w' uK uL cK cL KS VS := by
  have ho := h.olt
  obtain ⟨h1, h2, h3, h4, h5, h6, h7, h8, h9⟩ := h
  refine ⟨?_, h2, Nat.le_trans h3 hs, h4, owns_same h5 (fun b e => hb b (ho b (.inr (.inl e))).2 (.inr (.inr (.inl e)))), h6.same hs (fun b e => hb b (ho b (.inr (.inr e))).2 (.inr (.inr (.inr e)))) (fun b hk hlt => ⟨hb b hlt (.inl hk), hk⟩), h7, h8, h9⟩
  unfold Blk at *; rw [hb q (ho q (.inl rfl)).2 (.inr (.inl rfl))]; exact h1
theorem MB.below {base q : Nat} {w w' : World} {uK uL cK cL : Value} {KS : List (List UInt8)} {VS : List PV} (h : MB base q w uK uL cK cL KS VS) (hb : Below w.heap.size w w') : MB base q w' uK uL cK cL KS VS :=
  h.far hb.size (fun b hlt _ => hb.block b hlt)
theorem Ob.gro {q : Nat} {w w' : World} {uK uL uK' : Value} (hg : Gro w w' uK uK') {b : Nat} (h : Ob q uK' uL b) : Ob q uK uL b ∨ w.heap.size ≤ b := by
  rcases h with h | h | h
  · exact .inl (.inl h)
  · rcases hg.own b h with h | h
    · exact .inl (.inr (.inl h))
    · exact .inr h
  · exact .inl (.inr (.inr h))
theorem Ob.groL {q : Nat} {w w' : World} {uK uL uL' : Value} (hg : Gro w w' uL uL') {b : Nat} (h : Ob q uK uL' b) : Ob q uK uL b ∨ w.heap.size ≤ b := by
  rcases h with h | h | h
  · exact .inl (.inl h)
  · exact .inl (.inr (.inl h))
  · rcases hg.own b h with h | h
    · exact .inl (.inr (.inr h))
    · exact .inr h
/-- A key put behind. -/
theorem MB.appK {base q g : Nat} {w : World} {uK uL cK cL : Value} {KS : List (List UInt8)} {VS : List PV} {ty : TypeId} (h : MB base q w uK uL cK cL KS VS) {k : List UInt8} (hk : k.length ≤ maxLen) (hB : Blk w g 9 [strV k]) (hn : KS.length ≤ 1000) :
    ∃ a' c' w', (Builtin.append_ #[27, 27] ty #[uK, .slice (some ⟨g, 0, none⟩) 1 1]).run Tryd.prog w = .ok (.slice a' (KS.length + 1) c') w' ∧ MB base q w' (.slice a' (KS.length + 1) c') uL cK cL (KS ++ [k]) VS ∧ Gro w w' uK (.slice a' (KS.length + 1) c') := by
  have ho := h.olt
  obtain ⟨h1, h2, h3, h4, h5, h6, h7, h8, h9⟩ := h
  have hsrc : Src Tryd.prog 1 27 (.slice (some ⟨g, 0, none⟩) 1 1) 1 [strV k] w :=
    Src.ofRow eS.ht _ 1 1 [strV k] (by decide) rfl (by simpa using hB.row) (by intro u hu; simp at hu; subst hu; rfl)
  obtain ⟨v', w', r1, r2, r3, r4⟩ := append_srcK (ty := ty) eS h5 hsrc (by unfold maxLen; omega) (by omega) h3
  obtain ⟨a', c', rfl, _⟩ := owns_rowN r2 (by decide)
  have hG : Gro w w' uK (.slice a' (KS.length + 1) c') := ⟨r3, r4⟩
  have hnew : ∀ b, (Value.slice a' (KS.length + 1) c').ownBlock = some b → uK.ownBlock = some b ∨ w.heap.size ≤ b := hG.own
  refine ⟨a', c', w', r1, ⟨(hG.blk h1 h7).1, h2, Nat.le_trans h3 hG.size, ?_, ?_, ?_, ?_, h8, ?_⟩, hG⟩
  · intro x hx
    rcases List.mem_append.1 hx with hx | hx
    · exact h4 x hx
    · simp at hx; subst hx; exact hk
  · simpa using r2
  · refine h6.same hG.size (fun b e => ?_) (fun b hb hlt => ⟨?_, hb⟩)
    · exact hG.gr.block b (ho b (.inr (.inr e))).2 (fun e2 => h9 b e2.symm e)
    · exact hG.gr.block b hlt (fun e2 => by have := (ho b (.inr (.inl e2.symm))).1; omega)
  · intro e
    rcases hnew _ e with h | h
    · exact h7 h
    · have := (ho q (.inl rfl)).2; omega
  · intro b e e2
    rcases hnew _ e with h | h
    · exact h9 b h e2
    · have := (ho b (.inr (.inr e2))).2; omega
/-- A value put behind. -/
theorem MB.appL {base q g : Nat} {w : World} {uK uL cK cL : Value} {KS : List (List UInt8)} {VS : List PV} {ty : TypeId} (h : MB base q w uK uL cK cL KS VS) {c : List Value} {x : PV} (hx : VAtP (fun b => b < base) w c x) (hB : Blk w g 30 c) (hn : VS.length ≤ 1000) :
    ∃ a' c' w', (Builtin.append_ #[28, 28] ty #[uL, .slice (some ⟨g, 0, none⟩) 1 1]).run Tryd.prog w = .ok (.slice a' (VS.length + 1) c') w' ∧ MB base q w' uK (.slice a' (VS.length + 1) c') cK cL KS (VS ++ [x]) ∧ Gro w w' uL (.slice a' (VS.length + 1) c') := by
  have ho := h.olt
  obtain ⟨h1, h2, h3, h4, h5, ⟨css, d1, d2, d3, d4⟩, h7, h8, h9⟩ := h
  have hl6 := hx.len
  have hsrc : Src Tryd.prog 6 28 (.slice (some ⟨g, 0, none⟩) 1 1) 1 c w :=
    Src.ofRow eV.ht _ 1 1 c (by decide) (by rw [hl6]) (by simpa using hB.row) hx.one
  obtain ⟨v', w', r1, r2, r3, r4⟩ := append_srcK (ty := ty) eV d3 hsrc (by unfold maxLen; omega) (by omega) h3
  obtain ⟨a', c', rfl, _⟩ := owns_rowN r2 (by decide)
  have hG : Gro w w' uL (.slice a' (VS.length + 1) c') := ⟨r3, r4⟩
  have hnew : ∀ b, (Value.slice a' (VS.length + 1) c').ownBlock = some b → uL.ownBlock = some b ∨ w.heap.size ≤ b := hG.own
  have keep : ∀ {d : List Value} {y : PV}, VAtP (fun b => b < base) w d y → VAtP (fun b => b < base) w' d y := fun hd =>
    hd.same (fun b hb hlt => hG.gr.block b hlt (fun e => by have := (ho b (.inr (.inr e.symm))).1; omega))
  refine ⟨a', c', w', r1, ⟨(hG.blk h1 h8).1, h2, Nat.le_trans h3 hG.size, h4, ?_, ⟨css ++ [c], by simp [d1], ?_, ?_, ?_⟩, h7, ?_, ?_⟩, hG⟩
  · exact owns_same h5 (fun b e => hG.gr.block b (ho b (.inr (.inl e))).2 (fun e2 => h9 b e e2.symm))
  · intro d hd
    rcases List.mem_append.1 hd with h | h
    · exact d2 d h
    · simp at h; subst h; exact hl6
  · rw [flat_snoc]; simpa using r2
  · intro i d y hd hy
    rcases Nat.lt_or_ge i css.length with h | h
    · rw [List.getElem?_append_left h] at hd
      rw [List.getElem?_append_left (by omega)] at hy
      exact keep (d4 i d y hd hy)
    · rw [List.getElem?_append_right h] at hd
      rw [List.getElem?_append_right (by omega)] at hy
      have hi : i - css.length = 0 := by
        rcases Nat.eq_zero_or_pos (i - css.length) with h0 | h0
        · exact h0
        · rw [List.getElem?_eq_none (by simp; omega)] at hd; cases hd
      rw [hi] at hd
      rw [← d1, hi] at hy
      simp at hd hy
      subst hd hy
      exact keep hx
  · intro e
    rcases hnew _ e with h | h
    · exact h8 h
    · have := (ho q (.inl rfl)).2; omega
  · intro b e e2
    rcases hnew _ e2 with h | h
    · exact h9 b e h
    · have := (ho b (.inr (.inl e))).2; omega
theorem set_own {w : World} {q i : Nat} {u : Value} {b : Nat} (h : b ≠ q) : (w.setCell ⟨q, i, none⟩ u).heap[b]? = w.heap[b]? := Below.heap_setCell w _ _ b h
/-- The keys stored. -/
theorem MB.stoK {base q : Nat} {w : World} {uK uL cK cL : Value} {KS : List (List UInt8)} {VS : List PV} (h : MB base q w uK uL cK cL KS VS) : MB base q (w.setCell ⟨q, 4, none⟩ uK) uK uL uK cL KS VS := by
  obtain ⟨h1, h2, h3, h4, h5, h6, h7, h8, h9⟩ := h
  exact ⟨h1.set 4 uK, h2, by simpa using h3, h4, owns_same h5 (fun b e => set_own (fun e2 => h7 (e2 ▸ e))), h6.same (by simp) (fun b e => set_own (fun e2 => h8 (e2 ▸ e))) (fun b hb _ => ⟨set_own (by omega), hb⟩), h7, h8, h9⟩
/-- The values stored. -/
theorem MB.stoL {base q : Nat} {w : World} {uK uL cK cL : Value} {KS : List (List UInt8)} {VS : List PV} (h : MB base q w uK uL cK cL KS VS) : MB base q (w.setCell ⟨q, 5, none⟩ uL) uK uL cK uL KS VS := by
  obtain ⟨h1, h2, h3, h4, h5, h6, h7, h8, h9⟩ := h
  exact ⟨h1.set 5 uL, h2, by simpa using h3, h4, owns_same h5 (fun b e => set_own (fun e2 => h7 (e2 ▸ e))), h6.same (by simp) (fun b e => set_own (fun e2 => h8 (e2 ▸ e))) (fun b hb _ => ⟨set_own (by omega), hb⟩), h7, h8, h9⟩
/-- What has been built. -/
theorem MB.done {base q : Nat} {w : World} {uK uL : Value} {KS : List (List UInt8)} {VS : List PV} (h : MB base q w uK uL uK uL KS VS) : VAt w [.int .i64 7, .int .i64 0, .slice none 0 0, strV [], uK, uL] (.mk 7 0 [] [] KS VS) := by
  obtain ⟨h1, h2, h3, h4, h5, ⟨css, c1, c2, h8, c4⟩, _, _, _⟩ := h
  obtain ⟨ak, ck, rfl, k2, k3, k4, _⟩ := owns_rowN h5 (by decide)
  obtain ⟨al, cl, rfl, l2, l3, l4, _⟩ := owns_rowN h8 (by decide)
  exact .mk (k := 7) (n := 0) (b := []) (t := []) (ab := none) (cb := 0) css (by unfold in64; decide) (by unfold in64; decide) (Row.nil _ _) ⟨Nat.le_refl _, Nat.zero_le _⟩ (Nat.zero_le _) k4 ⟨k2, k3⟩ h4 l4 ⟨l2, l3⟩ c1 c2 (fun i c v hc hv => (c4 i c v hc hv).at)
end Go.Proofs.YtpchogicdnfggaaDoor
set_option maxRecDepth 20000
namespace Go.Hd
open Go Go.RowKit
/-- An archive, a part, as they are. -/
structure Abt where
  name : List UInt8
  id : List UInt8
  time : Int
  comment : List UInt8
  items : Int
  bytes : Int
structure Prt where
  id : List UInt8
  size : Int
def prtC (p : Prt) : List Value := p.id.map b8 ++ [.int .i64 p.size]
structure AbtOk (x : Abt) : Prop where
  id : x.id.length = 32
  time : in64 x.time
  items : in64 x.items
  bytes : in64 x.bytes
  name : x.name.length ≤ maxLen
  comment : x.comment.length ≤ maxLen
structure PrtOk (p : Prt) : Prop where
  id : p.id.length = 32
  size : in64 p.size
theorem prtC_len {p : Prt} (h : PrtOk p) : (prtC p).length = 33 := by simp [prtC, h.id]
theorem b8_one (l : List UInt8) : ∀ v ∈ l.map b8, v.oneCell' = true := by
  intro v hv
  obtain ⟨c, _, rfl⟩ := List.mem_map.1 hv
  rfl
theorem prtC_one (p : Prt) : ∀ v ∈ prtC p, v.oneCell' = true := by
  intro v hv
  unfold prtC at hv
  rcases List.mem_append.1 hv with hv | hv
  · exact b8_one _ v hv
  · simp only [List.mem_cons, List.not_mem_nil, or_false] at hv
    subst hv; rfl
theorem prtC_32 {p : Prt} (h : PrtOk p) : (prtC p)[32]? = some (.int .i64 p.size) := by
  unfold prtC; rw [List.getElem?_append_right (by rw [List.length_map, h.id]; omega), List.length_map, h.id]; rfl
end Go.Hd
namespace Go.Proofs.YtpchogicdnfggaaDoor
open Go.RowKit Go.Hd

section
variable (ρ : Operand → Value) (dst : Option Tmp) (ty : TypeId) (pos : String) (after : Array Edge) (guard : Option (Nat × Bool))
theorem h_ldID (x : Operand) : execOp ρ { dst, op := .load 63 x, type := ty, pos, after, guard } = (do pure (.value (← ldOp 63 (ρ x)))) := rfl
theorem h_stID (x y : Operand) : execOp ρ { dst, op := .store 63 x y, type := ty, pos, after, guard } = (do stoOp 63 (ρ x) (ρ y); pure .skip) := rfl
theorem h_alID : execOp ρ { dst, op := .alloc 63, type := ty, pos, after, guard } = (do pure (.value (← alOp 63))) := rfl
theorem h_ldPA (x : Operand) : execOp ρ { dst, op := .load 65 x, type := ty, pos, after, guard } = (do pure (.value (← ldOp 65 (ρ x)))) := rfl
theorem h_stPA (x y : Operand) : execOp ρ { dst, op := .store 65 x y, type := ty, pos, after, guard } = (do stoOp 65 (ρ x) (ρ y); pure .skip) := rfl
theorem h_alPA : execOp ρ { dst, op := .alloc 65, type := ty, pos, after, guard } = (do pure (.value (← alOp 65))) := rfl
theorem h_bdPA (parts : Array (Nat × Operand)) : execOp ρ { dst, op := .build 65 parts, type := ty, pos, after, guard } = (do pure (.value (← bdOp 65 (parts.map fun (i, x) => (i, ρ x))))) := rfl
theorem h_bsPA (n : Nat) (parts : Array (Nat × Operand)) : execOp ρ { dst, op := .buildSlice 22 n parts, type := ty, pos, after, guard } = (do pure (.value (← bsOp 22 n (parts.map fun (i, x) => (i, ρ x))))) := rfl
theorem h_ap (x : Operand) : execOp ρ { dst, op := .sliceToArrayPointer 63 x, type := ty, pos, after, guard } = (do pure (.value (← apOp 63 (ρ x)))) := rfl
end
def zID : Array Value := List.toArray (α := Value) (List.replicate 32 (.int .u8 0))
theorem infoID : (Tryd.prog.info? 63).map (fun i => (i.zero, i.size)) = some (some (.agg zID), 32) := by kernel_rfl
theorem sizeID : (Tryd.prog.info? 63).map (·.size) = some 32 := (zero_of_info infoID).2
theorem zeroID : (Tryd.prog.info? 63).bind (·.zero) = some (.agg zID) := by kernel_rfl
theorem r_ldID {w : World} {b : Nat} {cs : Array Value} {T : TypeId} (hb : w.heap.size = b) (hs : cs.size = 32) : (ldOp 63 (.pointer (some ⟨b, 0, none⟩))).run Tryd.prog (w.alloc (.cells cs T)) = .ok (.agg cs) (w.alloc (.cells cs T)) :=
  ldOp_new hb Tryd.underlying63 rfl (by rw [hs]; exact sizeID)
theorem r_stID {w : World} {b : Nat} {old cs : Array Value} {T : TypeId} (hb : w.heap.size = b) (ho : old.size = 32) (hs : cs.size = 32) (h1 : OneC cs) : (stoOp 63 (.pointer (some ⟨b, 0, none⟩)) (.agg cs)).run Tryd.prog (w.alloc (.cells old T)) = .ok () (w.alloc (.cells cs T)) :=
  stOp_new hb (by rw [hs]; exact sizeID) (by rw [ho, hs]) h1
theorem r_alID {w : World} : (alOp 63).run Tryd.prog w = .ok (.pointer (some ⟨w.heap.size, 0, none⟩)) (w.alloc (.cells zID 63)) := alOp_run zeroID
def zPA : Array Value := List.toArray (α := Value) (List.replicate 32 (.int .u8 0) ++ [.int .i64 0])
theorem zPA_size : zPA.size = 33 := by rfl
theorem zPA_one : OneC zPA := by unfold OneC; decide +kernel
theorem infoPA : (Tryd.prog.info? 65).map (fun i => (i.zero, i.size)) = some (some (.agg zPA), 33) := by kernel_rfl
theorem sizePA : (Tryd.prog.info? 65).map (·.size) = some 33 := (zero_of_info infoPA).2
theorem zeroPA : (Tryd.prog.info? 65).bind (·.zero) = some (.agg zPA) := by kernel_rfl
theorem r_ldPA {w : World} {b : Nat} {cs : Array Value} {T : TypeId} (hb : w.heap.size = b) (hs : cs.size = 33) : (ldOp 65 (.pointer (some ⟨b, 0, none⟩))).run Tryd.prog (w.alloc (.cells cs T)) = .ok (.agg cs) (w.alloc (.cells cs T)) :=
  ldOp_new hb Tryd.underlying65 rfl (by rw [hs]; exact sizePA)
theorem r_stPA {w : World} {b : Nat} {old cs : Array Value} {T : TypeId} (hb : w.heap.size = b) (ho : old.size = 33) (hs : cs.size = 33) (h1 : OneC cs) : (stoOp 65 (.pointer (some ⟨b, 0, none⟩)) (.agg cs)).run Tryd.prog (w.alloc (.cells old T)) = .ok () (w.alloc (.cells cs T)) :=
  stOp_new hb (by rw [hs]; exact sizePA) (by rw [ho, hs]) h1
theorem r_alPA {w : World} : (alOp 65).run Tryd.prog w = .ok (.pointer (some ⟨w.heap.size, 0, none⟩)) (w.alloc (.cells zPA 65)) := alOp_run zeroPA
theorem r_bsPA {w : World} {cs : Array Value} (hs : cs.size = 33) : (bsOp 22 1 #[(0, .agg cs)]).run Tryd.prog w = .ok (.slice (some ⟨w.heap.size, 0, none⟩) 1 1) (w.alloc (.cells cs 65)) :=
  bsOp_one Tryd.underlying22 infoPA (by decide) (by decide) (by exact zPA_size) hs
theorem ePA : Elem Tryd.prog 22 65 (.agg zPA) 33 40 := ⟨by kernel_rfl, by kernel_rfl, rfl, by decide⟩
theorem r_ap {w : World} {a : Addr} {c : Nat} : (apOp 63 (.slice (some a) 32 c)).run Tryd.prog w = .ok (.pointer (some a)) w := apOp_run Tryd.underlying63 (Nat.le_refl _)
end Go.Proofs.YtpchogicdnfggaaDoor
