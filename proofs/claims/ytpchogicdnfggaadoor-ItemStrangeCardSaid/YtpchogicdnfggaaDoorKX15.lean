/- Joined: what one statement of this layer stands on, part 15 of 17; nothing is assumed. -/
import Derived.Deep.CutBlock
import Derived.Deep.DeepCutAuto
import Derived.Deep.RegionHeld3
import Derived.Deep.Strs
import Derived.Test.YtpchogicdnfggaaDoorKX3
import Derived.Test.YtpchogicdnfggaaDoorKX4
import Derived.Test.YtpchogicdnfggaaDoorKX5
import Derived.Test.YtpchogicdnfggaaDoorKX6
import Derived.Test.YtpchogicdnfggaaDoorKX7
import Derived.Test.YtpchogicdnfggaaDoorKX11
import Derived.Test.YtpchogicdnfggaaDoorKX14
set_option maxRecDepth 20000
namespace Go.Proofs.YtpchogicdnfggaaDoor
open Go.RowKit Go.Hd
theorem of_wrong {u : PV} (h : ¬ (((fldV u [107]).int = 1 ∨ (fldV u [107]).int = 2 ∨ (fldV u [107]).int = 3) ∧ u.keys.length = keysN (fldV u [107]).int)) : ofF u = (itZ, 4) := by
  unfold ofF
  rw [if_neg]
  rintro ⟨_, hc, hs⟩
  obtain ⟨_, _, _, _, k5, _⟩ := of_main hc (refX_ids u) hs
  exact h ⟨checkI_kind _ hc, k5⟩
/-- What stands under the key k is K. -/
def Kk (K : Int) (ks : List (List UInt8)) (vs : List PV) : Prop := ∀ (i : Nat) (v : PV), ks[i]? = some [107] → vs[i]? = some v → v.int = K
theorem Kk.nil (K : Int) : Kk K [] [] := by intro i v h; simp at h
theorem Kk.snoc {K : Int} {ks : List (List UInt8)} {vs : List PV} (h : Kk K ks vs) (hl : ks.length = vs.length) {k : List UInt8} {v : PV} (hk : k = [107] → v.int = K) : Kk K (ks ++ [k]) (vs ++ [v]) := by
  intro i u h1 h2
  rcases Nat.lt_or_ge i ks.length with hi | hi
  · rw [List.getElem?_append_left hi] at h1
    rw [List.getElem?_append_left (by omega)] at h2
    exact h i u h1 h2
  · rw [List.getElem?_append_right hi] at h1
    rw [List.getElem?_append_right (by omega)] at h2
    match he : i - ks.length with
    | 0 =>
      rw [he] at h1
      rw [← hl, he] at h2
      simp at h1 h2
      subst h2; exact hk h1
    | j + 1 => rw [he] at h1; simp at h1
theorem Kk.fld {K : Int} : ∀ {ks : List (List UInt8)} {vs : List PV}, Kk K ks vs → ((findK ks vs [107]).getD pv0).int = K ∨ ((findK ks vs [107]).getD pv0).int = 0
  | [], [], _ => .inr rfl
  | [], _ :: _, _ => .inr rfl
  | k :: ks, [], _ => .inr rfl
  | k :: ks, v :: vs, h => by
    rw [findK]
    by_cases e : k = [107]
    · rw [if_pos e]; exact .inl (h 0 v (by simp [e]) rfl)
    · rw [if_neg e]; exact Kk.fld (fun i u h1 h2 => h (i + 1) u (by simpa using h1) (by simpa using h2))
theorem of_kk {K : Int} {ks : List (List UInt8)} {vs : List PV} (h : Kk K ks vs) (hl : ks.length ≠ keysN K) : ofF (.mk 7 0 [] [] ks vs) = (itZ, 4) := by
  refine of_wrong ?_
  rw [fldV_mk, if_pos rfl]
  rintro ⟨h1, h2⟩
  rcases h.fld with h3 | h3
  · rw [h3] at h2; exact hl h2
  · rw [h3] at h1; omega
theorem itV_bad {x : Itm} (h : checkI x ≠ 0) : itV x = pv0 := by unfold itV; rw [if_pos h]
/-- An item's value, as a map. -/
theorem itV_map {x : Itm} (h : checkI x = 0) : ∃ ks vs, itV x = .mk 7 0 [] [] ks vs ∧ ks.length = keysN x.kind ∧ vs.length = keysN x.kind ∧ Kk x.kind ks vs ∧ [107] ∈ ks := by
  unfold itV
  rw [if_neg (fun hh => hh h)]
  rcases checkI_kind x h with k | k | k
  · rw [if_pos k]
    refine ⟨_, _, rfl, by unfold keysN; rw [if_pos k]; rfl, by unfold keysN; rw [if_pos k]; rfl, ?_, by decide⟩
    intro i v h1 h2
    match i with
    | 0 => simp at h1
    | 1 => simp at h2; subst h2; rfl
    | 2 => simp at h1
    | 3 => simp at h1
    | 4 => simp at h1
    | 5 => simp at h1
    | i + 6 => simp at h1
  · rw [if_neg (by omega), if_pos k]
    refine ⟨_, _, rfl, by unfold keysN; rw [if_neg (by omega), if_neg (by omega)]; rfl, by unfold keysN; rw [if_neg (by omega), if_neg (by omega)]; rfl, ?_, by decide⟩
    intro i v h1 h2
    match i with
    | 0 => simp at h2; subst h2; rfl
    | 1 => simp at h1
    | 2 => simp at h1
    | 3 => simp at h1
    | i + 4 => simp at h1
  · rw [if_neg (by omega), if_neg (by omega)]
    refine ⟨_, _, rfl, by unfold keysN; rw [if_neg (by omega), if_pos k]; rfl, by unfold keysN; rw [if_neg (by omega), if_pos k]; rfl, ?_, by decide⟩
    intro i v h1 h2
    match i with
    | 0 => simp at h2; subst h2; rfl
    | 1 => simp at h1
    | 2 => simp at h1
    | 3 => simp at h1
    | 4 => simp at h1
    | i + 5 => simp at h1
/-- Two maps under construction, neither in the other's way. -/
structure TM (base q r : Nat) (w : World) (kA lA cA dA : Value) (KA : List (List UInt8)) (VA : List PV) (kB lB cB dB : Value) (KB : List (List UInt8)) (VB : List PV) : Prop where
  a : MB base q w kA lA cA dA KA VA
  b : MB base r w kB lB cB dB KB VB
  dis : ∀ x, Ob q kA lA x → ¬ Ob r kB lB x
section
variable {base q r : Nat} {w w' : World} {kA lA cA dA kB lB cB dB : Value} {KA KB : List (List UInt8)} {VA VB : List PV}
theorem TM.swap (h : TM base q r w kA lA cA dA KA VA kB lB cB dB KB VB) : TM base r q w kB lB cB dB KB VB kA lA cA dA KA VA := ⟨h.b, h.a, fun x h1 h2 => h.dis x h2 h1⟩
theorem TM.below (h : TM base q r w kA lA cA dA KA VA kB lB cB dB KB VB) (hb : Below w.heap.size w w') : TM base q r w' kA lA cA dA KA VA kB lB cB dB KB VB := ⟨h.a.below hb, h.b.below hb, h.dis⟩
theorem TM.gK (h : TM base q r w kA lA cA dA KA VA kB lB cB dB KB VB) {kA' : Value} {KA' : List (List UInt8)} (hM : MB base q w' kA' lA cA dA KA' VA) (hg : Gro w w' kA kA') : TM base q r w' kA' lA cA dA KA' VA kB lB cB dB KB VB := by
  refine ⟨hM, h.b.far hg.size (fun x hlt hx => hg.gr.block x hlt (fun e => ?_)), fun x h1 h2 => ?_⟩
  · rcases hx with hx | hx
    · have := (h.a.olt x (.inr (.inl e.symm))).1; omega
    · exact h.dis x (.inr (.inl e.symm)) hx
  · rcases Ob.gro hg h1 with h3 | h3
    · exact h.dis x h3 h2
    · have := (h.b.olt x h2).2; omega
theorem TM.gL (h : TM base q r w kA lA cA dA KA VA kB lB cB dB KB VB) {lA' : Value} {VA' : List PV} (hM : MB base q w' kA lA' cA dA KA VA') (hg : Gro w w' lA lA') : TM base q r w' kA lA' cA dA KA VA' kB lB cB dB KB VB := by
  refine ⟨hM, h.b.far hg.size (fun x hlt hx => hg.gr.block x hlt (fun e => ?_)), fun x h1 h2 => ?_⟩
  · rcases hx with hx | hx
    · have := (h.a.olt x (.inr (.inr e.symm))).1; omega
    · exact h.dis x (.inr (.inr e.symm)) hx
  · rcases Ob.groL hg h1 with h3 | h3
    · exact h.dis x h3 h2
    · have := (h.b.olt x h2).2; omega
theorem TM.sK (h : TM base q r w kA lA cA dA KA VA kB lB cB dB KB VB) : TM base q r (w.setCell ⟨q, 4, none⟩ kA) kA lA kA dA KA VA kB lB cB dB KB VB := by
  refine ⟨h.a.stoK, h.b.far (by simp) (fun x _ hx => set_own (fun e => ?_)), h.dis⟩
  subst e
  rcases hx with hx | hx
  · have := h.a.hq; omega
  · exact h.dis x (.inl rfl) hx
theorem TM.sL (h : TM base q r w kA lA cA dA KA VA kB lB cB dB KB VB) : TM base q r (w.setCell ⟨q, 5, none⟩ lA) kA lA cA lA KA VA kB lB cB dB KB VB := by
  refine ⟨h.a.stoL, h.b.far (by simp) (fun x _ hx => set_own (fun e => ?_)), h.dis⟩
  subst e
  rcases hx with hx | hx
  · have := h.a.hq; omega
  · exact h.dis x (.inl rfl) hx
end
/-- A cell of a block that is known. -/
def CL (w : World) (q i : Nat) (u : Value) : Prop := ∃ T xs, Blk w q T xs ∧ xs[i]? = some u
theorem CL.below {w w' : World} {q i : Nat} {u : Value} (h : CL w q i u) (hb : Below w.heap.size w w') : CL w' q i u := by
  obtain ⟨T, xs, h1, h2⟩ := h
  exact ⟨T, xs, h1.below hb, h2⟩
theorem CL.cell {w : World} {q i : Nat} {u : Value} (h : CL w q i u) : w.cell? ⟨q, i, none⟩ = some u := by
  obtain ⟨T, xs, h1, h2⟩ := h
  exact h1.cell h2
theorem MB.c4 {base q : Nat} {w : World} {uK uL cK cL : Value} {KS : List (List UInt8)} {VS : List PV} (h : MB base q w uK uL cK cL KS VS) : CL w q 4 cK := ⟨_, _, h.blk, rfl⟩
theorem MB.c5 {base q : Nat} {w : World} {uK uL cK cL : Value} {KS : List (List UInt8)} {VS : List PV} (h : MB base q w uK uL cK cL KS VS) : CL w q 5 cL := ⟨_, _, h.blk, rfl⟩
theorem MB.growK {base q : Nat} {w w' : World} {uK uL cK cL u : Value} {KS : List (List UInt8)} {VS : List PV} (h : MB base q w uK uL cK cL KS VS) (hg : Gro w w' uK u) : Below base w w' := hg.below (fun k hk => (h.olt k (.inr (.inl hk))).1) (Nat.le_refl _) h.le
theorem MB.growL {base q : Nat} {w w' : World} {uK uL cK cL u : Value} {KS : List (List UInt8)} {VS : List PV} (h : MB base q w uK uL cK cL KS VS) (hg : Gro w w' uL u) : Below base w w' := hg.below (fun k hk => (h.olt k (.inr (.inr hk))).1) (Nat.le_refl _) h.le
theorem set_below21 {base q i : Nat} {w : World} {u : Value} (hq : base ≤ q) : Below base w (w.setCell ⟨q, i, none⟩ u) := ⟨rfl, rfl, rfl, by simp, fun b hb => set_own (by omega)⟩
/-- What stands in memory stands in blocks that are there. -/
theorem VAt.inP {w : World} {cs : List Value} {v : PV} (h : VAt w cs v) : VAtP (fun b => b < w.heap.size) w cs v := by
  induction h with
  | mk css hk hn hb hbc ht hks hkc hkt hl hlc hcs h6 _ ih =>
    refine .mk css hk hn hb hbc ht hks hkc hkt hl hlc hcs h6 (fun h0 => hb.block_lt (by simpa using h0)) (fun h0 => hks.block_lt (by simpa using h0)) (fun h0 => hl.block_lt ?_) ih
    rw [flatten_len (s := 6) h6, hcs]; omega
/-- A slice of one text. -/
theorem bsOp_text {P : Program} {t e : TypeId} {z : Value} {b : ByteArray} {w : World} (hu : P.underlying t = some (.slice e)) (hz : (P.info? e).map (fun i => (i.zero, i.size)) = some (some z, 1)) (_hzs : z.cells.size = 1) :
    (bsOp t 1 #[(0, .string b)]).run P w = .ok (.slice (some ⟨w.heap.size, 0, none⟩) 1 1) (w.alloc (.cells #[.string b] e)) := by
  obtain ⟨i, hi, hzz⟩ := Option.map_eq_some_iff.1 hz
  simp only [Prod.mk.injEq] at hzz
  obtain ⟨hz1, hz2⟩ := hzz
  refine run_buildSlice w t e 1 _ #[.string b] i z hu hi hz1 (by omega) (by omega) ?_
  rw [hz2]
  have := Great.fill_whole (by decide : 0 < 1) [Value.string b] ((Array.range (1 * 1)).map (z.cells[· % z.cells.size]!)) (by simp [Value.cells]) (by simp)
  simpa [Value.cells] using this
end Go.Proofs.YtpchogicdnfggaaDoor
set_option maxRecDepth 20000
namespace Go.Proofs.YtpchogicdnfggaaDoor
open Go.ChangeShapes Go.WideShapes Go.ChangeAt Go.RowKit Go.Hd
section
variable {H : Type} {enc : TypeId × Value → H} {W : World}
/-- The cells of an array of bytes. -/
theorem bytes_of_id {cs : List Value} {fuel : Nat} {y : DataW H × List MemPlace} (hl : cs.length = 32) (h : DataW.trod enc Tryd.prog W 0 (fun _ => true) true fuel 63 cs = some y) : ∃ key : List UInt8, key.length = 32 ∧ cs = key.map b8 := by
  obtain ⟨xs, m, _, _, _, hxl, hx⟩ := DataW.trod_array Tryd.underlying63 h
  rw [show Tryd.prog.cellsOf 5 = 1 by kernel_rfl] at hx
  have each : ∀ i, i < 32 → ∃ c : UInt8, cs[i]? = some (b8 c) := by
    intro i hi
    have h1 := hx i hi
    rw [Nat.mul_one, List.getElem?_eq_getElem (by omega)] at h1
    obtain ⟨z, hz, _, hw⟩ := DataW.trod_int Tryd.underlying5 h1
    have hb := u8_wf hw
    have h2 : cs[i]? = some (.int .u8 z) := by
      have h3 : (cs.drop i).take 1 = [cs[i]'(by omega)] := by rw [List.drop_eq_getElem_cons (by omega)]; rfl
      rw [h3] at hz
      rw [List.getElem?_eq_getElem (by omega)]
      simpa using hz
    exact ⟨UInt8.ofNat z.toNat, by rw [h2]; congr 2; simp; omega⟩
  have build : ∀ m, m ≤ 32 → ∃ key : List UInt8, key.length = m ∧ cs.take m = key.map b8 := by
    intro m
    induction m with
    | zero => intro _; exact ⟨[], rfl, by simp⟩
    | succ m ih =>
      intro hm
      obtain ⟨key, h1, h2⟩ := ih (by omega)
      obtain ⟨c, hc⟩ := each m (by omega)
      refine ⟨key ++ [c], by simp [h1], ?_⟩
      rw [List.take_add_one, h2, hc]
      simp
  obtain ⟨key, h1, h2⟩ := build 32 (by omega)
  rw [List.take_of_length_le (by omega)] at h2
  exact ⟨key, h1, h2⟩
theorem int_of {t : TypeId} (ht : Tryd.prog.underlying t = some (.int .i64)) {cs : List Value} {fuel : Nat} {y : DataW H × List MemPlace} (h : DataW.trod enc Tryd.prog W 0 (fun _ => true) true fuel t cs = some y) : ∃ z : Int, cs = [.int .i64 z] ∧ in64 z := by
  obtain ⟨z, hz, _, hw⟩ := DataW.trod_int ht h
  exact ⟨z, hz, i64_wf hw⟩
theorem str_of_cells {cs : List Value} {fuel : Nat} {y : DataW H × List MemPlace} (h : DataW.trod enc Tryd.prog W 0 (fun _ => true) true fuel 9 cs = some y) : ∃ l : List UInt8, cs = [strV l] ∧ l.length ≤ maxLen := by
  obtain ⟨s, e, _, hs⟩ := DataW.trod_string Tryd.underlying9 h
  exact ⟨s.data.toList, by unfold strV; rw [str_of]; exact e, by have : s.data.toList.length = s.size := Array.length_toList; omega⟩
theorem prt_of {cs : List Value} {fuel : Nat} {y : DataW H × List MemPlace} (hl : cs.length = 33) (h : DataW.trod enc Tryd.prog W 0 (fun _ => true) true fuel 65 cs = some y) : ∃ x : Prt, cs = prtC x ∧ PrtOk x := by
  obtain ⟨xs, n, _, _, _, hlen, hfl⟩ := DataW.trod_struct Tryd.underlying65 h
  have x6 : xs.length = 2 := by rw [hlen]; rfl
  match xs, x6 with
  | [y0, y1], _ =>
    have f0 : DataW.trod enc Tryd.prog W 0 (fun _ => true) true n 63 ((cs.drop 0).take (Tryd.prog.cellsOf 63)) = some y0 := hfl 0 _ rfl
    have f1 : DataW.trod enc Tryd.prog W 0 (fun _ => true) true n 3 ((cs.drop 32).take (Tryd.prog.cellsOf 3)) = some y1 := hfl 1 _ rfl
    have s1 : Tryd.prog.cellsOf 63 = 32 := by kernel_rfl
    rw [s1] at f0
    rw [cells_one 3 (by kernel_rfl)] at f1
    obtain ⟨id, hi, e0⟩ := bytes_of_id (by simp; omega) f0
    obtain ⟨sz, e1, h1⟩ := int_of Tryd.underlying3 f1
    refine ⟨⟨id, sz⟩, ?_, ⟨hi, h1⟩⟩
    have k : cs = (cs.drop 0).take 32 ++ (cs.drop 32).take 1 := by
      rw [List.drop_zero, List.take_of_length_le (l := cs.drop 32) (by simp; omega), List.take_append_drop]
    rw [k, e0, e1]
    rfl
theorem all_of {X : Type} {C : X → List Value} {K : X → Prop} {s : Nat} {t : TypeId} (hk : ∀ {x : List Value} {fuel : Nat} {y : DataW H × List MemPlace}, x.length = s → DataW.trod enc Tryd.prog W 0 (fun _ => true) true fuel t x = some y → ∃ r : X, x = C r ∧ K r)
    {xs : List (List Value)} (h : ∀ x ∈ xs, x.length = s ∧ ∃ fuel y, DataW.trod enc Tryd.prog W 0 (fun _ => true) true fuel t x = some y) :
    ∃ l : List X, l.length = xs.length ∧ xs = l.map C ∧ ∀ r ∈ l, K r := by
  induction xs with
  | nil => exact ⟨[], rfl, rfl, by simp⟩
  | cons x xs ih =>
    obtain ⟨l, h1, h2, h3⟩ := ih (fun y hy => h y (by simp [hy]))
    obtain ⟨hx, fuel, y, hy⟩ := h x (by simp)
    obtain ⟨r, e1, e2⟩ := hk hx hy
    exact ⟨r :: l, by simp [h1], by rw [e1, h2]; rfl, fun q hq => (List.mem_cons.1 hq).elim (fun h => h ▸ e2) (h3 q)⟩
theorem item_of {cs : List Value} {fuel : Nat} {y : DataW H × List MemPlace} (hl : cs.length = 7) (h : DataW.trod enc Tryd.prog W 0 (fun _ => true) true fuel 24 cs = some y) : ∃ x : Itm, ItAt W cs x := by
  obtain ⟨xs, n, _, _, _, hlen, hfl⟩ := DataW.trod_struct Tryd.underlying24 h
  have x6 : xs.length = 7 := by rw [hlen]; rfl
  match xs, x6 with
  | [y0, y1, y2, y3, y4, y5, y6], _ =>
    have f0 : DataW.trod enc Tryd.prog W 0 (fun _ => true) true n 9 ((cs.drop 0).take (Tryd.prog.cellsOf 9)) = some y0 := hfl 0 _ rfl
    have f1 : DataW.trod enc Tryd.prog W 0 (fun _ => true) true n 3 ((cs.drop 1).take (Tryd.prog.cellsOf 3)) = some y1 := hfl 1 _ rfl
    have f2 : DataW.trod enc Tryd.prog W 0 (fun _ => true) true n 3 ((cs.drop 2).take (Tryd.prog.cellsOf 3)) = some y2 := hfl 2 _ rfl
    have f3 : DataW.trod enc Tryd.prog W 0 (fun _ => true) true n 2 ((cs.drop 3).take (Tryd.prog.cellsOf 2)) = some y3 := hfl 3 _ rfl
    have f4 : DataW.trod enc Tryd.prog W 0 (fun _ => true) true n 9 ((cs.drop 4).take (Tryd.prog.cellsOf 9)) = some y4 := hfl 4 _ rfl
    have f5 : DataW.trod enc Tryd.prog W 0 (fun _ => true) true n 3 ((cs.drop 5).take (Tryd.prog.cellsOf 3)) = some y5 := hfl 5 _ rfl
    have f6 : DataW.trod enc Tryd.prog W 0 (fun _ => true) true n 22 ((cs.drop 6).take (Tryd.prog.cellsOf 22)) = some y6 := hfl 6 _ rfl
    rw [cells_one 9 (by kernel_rfl)] at f0 f4
    rw [cells_one 2 (by kernel_rfl)] at f3
    rw [cells_one 3 (by kernel_rfl)] at f1 f2 f5
    rw [cells_one 22 (by kernel_rfl)] at f6
    obtain ⟨pt, e0, h0⟩ := str_of_cells f0
    obtain ⟨k, e1, h1⟩ := int_of Tryd.underlying3 f1
    obtain ⟨md, e2, h2⟩ := int_of Tryd.underlying3 f2
    obtain ⟨tm, e3, h3⟩ := int_of Tryd.underlying2 f3
    obtain ⟨tg, e4, h4⟩ := str_of_cells f4
    obtain ⟨sz, e5, h5⟩ := int_of Tryd.underlying3 f5
    obtain ⟨a, m, c, css, e6, g1, g2, g3, g4, g5⟩ := open_rows_cells (s := 33) Tryd.underlying22 (by kernel_rfl) f6
    obtain ⟨l, k1, k2, k3⟩ := all_of (C := prtC) (K := PrtOk) (s := 33) (t := 65) prt_of (fun x hx => by
      obtain ⟨p1, p2, p3, _, p4⟩ := g5 x hx
      exact ⟨p1, p2, p3, p4⟩)
    refine ⟨⟨pt, k, md, tm, tg, sz, l⟩, a, c, ?_, ?_, g3, by rw [← k2]; exact g4, ⟨h1, h2, h3, h5, h0, h4, k3⟩⟩
    · have d0 := drop_one e0
      have d1 := drop_one e1
      have d2 := drop_one e2
      have d3 := drop_one e3
      have d4 := drop_one e4
      have d5 := drop_one e5
      have d6 := drop_one e6
      match cs, hl with
      | [u0, u1, u2, u3, u4, u5, u6], _ =>
        simp at d0 d1 d2 d3 d4 d5 d6
        rw [d0, d1, d2, d3, d4, d5, d6]
        unfold itC
        simp only
        rw [k1, g1]
    · show l.length ≤ c
      omega
theorem open_item {base : Nat} {v : Value} {d : DataW H} {p : List MemPlace} (o : Value.okWide Tryd.prog W .any base 24 v) (h : DataW.Trod enc Tryd.prog W 0 (fun _ => true) true 24 v d p) : ∃ cs x, v = .agg (List.toArray cs) ∧ ItAt W cs x := by
  obtain ⟨cs, rfl, _⟩ := okWide_struct Tryd.underlying24 o
  obtain ⟨fuel, hf⟩ := h
  have hl : cs.toList.length = 7 := by
    obtain ⟨xs, n, _, _, hl, _, _⟩ := DataW.trod_struct Tryd.underlying24 hf
    rw [show Tryd.prog.cellsOf 24 = 7 by kernel_rfl] at hl
    exact hl
  obtain ⟨x, hx⟩ := item_of hl hf
  exact ⟨cs.toList, x, rfl, hx⟩
end
end Go.Proofs.YtpchogicdnfggaaDoor
set_option maxRecDepth 20000
namespace Go.Proofs.YtpchogicdnfggaaDoor
open Go.RowKit Go.Hd Go.ChangeShapes Go.WideShapes Go.ChangeAt
theorem ivalue_at {cs : List Value} {x : Itm} {w : World} (h : ItAt w cs x) (hl : x.parts.length ≤ 1000) (hp : x.path.length ≤ 1000000) : Calls Tryd.prog 10 #[.agg (List.toArray cs)] w fun e w' => ∃ cs, e = .returned (.agg (List.toArray cs)) ∧ VAtP (fun b => w.heap.size ≤ b) w' cs (itV x) ∧ Below w.heap.size w w' := by
  obtain ⟨a, c, rfl, _, _, hr, hok⟩ := h
  exact ivalue_any hr hok hl hp
attribute [local go_sem ↓] h_ldV h_stV h_alV h_ldIT h_stIT h_alIT
attribute [local go_sem] r_ldV r_stV r_alV r_ldIT r_stIT r_alIT
end Go.Proofs.YtpchogicdnfggaaDoor
set_option maxRecDepth 20000
namespace Go.Proofs.YtpchogicdnfggaaDoor
open Go.RowKit Go.Hd Go.ChangeShapes Go.WideShapes Go.ChangeAt
theorem fewL_sm {f : PV → Nat → PV × Nat} {P : PV → Prop} {m0 : Nat} (hf : ∀ x m, 0 < m → m ≤ m0 → P (f x m).1) (hle : ∀ x m, (f x m).2 ≤ m) : ∀ (l : List PV) (m : Nat), m ≤ m0 → ∀ x ∈ (fewL f l m).1, P x
  | [], m, _ => by intro x hx; cases hx
  | y :: l, m, h => by
    intro x hx
    unfold fewL at hx
    split at hx
    · rename_i h0
      rcases List.mem_cons.1 hx with rfl | hx
      · exact hf y m h0 h
      · exact fewL_sm hf hle l _ (Nat.le_trans (hle y m) h) x hx
    · cases hx
theorem fewF_sm : ∀ (d m : Nat) (v : PV), m ≤ d → 0 < m → Sm (fewF d v m).1
  | 0, m, v, h, h0 => by omega
  | d + 1, m, .mk k n b t ks l, h, h0 => by
    show Sm (PV.mk k n (b.take 700) (t.take 700) ((ks.take 40).map (·.take 100)) (fewL (fewF d) (l.take 40) (m - 1)).1)
    have hl := (fewL_le (fewF_le d) (l.take 40) (m - 1)).2
    refine .mk (by simp; omega) (by simp; omega) (by simp at hl; omega) ?_ (by simp; omega)
    exact fewL_sm (m0 := m - 1) (fun x q q0 q1 => fewF_sm d q x (by omega) q0) (fewF_le d) _ _ (Nat.le_refl _)
theorem small_sm (v : PV) : Sm (smallF v) := fewF_sm 60 60 v (Nat.le_refl _) (by decide)
attribute [local go_sem ↓] h_ldV h_stV h_alV h_ldIT h_stIT h_alIT
attribute [local go_sem] r_ldV r_stV r_alV r_ldIT r_stIT r_alIT
end Go.Proofs.YtpchogicdnfggaaDoor
set_option maxRecDepth 20000
namespace Go.Proofs.YtpchogicdnfggaaDoor
open Go.RowKit Go.Hd Go.ChangeShapes Go.WideShapes Go.ChangeAt
theorem sm_itV {x : Itm} (hp : x.path.length ≤ 65536) (ht : x.target.length ≤ 65536) (hl : x.parts.length ≤ 65536) (hi : ∀ p ∈ x.parts, p.id.length = 32) : Sm (itV x) := by
  have k := fun n => sm_plain 3 n [] (by simp)
  have t1 := sm_plain 5 0 x.path hp
  have t2 := sm_plain 5 0 x.target ht
  have c : Sm (pList (x.parts.map ptV)) := sm_list _ (by simpa using hl) (by
    intro y hy
    obtain ⟨p, hp, rfl⟩ := List.mem_map.1 hy
    refine sm_list _ (by simp) ?_
    intro z hz
    simp only [List.mem_cons, List.not_mem_nil, or_false] at hz
    rcases hz with rfl | rfl
    · exact sm_byt _ (by rw [hi p hp]; omega)
    · exact k _)
  unfold itV
  split
  · exact sm_zero
  · split
    · refine .mk (by simp) (by simp) (by simp) ?_ (by simp)
      intro y hy
      simp only [List.mem_cons, List.not_mem_nil, or_false] at hy
      rcases hy with rfl | rfl | rfl | rfl | rfl | rfl
      · exact c
      · exact k _
      · exact k _
      · exact t1
      · exact k _
      · exact k _
    · split
      · refine .mk (by simp) (by simp) (by simp) ?_ (by simp)
        intro y hy
        simp only [List.mem_cons, List.not_mem_nil, or_false] at hy
        rcases hy with rfl | rfl | rfl | rfl
        · exact k _
        · exact k _
        · exact t1
        · exact k _
      · refine .mk (by simp) (by simp) (by simp) ?_ (by simp)
        intro y hy
        simp only [List.mem_cons, List.not_mem_nil, or_false] at hy
        rcases hy with rfl | rfl | rfl | rfl | rfl
        · exact k _
        · exact t2
        · exact k _
        · exact t1
        · exact k _
attribute [local go_sem ↓] h_ldIT h_stIT h_alIT
attribute [local go_sem] r_ldIT r_stIT r_alIT
end Go.Proofs.YtpchogicdnfggaaDoor
set_option maxRecDepth 20000
namespace Go.Proofs.YtpchogicdnfggaaDoor
open Go.RowKit Go.Hd Go.ChangeShapes Go.WideShapes Go.ChangeAt
def zM : List Value := [.int .i64 7, .int .i64 0, .slice none 0 0, strV [], .slice none 0 0, .slice none 0 0]
theorem MB.new {base q : Nat} {w : World} (h : Blk w q 30 zM) (hq : base ≤ q) (hb : base ≤ w.heap.size) : MB base q w (.slice none 0 0) (.slice none 0 0) (.slice none 0 0) (.slice none 0 0) [] [] :=
  ⟨h, hq, hb, (by intro x hx; cases hx), World.ownsRow_nil _ _ _ _, VsAt.nil _ _ _, (fun e => by cases e), (fun e => by cases e), (fun b e => by cases e)⟩
/-- The state of the loop. -/
structure SI (W12 wr : World) (base q r : Nat) (K : Int) (ks : List (List UInt8)) (kk : List UInt8) (m ja j : Nat) (d : Bool) (kA lA kB lB : Value) (KA KB : List (List UInt8)) (VA VB : List PV) : Prop where
  tm : TM base q r wr kA lA kA lA KA VA kB lB kB lB KB VB
  la : KA.length = VA.length ∧ KA.length + (if m < ja then 1 else 0) = ja
  lb : KB.length = VB.length ∧ KB.length = j + (if d = true then 1 else 0)
  ka : Kk K KA VA
  kb : kk ≠ [107] → Kk K KB VB
  ne : ∀ i, i < j → ks[i]? ≠ some kk
  sa : ∀ v ∈ VA, Sm v
  sb : ∀ v ∈ VB, Sm v
  bel : Below base W12 wr
def SJ (W12 wr : World) (base q r : Nat) (K : Int) (ks : List (List UInt8)) (kk : List UInt8) (m ja j : Nat) (d : Bool) : Prop :=
  ∃ kA lA kB lB KA KB VA VB, SI W12 wr base q r K ks kk m ja j d kA lA kB lB KA KB VA VB
/-- The state behind the loop. -/
def SK (W12 wr : World) (base q r : Nat) (K : Int) (n : Nat) : Prop :=
  ∃ kA lA kB lB KA KB VA VB, TM base q r wr kA lA kA lA KA VA kB lB kB lB KB VB ∧ KA.length = VA.length ∧ KA.length + 1 = n ∧ KB.length = VB.length ∧ KB.length = n + 1 ∧ Kk K KA VA ∧ Kk K KB VB ∧ (∀ v ∈ VA, Sm v) ∧ (∀ v ∈ VB, Sm v) ∧ Below base W12 wr
theorem VAt.numV {w : World} {n : Int} (h : in64 n) : VAt w (numC n) (pNum n) :=
  .mk (k := 3) (n := n) (b := []) (t := []) (ks := []) (l := []) (ab := none) (ak := none) (al := none) (cb := 0) (ck := 0) (cl := 0) [] (by unfold in64; decide) h (Row.nil _ _) ⟨Nat.le_refl _, Nat.zero_le _⟩ (Nat.zero_le _) (Row.nil _ _) ⟨Nat.le_refl _, Nat.zero_le _⟩ (by intro x hx; cases hx) (Row.nil _ _) ⟨Nat.le_refl _, Nat.zero_le _⟩ rfl (by intro c hc; cases hc) (by intro i c v hc; simp at hc)
theorem open_text21 {H : Type} {enc : TypeId × Value → H} {P : Program} {t : TypeId} (ht : P.underlying t = some .string) {W : World} {base : Nat} {v : Value} {d : DataW H} {p : List MemPlace}
    (hval : Value.okWide P W .any base t v) (h : DataW.Trod enc P W 0 (fun _ => true) true t v d p) : ∃ l : List UInt8, v = .string (str l) ∧ l.length ≤ maxLen := by
  obtain ⟨s, rfl, _, _, hs⟩ := Go.ChangeMaps.open_string ht hval h
  exact ⟨s.data.toList, by rw [str_of], by have : s.data.toList.length = s.size := Array.length_toList; omega⟩
theorem infoStr2 : (Tryd.prog.info? 9).map (fun i => (i.zero, i.size)) = some (some (.string ByteArray.empty), 1) := by kernel_rfl
theorem few_smallX (x : Itm) : (cutI x).path.length ≤ 250 ∧ (cutI x).target.length ≤ 250 ∧ (cutI x).parts.length ≤ 70 := by unfold cutI; simp; omega
/-- What holds of the two cells of a map under construction until each is stored. -/
abbrev SS36 (W11 : World) (q : Nat) (kA lA : Value) (i1 i2 : Nat) (L : Array Bool) (w : World) : Prop :=
  (L.getD i1 false = false → CL w q 4 kA) ∧ (L.getD i2 false = false → CL w q 5 lA) ∧ Below W11.heap.size W11 w
theorem s36 {W11 w : World} {q : Nat} {kA lA : Value} (h4 : CL w q 4 kA) (h5 : CL w q 5 lA) (hb : Below W11.heap.size W11 w) (i1 i2 : Nat) (L : Array Bool) : SS36 W11 q kA lA i1 i2 L w :=
  ⟨fun _ => h4, fun _ => h5, hb⟩
section
variable {P : Program} {ops : Array Oper} {Q : Exit → Act → World → Prop} {md : Region.Mode} {S : Array Bool → World → Prop} {oi ok : Oper} {fuel : Nat} {listed : Array Bool} {a : Act} {w : World}
theorem tk1 (i : Nat) (A : World → Prop) (v : Value) (a' : Act) (hSm : ∀ L w w', S L w → Mo w w' → S L w') (hSi : ∀ L w, S (L.setIfInBounds i true) w ↔ S L w) (hSA : ∀ L w, S L w → A w)
    (hi : ops[i]? = some oi) (hb : (Region.noSelect ops && Region.free md ops listed i && (Region.ready md ops listed).contains i) = true)
    (hQ : ∀ c a w, Q (.panic c) (a.put oi.dst v) w → Q (.panic c) a w) (hS : S listed w) (hy : Tame P ops A oi v a) (ha : a.put oi.dst v = a')
    (h : wpAnyU P md ops Q S fuel (listed.setIfInBounds i true) a' w) : wpAnyU P md ops Q S (fuel + 1) listed a w := by
  rw [Bool.and_eq_true, Bool.and_eq_true] at hb
  exact wpAnyU_take hSm hSi hSA hi hb.1.1 hb.1.2 hb.2 hQ hS hy ha h
theorem tk0 (i : Nat) (v : Value) (a' : Act) (hSm : ∀ L w w', S L w → Mo w w' → S L w') (hSi : ∀ L w, S (L.setIfInBounds i true) w ↔ S L w)
    (hi : ops[i]? = some oi) (hb : (Region.noSelect ops && Region.free md ops listed i && (Region.ready md ops listed).contains i) = true)
    (hQ : ∀ c a w, Q (.panic c) (a.put oi.dst v) w → Q (.panic c) a w) (hS : S listed w) (hy : Tame P ops (fun _ => True) oi v a) (ha : a.put oi.dst v = a')
    (h : wpAnyU P md ops Q S fuel (listed.setIfInBounds i true) a' w) : wpAnyU P md ops Q S (fuel + 1) listed a w :=
  tk1 i (fun _ => True) v a' hSm hSi (fun _ _ _ => trivial) hi hb hQ hS hy ha h
theorem tk2 (i k : Nat) (A : World → Prop) (v : Value) (a' : Act) (hSm : ∀ L w w', S L w → Mo w w' → S L w') (hSi : ∀ L w, S (L.setIfInBounds i true) w ↔ S L w) (hSA : ∀ L w, S L w → L.getD k false = false → A w)
    (hi : ops[i]? = some oi) (hk : ops[k]? = some ok)
    (hb : (Region.noSelect ops && Region.free md ops listed i && (Region.ready md ops listed).contains i && (ok.after.any fun e => Region.binds md e && e.on == i) && !listed.getD k false) = true)
    (hQ : ∀ c a w, Q (.panic c) (a.put oi.dst v) w → Q (.panic c) a w) (hS : S listed w) (hy : Tame P ops A oi v a) (ha : a.put oi.dst v = a')
    (h : wpAnyU P md ops Q S fuel (listed.setIfInBounds i true) a' w) : wpAnyU P md ops Q S (fuel + 1) listed a w := by
  simp only [Bool.and_eq_true, Bool.not_eq_true'] at hb
  exact wpAnyU_takeK k hSm hSi hSA hi hk hb.1.2 hb.2 hb.1.1.1.1 hb.1.1.1.2 hb.1.1.2 hQ hS hy ha h
end
end Go.Proofs.YtpchogicdnfggaaDoor
