/- Joined: what one statement of this layer stands on, part 15 of 15; nothing is assumed. -/
import Derived.Deep.CutBlock
import Derived.Deep.DeepCutAuto
import Derived.Deep.RegionHeld3
import Derived.Deep.Strs
import Derived.Test.YtpchogicdnfggaaDoorKV6
import Derived.Test.YtpchogicdnfggaaDoorKV7
import Derived.Test.YtpchogicdnfggaaDoorKV11
import Derived.Test.YtpchogicdnfggaaDoorKV12
import Derived.Test.YtpchogicdnfggaaDoorKV14
set_option maxRecDepth 20000
namespace Go.Proofs.YtpchogicdnfggaaDoor
open Go.ChangeShapes Go.WideShapes Go.ChangeAt Go.RowKit Go.Hd
section
variable {H : Type} {enc : TypeId × Value → H} {W : World}
/-- The cells of an array of bytes. -/
theorem bytes_of_id {cs : List Value} {fuel : Nat} {y : DataW H × List MemPlace} (hl : cs.length = 32) (h : DataW.trod enc Tryd.prog W 0 (fun _ => true) true fuel 63 cs = some y) : ∃ key : List UInt8, key.length = 32 ∧ cs = key.map b8 := by
  obtain ⟨xs, m, _, _, _, hxl, hx⟩ := DataW.trod_array Tryd.underlying63 h
  rw [show Tryd.prog.cellsOf 5 = 1 by kernel_rfl] at hx
  have each : ∀ i, i < 32 → ∃ c : UInt8, cs[i]? = some (b8 c) := by
    intro i hi
    have h1 := hx i hi
    rw [Nat.mul_one, List.getElem?_eq_getElem (by omega)] at h1
    obtain ⟨z, hz, _, hw⟩ := DataW.trod_int Tryd.underlying5 h1
    have hb := u8_wf hw
    have h2 : cs[i]? = some (.int .u8 z) := by
      have h3 : (cs.drop i).take 1 = [cs[i]'(by omega)] := by rw [List.drop_eq_getElem_cons (by omega)]; rfl
      rw [h3] at hz
      rw [List.getElem?_eq_getElem (by omega)]
      simpa using hz
    exact ⟨UInt8.ofNat z.toNat, by rw [h2]; congr 2; simp; omega⟩
  have build : ∀ m, m ≤ 32 → ∃ key : List UInt8, key.length = m ∧ cs.take m = key.map b8 := by
    intro m
    induction m with
    | zero => intro _; exact ⟨[], rfl, by simp⟩
    | succ m ih =>
      intro hm
      obtain ⟨key, h1, h2⟩ := ih (by omega)
      obtain ⟨c, hc⟩ := each m (by omega)
      refine ⟨key ++ [c], by simp [h1], ?_⟩
      rw [List.take_add_one, h2, hc]
      simp
  obtain ⟨key, h1, h2⟩ := build 32 (by omega)
  rw [List.take_of_length_le (by omega)] at h2
  exact ⟨key, h1, h2⟩
theorem int_of {t : TypeId} (ht : Tryd.prog.underlying t = some (.int .i64)) {cs : List Value} {fuel : Nat} {y : DataW H × List MemPlace} (h : DataW.trod enc Tryd.prog W 0 (fun _ => true) true fuel t cs = some y) : ∃ z : Int, cs = [.int .i64 z] ∧ in64 z := by
  obtain ⟨z, hz, _, hw⟩ := DataW.trod_int ht h
  exact ⟨z, hz, i64_wf hw⟩
theorem str_of_cells {cs : List Value} {fuel : Nat} {y : DataW H × List MemPlace} (h : DataW.trod enc Tryd.prog W 0 (fun _ => true) true fuel 9 cs = some y) : ∃ l : List UInt8, cs = [strV l] ∧ l.length ≤ maxLen := by
  obtain ⟨s, e, _, hs⟩ := DataW.trod_string Tryd.underlying9 h
  exact ⟨s.data.toList, by unfold strV; rw [str_of]; exact e, by have : s.data.toList.length = s.size := Array.length_toList; omega⟩
theorem prt_of {cs : List Value} {fuel : Nat} {y : DataW H × List MemPlace} (hl : cs.length = 33) (h : DataW.trod enc Tryd.prog W 0 (fun _ => true) true fuel 65 cs = some y) : ∃ x : Prt, cs = prtC x ∧ PrtOk x := by
  obtain ⟨xs, n, _, _, _, hlen, hfl⟩ := DataW.trod_struct Tryd.underlying65 h
  have x6 : xs.length = 2 := by rw [hlen]; rfl
  match xs, x6 with
  | [y0, y1], _ =>
    have f0 : DataW.trod enc Tryd.prog W 0 (fun _ => true) true n 63 ((cs.drop 0).take (Tryd.prog.cellsOf 63)) = some y0 := hfl 0 _ rfl
    have f1 : DataW.trod enc Tryd.prog W 0 (fun _ => true) true n 3 ((cs.drop 32).take (Tryd.prog.cellsOf 3)) = some y1 := hfl 1 _ rfl
    have s1 : Tryd.prog.cellsOf 63 = 32 := by kernel_rfl
    rw [s1] at f0
    rw [cells_one 3 (by kernel_rfl)] at f1
    obtain ⟨id, hi, e0⟩ := bytes_of_id (by simp; omega) f0
    obtain ⟨sz, e1, h1⟩ := int_of Tryd.underlying3 f1
    refine ⟨⟨id, sz⟩, ?_, ⟨hi, h1⟩⟩
    have k : cs = (cs.drop 0).take 32 ++ (cs.drop 32).take 1 := by
      rw [List.drop_zero, List.take_of_length_le (l := cs.drop 32) (by simp; omega), List.take_append_drop]
    rw [k, e0, e1]
    rfl
theorem all_of {X : Type} {C : X → List Value} {K : X → Prop} {s : Nat} {t : TypeId} (hk : ∀ {x : List Value} {fuel : Nat} {y : DataW H × List MemPlace}, x.length = s → DataW.trod enc Tryd.prog W 0 (fun _ => true) true fuel t x = some y → ∃ r : X, x = C r ∧ K r)
    {xs : List (List Value)} (h : ∀ x ∈ xs, x.length = s ∧ ∃ fuel y, DataW.trod enc Tryd.prog W 0 (fun _ => true) true fuel t x = some y) :
    ∃ l : List X, l.length = xs.length ∧ xs = l.map C ∧ ∀ r ∈ l, K r := by
  induction xs with
  | nil => exact ⟨[], rfl, rfl, by simp⟩
  | cons x xs ih =>
    obtain ⟨l, h1, h2, h3⟩ := ih (fun y hy => h y (by simp [hy]))
    obtain ⟨hx, fuel, y, hy⟩ := h x (by simp)
    obtain ⟨r, e1, e2⟩ := hk hx hy
    exact ⟨r :: l, by simp [h1], by rw [e1, h2]; rfl, fun q hq => (List.mem_cons.1 hq).elim (fun h => h ▸ e2) (h3 q)⟩
theorem item_of {cs : List Value} {fuel : Nat} {y : DataW H × List MemPlace} (hl : cs.length = 7) (h : DataW.trod enc Tryd.prog W 0 (fun _ => true) true fuel 24 cs = some y) : ∃ x : Itm, ItAt W cs x := by
  obtain ⟨xs, n, _, _, _, hlen, hfl⟩ := DataW.trod_struct Tryd.underlying24 h
  have x6 : xs.length = 7 := by rw [hlen]; rfl
  match xs, x6 with
  | [y0, y1, y2, y3, y4, y5, y6], _ =>
    have f0 : DataW.trod enc Tryd.prog W 0 (fun _ => true) true n 9 ((cs.drop 0).take (Tryd.prog.cellsOf 9)) = some y0 := hfl 0 _ rfl
    have f1 : DataW.trod enc Tryd.prog W 0 (fun _ => true) true n 3 ((cs.drop 1).take (Tryd.prog.cellsOf 3)) = some y1 := hfl 1 _ rfl
    have f2 : DataW.trod enc Tryd.prog W 0 (fun _ => true) true n 3 ((cs.drop 2).take (Tryd.prog.cellsOf 3)) = some y2 := hfl 2 _ rfl
    have f3 : DataW.trod enc Tryd.prog W 0 (fun _ => true) true n 2 ((cs.drop 3).take (Tryd.prog.cellsOf 2)) = some y3 := hfl 3 _ rfl
    have f4 : DataW.trod enc Tryd.prog W 0 (fun _ => true) true n 9 ((cs.drop 4).take (Tryd.prog.cellsOf 9)) = some y4 := hfl 4 _ rfl
    have f5 : DataW.trod enc Tryd.prog W 0 (fun _ => true) true n 3 ((cs.drop 5).take (Tryd.prog.cellsOf 3)) = some y5 := hfl 5 _ rfl
    have f6 : DataW.trod enc Tryd.prog W 0 (fun _ => true) true n 22 ((cs.drop 6).take (Tryd.prog.cellsOf 22)) = some y6 := hfl 6 _ rfl
    rw [cells_one 9 (by kernel_rfl)] at f0 f4
    rw [cells_one 2 (by kernel_rfl)] at f3
    rw [cells_one 3 (by kernel_rfl)] at f1 f2 f5
    rw [cells_one 22 (by kernel_rfl)] at f6
    obtain ⟨pt, e0, h0⟩ := str_of_cells f0
    obtain ⟨k, e1, h1⟩ := int_of Tryd.underlying3 f1
    obtain ⟨md, e2, h2⟩ := int_of Tryd.underlying3 f2
    obtain ⟨tm, e3, h3⟩ := int_of Tryd.underlying2 f3
    obtain ⟨tg, e4, h4⟩ := str_of_cells f4
    obtain ⟨sz, e5, h5⟩ := int_of Tryd.underlying3 f5
    obtain ⟨a, m, c, css, e6, g1, g2, g3, g4, g5⟩ := open_rows_cells (s := 33) Tryd.underlying22 (by kernel_rfl) f6
    obtain ⟨l, k1, k2, k3⟩ := all_of (C := prtC) (K := PrtOk) (s := 33) (t := 65) prt_of (fun x hx => by
      obtain ⟨p1, p2, p3, _, p4⟩ := g5 x hx
      exact ⟨p1, p2, p3, p4⟩)
    refine ⟨⟨pt, k, md, tm, tg, sz, l⟩, a, c, ?_, ?_, g3, by rw [← k2]; exact g4, ⟨h1, h2, h3, h5, h0, h4, k3⟩⟩
    · have d0 := drop_one e0
      have d1 := drop_one e1
      have d2 := drop_one e2
      have d3 := drop_one e3
      have d4 := drop_one e4
      have d5 := drop_one e5
      have d6 := drop_one e6
      match cs, hl with
      | [u0, u1, u2, u3, u4, u5, u6], _ =>
        simp at d0 d1 d2 d3 d4 d5 d6
        rw [d0, d1, d2, d3, d4, d5, d6]
        unfold itC
        simp only
        rw [k1, g1]
    · show l.length ≤ c
      omega
theorem open_item {base : Nat} {v : Value} {d : DataW H} {p : List MemPlace} (o : Value.okWide Tryd.prog W .any base 24 v) (h : DataW.Trod enc Tryd.prog W 0 (fun _ => true) true 24 v d p) : ∃ cs x, v = .agg (List.toArray cs) ∧ ItAt W cs x := by
  obtain ⟨cs, rfl, _⟩ := okWide_struct Tryd.underlying24 o
  obtain ⟨fuel, hf⟩ := h
  have hl : cs.toList.length = 7 := by
    obtain ⟨xs, n, _, _, hl, _, _⟩ := DataW.trod_struct Tryd.underlying24 hf
    rw [show Tryd.prog.cellsOf 24 = 7 by kernel_rfl] at hl
    exact hl
  obtain ⟨x, hx⟩ := item_of hl hf
  exact ⟨cs.toList, x, rfl, hx⟩
theorem open_items {base : Nat} {v : Value} {d : DataW H} {p : List MemPlace} (o : Value.okWide Tryd.prog W .any base 39 v) (h : DataW.Trod enc Tryd.prog W 0 (fun _ => true) true 39 v d p) :
    ∃ (a : Option Addr) (n c : Nat) (l : List Itm), v = .slice a n c ∧ n = l.length ∧ n ≤ c ∧ c ≤ maxLen ∧ ItsAt W a l := by
  obtain ⟨a, n, c, xs, rfl, hn, hnc, hcm, hr, hx⟩ := open_rows (s := 7) Tryd.underlying39 (by kernel_rfl) o h
  have hk : ∃ l : List Itm, l.length = xs.length ∧ ∀ (i : Nat) (c : List Value) (x : Itm), xs[i]? = some c → l[i]? = some x → ItAt W c x := by
    clear hr hn
    induction xs with
    | nil => exact ⟨[], rfl, by simp⟩
    | cons y xs ih =>
      obtain ⟨l, g1, g2⟩ := ih (fun z hz => hx z (by simp [hz]))
      obtain ⟨hy, fuel, z, hz⟩ := hx y (by simp)
      obtain ⟨x, hxx⟩ := item_of hy hz
      refine ⟨x :: l, by simp [g1], fun i c w hc hw => ?_⟩
      cases i with
      | zero => simp at hc hw; subst hc hw; exact hxx
      | succ i => exact g2 i c w (by simpa using hc) (by simpa using hw)
  obtain ⟨l, h1, h2⟩ := hk
  exact ⟨a, n, c, l, rfl, by omega, hnc, hcm, xs, h1.symm, hr, fun c hc => (hx c hc).1, h2⟩
end
end Go.Proofs.YtpchogicdnfggaaDoor
set_option maxRecDepth 20000
namespace Go.Proofs.YtpchogicdnfggaaDoor
open Go.RowKit Go.Hd Go.ChangeShapes Go.WideShapes Go.ChangeAt
theorem cutI_idem (x : Itm) : cutI (cutI x) = cutI x := by
  unfold cutI
  simp [List.take_take]
theorem cutI_small (x : Itm) : (cutI x).path.length ≤ 250 ∧ (cutI x).parts.length ≤ 70 := by unfold cutI; simp; omega
/-- One call's contract on an item that stands in memory. -/
theorem icheck_at {cs : List Value} {x : Itm} {w : World} (h : ItAt w cs x) (hl : x.parts.length ≤ 1000) (hp : x.path.length ≤ 1000000) : Calls Tryd.prog 11 #[.agg (List.toArray cs)] w fun e w' => e = .returned (.int .i64 (checkI x)) ∧ Below w.heap.size w w' := by
  obtain ⟨a, c, rfl, _, _, hr, hok⟩ := h
  exact icheck_any hr hok (by omega) hp
theorem rcheck_at {cs : List Value} {x : Itm} {w : World} (h : ItAt w cs x) (hl : x.parts.length ≤ 1000) (hp : x.path.length ≤ 1000000) : Calls Tryd.prog 12 #[.agg (List.toArray cs)] w fun e w' => e = .returned (.int .i64 (checkI x)) ∧ Below w.heap.size w w' := by
  obtain ⟨a, c, rfl, _, _, hr, hok⟩ := h
  exact rcheckI_any hr hok (by omega) hp
theorem ivalue_at {cs : List Value} {x : Itm} {w : World} (h : ItAt w cs x) (hl : x.parts.length ≤ 1000) (hp : x.path.length ≤ 1000000) : Calls Tryd.prog 10 #[.agg (List.toArray cs)] w fun e w' => ∃ cs, e = .returned (.agg (List.toArray cs)) ∧ VAtP (fun b => w.heap.size ≤ b) w' cs (itV x) ∧ Below w.heap.size w w' := by
  obtain ⟨a, c, rfl, _, _, hr, hok⟩ := h
  exact ivalue_any hr hok hl hp
theorem rvalue_at {cs : List Value} {x : Itm} {w : World} (h : ItAt w cs x) (hl : x.parts.length ≤ 1000) (hp : x.path.length ≤ 1000000) : Calls Tryd.prog 14 #[.agg (List.toArray cs)] w fun e w' => ∃ cs, e = .returned (.agg (List.toArray cs)) ∧ VAtP (fun b => w.heap.size ≤ b) w' cs (itV x) ∧ Below w.heap.size w w' := by
  obtain ⟨a, c, rfl, _, _, hr, hok⟩ := h
  exact rvalueI_any hr hok hl hp
attribute [local go_sem ↓] h_ldV h_stV h_alV h_ldIT h_stIT h_alIT
attribute [local go_sem] r_ldV r_stV r_alV r_ldIT r_stIT r_alIT
set_option maxHeartbeats 4000000 in
theorem ivalues_law {cs : List Value} {x : Itm} {W : World} (h : ItAt W cs x) : Calls Tryd.prog 3 #[.agg (List.toArray cs)] W fun e W' => e = .returned (.bool true) ∧ Below W.heap.size W W' := by
  have zs := zV_size
  have zi := zIT_size
  have hY := Lib.hid (cutI_idem x)
  obtain ⟨hY1, hY2⟩ := cutI_small x
  have hb0 : Below W.heap.size W (W.alloc (.cells (List.toArray cs) 24)) := (Below.refl _ _).alloc (Nat.le_refl _) _
  have hB0 : Blk (W.alloc (.cells (List.toArray cs) 24)) W.heap.size 24 cs := Blk.new _ _ _
  have c7 : (List.toArray cs).size = 7 := by simpa using h.len
  have q0 := ldOp_all (P := Tryd.prog) (ty := 24) hB0 Tryd.underlying24 rfl (by rw [h.len]; exact sizeIT)
  have hcut := rcut_any (h.below hb0)
  have hlv := fun w' => lives21_any w'
  have hcl := h.len
  clear h
  go_enter Tryd.func3, Tryd.ntmps3
  go_wp2_with fail
  refine hcut.mono ?_
  rintro e w1 ⟨ds, rfl, hD, hb1⟩
  have hB1 := hB0.below hb1
  have hs1 := hb1.size
  have hbW1 := hb0.trans (hb1.mono (by simp))
  have d7 := hD.at.len
  have hst := st_rowI hB1 hcl (List.toArray ds) (by simpa using d7) (all_oneCell_toArray hD.at.one)
  have hB2 := setRow_blk hB1 ds
  have hg2 := setRow_gr w1 W.heap.size (List.toArray ds)
  have hbW2 : Below W.heap.size W (w1.setRow W.heap.size (List.toArray ds)) := Below.grown hbW1 hg2 hbW1.size (fun k hk => by cases hk; exact Nat.le_refl _)
  have hD2 := (hD.kept hg2 (fun b hb e => by simp at e; simp at hb; omega)).at
  generalize hw2 : w1.setRow W.heap.size (List.toArray ds) = w2 at *
  have q1 := ldOp_all (P := Tryd.prog) (ty := 24) hB2 Tryd.underlying24 rfl (by rw [d7]; exact sizeIT)
  have hsW := hbW2.size
  clear hD hB1 hg2 hB0 hb0 hb1 hcut
  go_wp2_with fail
  refine (rcut_any hD2).mono ?_
  rintro e w3 ⟨es, rfl, hE, hb3⟩
  have hE := hE.at
  rw [hY.out] at hE
  have e7 : (List.toArray es).size = 7 := by simpa using hE.len
  have eo : OneC (List.toArray es) := all_oneCell_toArray hE.one
  have hD3 := hD2.below hb3
  have hB3 := hB2.below hb3
  have hbW3 := hbW2.trans (hb3.mono hsW)
  have hbA : Below w3.heap.size w3 (w3.alloc (.cells (List.toArray es) 24)) := (Below.refl _ _).alloc (Nat.le_refl _) _
  have hBA : Blk (w3.alloc (.cells (List.toArray es) 24)) w3.heap.size 24 es := Blk.new _ _ _
  have hbW4 := hbW3.trans (hbA.mono hbW3.size)
  have hB4 := hB3.below hbA
  have hD4 := hD3.below hbA
  have hE4 := hE.below hbA
  clear hD2 hB2 hb3 hD3 hB3 hE hbA hw2 hst q0
  generalize cutI x = Y at *
  clear q1
  go_upto_region 3 with (fail)
  generalize hw4 : w3.alloc (.cells (List.toArray es) 24) = w4 at *
  have q2 := ldOp_all (P := Tryd.prog) (ty := 24) hBA Tryd.underlying24 rfl (by rw [show es.length = 7 by simpa using e7]; exact sizeIT)
  go_wp2_with fail
  refine (ivalue_at hE4 (by omega) (by omega)).mono ?_
  rintro e w5 ⟨cv, rfl, hV5, hb5⟩
  have hV5 := hV5.at
  have v6 : (List.toArray cv).size = 6 := by simpa using hV5.len
  have vo : OneC (List.toArray cv) := all_oneCell_toArray hV5.one
  have hbA : Below w5.heap.size w5 (w5.alloc (.cells (List.toArray cv) 30)) := (Below.refl _ _).alloc (Nat.le_refl _) _
  have hVB : Blk (w5.alloc (.cells (List.toArray cv) 30)) w5.heap.size 30 cv := Blk.new _ _ _
  have hb56 := Gr.trans hb5 hbA
  have hbW6 := hbW4.trans (hb56.mono hbW4.size)
  have hB6 := hB4.below hb56
  have hA6 := hBA.below hb56
  have hD6 := hD4.below hb56
  have hE6 := hE4.below hb56
  have hV6 := hV5.keep hbA
  clear hbA hb5 hb56 hbW4 hB4 hBA hD4 hE4 hV5 q2 hw4
  go_upto_region 4 with (fail)
  generalize w5.alloc (.cells (List.toArray cv) 30) = w6 at *
  have hHB := Lib.hid (fun w' (hb : Below w6.heap.size w6 w') => hbW6.trans (hb.mono hbW6.size))
  have hI := fun w' (hb : Below w6.heap.size w6 w') => icheck_at (hE6.below hb) (by omega) (by omega)
  have hR := fun w' (hb : Below w6.heap.size w6 w') => rcheck_at (hD6.below hb) (by omega) (by omega)
  have hRV := fun w' (hb : Below w6.heap.size w6 w') => rvalue_at (hD6.below hb) (by omega) (by omega)
  have hSI := fun w' (hb : Below w6.heap.size w6 w') => sameI_any (hE6.below hb) (hD6.below hb) (by omega)
  have hVS := fun (cs2 : List Value) w' (hb : Below w6.heap.size w6 w') (h2 : VAt w' cs2 (itV Y)) => by
    have := rsame_any (hV6.keep hb) cs2 (itV Y) w' h2 (Below.refl _ _)
    rw [sameV_refl] at this
    exact this
  have hl1 := fun w' (hb : Below w6.heap.size w6 w') => ldOp_all (P := Tryd.prog) (ty := 24) (hB6.below hb) Tryd.underlying24 rfl (by rw [d7]; exact sizeIT)
  have hl3 := fun w' (hb : Below w6.heap.size w6 w') => ldOp_all (P := Tryd.prog) (ty := 24) (hA6.below hb) Tryd.underlying24 rfl (by rw [show es.length = 7 by simpa using e7]; exact sizeIT)
  have hl4 := fun w' (hb : Below w6.heap.size w6 w') => ldOp_all (P := Tryd.prog) (ty := 30) (hVB.below hb) Tryd.underlying30 rfl (by rw [show cv.length = 6 by simpa using v6]; exact sizeV)
  have hcur : Below w6.heap.size w6 w6.drew := Gr.drewN w6 1
  have s1 := hl1 _ hcur
  have s3 := hl3 _ hcur
  have s4 := hl4 _ hcur
  clear hD6 hE6 hV6 hB6 hA6 hVB hbW6
  generalize checkI Y = CI at *
  have tC : (CI == CI) = true := by simp
  go_region_held3 (fun w' => (ldOp 24 (.pointer (some ⟨W.heap.size, 0, none⟩))).run Tryd.prog w' = .ok (.agg (List.toArray ds)) w' ∧ (ldOp 24 (.pointer (some ⟨w3.heap.size, 0, none⟩))).run Tryd.prog w' = .ok (.agg (List.toArray es)) w' ∧ (ldOp 30 (.pointer (some ⟨w5.heap.size, 0, none⟩))).run Tryd.prog w' = .ok (.agg (List.toArray cv)) w') (first | exact ⟨by assumption, by assumption, by assumption⟩ | go_keep) (first
    | (go_at_call 11; refine (hI _ hcur).mono ?_; rintro e ws ⟨rfl, hbs⟩; have hcur := hcur.trans (hbs.mono hcur.size); have s1 := hl1 _ hcur; have s3 := hl3 _ hcur; have s4 := hl4 _ hcur)
    | (go_at_call 12; refine (hR _ hcur).mono ?_; rintro e ws ⟨rfl, hbs⟩; have hcur := hcur.trans (hbs.mono hcur.size); have s1 := hl1 _ hcur; have s3 := hl3 _ hcur; have s4 := hl4 _ hcur)
    | (go_at_call 14; refine (hRV _ hcur).mono ?_; rintro e ws ⟨cv2, rfl, hcv2, hbs⟩; have hcv2 := hcv2.at; have hcur := hcur.trans (hbs.mono hcur.size); have s1 := hl1 _ hcur; have s3 := hl3 _ hcur; have s4 := hl4 _ hcur)
    | (go_at_call 13; refine (hVS _ _ hcur hcv2).mono ?_; rintro e ws ⟨rfl, hbs⟩; have hcur := hcur.trans (hbs.mono hcur.size); have s1 := hl1 _ hcur; have s3 := hl3 _ hcur; have s4 := hl4 _ hcur)
    | (go_at_call 15; refine (hSI _ hcur).mono ?_; rintro e ws ⟨rfl, hbs⟩; have hcur := hcur.trans (hbs.mono hcur.size); have s1 := hl1 _ hcur; have s3 := hl3 _ hcur; have s4 := hl4 _ hcur)
    | (go_at_call 16; refine (hlv _).mono ?_; rintro e ws ⟨rfl, hbs⟩; have hcur := hcur.trans (hbs.mono hcur.size); have s1 := hl1 _ hcur; have s3 := hl3 _ hcur; have s4 := hl4 _ hcur))
  all_goals
    go_wp2
    go_ret
    exact ⟨rfl, hHB.out _ hcur⟩
theorem itemValues_calls {H : Type} {enc : TypeId × Value → H} {W : World} {base : Nat} {v0 : Value} {d0 : DataW H} {p0 : List MemPlace}
    (o0 : Value.okWide Tryd.prog W .any base 24 v0) (h0 : DataW.Trod enc Tryd.prog W 0 (fun _ => true) true 24 v0 d0 p0) :
    Calls Tryd.prog 3 #[v0] W fun e W' => e = .returned (.bool true) ∧ Below W.heap.size W W' := by
  obtain ⟨cs, x, rfl, hx⟩ := open_item o0 h0
  exact ivalues_law hx
end Go.Proofs.YtpchogicdnfggaaDoor
set_option maxRecDepth 20000
namespace Go.Proofs.YtpchogicdnfggaaDoor
open Go.RowKit Go.Hd
theorem lessL_drop {X Y : List (List UInt8)} {j : Nat} (h1 : j < X.length) (h2 : j < Y.length) : lessL (X.drop j) (Y.drop j) = if X[j] = Y[j] then lessL (X.drop (j + 1)) (Y.drop (j + 1)) else Op.bytesLess X[j] Y[j] := by
  rw [List.drop_eq_getElem_cons h1, List.drop_eq_getElem_cons h2, lessL_cons]
theorem lessL_end {X Y : List (List UInt8)} {j : Nat} (h : X.length ≤ j ∨ Y.length ≤ j) (h1 : j ≤ X.length) (h2 : j ≤ Y.length) : lessL (X.drop j) (Y.drop j) = decide (X.length < Y.length) := by
  rcases Nat.lt_or_ge j Y.length with h3 | h3
  · have h4 : X.length ≤ j := by omega
    rw [List.drop_eq_nil_of_le h4, decide_eq_true (by omega)]
    exact lessL_pos (fun e => by have := congrArg List.length e; simp at this; omega)
  · rw [List.drop_eq_nil_of_le h3, lessL_nil, decide_eq_false (by omega)]
set_option maxHeartbeats 2000000 in
theorem rless_any (a b : List UInt8) (w : World) (ha : a.length ≤ 1000000) (hb : b.length ≤ 1000000) :
    Calls Tryd.prog 46 #[.string (str a), .string (str b)] w fun e w' => e = .returned (.bool (lessF a b)) ∧ Below w.heap.size w w' := by
  have hp1 := rpieces_any a w ha
  have hp2 := fun w' => rpieces_any b w' hb
  have hL0 : Hid (lessF a b = lessL ((cutP a).drop 0) ((cutP b).drop 0)) := rfl
  have hc1 : (cutP a).length ≤ 1000001 := Nat.le_trans (cutP_len a) (by omega)
  have hc2 : (cutP b).length ≤ 1000001 := Nat.le_trans (cutP_len b) (by omega)
  generalize lessF a b = R at *
  generalize cutP a = X at *
  generalize cutP b = Y at *
  have HC := Lib.hid (And.intro hc1 hc2)
  clear hc1 hc2 ha hb
  go_enter Tryd.func46, Tryd.ntmps46
  go_wp2_with fail
  refine hp1.mono ?_
  rintro e w1 ⟨⟨u, rfl, hk1⟩, hb1⟩
  obtain ⟨ax, cx, rfl, _, _, hr1, _⟩ := owns_rowN hk1 (by decide)
  clear hp1 hk1
  go_wp2_with fail
  refine (hp2 _).mono ?_
  rintro e w2 ⟨⟨v, rfl, hk2⟩, hb2⟩
  obtain ⟨ay, cy, rfl, _, _, hr2, _⟩ := owns_rowN hk2 (by decide)
  have hr1' := hr1.below hb2
  have hb12 := Gr.trans hb1 hb2
  clear hp2 hk2 hr1 hb1 hb2
  go_wp2
  go_loopw [7] (fun i wr => ∃ (j m : Nat), i = .int .i64 j ∧ j ≤ X.length ∧ j ≤ Y.length ∧ Hid (R = lessL (X.drop j) (Y.drop j)) ∧ Hid (wr = w2.drewN m)) (fun i _ => X.length - (intOf i).toNat)
  case atStart => exact ⟨0, 0, rfl, Nat.zero_le _, Nat.zero_le _, hL0, Lib.hid rfl⟩
  case round =>
    obtain ⟨j, m, rfl, hjx, hjy, hL, hwr⟩ := hrel
    have HX : Hid (Row wr ax (X.map strV) ∧ Row wr ay (Y.map strV)) := by
      show _ ∧ _
      rw [hwr.out]; exact ⟨hr1'.drewN m, hr2.drewN m⟩
    have hbw : Hid (Below w.heap.size w wr) := by show Below _ _ _; rw [hwr.out]; exact Below.drewN hb12 m
    have j0 : (0 : Int) ≤ (j : Int) := by omega
    have jb : IntKind.i64.wrap ((j : Int) + 1) = (j : Int) + 1 := IntWalk.i64_in _ (by have := HC.out.1; omega)
    by_cases h1 : j < X.length
    · have i1 : (j : Int) < (X.length : Int) := by omega
      by_cases h2 : j < Y.length
      · have i2 : (j : Int) < (Y.length : Int) := by omega
        have q1 : wr.cell? ((hd ax).add j) = some (strV X[j]) := HX.out.1.cell (by simp [h1])
        have s1 : ax.isSome = true := HX.out.1.isSome (i := j) (by simp; omega)
        have q2 : wr.cell? ((hd ay).add j) = some (strV Y[j]) := HX.out.2.cell (by simp [h2])
        have s2 : ay.isSome = true := HX.out.2.isSome (i := j) (by simp; omega)
        unfold strV at q1 q2
        have hS : Hid (R = if X[j] = Y[j] then lessL (X.drop (j + 1)) (Y.drop (j + 1)) else Op.bytesLess X[j] Y[j]) := by show _ = _; rw [hL.out, lessL_drop h1 h2]
        have hE : Hid (((str X[j]).toList = (str Y[j]).toList) ↔ X[j] = Y[j]) := by show _ ↔ _; rw [str_toList, str_toList]
        have hBL : Hid (Op.bytesLess (str X[j]).toList (str Y[j]).toList = Op.bytesLess X[j] Y[j]) := by show _ = _; rw [str_toList, str_toList]
        generalize X[j] = x at *
        generalize Y[j] = y at *
        by_cases hxy : x = y
        · have t1 : ((str x).toList == (str y).toList) = true := by rw [beq_iff_eq]; exact hE.out.2 hxy
          have hS2 : Hid (R = lessL (X.drop (j + 1)) (Y.drop (j + 1))) := by show _ = _; rw [hS.out, if_pos hxy]
          have hN : Hid (∀ k, wr.drewN k = w2.drewN (m + k)) := fun k => by rw [hwr.out, drewN_two]
          clear hxy hE hBL hS hL
          go_wp2
          go_quiet (fail)
          go_wp2
          first
            | exact ⟨⟨j + 1, _, (by first | rfl | go_num | (congr 1; omega)), by omega, by omega, hS2, Lib.hid (hN.out _)⟩, by simp [intOf] <;> omega⟩
            | (refine ⟨?_, by simp [intOf] <;> omega⟩; (repeat apply Exists.intro); exact ⟨⟨j + 1, _, (by first | rfl | go_num | (congr 1; omega)), by omega, by omega, hS2, Lib.hid (hN.out _)⟩, rfl⟩)
        · have t1 : ((str x).toList == (str y).toList) = false := by rw [beq_eq_false_iff_ne]; exact fun e => hxy (hE.out.1 e)
          have hS2 : Hid (R = Op.bytesLess (str x).toList (str y).toList) := by show _ = _; rw [hS.out, if_neg hxy, hBL.out]
          clear hxy hE hBL hS hL
          go_wp2
          go_quiet (fail)
          go_wp2
          go_quiet (fail)
          go_wp2
          go_ret
          refine ⟨?_, by first | exact Below.drewN hbw.out _ | exact Below.drewN (Below.drewN hbw.out _) _⟩
          rw [hS2.out]; rfl
      · have i2 : ¬ (j : Int) < (Y.length : Int) := by omega
        have hS : Hid (R = decide (X.length < Y.length)) := by show _ = _; rw [hL.out]; exact lessL_end (.inr (by omega)) hjx hjy
        have i3 : ¬ (X.length : Int) < (Y.length : Int) := by omega
        have hS2 : Hid (R = false) := by show _ = _; rw [hS.out, decide_eq_false (by omega)]
        clear hS h1 h2 hL
        go_wp2
        go_ret
        exact ⟨by rw [hS2.out]; rfl, hbw.out⟩
    · have i1 : ¬ (j : Int) < (X.length : Int) := by omega
      have hS : Hid (R = decide (X.length < Y.length)) := by show _ = _; rw [hL.out]; exact lessL_end (.inl (by omega)) hjx hjy
      by_cases h3 : X.length < Y.length
      · have i3 : (X.length : Int) < (Y.length : Int) := by omega
        have hS2 : Hid (R = true) := by show _ = _; rw [hS.out, decide_eq_true h3]
        clear hS h1 h3 hL
        go_wp2
        go_ret
        exact ⟨by rw [hS2.out]; rfl, hbw.out⟩
      · have i3 : ¬ (X.length : Int) < (Y.length : Int) := by omega
        have hS2 : Hid (R = false) := by show _ = _; rw [hS.out, decide_eq_false h3]
        clear hS h1 h3 hL
        go_wp2
        go_ret
        exact ⟨by rw [hS2.out]; rfl, hbw.out⟩
end Go.Proofs.YtpchogicdnfggaaDoor
set_option maxRecDepth 20000
namespace Go.Proofs.YtpchogicdnfggaaDoor
open Go.RowKit Go.Hd
attribute [local go_sem ↓] h_ldV h_stV h_alV
attribute [local go_sem] r_ldV r_stV r_alV

/-- The document's Encode. -/
theorem renc_own {w0 w : World} {cs : List Value} {v : PV} (h : VAt w0 cs v) (hbw : Below w0.heap.size w0 w) :
    Calls Tryd.prog 43 #[.agg cs.toArray] w fun e w' => ∃ u, e = .returned (.tuple #[u, .int .i64 (encF v).2]) ∧ BRn w.heap.size w' u (encF v).1 ∧ Below w.heap.size w w' := by
  have hsz := hbw.size
  have hb0 : Below w.heap.size w (w.alloc (.cells cs.toArray 30)) := (Below.refl _ _).alloc (Nat.le_refl _) _
  have B0 : Blk (w.alloc (.cells cs.toArray 30)) w.heap.size 30 cs.toArray.toList := Blk.new _ _ _
  have x6 : cs.toArray.size = 6 := by simpa using h.len
  have hcan := rcan_any h 16 1 (w.alloc (.cells cs.toArray 30)) (by decide) (hbw.trans (hb0.mono hsz))
  go_enter Tryd.func43, Tryd.ntmps43
  go_wp2_with fail
  refine hcan.mono ?_
  rintro e w1 ⟨rfl, hb1⟩
  have B1 := B0.below hb1
  have hbw1 : Below w.heap.size w w1 := Gr.trans hb0 hb1
  cases hc : canF 16 v with
  | false =>
    have HE : Hid (encF v = ([], 4)) := by show _ = _; unfold encF; rw [if_pos hc]
    clear hc hcan
    go_wp2
    go_ret2
    try rw [HE.out]
    exact ⟨_, rfl, BRn.nil _ _, hbw1⟩
  | true =>
    have q2 : (ldOp 30 (.pointer (some ⟨w.heap.size, 0, none⟩))).run Tryd.prog w1 = .ok (.agg cs.toArray) w1 := by
      have := ldOp_all (P := Tryd.prog) (ty := 30) B1 Tryd.underlying30 rfl (by rw [Array.length_toList, x6]; exact sizeV)
      simpa using this
    have hv := rbytes_any h 16 w1.heap.size w1 none 0 [] hc (Own.nil 5 w1 w1.heap.size) (by decide) (hbw.trans (hbw1.mono hsz)) (Nat.le_trans hsz hbw1.size) (Nat.le_refl _)
    have hce := hc
    clear hc hcan
    go_wp2_with fail
    refine hv.mono ?_
    rintro e w3 ⟨u, r, rfl, ⟨⟨x, hO, hyes⟩, hno, hg⟩⟩
    have hb3 : Below w.heap.size w w3 := hbw1.trans (hg.below (fun q hq => by cases hq) hbw1.size hbw1.size)
    obtain ⟨a, c, rfl, hlc, hcm, hrow, hfr⟩ := Own.at (E := 5) hO
    have hs1 := hbw1.size
    cases r with
    | false =>
      have HE : Hid (encF v = ([], 5)) := by show _ = _; unfold encF; rw [if_neg (by rw [hce]; decide), hno rfl]
      clear hce hv hyes hno hO
      go_wp2
      go_ret2
      try rw [HE.out]
      exact ⟨_, rfl, BRn.nil _ _, hb3⟩
    | true =>
      obtain ⟨hx, _⟩ := hyes rfl
      have HE : Hid (encF v = (x, 0)) := by show _ = _; unfold encF; rw [if_neg (by rw [hce]; decide), hx]
      clear hce hv hyes hno hO hx
      go_wp2
      go_ret2
      rw [HE.out]
      exact ⟨_, rfl, ⟨a, c, rfl, hlc, hcm, hrow, fun h => by have := hfr (by simpa using h); omega⟩, hb3⟩
end Go.Proofs.YtpchogicdnfggaaDoor
set_option maxRecDepth 20000
namespace Go.Proofs.YtpchogicdnfggaaDoor
open Go.RowKit Go.Hd
attribute [local go_sem ↓] h_ldIT h_stIT h_alIT
attribute [local go_sem] r_ldIT r_stIT r_alIT
theorem ItsAt.load {w : World} {a : Option Addr} {l : List Itm} (h : ItsAt w a l) {j : Nat} (hj : j < l.length) : ∃ cs, ItAt w cs l[j] ∧ a.isSome = true ∧ ∀ w', Below w.heap.size w w' → (ldOp 24 (.pointer (some ((hd a).add (j * 7))))).run Tryd.prog w' = .ok (.agg (List.toArray cs)) w' := by
  obtain ⟨css, h1, h2, h3, h4⟩ := h
  have hjc : j < css.length := by omega
  have e1 : css[j]? = some css[j] := List.getElem?_eq_getElem hjc
  have c7 := h3 _ (List.getElem_mem hjc)
  refine ⟨css[j], h4 j _ _ e1 (List.getElem?_eq_getElem hj), h2.elemSome h3 (by decide) hjc, fun w' hb => ?_⟩
  exact ldOp_at (P := Tryd.prog) (ty := 24) (cs := css[j]) ((h2.below hb).elem h3 e1) Tryd.underlying24 rfl (by rw [c7]; exact sizeIT)
set_option maxHeartbeats 8000000 in
theorem rstream_any {a : Option Addr} {n c : Nat} {l : List Itm} {w : World} (hn : n = l.length) (hI : ItsAt w a l) (hp : ∀ x ∈ l, x.path.length ≤ 1000000 ∧ x.parts.length ≤ 1000) (hl : l.length ≤ 1000000) :
    Calls Tryd.prog 19 #[.slice a n c] w fun e w' => ∃ u, e = .returned (.tuple #[u, .int .i64 (streamF l).2]) ∧ BRd w' u (streamF l).1 ∧ Below w.heap.size w w' := by
  subst hn
  have zt := zIT_size
  have hF : Hid (streamF l = if 100 < l.length then ([], 16) else if strE l ≠ 0 then ([], strE l) else if risesP (l.map (·.path)) = true then (strB l, 0) else ([], 18)) := rfl
  generalize streamF l = F at *
  by_cases h100 : 100 < l.length
  · have e1 : (100 : Int) < (l.length : Int) := by omega
    have hT : Hid (F = ([], 16)) := by show _ = _; rw [hF.out, if_pos h100]
    clear hF
    go_enter Tryd.func19, Tryd.ntmps19
    go_wp2
    go_ret2
    exact ⟨.slice none 0 0, by rw [hT.out] <;> rfl, by rw [hT.out]; exact BRd.nil _, Below.refl _ _⟩
  have e1 : ¬ (100 : Int) < (l.length : Int) := by omega
  have hF2 : Hid (F = if strE l ≠ 0 then ([], strE l) else if risesP (l.map (·.path)) = true then (strB l, 0) else ([], 18)) := by show _ = _; rw [hF.out, if_neg h100]
  have hS0 : Hid (strE (l.drop 0) = strE l) := rfl
  have HL : Hid (l.length ≤ 100) := by show _ ≤ _; omega
  have HP := Lib.hid hp
  have HI := Lib.hid hI
  generalize hSE : strE l = SE at *
  clear hF h100 hp hI hSE hl
  go_enter Tryd.func19, Tryd.ntmps19
  go_upto_block 0 with (fail)
  go_cut [4] (fun u wx => SE = 0 ∧ wx.ownsRow w.heap.size 5 1 u (strB l).length ((strB l).map b8) ∧ Below w.heap.size w wx)
  case first =>
    go_wp2
    go_loopw [4, 5] (fun u i wr => ∃ j : Nat, j ≤ l.length ∧ i = .int .i64 j ∧ Hid (strE (l.drop j) = SE) ∧ Hid (wr.ownsRow w.heap.size 5 1 u (strB (l.take j)).length ((strB (l.take j)).map b8)) ∧ Hid (Below w.heap.size w wr)) (fun _ i _ => l.length - (intOf i).toNat)
    case atStart => exact ⟨0, Nat.zero_le _, rfl, hS0, Lib.hid (World.ownsRow_nil _ _ _ _), Lib.hid (Below.refl _ _)⟩
    case round =>
      obtain ⟨j, hj, rfl, hE, hO, hb⟩ := hrel
      have j0 : (0 : Int) ≤ (j : Int) := by omega
      have jb : IntKind.i64.wrap ((j : Int) + 1) = (j : Int) + 1 := IntWalk.i64_in _ (by have := HL.out; omega)
      clear hS0
      by_cases hlt : j < l.length
      · have j1 : (j : Int) < (l.length : Int) := by omega
        obtain ⟨cs, hIt, s1, hld⟩ := (HI.out.below hb.out).load hlt
        have q1 := hld _ (Below.refl _ _)
        have hE2 : Hid ((if checkI l[j] ≠ 0 then checkI l[j] else if (encF (itV l[j])).2 ≠ 0 then (encF (itV l[j])).2 else strE (l.drop (j + 1))) = SE) := by
          show _ = _
          rw [← hE.out, List.drop_eq_getElem_cons hlt]; rfl
        have hTk : Hid (strB (l.take (j + 1)) = strB (l.take j) ++ recB l[j]) := by show _ = _; rw [List.take_succ_eq_append_getElem hlt, strB_snoc]
        have hPx := HP.out _ (List.getElem_mem hlt)
        have hlen := strB_len (l.take j)
        have hlj : (l.take j).length ≤ 100 := by have := HL.out; simp; omega
        generalize l[j] = x at *
        clear hE
        go_wp2_with fail
        refine (rcheck_at hIt hPx.2 hPx.1).mono ?_
        rintro e w2 ⟨rfl, hb2⟩
        by_cases h0 : checkI x = 0
        case neg =>
          have eb : (checkI x != 0) = true := by simpa using h0
          have hT : Hid (F = ([], checkI x)) := by
            show _ = _
            have h1 := hE2.out
            rw [if_pos h0] at h1
            rw [hF2.out, ← h1, if_pos h0]
          have hbf := Lib.hid (hb.out.trans (hb2.mono hb.out.size))
          clear hF2 hE2 hO
          generalize checkI x = CI at *
          go_wp2
          go_ret2
          exact ⟨.slice none 0 0, by rw [hT.out] <;> rfl, by rw [hT.out]; exact BRd.nil _, hbf.out⟩
        case pos =>
        rw [h0]
        have hbW2 := Lib.hid (hb.out.trans (hb2.mono hb.out.size))
        have hO2 := Lib.hid (ownsRow_below hO.out hb2)
        have hIt2 := hIt.below hb2
        have q2 := hld _ hb2
        have hE3 : Hid ((if (encF (itV x)).2 ≠ 0 then (encF (itV x)).2 else strE (l.drop (j + 1))) = SE) := by show _ = _; have h1 := hE2.out; rw [h0] at h1; exact h1
        clear hb hO hE2 hb2 hIt hld q1
        go_wp2_with fail
        refine (rvalue_at hIt2 hPx.2 hPx.1).mono ?_
        rintro e w3 ⟨vs, rfl, hV, hb3⟩
        have hbW3 := Lib.hid (hbW2.out.trans (hb3.mono hbW2.out.size))
        have hO3 := Lib.hid (ownsRow_below hO2.out hb3)
        clear hbW2 hO2 hIt2 hb3 q2
        go_wp2_with fail
        refine (renc_own hV.at (Below.refl _ _)).mono ?_
        rintro e w4 ⟨ub, rfl, ⟨ab, cb, rfl, g1, g2, hrb, hfr⟩, hb4⟩
        have hown3 := own_old hO3.out
        have hbW4 := Lib.hid (hbW3.out.trans (hb4.mono hbW3.out.size))
        have hO4 := Lib.hid (ownsRow_below hO3.out hb4)
        clear hbW3 hO3 hV hb4
        have hrec : Hid (recB x = (putL (encF (itV x)).1.length 4).reverse ++ (encF (itV x)).1) := rfl
        have hes := encF_small (itV x)
        generalize (encF (itV x)).2 = EE at *
        generalize (encF (itV x)).1 = EB at *
        generalize recB x = RB at *
        by_cases h1 : EE = 0
        case neg =>
          have eb : (EE != 0) = true := by simpa using h1
          have hT : Hid (F = ([], EE)) := by
            show _ = _
            have h2 := hE3.out
            rw [if_pos h1] at h2
            rw [hF2.out, ← h2, if_pos h1]
          clear hF2 hE3
          go_wp2
          go_ret2
          exact ⟨.slice none 0 0, by rw [hT.out] <;> rfl, by rw [hT.out]; exact BRd.nil _, hbW4.out⟩
        case pos =>
        subst h1
        have hE4 : Hid (strE (l.drop (j + 1)) = SE) := by show _ = _; rw [← hE3.out, if_neg (by simp)]
        have eu : IntKind.u64.wrap (EB.length : Int) = (EB.length : Int) := by rw [IntKind.wrap_u64]; omega
        clear hE3
        go_wp2_with fail
        refine (rput_any EB.length 4 _ (by omega) (by decide) (by decide)).mono ?_
        rintro e w4b ⟨pv, rfl, hF⟩
        obtain ⟨a5, c5, rfl, hr5, hb5, hm5, _⟩ := hF.open
        have hbW4b := Lib.hid (hbW4.out.trans (hb5.mono hbW4.out.size))
        have hO4b := Lib.hid (ownsRow_below hO4.out hb5)
        have hrb4b := hrb.below hb5
        clear hF hm5
        have l4 : (putL EB.length 4).length = 4 := by simp [putL_length]
        rw [show (4 : Int).toNat = 4 from rfl] at hr5 ⊢
        rw [l4]
        go_wp2_with fail
        refine (back_any _ _ _ (putL EB.length 4) _ l4.symm hr5 (by omega)).mono ?_
        rintro e w5 ⟨pv, rfl, hF⟩
        clear hbW4 hO4 hb5 hr5 hrb l4
        have hbW4 := hbW4b
        have hO4 := hO4b
        have hrb := hrb4b
        clear hbW4b hO4b hrb4b
        obtain ⟨a5, c5, rfl, hr5, hb5, hm5, _⟩ := hF.open
        have hbW5 := Lib.hid (hbW4.out.trans (hb5.mono hbW4.out.size))
        have hO5 := ownsRow_below hO4.out hb5
        have hrb5 := hrb.below hb5
        have l4 : (putL EB.length 4).reverse.length = 4 := by simp [putL_length]
        have sz5 := hbW5.out.size
        obtain ⟨v6, w6, hrun6, hO6, hg6⟩ := own_appB (c := c5) hO5 hr5 rfl (by rw [l4]; omega) sz5
        have hb6 := hg6.below (base := w.heap.size) (old := w.heap.size) (own_lt hO5) (Nat.le_refl _) sz5
        have hrb6 : Row w6 ab (EB.map b8) := hrb5.keptFar hg6.gr (fun h0 e => by
          have h1 := hfr (by simpa using h0)
          have h2 := hown3 _ e
          omega)
        have sz6 := hg6.size
        have hll : (strB (l.take j) ++ (putL EB.length 4).reverse).length + EB.length ≤ 140737488355328 := by rw [List.length_append, l4]; omega
        obtain ⟨v7, w7, hrun7, hO7, hg7⟩ := own_appB (n := EB.length) (c := cb) hO6 hrb6 rfl hll (by omega)
        have hbW7 := Lib.hid ((hbW5.out.trans hb6).trans (hg7.below (base := w.heap.size) (old := w.heap.size) (own_lt hO6) (Nat.le_refl _) (by omega)))
        have hO8 : Hid (w7.ownsRow w.heap.size 5 1 v7 (strB (l.take (j + 1))).length ((strB (l.take (j + 1))).map b8)) := by
          show World.ownsRow _ _ _ _ _ _ _
          rw [hTk.out, hrec.out, ← List.append_assoc]; exact hO7
        rw [l4] at hrun6
        go_upto_region 14 with (at_builtin; refine wpList_append_run hrun6 rfl rfl rfl rfl ?_)
        clear hrun6 hO6 hO7 hg7 hg6 hb6 hrb6 hrb5 hr5 hrb hO4 hO5 hbW4 hbW5
        go_wp2_with (at_builtin; refine wpList_append_run hrun7 rfl rfl rfl rfl ?_)
        first
          | exact ⟨⟨j + 1, by omega, (by first | rfl | go_num | (congr 1; omega)), hE4, hO8, hbW7⟩, by simp [intOf] <;> omega⟩
          | (refine ⟨?_, by simp [intOf] <;> omega⟩; (repeat apply Exists.intro); exact ⟨⟨j + 1, by omega, (by first | rfl | go_num | (congr 1; omega)), hE4, hO8, hbW7⟩, rfl⟩)
      · have hSE : SE = 0 := by rw [← hE.out, List.drop_eq_nil_of_le (by omega)]; rfl
        have j1 : ¬ (j : Int) < (l.length : Int) := by omega
        have hO9 : wr.ownsRow w.heap.size 5 1 u4 (strB l).length ((strB l).map b8) := by
          have := hO.out
          rw [List.take_of_length_le (by omega)] at this; exact this
        have hh := Lib.hid (And.intro hSE (And.intro hO9 hb.out))
        clear hSE hO9
        go_wp2
        go_meet
        exact hh.out
  case rest =>
    obtain ⟨hSE, hOc, hbc⟩ := hcut
    have HR : Hid (F = if risesP (l.map (·.path)) = true then (strB l, 0) else ([], 18)) := by show _ = _; rw [hF2.out, if_neg (by rw [hSE]; simp)]
    have HB := Lib.hid hbc
    have HO := Lib.hid hOc
    have hrc := Lib.hid (HI.out.below hbc)
    clear hF2 hSE hS0 hbc hOc HI
    go_wp2
    go_loopw [9] (fun i wr => ∃ j : Nat, 1 ≤ j ∧ j ≤ l.length + 1 ∧ i = .int .i64 j ∧ Hid (risesP ((l.map (·.path)).take j) = true) ∧ Hid (Below wc.heap.size wc wr)) (fun i _ => l.length + 1 - (intOf i).toNat)
    case atStart => exact ⟨1, Nat.le_refl _, by omega, rfl, Lib.hid (risesP_one _), Lib.hid (Below.refl _ _)⟩
    case round =>
      obtain ⟨j, hj1, hj, rfl, hri, hbr⟩ := hrel
      have j0 : (0 : Int) ≤ (j : Int) := by omega
      have jb : IntKind.i64.wrap ((j : Int) + 1) = (j : Int) + 1 := IntWalk.i64_in _ (by have := HL.out; omega)
      by_cases hlt : j < l.length
      · have j1 : (j : Int) < (l.length : Int) := by omega
        have hrw : ItsAt (wr.drewN 1) a l := (hrc.out.below hbr.out).below (Below.drewN (Below.refl _ _) 1)
        obtain ⟨k, hk⟩ : ∃ k, k = j - 1 := ⟨_, rfl⟩
        have hkl : k < l.length := by omega
        have im : IntKind.i64.wrap ((j : Int) - 1) = (k : Int) := by rw [IntWalk.i64_in _ (by have := HL.out; omega)]; omega
        have k0 : (0 : Int) ≤ (k : Int) := by omega
        have k1 : (k : Int) < (l.length : Int) := by omega
        obtain ⟨q1, s1⟩ := hrw.path hlt
        have q2 := (hrw.path hkl).1
        have hb1 := Lib.hid (Below.drewN hbr.out 1)
        have hRT : Hid (risesP ((l.map (·.path)).take (j + 1)) = lessF (l[k]).path (l[j]).path) := by
          show _ = _
          obtain rfl : j = k + 1 := by omega
          rw [risesP_take _ k (by simpa using hlt), hri.out]
          simp
        have hNR : Hid (risesP ((l.map (·.path)).take (j + 1)) = false → risesP (l.map (·.path)) = false) := risesP_not
        have hle := rless_any (l[k]).path (l[j]).path (wr.drewN 1) (HP.out _ (List.getElem_mem hkl)).1 (HP.out _ (List.getElem_mem hlt)).1
        generalize l[j].path = y at *
        generalize l[k].path = z at *
        clear hk hrw hri hbr
        generalize lessF z y = LF at *
        go_wp2
        refine wp_region_still_tail 11 (by kernel_rfl) (by kernel_rfl) ?_
        simp only [List.take_succ_cons, List.take_zero, List.drop_succ_cons, List.drop_zero]
        change wpStill _ _ (wr.drewN 1) _ _ _
        repeat still_step
        try refine wpStill_nil ?_
        change wpList _ _ _ _ _ (wr.drewN 1)
        go_wp2_with fail
        refine hle.mono ?_
        rintro e w5 ⟨rfl, hb5⟩
        have hbF := Lib.hid (hb1.out.trans (hb5.mono hb1.out.size))
        clear hb1 hb5 hle q1 q2
        cases LF
        · have hR : Hid (F = ([], 18)) := by
            show _ = _
            rw [HR.out, if_neg]
            rw [hNR.out hRT.out]; decide
          clear hRT hNR HR
          go_wp2
          go_ret2
          exact ⟨.slice none 0 0, by rw [hR.out] <;> rfl, by rw [hR.out]; exact BRd.nil _, HB.out.trans (hbF.out.mono HB.out.size)⟩
        · have hri2 : Hid (risesP ((l.map (·.path)).take (j + 1)) = true) := hRT
          clear hRT hNR
          go_wp2
          first
            | exact ⟨⟨j + 1, by omega, by omega, (by first | rfl | go_num | (congr 1; omega)), hri2, hbF⟩, by simp [intOf] <;> omega⟩
            | (refine ⟨?_, by simp [intOf] <;> omega⟩; (repeat apply Exists.intro); exact ⟨⟨j + 1, by omega, by omega, (by first | rfl | go_num | (congr 1; omega)), hri2, hbF⟩, rfl⟩)
      · have hR : Hid (F = (strB l, 0)) := by
          show _ = _
          have h := hri.out
          rw [List.take_of_length_le (by simp; omega)] at h
          rw [HR.out, if_pos h]
        have hbF : Below w.heap.size w wr := HB.out.trans (hbr.out.mono HB.out.size)
        have hbq := Lib.hid ((own_brd HO.out).below (w' := wr) hbr.out)
        have j1 : ¬ (j : Int) < (l.length : Int) := by omega
        clear hri HR hbr
        go_wp2
        go_ret2
        exact ⟨_, by rw [hR.out] <;> rfl, by rw [hR.out]; exact hbq.out, hbF⟩
end Go.Proofs.YtpchogicdnfggaaDoor
set_option maxRecDepth 20000
namespace Go.Proofs.YtpchogicdnfggaaDoor
open Go.RowKit Go.Hd Go.ChangeShapes Go.WideShapes Go.ChangeAt
theorem fewIt_small {l : List Itm} {m : Nat} (hm : m ≤ 1000) : (fewIt l m).length ≤ 1000 ∧ ∀ x ∈ fewIt l m, x.path.length ≤ 1000000 ∧ x.parts.length ≤ 1000 := by
  refine ⟨by unfold fewIt; simp; omega, fun x hx => ?_⟩
  obtain ⟨y, _, rfl⟩ := List.mem_map.1 hx
  have := cutI_small y
  omega
theorem streamF_len (l : List Itm) (h : l.length ≤ 1000000) : (streamF l).1.length ≤ 65540000000 := by
  unfold streamF
  have hs := strB_len l
  split
  · simp
  · split
    · simp
    · split
      · simp only
        have : 65540 * l.length ≤ 65540 * 1000000 := Nat.mul_le_mul_left _ h
        omega
      · simp
theorem few_stream (l : List Itm) : (streamF (fewIt l 8)).1.length ≤ maxLen := by
  obtain ⟨hs1, _⟩ := fewIt_small (l := l) (m := 8) (by omega)
  have := streamF_len (fewIt l 8) (by omega)
  unfold maxLen
  omega
set_option maxHeartbeats 2000000 in
theorem istreams_law {a : Option Addr} {n c : Nat} {l : List Itm} {W : World} (hn : n = l.length) (hI : ItsAt W a l) (hl : l.length ≤ maxLen) : Calls Tryd.prog 4 #[.slice a n c] W fun e W' => e = .returned (.bool true) ∧ Below W.heap.size W W' := by
  subst hn
  have hfew := fewI_any (c := c) (m := 8) rfl hI hl (by decide)
  have e8 : ((8 : Nat) : Int) = 8 := rfl
  rw [e8] at hfew
  clear e8
  obtain ⟨hs1, hs2⟩ := fewIt_small (l := l) (m := 8) (by decide)
  have hSl := Lib.hid (few_stream l)
  have hlv := fun w' => lives21_any w'
  have hst := fun (a : Option Addr) (c : Nat) (w : World) (h : ItsAt w a (fewIt l 8)) => stream_any (c := c) rfl h hs2 (by omega)
  have hrs := fun (a : Option Addr) (c : Nat) (w : World) (h : ItsAt w a (fewIt l 8)) => rstream_any (c := c) rfl h hs2 (by omega)
  clear hI hs1 hs2
  generalize streamF (fewIt l 8) = F at *
  generalize fewIt l 8 = L at *
  obtain ⟨FB, FE⟩ := F
  simp only at hst hrs
  have tE : (FE == FE) = true := by simp
  go_enter Tryd.func4, Tryd.ntmps4
  go_wp2_with fail
  refine hfew.mono ?_
  rintro e w1 ⟨u, rfl, hO, hb1⟩
  obtain ⟨a1, c1, rfl, k1, k2, hI1⟩ := hO.at
  have hbW1 := hb1
  clear hO hfew k1 k2 hl hb1
  go_wp2_with fail
  refine (hst a1 c1 w1 hI1).mono ?_
  rintro e w2 ⟨u2, rfl, hU, hb2⟩
  obtain ⟨a2, c2, rfl, p2, p3, hr2⟩ := hU
  have hI2 := hI1.below hb2
  have hbW2 := hbW1.trans (hb2.mono hbW1.size)
  clear hI1 hb2 hbW1
  go_wp2_with fail
  refine (hrs a1 c1 w2 hI2).mono ?_
  rintro e w3 ⟨u3, rfl, hU3, hb3⟩
  obtain ⟨a3, c3, rfl, p4, p5, hr3⟩ := hU3
  have hr2' := hr2.below hb3
  have hbW3 := hbW2.trans (hb3.mono hbW2.size)
  clear hI2 hb3 hbW2 hr2 hst hrs
  have hsm := same_any (w := w3) (a := a2) (b := a3) (c := c2) (d := c3) (l := FB) (m := FB) rfl rfl hr2' hr3 hSl.out
  clear hr2' hr3 p2 p3 p4 p5 hSl
  go_wp2_with fail
  refine hsm.mono ?_
  rintro e w4 ⟨rfl, h4⟩
  have hbW4 : Below W.heap.size W w4 := by first | exact h4 ▸ hbW3 | (obtain ⟨n, rfl⟩ := h4; exact Below.drewN hbW3 n)
  clear h4 hbW3 hsm
  have tS : decide (FB = FB) = true := by simp
  go_wp2_with fail
  refine (hlv _).mono ?_
  rintro e w5 ⟨rfl, hb5⟩
  go_wp2
  go_ret
  exact ⟨rfl, hbW4.trans (hb5.mono hbW4.size)⟩
theorem itemStreams_calls {H : Type} {enc : TypeId × Value → H} {W : World} {base : Nat} {v0 : Value} {d0 : DataW H} {p0 : List MemPlace}
    (o0 : Value.okWide Tryd.prog W .any base 39 v0) (h0 : DataW.Trod enc Tryd.prog W 0 (fun _ => true) true 39 v0 d0 p0) :
    Calls Tryd.prog 4 #[v0] W fun e W' => e = .returned (.bool true) ∧ Below W.heap.size W W' := by
  obtain ⟨a, n, c, l, rfl, h1, h2, h3, hI⟩ := open_items o0 h0
  exact istreams_law h1 hI (by omega)
end Go.Proofs.YtpchogicdnfggaaDoor
