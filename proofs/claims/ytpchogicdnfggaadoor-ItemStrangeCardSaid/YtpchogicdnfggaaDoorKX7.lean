/- Joined: what one statement of this layer stands on, part 7 of 17; nothing is assumed. -/
import Derived.Test.YtpchogicdnfggaaDoorKX6
set_option maxRecDepth 20000
namespace Go.Proofs.YtpchogicdnfggaaDoor
open Go.RowKit Go.Hd
attribute [local go_sem ↓] h_ldV h_stV h_alV
attribute [local go_sem] r_ldV r_stV r_alV
def ClonP (w : World) (v : PV) (e : Ending) (w' : World) : Prop := ∃ cs, e = .returned (.agg (List.toArray cs)) ∧ VAtP (fun b => w.heap.size ≤ b) w' cs (normV v) ∧ Below w.heap.size w w'
/-- The end: what has been built in q is the result. -/
theorem clone_end {w W : World} {q : Nat} {cs : List Value} {v : PV} (hR : Blk W (w.heap.size + 1) 30 zV.toList) (hq : Blk W q 30 cs) (hv : VAtP (fun b => w.heap.size + 2 ≤ b ∧ b ≠ q) W cs (normV v)) (hb : Below w.heap.size w W) :
    ∃ c2 : List Value, c2.toArray.size = 6 ∧ (ldOp 30 (.pointer (some ⟨q, 0, none⟩))).run Tryd.prog W = .ok (.agg c2.toArray) W ∧ (stoOp 30 (.pointer (some ⟨w.heap.size + 1, 0, none⟩)) (.agg c2.toArray)).run Tryd.prog W = .ok () (W.setRow (w.heap.size + 1) c2.toArray) ∧ Blk (W.setRow (w.heap.size + 1) c2.toArray) (w.heap.size + 1) 30 c2 ∧ Hid (ClonP w v (.returned (.agg c2.toArray)) (W.setRow (w.heap.size + 1) c2.toArray)) := by
  have h6 := hv.len
  have hgr := setRow_gr W (w.heap.size + 1) cs.toArray
  refine ⟨cs, by simpa using h6, ldOp_all hq Tryd.underlying30 rfl (by rw [h6]; exact sizeV), st_row hR (by rfl) cs.toArray (by simpa using h6) (by exact all_oneCell_toArray hv.one), setRow_blk hR cs, cs, rfl, ?_, ?_⟩
  · exact (hv.same (w' := W.setRow (w.heap.size + 1) cs.toArray) (fun b hb hlt => hgr.block b hlt (by simp; omega))).mono (fun b hb _ => by omega)
  · exact hb.trans ⟨hgr.os, hgr.tape, hgr.output, hgr.size, fun k hk => hgr.block k (Nat.lt_of_lt_of_le hk hb.size) (by simp; omega)⟩
/-- No part is large. -/
inductive Sm : PV → Prop
  | mk {k n : Int} {b t : List UInt8} {ks : List (List UInt8)} {l : List PV} (hb : b.length ≤ 65536) (hk : ks.length ≤ 65536) (hl : l.length ≤ 65536) (sub : ∀ x ∈ l, Sm x) (ht : t.length ≤ 65536) : Sm (.mk k n b t ks l)
theorem Sm.parts {k n : Int} {b t : List UInt8} {ks : List (List UInt8)} {l : List PV} (h : Sm (.mk k n b t ks l)) : b.length ≤ 65536 ∧ ks.length ≤ 65536 ∧ l.length ≤ 65536 ∧ ∀ x ∈ l, Sm x := by
  cases h with
  | mk a b c d _ => exact ⟨a, b, c, d⟩
theorem setCell_blk {W : World} {q r i : Nat} {u : Value} {T : TypeId} {xs : List Value} (h : Blk W r T xs) (hne : r ≠ q) : Blk (W.setCell ⟨q, i, none⟩ u) r T xs := by
  unfold Blk at *
  rw [Below.heap_setCell W ⟨q, i, none⟩ _ r hne]; exact h
theorem setCell_below {w W : World} {q i : Nat} {u : Value} (h : Below w.heap.size w W) (hq : w.heap.size ≤ q) : Below w.heap.size w (W.setCell ⟨q, i, none⟩ u) :=
  h.trans ⟨rfl, rfl, rfl, by simp, fun k hk => Below.heap_setCell W _ _ k (by show k ≠ q; omega)⟩
theorem VAtP.numQ {ok : Nat → Prop} (w : World) {n : Int} (h : in64 n) : VAtP ok w [.int .i64 3, .int .i64 n, .slice none 0 0, strV [], .slice none 0 0, .slice none 0 0] (pNum n) := VAtP.numb w h
theorem normL_get : ∀ (l : List PV) {j : Nat} (h : j < (normL l).length) (h2 : j < l.length), (normL l)[j] = normV l[j]
  | [], _, _, h2 => absurd h2 (by simp)
  | x :: l, 0, _, _ => by simp [normL]
  | x :: l, j + 1, h, h2 => by
    simp only [normL, List.getElem_cons_succ]
    exact normL_get l _ _
set_option maxHeartbeats 2000000 in
theorem vclone_any {w0 : World} {cs : List Value} {v : PV} (h : VAt w0 cs v) : ∀ (w : World), Below w0.heap.size w0 w → Sm v → Calls Tryd.prog 97 #[.agg cs.toArray] w (ClonP w v) := by
  induction h with
  | @mk k n b t ks l ab ak al cb ck cl css hk hn hb hbc ht hks hkc hkt hl hlc hcs h6 sub ih =>
  intro w hbw hsm
  have hsz := hbw.size
  obtain ⟨s1, s2, s3, s4⟩ := hsm.parts
  obtain ⟨box, hbox⟩ : ∃ box : List Value, box = [.int .i64 k, .int .i64 n, .slice ab b.length cb, strV t, .slice ak ks.length ck, .slice al l.length cl] := ⟨_, rfl⟩
  have hall : Hid (∀ W, W = (w.alloc (.cells (List.toArray (α := Value) box) 30)).alloc (.cells zV 30) → Blk W w.heap.size 30 box ∧ Blk W (w.heap.size + 1) 30 zV.toList ∧ Below w.heap.size w W ∧ W.heap.size = w.heap.size + 2) := by
    rintro W rfl
    refine ⟨?_, ?_, ((Below.refl _ _).alloc (Nat.le_refl _) _).alloc (by simp) _, by simp⟩
    · simpa using (Blk.new w 30 box.toArray).alloc (.cells zV 30)
    · have := Blk.new (w.alloc (.cells (List.toArray (α := Value) box) 30)) 30 zV
      simpa using this
  have zs := zV_size
  have hO6 := oneC6
  have hN := Lib.hid (normV_mk k n b t ks l)
  have hcl := fun w' (hbb : Below w0.heap.size w0 w') => clone_any ab b.length cb b w' rfl (hb.below hbb) (by omega)
  rw [← hbox]
  have HB := Lib.hid hbox
  clear hbox
  go_enter Tryd.func97, Tryd.ntmps97
  go_upto_region 1 with (fail)
  generalize hW : (w.alloc (.cells (List.toArray (α := Value) box) 30)).alloc (.cells zV 30) = W at *
  obtain ⟨A0, R0, hbW, S0⟩ := hall.out W rfl
  clear hall hW
  have a0 : W.cell? ⟨w.heap.size, 0, none⟩ = some (.int .i64 k) := A0.cell (by rw [HB.out]; rfl)
  have hall : Hid (∀ W1, W1 = W.alloc (.cells (List.toArray [.int .i64 k, .int .i64 0, .slice none 0 0, strV [], .slice none 0 0, .slice none 0 0]) 30) → Blk W1 w.heap.size 30 box ∧ Blk W1 (w.heap.size + 1) 30 zV.toList ∧ Blk W1 (w.heap.size + 2) 30 [.int .i64 k, .int .i64 0, .slice none 0 0, strV [], .slice none 0 0, .slice none 0 0] ∧ Below w.heap.size w W1 ∧ W1.heap.size = w.heap.size + 3) := by
    rintro W1 rfl
    refine ⟨A0.alloc _, R0.alloc _, ?_, hbW.alloc (by omega) _, by simp [S0]⟩
    have := Blk.new W 30 (List.toArray [.int .i64 k, .int .i64 0, .slice none 0 0, strV [], .slice none 0 0, .slice none 0 0])
    rw [S0] at this
    exact this
  go_upto_region 2 with (fail)
  generalize hW : W.alloc (.cells #[.int .i64 k, .int .i64 0, .slice none 0 0, .string { data := #[] }, .slice none 0 0, .slice none 0 0] 30) = W1 at *
  obtain ⟨A1, R1, B1, hb1, S1⟩ := hall.out W1 hW.symm
  clear hall hW A0 R0 hbW S0 a0
  have a0 : W1.cell? ⟨w.heap.size, 0, none⟩ = some (.int .i64 k) := A1.cell (by rw [HB.out]; rfl)
  by_cases h3 : k = 3
  · subst h3
    have a1 : W1.cell? ⟨w.heap.size, 1, none⟩ = some (.int .i64 n) := A1.cell (by rw [HB.out]; rfl)
    have d1 : W1.cell? ⟨w.heap.size + 2, 1, none⟩ = some (.int .i64 0) := B1.cell rfl
    have d2 : W1.frozen? ⟨w.heap.size + 2, 1, none⟩ = false := B1.free 1
    go_upto_region 17 with (fail)
    have hR := setCell_blk (i := 1) (u := .int .i64 n) R1 (show w.heap.size + 1 ≠ w.heap.size + 2 by omega)
    have hq := B1.set 1 (.int .i64 n)
    have hbb := setCell_below (q := w.heap.size + 2) (i := 1) (u := .int .i64 n) hb1 (by omega)
    generalize W1.setCell _ _ = W2 at *
    obtain ⟨c2, e0, e1, e2, e3, e4⟩ := clone_end (v := .mk 3 n b t ks l) hR hq (by rw [hN.out]; exact VAtP.numQ W2 hn) hbb
    go_wp2
    refine bodyPost_ret (results_cell_row (fn := Tryd.f97) (by rfl) _ _ (w.heap.size + 1) 30 _ (0, 0) _ (by rfl) e3 Tryd.underlying30 rfl (by rw [e0]; exact sizeV)) rfl e4.out
  by_cases h5 : k = 5
  · subst h5
    have a1 : W1.cell? ⟨w.heap.size, 3, none⟩ = some (.string (str t)) := A1.cell (by rw [HB.out]; rfl)
    have d1 : W1.cell? ⟨w.heap.size + 2, 3, none⟩ = some (strV []) := B1.cell rfl
    have d2 : W1.frozen? ⟨w.heap.size + 2, 3, none⟩ = false := B1.free 3
    go_upto_region 17 with (fail)
    have hR := setCell_blk (i := 3) (u := .string (str t)) R1 (show w.heap.size + 1 ≠ w.heap.size + 2 by omega)
    have hq := B1.set 3 (.string (str t))
    have hbb := setCell_below (q := w.heap.size + 2) (i := 3) (u := .string (str t)) hb1 (by omega)
    generalize W1.setCell _ _ = W2 at *
    obtain ⟨c2, e0, e1, e2, e3, e4⟩ := clone_end (v := .mk 5 n b t ks l) hR hq (by rw [hN.out]; exact VAtP.txtS W2 ht) hbb
    go_wp2
    refine bodyPost_ret (results_cell_row (fn := Tryd.f97) (by rfl) _ _ (w.heap.size + 1) 30 _ (0, 0) _ (by rfl) e3 Tryd.underlying30 rfl (by rw [e0]; exact sizeV)) rfl e4.out
  by_cases h4 : k = 4
  · subst h4
    have a1 : W1.cell? ⟨w.heap.size, 2, none⟩ = some (.slice ab b.length cb) := A1.cell (by rw [HB.out]; rfl)
    go_wp2_with fail
    refine (hcl W1 (hbw.trans (hb1.mono hsz))).mono ?_
    rintro e w2 ⟨v2, rfl, hF⟩
    obtain ⟨a2, c2, rfl, hr2, hb2, hm2, hc2⟩ := fresh_open hF
    have hat := fresh_at hF
    have B2 := B1.below hb2
    have R2 := R1.below hb2
    have d1 : w2.cell? ⟨w.heap.size + 2, 2, none⟩ = some (.slice none 0 0) := B2.cell rfl
    have d2 : w2.frozen? ⟨w.heap.size + 2, 2, none⟩ = false := B2.free 2
    have hbb2 := hb1.trans (hb2.mono hb1.size)
    have HF : Hid ((0 < b.length → w.heap.size + 3 ≤ (hd a2).block) ∧ Row w2 a2 (b.map b8) ∧ b.length ≤ c2 ∧ c2 ≤ maxLen) := ⟨fun h => by have := hat h; omega, hr2, hc2, hm2⟩
    clear hat hF hr2 hm2 hc2
    go_upto_region 17 with (fail)
    have hR := setCell_blk (i := 2) (u := .slice a2 b.length c2) R2 (show w.heap.size + 1 ≠ w.heap.size + 2 by omega)
    have hq := B2.set 2 (.slice a2 b.length c2)
    have hbb := setCell_below (q := w.heap.size + 2) (i := 2) (u := .slice a2 b.length c2) hbb2 (by omega)
    have hr3 : Row (w2.setCell ⟨w.heap.size + 2, 2, none⟩ (.slice a2 b.length c2)) a2 (b.map b8) := Row.keptP (ok := fun z => w.heap.size + 3 ≤ z) HF.out.2.1 (fun h => HF.out.1 (by simpa using h)) (fun z hz _ => Below.heap_setCell w2 _ _ z (by show z ≠ w.heap.size + 2; omega))
    have hv3 : VAtP (fun z => w.heap.size + 2 ≤ z ∧ z ≠ w.heap.size + 2) (w2.setCell ⟨w.heap.size + 2, 2, none⟩ (.slice a2 b.length c2)) (bytC (.slice a2 b.length c2)) (pByt b) := VAtP.bytS hr3 HF.out.2.2.1 HF.out.2.2.2 (fun h => by have := HF.out.1 h; omega)
    generalize w2.setCell _ _ = W2 at *
    obtain ⟨c3, e0, e1, e2, e3, e4⟩ := clone_end (v := .mk 4 n b t ks l) hR hq (by rw [hN.out]; exact hv3) hbb
    go_wp2
    refine bodyPost_ret (results_cell_row (fn := Tryd.f97) (by rfl) _ _ (w.heap.size + 1) 30 _ (0, 0) _ (by rfl) e3 Tryd.underlying30 rfl (by rw [e0]; exact sizeV)) rfl e4.out
  have HL := Lib.hid hl
  have HS := Lib.hid s4
  by_cases h6' : k = 6
  · subst h6'
    have a1 : W1.cell? ⟨w.heap.size, 5, none⟩ = some (.slice al l.length cl) := A1.cell (by rw [HB.out]; rfl)
    obtain ⟨uK, huK⟩ : ∃ uK : Value, uK = .slice none 0 0 := ⟨_, rfl⟩
    obtain ⟨K, hK⟩ : ∃ K : List (List UInt8), K = [] := ⟨_, rfl⟩
    have G1 : Hid (∃ u, VB (w.heap.size + 2) (w.heap.size + 2) W1 (.mk 6 0 [] [] K ((normL l).take 0)) (.slice none 0 0) uK u) := by
      subst huK hK
      exact ⟨_, VB.new (b := []) (t := []) (ab := none) B1 (Nat.le_refl _) (by omega) (by unfold in64; omega) (by unfold in64; omega) (Nat.zero_le _) ⟨Nat.le_refl _, Nat.zero_le _⟩ (Row.nil _ _) (by simp)⟩
    have G2 := Lib.hid hb1
    have G3 := Lib.hid R1
    clear hb1 R1 B1 huK
    go_upto_region 13 with (fail)
    go_loopw [40] (fun i wr => ∃ j : Nat, j ≤ l.length ∧ i = .int .i64 j ∧ Hid (∃ u, VB (w.heap.size + 2) (w.heap.size + 2) wr (.mk 6 0 [] [] K ((normL l).take j)) (.slice none 0 0) uK u) ∧ Hid (Below w.heap.size w wr) ∧ Hid (Blk wr (w.heap.size + 1) 30 zV.toList)) (fun i _ => l.length - (intOf i).toNat)
    case atStart => exact ⟨0, Nat.zero_le _, rfl, G1, G2, G3⟩
    case round =>
      obtain ⟨j, hj, rfl, hV, hb, hR⟩ := hrel
      have j0 : (0 : Int) ≤ (j : Int) := by omega
      have jb : IntKind.i64.wrap ((j : Int) + 1) = (j : Int) + 1 := IntWalk.i64_in _ (by omega)
      clear G1 G2 G3
      by_cases hlt : j < l.length
      · have j1 : (j : Int) < (l.length : Int) := by omega
        have hr2 := HL.out.below (hbw.trans (hb.out.mono hsz))
        have s1 := hr2.elemSome (s := 6) h6 (by decide) (i := j) (by omega)
        have hxc := sub j css[j] l[j] (by simp [hcs, hlt]) (by simp [hlt])
        have q1 := ldOp_at (P := Tryd.prog) (ty := 30) (hr2.elem (s := 6) h6 (i := j) (c := css[j]) (by simp [hcs, hlt])) Tryd.underlying30 rfl (by rw [hxc.len]; exact sizeV)
        have hT : Hid ((normL l).take (j + 1) = (normL l).take j ++ [normV l[j]]) := by
          show _ = _
          rw [List.take_succ_eq_append_getElem (by rw [normL_len]; exact hlt), normL_get]
        have hih := fun w' hbb => ih j css[j] l[j] (by simp [hcs, hlt]) (by simp [hlt]) w' hbb (HS.out _ (List.getElem_mem hlt))
        generalize l[j] = x at *
        generalize css[j] = c at *
        have y1 : c.toArray.size = 6 := by simpa using hxc.len
        have y2 : OneC c.toArray := all_oneCell_toArray hxc.one
        clear hr2
        obtain ⟨u, hvb⟩ := hV.out
        obtain ⟨vs, hvs⟩ : ∃ vs, vs = (normL l).take j := ⟨_, rfl⟩
        rw [← hvs] at hvb hT
        --REGION15 6
        go_upto_region 15 with (fail)
        have hpB : Blk (wr.alloc (.cells (List.toArray c) 30)) wr.heap.size 30 c := Blk.new wr 30 _
        have hb0x : Below wr.heap.size wr (wr.alloc (.cells (List.toArray c) 30)) := (Below.refl _ _).alloc (Nat.le_refl _) _
        have hqW : w.heap.size + 2 < wr.heap.size := hvb.blk.lt
        have hvbW : VB (w.heap.size + 2) (w.heap.size + 2) (wr.alloc (.cells (List.toArray c) 30)) (.mk 6 0 [] [] K vs) (.slice none 0 0) uK u := hvb.keep hb0x.size (fun b _ hlt => hb0x.block b hlt)
        have hbW := hb.out.trans (hb0x.mono hb.out.size)
        have hRW := hR.out.below hb0x
        have hwr : wr.heap.size ≤ (wr.alloc (.cells (List.toArray c) 30)).heap.size := by simp
        generalize hqx : wr.heap.size = qp at *
        generalize wr.alloc (.cells (List.toArray c) 30) = W at *
        have hSm : ∀ (L : Array Bool) (w1 w2 : World), ((L.getD 5 false = false → Blk w1 (w.heap.size + 2) 30 [.int .i64 6, .int .i64 0, .slice none 0 0, strV [], uK, u]) ∧ Blk w1 qp 30 c) → Mo w1 w2 → ((L.getD 5 false = false → Blk w2 (w.heap.size + 2) 30 [.int .i64 6, .int .i64 0, .slice none 0 0, strV [], uK, u]) ∧ Blk w2 qp 30 c) :=
          fun L w1 w2 h hm => ⟨fun hL => (h.1 hL).below hm, h.2.below hm⟩
        have hSi : ∀ i, i ≠ 5 → ∀ (L : Array Bool) (w1 : World), ((((L.setIfInBounds i true).getD 5 false = false → Blk w1 (w.heap.size + 2) 30 [.int .i64 6, .int .i64 0, .slice none 0 0, strV [], uK, u]) ∧ Blk w1 qp 30 c) ↔ ((L.getD 5 false = false → Blk w1 (w.heap.size + 2) 30 [.int .i64 6, .int .i64 0, .slice none 0 0, strV [], uK, u]) ∧ Blk w1 qp 30 c)) := fun i hi L w1 => by
          rw [getD_set_ne false hi]
        have hS0 : Blk (W.drewN 1) (w.heap.size + 2) 30 [.int .i64 6, .int .i64 0, .slice none 0 0, strV [], uK, u] ∧ Blk (W.drewN 1) qp 30 c := ⟨hvbW.blk, hpB⟩
        have hSw : ∀ (L : Array Bool) (w' : World), Mo (W.drewN 1) w' → (L.getD 5 false = false → Blk w' (w.heap.size + 2) 30 [.int .i64 6, .int .i64 0, .slice none 0 0, strV [], uK, u]) ∧ Blk w' qp 30 c := fun L w' hm => ⟨fun _ => hS0.1.below hm, hS0.2.below hm⟩
        refine wp_region_upN (S := fun L w1 => (L.getD 5 false = false → Blk w1 (w.heap.size + 2) 30 [.int .i64 6, .int .i64 0, .slice none 0 0, strV [], uK, u]) ∧ Blk w1 qp 30 c) 8 rfl (by kernel_rfl) ?_
        refine wpAnyU_take (i := 0) (A := fun _ => True) (v := .pointer (some ⟨w.heap.size + 2, 5, none⟩)) (a' := ⟨#[.agg (List.toArray box), .pointer (some ⟨w.heap.size, 0, none⟩), .pointer (some ⟨w.heap.size + 1, 0, none⟩), .pointer (some ⟨w.heap.size + 2, 0, none⟩), undef, .pointer (some ⟨qp, 0, none⟩), .pointer (some ⟨w.heap.size, 0, none⟩), .int .i64 6, .agg #[.int .i64 6, .int .i64 0, .slice none 0 0, .string { data := #[] }, .slice none 0 0, .slice none 0 0], .pointer (some ⟨w.heap.size, 0, none⟩), .int .i64 6, .bool false, .bool false, .bool false, .bool false, .bool false, .bool false, .bool false, .bool false, .bool true, .bool true, undef, undef, undef, undef, undef, undef, undef, undef, undef, undef, undef, undef, undef, undef, undef, undef, .pointer (some ⟨w.heap.size, 5, none⟩), .slice al l.length cl, .int .i64 (l.length : Int), .int .i64 (j : Int), .bool true, .pointer (some ((hd al).add (j * 6))), .agg (List.toArray c), .pointer (some ⟨w.heap.size + 2, 5, none⟩), u45, u46, u47, u48, u49, u50, u51, undef], []⟩) hSm (hSi 0 (by decide)) (fun _ _ _ => trivial) rfl (by kernel_rfl) (by kernel_rfl) (by kernel_rfl) (fun _ _ _ h => h) (hSw _ _ (Mo.refl _)) (Tame.val rfl (fun w' hA => by go_simp)) rfl ?_
        refine wpAnyU_takeK (i := 1) 5 (A := fun w1 => Blk w1 (w.heap.size + 2) 30 [.int .i64 6, .int .i64 0, .slice none 0 0, strV [], uK, u]) (v := u) (a' := ⟨#[.agg (List.toArray box), .pointer (some ⟨w.heap.size, 0, none⟩), .pointer (some ⟨w.heap.size + 1, 0, none⟩), .pointer (some ⟨w.heap.size + 2, 0, none⟩), undef, .pointer (some ⟨qp, 0, none⟩), .pointer (some ⟨w.heap.size, 0, none⟩), .int .i64 6, .agg #[.int .i64 6, .int .i64 0, .slice none 0 0, .string { data := #[] }, .slice none 0 0, .slice none 0 0], .pointer (some ⟨w.heap.size, 0, none⟩), .int .i64 6, .bool false, .bool false, .bool false, .bool false, .bool false, .bool false, .bool false, .bool false, .bool true, .bool true, undef, undef, undef, undef, undef, undef, undef, undef, undef, undef, undef, undef, undef, undef, undef, undef, .pointer (some ⟨w.heap.size, 5, none⟩), .slice al l.length cl, .int .i64 (l.length : Int), .int .i64 (j : Int), .bool true, .pointer (some ((hd al).add (j * 6))), .agg (List.toArray c), .pointer (some ⟨w.heap.size + 2, 5, none⟩), u, u46, u47, u48, u49, u50, u51, undef], []⟩) hSm (hSi 1 (by decide)) (fun _ _ h h2 => h.1 h2) rfl rfl (by kernel_rfl) (by kernel_rfl) (by kernel_rfl) (by kernel_rfl) (by kernel_rfl) (fun _ _ _ h => h) (hSw _ _ (Mo.refl _)) (Tame.val rfl (fun w' hA => by have := hA.cell (i := 5) (u := u) rfl; go_simp)) rfl ?_
        refine wpAnyU_take (i := 2) (A := fun w1 => Blk w1 qp 30 c) (v := .agg (List.toArray c)) (a' := ⟨#[.agg (List.toArray box), .pointer (some ⟨w.heap.size, 0, none⟩), .pointer (some ⟨w.heap.size + 1, 0, none⟩), .pointer (some ⟨w.heap.size + 2, 0, none⟩), undef, .pointer (some ⟨qp, 0, none⟩), .pointer (some ⟨w.heap.size, 0, none⟩), .int .i64 6, .agg #[.int .i64 6, .int .i64 0, .slice none 0 0, .string { data := #[] }, .slice none 0 0, .slice none 0 0], .pointer (some ⟨w.heap.size, 0, none⟩), .int .i64 6, .bool false, .bool false, .bool false, .bool false, .bool false, .bool false, .bool false, .bool false, .bool true, .bool true, undef, undef, undef, undef, undef, undef, undef, undef, undef, undef, undef, undef, undef, undef, undef, undef, .pointer (some ⟨w.heap.size, 5, none⟩), .slice al l.length cl, .int .i64 (l.length : Int), .int .i64 (j : Int), .bool true, .pointer (some ((hd al).add (j * 6))), .agg (List.toArray c), .pointer (some ⟨w.heap.size + 2, 5, none⟩), u, .agg (List.toArray c), u47, u48, u49, u50, u51, undef], []⟩) hSm (hSi 2 (by decide)) (fun _ _ h => h.2) rfl (by kernel_rfl) (by kernel_rfl) (by kernel_rfl) (fun _ _ _ h => h) (hSw _ _ (Mo.refl _)) (Tame.val rfl (fun w' hA => run_ldOp (ldOp_all hA Tryd.underlying30 rfl (by rw [hxc.len]; exact sizeV)))) rfl ?_
        refine wpAnyU_all (rs := [3]) (by kernel_rfl) (by decide) ?_
        intro w2 hm2 i hi
        obtain rfl : i = 3 := by simpa using hi
        have hbw2 : Below w.heap.size w w2 := hbW.trans ((Below.drewN' hm2).mono hbW.size)
        refine wpOp_enter (f := 97) (args := #[.agg (List.toArray c)]) rfl rfl (by go_simp) ((hih w2 (hbw.trans (hbw2.mono hsz))).mono ?_)
        rintro e w3 ⟨ds, rfl, hds, hb3⟩
        refine ⟨_, rfl, ?_⟩
        show _ ∧ wpAnyU _ _ _ _ _ _ _ (⟨#[.agg (List.toArray box), .pointer (some ⟨w.heap.size, 0, none⟩), .pointer (some ⟨w.heap.size + 1, 0, none⟩), .pointer (some ⟨w.heap.size + 2, 0, none⟩), undef, .pointer (some ⟨qp, 0, none⟩), .pointer (some ⟨w.heap.size, 0, none⟩), .int .i64 6, .agg #[.int .i64 6, .int .i64 0, .slice none 0 0, .string { data := #[] }, .slice none 0 0, .slice none 0 0], .pointer (some ⟨w.heap.size, 0, none⟩), .int .i64 6, .bool false, .bool false, .bool false, .bool false, .bool false, .bool false, .bool false, .bool false, .bool true, .bool true, undef, undef, undef, undef, undef, undef, undef, undef, undef, undef, undef, undef, undef, undef, undef, undef, .pointer (some ⟨w.heap.size, 5, none⟩), .slice al l.length cl, .int .i64 (l.length : Int), .int .i64 (j : Int), .bool true, .pointer (some ((hd al).add (j * 6))), .agg (List.toArray c), .pointer (some ⟨w.heap.size + 2, 5, none⟩), u, .agg (List.toArray c), .agg (List.toArray ds), u48, u49, u50, u51, undef], []⟩ : Act) _
        have hm3 : Mo (W.drewN 1) w3 := Mo.trans hm2 hb3
        refine ⟨hSw _ _ hm3, ?_⟩
        have hds6 := hds.len
        refine wpAnyU_all (rs := [4]) (by kernel_rfl) (by decide) ?_
        intro w4 hm4 i hi
        obtain rfl : i = 4 := by simpa using hi
        refine wpOp_val (v := .slice (some ⟨w4.heap.size, 0, none⟩) 1 1) (w' := w4.alloc (.cells (List.toArray ds) 30)) (a' := ⟨#[.agg (List.toArray box), .pointer (some ⟨w.heap.size, 0, none⟩), .pointer (some ⟨w.heap.size + 1, 0, none⟩), .pointer (some ⟨w.heap.size + 2, 0, none⟩), undef, .pointer (some ⟨qp, 0, none⟩), .pointer (some ⟨w.heap.size, 0, none⟩), .int .i64 6, .agg #[.int .i64 6, .int .i64 0, .slice none 0 0, .string { data := #[] }, .slice none 0 0, .slice none 0 0], .pointer (some ⟨w.heap.size, 0, none⟩), .int .i64 6, .bool false, .bool false, .bool false, .bool false, .bool false, .bool false, .bool false, .bool false, .bool true, .bool true, undef, undef, undef, undef, undef, undef, undef, undef, undef, undef, undef, undef, undef, undef, undef, undef, .pointer (some ⟨w.heap.size, 5, none⟩), .slice al l.length cl, .int .i64 (l.length : Int), .int .i64 (j : Int), .bool true, .pointer (some ((hd al).add (j * 6))), .agg (List.toArray c), .pointer (some ⟨w.heap.size + 2, 5, none⟩), u, .agg (List.toArray c), .agg (List.toArray ds), .slice (some ⟨w4.heap.size, 0, none⟩) 1 1, u49, u50, u51, undef], []⟩) rfl rfl (run_bsOp (vals := #[(0, .agg (List.toArray ds))]) (by first | rfl | go_simp | simp [Act.eval]) (bsOp_one (cs := List.toArray ds) Tryd.underlying28 infoV (by decide) (by decide) (by exact zV_size) (by simpa using hds6))) rfl ?_
        have hm5 : Mo w4 (w4.alloc (.cells (List.toArray ds) 30)) := (Below.refl _ _).alloc (Nat.le_refl _) _
        have hm35 := Mo.trans (Mo.trans hm3 hm4) hm5
        have hB5 : Blk (w4.alloc (.cells (List.toArray ds) 30)) w4.heap.size 30 ds := Blk.new _ _ _
        have hds5 := (hds.grow hm4).grow hm5
        refine ⟨hSw _ _ hm35, ?_⟩
        generalize hgg : w4.heap.size = g at *
        generalize hw5 : w4.alloc (.cells (List.toArray ds) 30) = w5 at *
        clear hw5 hm4 hm5
        refine wpAnyU_all (rs := [5]) (by kernel_rfl) (by decide) ?_
        intro w8 hm8 i hi
        obtain rfl : i = 5 := by simpa using hi
        have hm38 := Mo.trans hm35 hm8
        have hvb8 : VB (w.heap.size + 2) (w.heap.size + 2) w8 (.mk 6 0 [] [] K vs) (.slice none 0 0) uK u := hvbW.keep hm38.size (fun b _ hlt => hm38.block b hlt)
        have hxV : VAtP (okB (w.heap.size + 2) (w.heap.size + 2) uK u) w8 ds (normV x) := (hds5.grow hm8).mono (fun b hb _ => fresh_okB hvbW (Nat.le_trans (show W.heap.size ≤ w2.heap.size from hm2.size) hb))
        have hr8 : Row w8 (some ⟨g, 0, none⟩) ds := (hB5.below hm8).row
        have hvl : vs.length ≤ 1000000000 := by
          have h2 : vs.length ≤ l.length := by rw [hvs, List.length_take, normL_len]; omega
          omega
        obtain ⟨a', c', w9, hrun, hVs9, hG9⟩ := VsAt.appR (ty := 28) (c2 := 1) (ok' := fun z => okB (w.heap.size + 2) (w.heap.size + 2) uK u z ∧ z < w8.heap.size) hvb8.list (fun z hz => hz.2.2.2) hxV (fun z hz hlt => ⟨hz, hlt⟩) hvl hvb8.le hr8
        refine wpOp_val (v := .slice a' (vs.length + 1) c') (w' := w9) (a' := ⟨#[.agg (List.toArray box), .pointer (some ⟨w.heap.size, 0, none⟩), .pointer (some ⟨w.heap.size + 1, 0, none⟩), .pointer (some ⟨w.heap.size + 2, 0, none⟩), undef, .pointer (some ⟨qp, 0, none⟩), .pointer (some ⟨w.heap.size, 0, none⟩), .int .i64 6, .agg #[.int .i64 6, .int .i64 0, .slice none 0 0, .string { data := #[] }, .slice none 0 0, .slice none 0 0], .pointer (some ⟨w.heap.size, 0, none⟩), .int .i64 6, .bool false, .bool false, .bool false, .bool false, .bool false, .bool false, .bool false, .bool false, .bool true, .bool true, undef, undef, undef, undef, undef, undef, undef, undef, undef, undef, undef, undef, undef, undef, undef, undef, .pointer (some ⟨w.heap.size, 5, none⟩), .slice al l.length cl, .int .i64 (l.length : Int), .int .i64 (j : Int), .bool true, .pointer (some ((hd al).add (j * 6))), .agg (List.toArray c), .pointer (some ⟨w.heap.size + 2, 5, none⟩), u, .agg (List.toArray c), .agg (List.toArray ds), .slice (some ⟨g, 0, none⟩) 1 1, .slice a' (vs.length + 1) c', u50, u51, undef], []⟩) rfl rfl (run_append hrun rfl rfl rfl) rfl ?_
        have hB9 : Blk w9 qp 30 c := (hG9.blk ((show Blk (W.drewN 1) qp 30 c from hpB).below hm38) (fun e => by have := hvb.kown.2 _ e; omega)).1
        have hS9 : ∀ L : Array Bool, L.getD 5 false = true → (L.getD 5 false = false → Blk w9 (w.heap.size + 2) 30 [.int .i64 6, .int .i64 0, .slice none 0 0, strV [], uK, u]) ∧ Blk w9 qp 30 c := fun L hL => ⟨fun h => absurd (hL.symm.trans h) (by decide), hB9⟩
        refine ⟨hS9 _ (by kernel_rfl), ?_⟩
        refine wpAnyU_take (i := 6) (A := fun _ => True) (v := .pointer (some ⟨w.heap.size + 2, 5, none⟩)) (a' := ⟨#[.agg (List.toArray box), .pointer (some ⟨w.heap.size, 0, none⟩), .pointer (some ⟨w.heap.size + 1, 0, none⟩), .pointer (some ⟨w.heap.size + 2, 0, none⟩), undef, .pointer (some ⟨qp, 0, none⟩), .pointer (some ⟨w.heap.size, 0, none⟩), .int .i64 6, .agg #[.int .i64 6, .int .i64 0, .slice none 0 0, .string { data := #[] }, .slice none 0 0, .slice none 0 0], .pointer (some ⟨w.heap.size, 0, none⟩), .int .i64 6, .bool false, .bool false, .bool false, .bool false, .bool false, .bool false, .bool false, .bool false, .bool true, .bool true, undef, undef, undef, undef, undef, undef, undef, undef, undef, undef, undef, undef, undef, undef, undef, undef, .pointer (some ⟨w.heap.size, 5, none⟩), .slice al l.length cl, .int .i64 (l.length : Int), .int .i64 (j : Int), .bool true, .pointer (some ((hd al).add (j * 6))), .agg (List.toArray c), .pointer (some ⟨w.heap.size + 2, 5, none⟩), u, .agg (List.toArray c), .agg (List.toArray ds), .slice (some ⟨g, 0, none⟩) 1 1, .slice a' (vs.length + 1) c', .pointer (some ⟨w.heap.size + 2, 5, none⟩), u51, undef], []⟩) hSm (hSi 6 (by decide)) (fun _ _ _ => trivial) rfl (by kernel_rfl) (by kernel_rfl) (by kernel_rfl) (fun _ _ _ h => h) (hS9 _ (by kernel_rfl)) (Tame.val rfl (fun w' hA => by go_simp)) rfl ?_
        refine wpAnyU_all (rs := [7]) (by kernel_rfl) (by decide) ?_
        intro w10 hm10 i hi
        obtain rfl : i = 7 := by simpa using hi
        have hq9 := hG9.blk hvb8.blk hvb8.lq
        have hq10 := hq9.1.below hm10
        have d1 : w10.cell? ⟨w.heap.size + 2, 5, none⟩ = some u := hq10.cell rfl
        have d2 : w10.frozen? ⟨w.heap.size + 2, 5, none⟩ = false := hq10.free 5
        refine wpOp_skip (w' := w10.setCell ⟨w.heap.size + 2, 5, none⟩ (.slice a' (vs.length + 1) c')) (a' := ⟨#[.agg (List.toArray box), .pointer (some ⟨w.heap.size, 0, none⟩), .pointer (some ⟨w.heap.size + 1, 0, none⟩), .pointer (some ⟨w.heap.size + 2, 0, none⟩), undef, .pointer (some ⟨qp, 0, none⟩), .pointer (some ⟨w.heap.size, 0, none⟩), .int .i64 6, .agg #[.int .i64 6, .int .i64 0, .slice none 0 0, .string { data := #[] }, .slice none 0 0, .slice none 0 0], .pointer (some ⟨w.heap.size, 0, none⟩), .int .i64 6, .bool false, .bool false, .bool false, .bool false, .bool false, .bool false, .bool false, .bool false, .bool true, .bool true, undef, undef, undef, undef, undef, undef, undef, undef, undef, undef, undef, undef, undef, undef, undef, undef, .pointer (some ⟨w.heap.size, 5, none⟩), .slice al l.length cl, .int .i64 (l.length : Int), .int .i64 (j : Int), .bool true, .pointer (some ((hd al).add (j * 6))), .agg (List.toArray c), .pointer (some ⟨w.heap.size + 2, 5, none⟩), u, .agg (List.toArray c), .agg (List.toArray ds), .slice (some ⟨g, 0, none⟩) 1 1, .slice a' (vs.length + 1) c', .pointer (some ⟨w.heap.size + 2, 5, none⟩), u51, undef], []⟩) rfl rfl (by go_simp) rfl ?_
        have hVs10 : VsAt (okB (w.heap.size + 2) (w.heap.size + 2) uK (.slice a' (vs.length + 1) c')) (w.heap.size + 2) w10 (.slice a' (vs.length + 1) c') (vs ++ [normV x]) :=
          hVs9.same hm10.size (fun b hb => hm10.block b (by obtain ⟨_, _, _, hO, _⟩ := hVs9; exact (World.ownsRow.lt hO b hb).2)) (fun b hb hlt => ⟨hm10.block b hlt, hb.1.1, hb.1.2.1, hb.1.2.2.1, fun e => by
            rcases hG9.own b e with h | h
            · exact hb.1.2.2.2 h
            · omega⟩)
        have hvb11 := hvb8.addL hVs10 (hG9.trans (Gro.ofBelow hm10))
        have hne : qp ≠ w.heap.size + 2 := by omega
        have hB11 : Blk (w10.setCell ⟨w.heap.size + 2, 5, none⟩ (.slice a' (vs.length + 1) c')) qp 30 c := setCell_blk (hB9.below hm10) hne
        refine ⟨⟨fun h => absurd h (by decide +kernel), hB11⟩, ?_⟩
        refine wpAnyU_done (by kernel_rfl) ?_ _
        intro w12 hm12
        have hb8 : Below w.heap.size w w8 := hbW.trans ((Below.drewN' hm38).mono hbW.size)
        have hb9 : Below w.heap.size w w9 := hb8.trans (hG9.below (base := w.heap.size + 2) (fun k hk => (hvb8.kown.2 k hk).1) (by omega) hb8.size)
        have hb10 : Below w.heap.size w w10 := hb9.trans (hm10.mono hb9.size)
        have hb11 := setCell_below (q := w.heap.size + 2) (i := 5) (u := .slice a' (vs.length + 1) c') hb10 (by omega)
        have hb12 := Lib.hid (hb11.trans (hm12.mono hb11.size))
        have hR8 : Blk w8 (w.heap.size + 1) 30 zV.toList := (show Blk (W.drewN 1) (w.heap.size + 1) 30 zV.toList from hRW).below hm38
        have hR9 := (hG9.blk hR8 (fun e => by have := (hvb8.kown.2 _ e).1; omega)).1
        have hR11 : Blk (w10.setCell ⟨w.heap.size + 2, 5, none⟩ (.slice a' (vs.length + 1) c')) (w.heap.size + 1) 30 zV.toList := setCell_blk (hR9.below hm10) (by omega)
        have hR12 := Lib.hid (hR11.below hm12)
        have hvb12 : Hid (∃ u', VB (w.heap.size + 2) (w.heap.size + 2) w12 (.mk 6 0 [] [] K ((normL l).take (j + 1))) (.slice none 0 0) uK u') := by
          show ∃ _, _
          rw [hT.out]
          exact ⟨_, hvb11.keep hm12.size (fun b _ hlt => hm12.block b hlt)⟩
        clear hm12 hb11 hb10 hb9 hb8 hR11 hR9 hR8 hvb11 hB11 hVs10 d1 d2 hq10 hq9 hm10 hS9 hB9 hG9 hVs9 hrun hr8 hxV hvb8 hSw hSm hSi hS0
        go_wp2
        first
          | exact ⟨⟨j + 1, by omega, (by first | rfl | go_num | (congr 1; omega)), hvb12, hb12, hR12⟩, by simp [intOf] <;> omega⟩
          | (refine ⟨?_, by simp [intOf] <;> omega⟩; (repeat apply Exists.intro); exact ⟨⟨j + 1, by omega, (by first | rfl | go_num | (congr 1; omega)), hvb12, hb12, hR12⟩, rfl⟩)
        --END15 6
      · obtain rfl : j = l.length := by omega
        have j1 : ¬ (l.length : Int) < (l.length : Int) := by omega
        obtain ⟨u, hvb⟩ := hV.out
        rw [← normL_len l, List.take_length] at hvb
        go_upto_region 17 with (fail)
        obtain ⟨c2, e0, e1, e2, e3, e4⟩ := clone_end (v := .mk 6 n b t ks l) hR.out hvb.blk (by rw [hN.out]; subst hK; exact hvb.done) hb.out
        go_wp2
        refine bodyPost_ret (results_cell_row (fn := Tryd.f97) (by rfl) _ _ (w.heap.size + 1) 30 _ (0, 0) _ (by rfl) e3 Tryd.underlying30 rfl (by rw [e0]; exact sizeV)) rfl e4.out
  by_cases h7 : k = 7
  · subst h7
    have a1 : W1.cell? ⟨w.heap.size, 5, none⟩ = some (.slice al l.length cl) := A1.cell (by rw [HB.out]; rfl)
    have a2 : W1.cell? ⟨w.heap.size, 4, none⟩ = some (.slice ak ks.length ck) := A1.cell (by rw [HB.out]; rfl)
    have d1 : W1.cell? ⟨w.heap.size + 2, 4, none⟩ = some (.slice none 0 0) := B1.cell rfl
    have hsrc : Src Tryd.prog 1 27 (.slice ak ks.length ck) ks.length (ks.map strV) W1 := Src.ofRow eS.ht _ ks.length ck (ks.map strV) (by decide) (by simp) (hks.below (hbw.trans (hb1.mono hsz))) (fun u hu => by obtain ⟨x, _, rfl⟩ := List.mem_map.1 hu; rfl)
    obtain ⟨uK, w2, happ, hO2, hG2, hK2⟩ := append_srcK (ty := 27) eS (World.ownsRow_nil W1 (w.heap.size + 2) 9 1) hsrc (by unfold maxLen; omega) (by omega) (by omega)
    rw [Nat.zero_add, List.nil_append] at hO2
    have hGro : Gro W1 w2 (.slice none 0 0) uK := ⟨hG2, hK2⟩
    have B2 := (hGro.blk B1 (by simp [Value.ownBlock])).1
    have R2 := (hGro.blk R1 (by simp [Value.ownBlock])).1
    have A2 := (hGro.blk A1 (by simp [Value.ownBlock])).1
    have hbb2 := hb1.trans (hGro.below (base := w.heap.size) (old := w.heap.size) (fun k hk => by simp [Value.ownBlock] at hk) (Nat.le_refl _) hb1.size)
    have hKb : ∀ z, uK.ownBlock = some z → w.heap.size + 3 ≤ z := fun z hz => by
      rcases hK2 z hz with h | h
      · simp [Value.ownBlock] at h
      · omega
    have f1 : w2.cell? ⟨w.heap.size + 2, 4, none⟩ = some (.slice none 0 0) := B2.cell rfl
    have f2 : w2.frozen? ⟨w.heap.size + 2, 4, none⟩ = false := B2.free 4
    have hOK : w2.ownsRow (w.heap.size + 2) 9 1 uK ks.length (ks.map strV) := hO2
    obtain ⟨ak2, ck2, rfl, _⟩ := owns_rowN hOK (by decide)
    have a3 : (w2.setCell ⟨w.heap.size + 2, 4, none⟩ (.slice ak2 ks.length ck2)).cell? ⟨w.heap.size, 5, none⟩ = some (.slice al l.length cl) := (setCell_blk A2 (show w.heap.size ≠ w.heap.size + 2 by omega)).cell (by rw [HB.out]; rfl)
    have hkt2 := Lib.hid hkt
    have hall : Hid (∀ W2, W2 = w2.setCell ⟨w.heap.size + 2, 4, none⟩ (.slice ak2 ks.length ck2) → (∃ u, VB (w.heap.size + 2) (w.heap.size + 2) W2 (.mk 7 0 [] [] ks ((normL l).take 0)) (.slice none 0 0) (.slice ak2 ks.length ck2) u) ∧ Below w.heap.size w W2 ∧ Blk W2 (w.heap.size + 1) 30 zV.toList) := by
      rintro W2 rfl
      have hO3 := ownsRow_setCell_other hOK (a := ⟨w.heap.size + 2, 4, none⟩) (fun e => by have := hKb _ e; exact absurd this (by show ¬ w.heap.size + 3 ≤ w.heap.size + 2; omega)) (.slice ak2 ks.length ck2)
      refine ⟨⟨.slice none 0 0, ⟨B2.set 4 (.slice ak2 ks.length ck2), Nat.le_refl _, by have := hbb2.size; have := hG2.size; simp; omega, ⟨by show in64 7; unfold in64; omega, by show in64 0; unfold in64; omega, Nat.zero_le _, hkt2.out⟩, ⟨none, 0, rfl, Nat.le_refl _, Nat.zero_le _, Row.nil _ _, by simp [PV.bytes]⟩, hO3, fun e => by have := hKb _ e; omega, VsAt.nil _ _ _, by simp [Value.ownBlock], by simp [Value.ownBlock]⟩⟩, setCell_below hbb2 (by omega), setCell_blk R2 (show w.heap.size + 1 ≠ w.heap.size + 2 by omega)⟩
    clear hO2 hOK hGro hG2 hK2 B2 R2 A2 hbb2 hKb hsrc B1 R1 hb1 A1
    go_upto_region 12 with (at_builtin; refine wpList_append_run happ rfl rfl rfl rfl ?_)
    obtain ⟨G1, G2, G3⟩ := hall.out _ rfl
    have G1 := Lib.hid G1
    have G2 := Lib.hid G2
    have G3 := Lib.hid G3
    clear hall f1 f2 happ d1
    generalize w2.setCell _ _ = W2 at *
    go_upto_region 13 with (fail)
    go_loopw [40] (fun i wr => ∃ j : Nat, j ≤ l.length ∧ i = .int .i64 j ∧ Hid (∃ u, VB (w.heap.size + 2) (w.heap.size + 2) wr (.mk 7 0 [] [] ks ((normL l).take j)) (.slice none 0 0) (.slice ak2 ks.length ck2) u) ∧ Hid (Below w.heap.size w wr) ∧ Hid (Blk wr (w.heap.size + 1) 30 zV.toList)) (fun i _ => l.length - (intOf i).toNat)
    case atStart => exact ⟨0, Nat.zero_le _, rfl, G1, G2, G3⟩
    case round =>
      obtain ⟨j, hj, rfl, hV, hb, hR⟩ := hrel
      have j0 : (0 : Int) ≤ (j : Int) := by omega
      have jb : IntKind.i64.wrap ((j : Int) + 1) = (j : Int) + 1 := IntWalk.i64_in _ (by omega)
      clear G1 G2 G3
      by_cases hlt : j < l.length
      · have j1 : (j : Int) < (l.length : Int) := by omega
        have hr2 := HL.out.below (hbw.trans (hb.out.mono hsz))
        have s1 := hr2.elemSome (s := 6) h6 (by decide) (i := j) (by omega)
        have hxc := sub j css[j] l[j] (by simp [hcs, hlt]) (by simp [hlt])
        have q1 := ldOp_at (P := Tryd.prog) (ty := 30) (hr2.elem (s := 6) h6 (i := j) (c := css[j]) (by simp [hcs, hlt])) Tryd.underlying30 rfl (by rw [hxc.len]; exact sizeV)
        have hT : Hid ((normL l).take (j + 1) = (normL l).take j ++ [normV l[j]]) := by
          show _ = _
          rw [List.take_succ_eq_append_getElem (by rw [normL_len]; exact hlt), normL_get]
        have hih := fun w' hbb => ih j css[j] l[j] (by simp [hcs, hlt]) (by simp [hlt]) w' hbb (HS.out _ (List.getElem_mem hlt))
        generalize l[j] = x at *
        generalize css[j] = c at *
        have y1 : c.toArray.size = 6 := by simpa using hxc.len
        have y2 : OneC c.toArray := all_oneCell_toArray hxc.one
        clear hr2
        obtain ⟨u, hvb⟩ := hV.out
        obtain ⟨vs, hvs⟩ : ∃ vs, vs = (normL l).take j := ⟨_, rfl⟩
        rw [← hvs] at hvb hT
        --REGION15 7
        go_upto_region 15 with (fail)
        have hpB : Blk (wr.alloc (.cells (List.toArray c) 30)) wr.heap.size 30 c := Blk.new wr 30 _
        have hb0x : Below wr.heap.size wr (wr.alloc (.cells (List.toArray c) 30)) := (Below.refl _ _).alloc (Nat.le_refl _) _
        have hqW : w.heap.size + 2 < wr.heap.size := hvb.blk.lt
        have hvbW : VB (w.heap.size + 2) (w.heap.size + 2) (wr.alloc (.cells (List.toArray c) 30)) (.mk 7 0 [] [] ks vs) (.slice none 0 0) (.slice ak2 ks.length ck2) u := hvb.keep hb0x.size (fun b _ hlt => hb0x.block b hlt)
        have hbW := hb.out.trans (hb0x.mono hb.out.size)
        have hRW := hR.out.below hb0x
        have hwr : wr.heap.size ≤ (wr.alloc (.cells (List.toArray c) 30)).heap.size := by simp
        generalize hqx : wr.heap.size = qp at *
        generalize wr.alloc (.cells (List.toArray c) 30) = W at *
        have hSm : ∀ (L : Array Bool) (w1 w2 : World), ((L.getD 5 false = false → Blk w1 (w.heap.size + 2) 30 [.int .i64 7, .int .i64 0, .slice none 0 0, strV [], (.slice ak2 ks.length ck2), u]) ∧ Blk w1 qp 30 c) → Mo w1 w2 → ((L.getD 5 false = false → Blk w2 (w.heap.size + 2) 30 [.int .i64 7, .int .i64 0, .slice none 0 0, strV [], (.slice ak2 ks.length ck2), u]) ∧ Blk w2 qp 30 c) :=
          fun L w1 w2 h hm => ⟨fun hL => (h.1 hL).below hm, h.2.below hm⟩
        have hSi : ∀ i, i ≠ 5 → ∀ (L : Array Bool) (w1 : World), ((((L.setIfInBounds i true).getD 5 false = false → Blk w1 (w.heap.size + 2) 30 [.int .i64 7, .int .i64 0, .slice none 0 0, strV [], (.slice ak2 ks.length ck2), u]) ∧ Blk w1 qp 30 c) ↔ ((L.getD 5 false = false → Blk w1 (w.heap.size + 2) 30 [.int .i64 7, .int .i64 0, .slice none 0 0, strV [], (.slice ak2 ks.length ck2), u]) ∧ Blk w1 qp 30 c)) := fun i hi L w1 => by
          rw [getD_set_ne false hi]
        have hS0 : Blk (W.drewN 1) (w.heap.size + 2) 30 [.int .i64 7, .int .i64 0, .slice none 0 0, strV [], (.slice ak2 ks.length ck2), u] ∧ Blk (W.drewN 1) qp 30 c := ⟨hvbW.blk, hpB⟩
        have hSw : ∀ (L : Array Bool) (w' : World), Mo (W.drewN 1) w' → (L.getD 5 false = false → Blk w' (w.heap.size + 2) 30 [.int .i64 7, .int .i64 0, .slice none 0 0, strV [], (.slice ak2 ks.length ck2), u]) ∧ Blk w' qp 30 c := fun L w' hm => ⟨fun _ => hS0.1.below hm, hS0.2.below hm⟩
        refine wp_region_upN (S := fun L w1 => (L.getD 5 false = false → Blk w1 (w.heap.size + 2) 30 [.int .i64 7, .int .i64 0, .slice none 0 0, strV [], (.slice ak2 ks.length ck2), u]) ∧ Blk w1 qp 30 c) 8 rfl (by kernel_rfl) ?_
        refine wpAnyU_take (i := 0) (A := fun _ => True) (v := .pointer (some ⟨w.heap.size + 2, 5, none⟩)) (a' := ⟨#[.agg (List.toArray box), .pointer (some ⟨w.heap.size, 0, none⟩), .pointer (some ⟨w.heap.size + 1, 0, none⟩), .pointer (some ⟨w.heap.size + 2, 0, none⟩), undef, .pointer (some ⟨qp, 0, none⟩), .pointer (some ⟨w.heap.size, 0, none⟩), .int .i64 7, .agg #[.int .i64 7, .int .i64 0, .slice none 0 0, .string { data := #[] }, .slice none 0 0, .slice none 0 0], .pointer (some ⟨w.heap.size, 0, none⟩), .int .i64 7, .bool false, .bool false, .bool false, .bool false, .bool false, .bool false, .bool true, .bool true, undef, undef, undef, undef, undef, undef, undef, undef, undef, undef, undef, undef, .pointer (some ⟨w.heap.size + 2, 4, none⟩), .slice none 0 0, .pointer (some ⟨w.heap.size, 4, none⟩), .slice ak ks.length ck, .slice ak2 ks.length ck2, .pointer (some ⟨w.heap.size + 2, 4, none⟩), .pointer (some ⟨w.heap.size, 5, none⟩), .slice al l.length cl, .int .i64 (l.length : Int), .int .i64 (j : Int), .bool true, .pointer (some ((hd al).add (j * 6))), .agg (List.toArray c), .pointer (some ⟨w.heap.size + 2, 5, none⟩), u45, u46, u47, u48, u49, u50, u51, undef], []⟩) hSm (hSi 0 (by decide)) (fun _ _ _ => trivial) rfl (by kernel_rfl) (by kernel_rfl) (by kernel_rfl) (fun _ _ _ h => h) (hSw _ _ (Mo.refl _)) (Tame.val rfl (fun w' hA => by go_simp)) rfl ?_
        refine wpAnyU_takeK (i := 1) 5 (A := fun w1 => Blk w1 (w.heap.size + 2) 30 [.int .i64 7, .int .i64 0, .slice none 0 0, strV [], (.slice ak2 ks.length ck2), u]) (v := u) (a' := ⟨#[.agg (List.toArray box), .pointer (some ⟨w.heap.size, 0, none⟩), .pointer (some ⟨w.heap.size + 1, 0, none⟩), .pointer (some ⟨w.heap.size + 2, 0, none⟩), undef, .pointer (some ⟨qp, 0, none⟩), .pointer (some ⟨w.heap.size, 0, none⟩), .int .i64 7, .agg #[.int .i64 7, .int .i64 0, .slice none 0 0, .string { data := #[] }, .slice none 0 0, .slice none 0 0], .pointer (some ⟨w.heap.size, 0, none⟩), .int .i64 7, .bool false, .bool false, .bool false, .bool false, .bool false, .bool false, .bool true, .bool true, undef, undef, undef, undef, undef, undef, undef, undef, undef, undef, undef, undef, .pointer (some ⟨w.heap.size + 2, 4, none⟩), .slice none 0 0, .pointer (some ⟨w.heap.size, 4, none⟩), .slice ak ks.length ck, .slice ak2 ks.length ck2, .pointer (some ⟨w.heap.size + 2, 4, none⟩), .pointer (some ⟨w.heap.size, 5, none⟩), .slice al l.length cl, .int .i64 (l.length : Int), .int .i64 (j : Int), .bool true, .pointer (some ((hd al).add (j * 6))), .agg (List.toArray c), .pointer (some ⟨w.heap.size + 2, 5, none⟩), u, u46, u47, u48, u49, u50, u51, undef], []⟩) hSm (hSi 1 (by decide)) (fun _ _ h h2 => h.1 h2) rfl rfl (by kernel_rfl) (by kernel_rfl) (by kernel_rfl) (by kernel_rfl) (by kernel_rfl) (fun _ _ _ h => h) (hSw _ _ (Mo.refl _)) (Tame.val rfl (fun w' hA => by have := hA.cell (i := 5) (u := u) rfl; go_simp)) rfl ?_
        refine wpAnyU_take (i := 2) (A := fun w1 => Blk w1 qp 30 c) (v := .agg (List.toArray c)) (a' := ⟨#[.agg (List.toArray box), .pointer (some ⟨w.heap.size, 0, none⟩), .pointer (some ⟨w.heap.size + 1, 0, none⟩), .pointer (some ⟨w.heap.size + 2, 0, none⟩), undef, .pointer (some ⟨qp, 0, none⟩), .pointer (some ⟨w.heap.size, 0, none⟩), .int .i64 7, .agg #[.int .i64 7, .int .i64 0, .slice none 0 0, .string { data := #[] }, .slice none 0 0, .slice none 0 0], .pointer (some ⟨w.heap.size, 0, none⟩), .int .i64 7, .bool false, .bool false, .bool false, .bool false, .bool false, .bool false, .bool true, .bool true, undef, undef, undef, undef, undef, undef, undef, undef, undef, undef, undef, undef, .pointer (some ⟨w.heap.size + 2, 4, none⟩), .slice none 0 0, .pointer (some ⟨w.heap.size, 4, none⟩), .slice ak ks.length ck, .slice ak2 ks.length ck2, .pointer (some ⟨w.heap.size + 2, 4, none⟩), .pointer (some ⟨w.heap.size, 5, none⟩), .slice al l.length cl, .int .i64 (l.length : Int), .int .i64 (j : Int), .bool true, .pointer (some ((hd al).add (j * 6))), .agg (List.toArray c), .pointer (some ⟨w.heap.size + 2, 5, none⟩), u, .agg (List.toArray c), u47, u48, u49, u50, u51, undef], []⟩) hSm (hSi 2 (by decide)) (fun _ _ h => h.2) rfl (by kernel_rfl) (by kernel_rfl) (by kernel_rfl) (fun _ _ _ h => h) (hSw _ _ (Mo.refl _)) (Tame.val rfl (fun w' hA => run_ldOp (ldOp_all hA Tryd.underlying30 rfl (by rw [hxc.len]; exact sizeV)))) rfl ?_
        refine wpAnyU_all (rs := [3]) (by kernel_rfl) (by decide) ?_
        intro w2 hm2 i hi
        obtain rfl : i = 3 := by simpa using hi
        have hbw2 : Below w.heap.size w w2 := hbW.trans ((Below.drewN' hm2).mono hbW.size)
        refine wpOp_enter (f := 97) (args := #[.agg (List.toArray c)]) rfl rfl (by go_simp) ((hih w2 (hbw.trans (hbw2.mono hsz))).mono ?_)
        rintro e w3 ⟨ds, rfl, hds, hb3⟩
        refine ⟨_, rfl, ?_⟩
        show _ ∧ wpAnyU _ _ _ _ _ _ _ (⟨#[.agg (List.toArray box), .pointer (some ⟨w.heap.size, 0, none⟩), .pointer (some ⟨w.heap.size + 1, 0, none⟩), .pointer (some ⟨w.heap.size + 2, 0, none⟩), undef, .pointer (some ⟨qp, 0, none⟩), .pointer (some ⟨w.heap.size, 0, none⟩), .int .i64 7, .agg #[.int .i64 7, .int .i64 0, .slice none 0 0, .string { data := #[] }, .slice none 0 0, .slice none 0 0], .pointer (some ⟨w.heap.size, 0, none⟩), .int .i64 7, .bool false, .bool false, .bool false, .bool false, .bool false, .bool false, .bool true, .bool true, undef, undef, undef, undef, undef, undef, undef, undef, undef, undef, undef, undef, .pointer (some ⟨w.heap.size + 2, 4, none⟩), .slice none 0 0, .pointer (some ⟨w.heap.size, 4, none⟩), .slice ak ks.length ck, .slice ak2 ks.length ck2, .pointer (some ⟨w.heap.size + 2, 4, none⟩), .pointer (some ⟨w.heap.size, 5, none⟩), .slice al l.length cl, .int .i64 (l.length : Int), .int .i64 (j : Int), .bool true, .pointer (some ((hd al).add (j * 6))), .agg (List.toArray c), .pointer (some ⟨w.heap.size + 2, 5, none⟩), u, .agg (List.toArray c), .agg (List.toArray ds), u48, u49, u50, u51, undef], []⟩ : Act) _
        have hm3 : Mo (W.drewN 1) w3 := Mo.trans hm2 hb3
        refine ⟨hSw _ _ hm3, ?_⟩
        have hds6 := hds.len
        refine wpAnyU_all (rs := [4]) (by kernel_rfl) (by decide) ?_
        intro w4 hm4 i hi
        obtain rfl : i = 4 := by simpa using hi
        refine wpOp_val (v := .slice (some ⟨w4.heap.size, 0, none⟩) 1 1) (w' := w4.alloc (.cells (List.toArray ds) 30)) (a' := ⟨#[.agg (List.toArray box), .pointer (some ⟨w.heap.size, 0, none⟩), .pointer (some ⟨w.heap.size + 1, 0, none⟩), .pointer (some ⟨w.heap.size + 2, 0, none⟩), undef, .pointer (some ⟨qp, 0, none⟩), .pointer (some ⟨w.heap.size, 0, none⟩), .int .i64 7, .agg #[.int .i64 7, .int .i64 0, .slice none 0 0, .string { data := #[] }, .slice none 0 0, .slice none 0 0], .pointer (some ⟨w.heap.size, 0, none⟩), .int .i64 7, .bool false, .bool false, .bool false, .bool false, .bool false, .bool false, .bool true, .bool true, undef, undef, undef, undef, undef, undef, undef, undef, undef, undef, undef, undef, .pointer (some ⟨w.heap.size + 2, 4, none⟩), .slice none 0 0, .pointer (some ⟨w.heap.size, 4, none⟩), .slice ak ks.length ck, .slice ak2 ks.length ck2, .pointer (some ⟨w.heap.size + 2, 4, none⟩), .pointer (some ⟨w.heap.size, 5, none⟩), .slice al l.length cl, .int .i64 (l.length : Int), .int .i64 (j : Int), .bool true, .pointer (some ((hd al).add (j * 6))), .agg (List.toArray c), .pointer (some ⟨w.heap.size + 2, 5, none⟩), u, .agg (List.toArray c), .agg (List.toArray ds), .slice (some ⟨w4.heap.size, 0, none⟩) 1 1, u49, u50, u51, undef], []⟩) rfl rfl (run_bsOp (vals := #[(0, .agg (List.toArray ds))]) (by first | rfl | go_simp | simp [Act.eval]) (bsOp_one (cs := List.toArray ds) Tryd.underlying28 infoV (by decide) (by decide) (by exact zV_size) (by simpa using hds6))) rfl ?_
        have hm5 : Mo w4 (w4.alloc (.cells (List.toArray ds) 30)) := (Below.refl _ _).alloc (Nat.le_refl _) _
        have hm35 := Mo.trans (Mo.trans hm3 hm4) hm5
        have hB5 : Blk (w4.alloc (.cells (List.toArray ds) 30)) w4.heap.size 30 ds := Blk.new _ _ _
        have hds5 := (hds.grow hm4).grow hm5
        refine ⟨hSw _ _ hm35, ?_⟩
        generalize hgg : w4.heap.size = g at *
        generalize hw5 : w4.alloc (.cells (List.toArray ds) 30) = w5 at *
        clear hw5 hm4 hm5
        refine wpAnyU_all (rs := [5]) (by kernel_rfl) (by decide) ?_
        intro w8 hm8 i hi
        obtain rfl : i = 5 := by simpa using hi
        have hm38 := Mo.trans hm35 hm8
        have hvb8 : VB (w.heap.size + 2) (w.heap.size + 2) w8 (.mk 7 0 [] [] ks vs) (.slice none 0 0) (.slice ak2 ks.length ck2) u := hvbW.keep hm38.size (fun b _ hlt => hm38.block b hlt)
        have hxV : VAtP (okB (w.heap.size + 2) (w.heap.size + 2) (.slice ak2 ks.length ck2) u) w8 ds (normV x) := (hds5.grow hm8).mono (fun b hb _ => fresh_okB hvbW (Nat.le_trans (show W.heap.size ≤ w2.heap.size from hm2.size) hb))
        have hr8 : Row w8 (some ⟨g, 0, none⟩) ds := (hB5.below hm8).row
        have hvl : vs.length ≤ 1000000000 := by
          have h2 : vs.length ≤ l.length := by rw [hvs, List.length_take, normL_len]; omega
          omega
        obtain ⟨a', c', w9, hrun, hVs9, hG9⟩ := VsAt.appR (ty := 28) (c2 := 1) (ok' := fun z => okB (w.heap.size + 2) (w.heap.size + 2) (.slice ak2 ks.length ck2) u z ∧ z < w8.heap.size) hvb8.list (fun z hz => hz.2.2.2) hxV (fun z hz hlt => ⟨hz, hlt⟩) hvl hvb8.le hr8
        refine wpOp_val (v := .slice a' (vs.length + 1) c') (w' := w9) (a' := ⟨#[.agg (List.toArray box), .pointer (some ⟨w.heap.size, 0, none⟩), .pointer (some ⟨w.heap.size + 1, 0, none⟩), .pointer (some ⟨w.heap.size + 2, 0, none⟩), undef, .pointer (some ⟨qp, 0, none⟩), .pointer (some ⟨w.heap.size, 0, none⟩), .int .i64 7, .agg #[.int .i64 7, .int .i64 0, .slice none 0 0, .string { data := #[] }, .slice none 0 0, .slice none 0 0], .pointer (some ⟨w.heap.size, 0, none⟩), .int .i64 7, .bool false, .bool false, .bool false, .bool false, .bool false, .bool false, .bool true, .bool true, undef, undef, undef, undef, undef, undef, undef, undef, undef, undef, undef, undef, .pointer (some ⟨w.heap.size + 2, 4, none⟩), .slice none 0 0, .pointer (some ⟨w.heap.size, 4, none⟩), .slice ak ks.length ck, .slice ak2 ks.length ck2, .pointer (some ⟨w.heap.size + 2, 4, none⟩), .pointer (some ⟨w.heap.size, 5, none⟩), .slice al l.length cl, .int .i64 (l.length : Int), .int .i64 (j : Int), .bool true, .pointer (some ((hd al).add (j * 6))), .agg (List.toArray c), .pointer (some ⟨w.heap.size + 2, 5, none⟩), u, .agg (List.toArray c), .agg (List.toArray ds), .slice (some ⟨g, 0, none⟩) 1 1, .slice a' (vs.length + 1) c', u50, u51, undef], []⟩) rfl rfl (run_append hrun rfl rfl rfl) rfl ?_
        have hB9 : Blk w9 qp 30 c := (hG9.blk ((show Blk (W.drewN 1) qp 30 c from hpB).below hm38) (fun e => by have := hvb.kown.2 _ e; omega)).1
        have hS9 : ∀ L : Array Bool, L.getD 5 false = true → (L.getD 5 false = false → Blk w9 (w.heap.size + 2) 30 [.int .i64 7, .int .i64 0, .slice none 0 0, strV [], (.slice ak2 ks.length ck2), u]) ∧ Blk w9 qp 30 c := fun L hL => ⟨fun h => absurd (hL.symm.trans h) (by decide), hB9⟩
        refine ⟨hS9 _ (by kernel_rfl), ?_⟩
        refine wpAnyU_take (i := 6) (A := fun _ => True) (v := .pointer (some ⟨w.heap.size + 2, 5, none⟩)) (a' := ⟨#[.agg (List.toArray box), .pointer (some ⟨w.heap.size, 0, none⟩), .pointer (some ⟨w.heap.size + 1, 0, none⟩), .pointer (some ⟨w.heap.size + 2, 0, none⟩), undef, .pointer (some ⟨qp, 0, none⟩), .pointer (some ⟨w.heap.size, 0, none⟩), .int .i64 7, .agg #[.int .i64 7, .int .i64 0, .slice none 0 0, .string { data := #[] }, .slice none 0 0, .slice none 0 0], .pointer (some ⟨w.heap.size, 0, none⟩), .int .i64 7, .bool false, .bool false, .bool false, .bool false, .bool false, .bool false, .bool true, .bool true, undef, undef, undef, undef, undef, undef, undef, undef, undef, undef, undef, undef, .pointer (some ⟨w.heap.size + 2, 4, none⟩), .slice none 0 0, .pointer (some ⟨w.heap.size, 4, none⟩), .slice ak ks.length ck, .slice ak2 ks.length ck2, .pointer (some ⟨w.heap.size + 2, 4, none⟩), .pointer (some ⟨w.heap.size, 5, none⟩), .slice al l.length cl, .int .i64 (l.length : Int), .int .i64 (j : Int), .bool true, .pointer (some ((hd al).add (j * 6))), .agg (List.toArray c), .pointer (some ⟨w.heap.size + 2, 5, none⟩), u, .agg (List.toArray c), .agg (List.toArray ds), .slice (some ⟨g, 0, none⟩) 1 1, .slice a' (vs.length + 1) c', .pointer (some ⟨w.heap.size + 2, 5, none⟩), u51, undef], []⟩) hSm (hSi 6 (by decide)) (fun _ _ _ => trivial) rfl (by kernel_rfl) (by kernel_rfl) (by kernel_rfl) (fun _ _ _ h => h) (hS9 _ (by kernel_rfl)) (Tame.val rfl (fun w' hA => by go_simp)) rfl ?_
        refine wpAnyU_all (rs := [7]) (by kernel_rfl) (by decide) ?_
        intro w10 hm10 i hi
        obtain rfl : i = 7 := by simpa using hi
        have hq9 := hG9.blk hvb8.blk hvb8.lq
        have hq10 := hq9.1.below hm10
        have d1 : w10.cell? ⟨w.heap.size + 2, 5, none⟩ = some u := hq10.cell rfl
        have d2 : w10.frozen? ⟨w.heap.size + 2, 5, none⟩ = false := hq10.free 5
        refine wpOp_skip (w' := w10.setCell ⟨w.heap.size + 2, 5, none⟩ (.slice a' (vs.length + 1) c')) (a' := ⟨#[.agg (List.toArray box), .pointer (some ⟨w.heap.size, 0, none⟩), .pointer (some ⟨w.heap.size + 1, 0, none⟩), .pointer (some ⟨w.heap.size + 2, 0, none⟩), undef, .pointer (some ⟨qp, 0, none⟩), .pointer (some ⟨w.heap.size, 0, none⟩), .int .i64 7, .agg #[.int .i64 7, .int .i64 0, .slice none 0 0, .string { data := #[] }, .slice none 0 0, .slice none 0 0], .pointer (some ⟨w.heap.size, 0, none⟩), .int .i64 7, .bool false, .bool false, .bool false, .bool false, .bool false, .bool false, .bool true, .bool true, undef, undef, undef, undef, undef, undef, undef, undef, undef, undef, undef, undef, .pointer (some ⟨w.heap.size + 2, 4, none⟩), .slice none 0 0, .pointer (some ⟨w.heap.size, 4, none⟩), .slice ak ks.length ck, .slice ak2 ks.length ck2, .pointer (some ⟨w.heap.size + 2, 4, none⟩), .pointer (some ⟨w.heap.size, 5, none⟩), .slice al l.length cl, .int .i64 (l.length : Int), .int .i64 (j : Int), .bool true, .pointer (some ((hd al).add (j * 6))), .agg (List.toArray c), .pointer (some ⟨w.heap.size + 2, 5, none⟩), u, .agg (List.toArray c), .agg (List.toArray ds), .slice (some ⟨g, 0, none⟩) 1 1, .slice a' (vs.length + 1) c', .pointer (some ⟨w.heap.size + 2, 5, none⟩), u51, undef], []⟩) rfl rfl (by go_simp) rfl ?_
        have hVs10 : VsAt (okB (w.heap.size + 2) (w.heap.size + 2) (.slice ak2 ks.length ck2) (.slice a' (vs.length + 1) c')) (w.heap.size + 2) w10 (.slice a' (vs.length + 1) c') (vs ++ [normV x]) :=
          hVs9.same hm10.size (fun b hb => hm10.block b (by obtain ⟨_, _, _, hO, _⟩ := hVs9; exact (World.ownsRow.lt hO b hb).2)) (fun b hb hlt => ⟨hm10.block b hlt, hb.1.1, hb.1.2.1, hb.1.2.2.1, fun e => by
            rcases hG9.own b e with h | h
            · exact hb.1.2.2.2 h
            · omega⟩)
        have hvb11 := hvb8.addL hVs10 (hG9.trans (Gro.ofBelow hm10))
        have hne : qp ≠ w.heap.size + 2 := by omega
        have hB11 : Blk (w10.setCell ⟨w.heap.size + 2, 5, none⟩ (.slice a' (vs.length + 1) c')) qp 30 c := setCell_blk (hB9.below hm10) hne
        refine ⟨⟨fun h => absurd h (by decide +kernel), hB11⟩, ?_⟩
        refine wpAnyU_done (by kernel_rfl) ?_ _
        intro w12 hm12
        have hb8 : Below w.heap.size w w8 := hbW.trans ((Below.drewN' hm38).mono hbW.size)
        have hb9 : Below w.heap.size w w9 := hb8.trans (hG9.below (base := w.heap.size + 2) (fun k hk => (hvb8.kown.2 k hk).1) (by omega) hb8.size)
        have hb10 : Below w.heap.size w w10 := hb9.trans (hm10.mono hb9.size)
        have hb11 := setCell_below (q := w.heap.size + 2) (i := 5) (u := .slice a' (vs.length + 1) c') hb10 (by omega)
        have hb12 := Lib.hid (hb11.trans (hm12.mono hb11.size))
        have hR8 : Blk w8 (w.heap.size + 1) 30 zV.toList := (show Blk (W.drewN 1) (w.heap.size + 1) 30 zV.toList from hRW).below hm38
        have hR9 := (hG9.blk hR8 (fun e => by have := (hvb8.kown.2 _ e).1; omega)).1
        have hR11 : Blk (w10.setCell ⟨w.heap.size + 2, 5, none⟩ (.slice a' (vs.length + 1) c')) (w.heap.size + 1) 30 zV.toList := setCell_blk (hR9.below hm10) (by omega)
        have hR12 := Lib.hid (hR11.below hm12)
        have hvb12 : Hid (∃ u', VB (w.heap.size + 2) (w.heap.size + 2) w12 (.mk 7 0 [] [] ks ((normL l).take (j + 1))) (.slice none 0 0) (.slice ak2 ks.length ck2) u') := by
          show ∃ _, _
          rw [hT.out]
          exact ⟨_, hvb11.keep hm12.size (fun b _ hlt => hm12.block b hlt)⟩
        clear hm12 hb11 hb10 hb9 hb8 hR11 hR9 hR8 hvb11 hB11 hVs10 d1 d2 hq10 hq9 hm10 hS9 hB9 hG9 hVs9 hrun hr8 hxV hvb8 hSw hSm hSi hS0
        go_wp2
        first
          | exact ⟨⟨j + 1, by omega, (by first | rfl | go_num | (congr 1; omega)), hvb12, hb12, hR12⟩, by simp [intOf] <;> omega⟩
          | (refine ⟨?_, by simp [intOf] <;> omega⟩; (repeat apply Exists.intro); exact ⟨⟨j + 1, by omega, (by first | rfl | go_num | (congr 1; omega)), hvb12, hb12, hR12⟩, rfl⟩)
        --END15 7
      · obtain rfl : j = l.length := by omega
        have j1 : ¬ (l.length : Int) < (l.length : Int) := by omega
        obtain ⟨u, hvb⟩ := hV.out
        rw [← normL_len l, List.take_length] at hvb
        go_upto_region 17 with (fail)
        obtain ⟨c2, e0, e1, e2, e3, e4⟩ := clone_end (v := .mk 7 n b t ks l) hR.out hvb.blk (by rw [hN.out]; exact hvb.done) hb.out
        go_wp2
        refine bodyPost_ret (results_cell_row (fn := Tryd.f97) (by rfl) _ _ (w.heap.size + 1) 30 _ (0, 0) _ (by rfl) e3 Tryd.underlying30 rfl (by rw [e0]; exact sizeV)) rfl e4.out
  have t3 : (k == 3) = false := by simpa using h3
  have t4 : (k == 4) = false := by simpa using h4
  have t5 : (k == 5) = false := by simpa using h5
  have t6 : (k == 6) = false := by simpa using h6'
  have t7 : (k == 7) = false := by simpa using h7
  go_upto_region 17 with (fail)
  obtain ⟨c2, e0, e1, e2, e3, e4⟩ := clone_end (v := .mk k n b t ks l) R1 B1 (by rw [hN.out, if_neg h3, if_neg h4, if_neg h5, if_neg h6', if_neg h7]; exact VAtP.plain (t := []) W1 hk (by unfold in64; omega) (Nat.zero_le _)) hb1
  go_wp2
  refine bodyPost_ret (results_cell_row (fn := Tryd.f97) (by rfl) _ _ (w.heap.size + 1) 30 _ (0, 0) _ (by rfl) e3 Tryd.underlying30 rfl (by rw [e0]; exact sizeV)) rfl e4.out
end Go.Proofs.YtpchogicdnfggaaDoor
set_option maxRecDepth 20000
namespace Go.Proofs.YtpchogicdnfggaaDoor
open Go.RowKit Go.Hd
attribute [local go_sem ↓] h_ldV h_stV h_alV
attribute [local go_sem] r_ldV r_stV r_alV

theorem results_cell_tmp {P : Program} {fn : Func} {p t : Tmp} {ty : TypeId} (h : fn.results = #[.cell p ty, .tmp t]) (tmps : Array Value) (w : World) (g : Nat) (tt : TypeId) (cs : Array Value) (fr : Nat × Nat) (d : TypeDesc)
    (hp : tmps.getD p undef = .pointer (some ⟨g, 0, none⟩)) (hg : w.heap[g]? = some (.cells cs tt fr))
    (hu : P.underlying ty = some d) (hd : (match d with | .struct _ | .array _ _ => true | _ => false) = true) (hi : (P.info? ty).map (·.size) = some cs.size) :
    (results fn tmps).run P w = .ok (.tuple #[.agg cs, tmps.getD t undef]) w := by
  have hp' : tmps[p]?.getD undef = .pointer (some ⟨g, 0, none⟩) := by simpa using hp
  simp [results, h, hp', asAddr, run_loadVar_row w g tt ty cs fr d hg hu hd hi]
end Go.Proofs.YtpchogicdnfggaaDoor
