/- Joined: what one statement of this layer stands on, part 19 of 20; nothing is assumed. -/
import Derived.Deep.CutBlock
import Derived.Deep.DeepCutAuto
import Derived.Deep.RegionHeld3
import Derived.Deep.Strs
import Derived.Test.YtpchogicdnfggaaDoorKS5
import Derived.Test.YtpchogicdnfggaaDoorKS6
import Derived.Test.YtpchogicdnfggaaDoorKS9
import Derived.Test.YtpchogicdnfggaaDoorKS11
import Derived.Test.YtpchogicdnfggaaDoorKS14
import Derived.Test.YtpchogicdnfggaaDoorKS15
import Derived.Test.YtpchogicdnfggaaDoorKS16
import Derived.Test.YtpchogicdnfggaaDoorKS18
set_option maxRecDepth 20000
namespace Go.Proofs.YtpchogicdnfggaaDoor
open Go.RowKit Go.Hd
theorem fldV_sm {v : PV} (h : Sm v) (key : List UInt8) : Sm (fldV v key) := by
  cases h with
  | @mk k n b t ks l a1 a2 a3 a4 _ =>
    rw [fldV_mk]
    split
    · cases hF : findK ks l key with
      | none => exact sm_zero
      | some x => exact a4 x (findK_mem hF)
    · exact sm_zero
attribute [local go_sem ↓] h_ldV h_stV h_alV h_ldIT h_stIT h_alIT h_bdIT h_ldPA h_stPA h_alPA h_bsPA h_bdPA
attribute [local go_sem] r_ldV r_stV r_alV r_ldIT r_stIT r_alIT r_ldPA r_stPA r_alPA r_bsPA
end Go.Proofs.YtpchogicdnfggaaDoor
set_option maxRecDepth 20000
namespace Go.Proofs.YtpchogicdnfggaaDoor
open Go.RowKit Go.Hd
theorem equal21_any {a b : Option Addr} {n1 n2 c d : Nat} {l m : List UInt8} {w : World} (h1 : n1 = l.length) (h2 : n2 = m.length) (hl : Row w a (l.map b8)) (hm : Row w b (m.map b8)) :
    Calls Tryd.prog 75 #[.slice a n1 c, .slice b n2 d] w fun e w' => e = .returned (.bool (l == m)) ∧ w = w' := by
  subst h1 h2
  have k1 := run_convert_row (P := Tryd.prog) (w := w) (src := 26) (e := 5) (dst := 9) (c := c) eB.ht Tryd.underlying5 Tryd.underlying9 rfl hl
  have k2 := run_convert_row (P := Tryd.prog) (w := w) (src := 26) (e := 5) (dst := 9) (c := d) eB.ht Tryd.underlying5 Tryd.underlying9 rfl hm
  go_enter Tryd.func75, Tryd.ntmps75
  go_wp2
  go_ret
  exact ⟨ret_bool (str_beq l m), rfl⟩
/-- How long the next item is said to be. -/
def sz4 (l : List UInt8) : Nat := getL (l.take 4).reverse
/-- The next item's bytes. -/
def chunkF (l : List UInt8) : List UInt8 := (l.drop 4).take (sz4 l)
/-- What is left behind it. -/
def nxtR (l : List UInt8) : List UInt8 := (l.drop 4).drop (sz4 l)
/-- The next item. -/
def nxt (l : List UInt8) : Itm × Int := if l.length < 4 ∨ l.length - 4 < sz4 l then (itZ, 3) else if (decF (chunkF l)).2 ≠ 0 then (itZ, (decF (chunkF l)).2) else ofF (decF (chunkF l)).1
theorem nx_cases (l : List UInt8) : ∃ G1 R1 : List UInt8, ∃ E1 : Int, rdGot l 0 4 = G1 ∧ rdRest l 0 4 = R1 ∧ rdErr l 0 4 = E1 ∧ gV G1.reverse < 4294967296 ∧
    ((rdErr R1 E1 (gV G1.reverse : Nat) = 3 ∧ nxt l = (itZ, 3)) ∨ (rdErr R1 E1 (gV G1.reverse : Nat) = 0 ∧ rdGot R1 E1 (gV G1.reverse : Nat) = chunkF l ∧ rdRest R1 E1 (gV G1.reverse : Nat) = nxtR l ∧ nxt l = if (decF (chunkF l)).2 ≠ 0 then (itZ, (decF (chunkF l)).2) else ofF (decF (chunkF l)).1)) := by
  refine ⟨_, _, _, rfl, rfl, rfl, ?_⟩
  by_cases h4 : l.length < 4
  · have e1 : rdGot l 0 4 = [] := by unfold rdGot; rw [if_pos (by omega)]
    have e2 : rdRest l 0 4 = l := by unfold rdRest; rw [if_pos (by omega)]
    have e3 : rdErr l 0 4 = 3 := by unfold rdErr; rw [if_neg (by omega), if_neg (by omega), if_pos (by omega)]
    rw [e1, e2, e3]
    refine ⟨by decide, .inl ⟨by unfold rdErr; rw [if_pos (by decide)], by unfold nxt; rw [if_pos (.inl h4)]⟩⟩
  · have e1 : rdGot l 0 4 = l.take 4 := by unfold rdGot; rw [if_neg (by omega)]; rfl
    have e2 : rdRest l 0 4 = l.drop 4 := by unfold rdRest; rw [if_neg (by omega)]; rfl
    have e3 : rdErr l 0 4 = 0 := by unfold rdErr; rw [if_neg (by omega), if_neg (by omega), if_neg (by omega)]
    have hl4 : (l.take 4).reverse.length = 4 := by simp; omega
    have hg : gV (l.take 4).reverse = sz4 l := by unfold gV sz4; rw [if_pos (by rw [hl4]; omega)]
    have hlt := getL_lt (l.take 4).reverse
    rw [hl4] at hlt
    rw [e1, e2, e3, hg]
    refine ⟨by unfold sz4; omega, ?_⟩
    by_cases h5 : l.length - 4 < sz4 l
    · refine .inl ⟨?_, ?_⟩
      · unfold rdErr; rw [if_neg (by omega), if_neg (by omega), if_pos (by rw [List.length_drop]; omega)]
      · unfold nxt; rw [if_pos (.inr h5)]
    · refine .inr ⟨?_, ?_, ?_, ?_⟩
      · unfold rdErr; rw [if_neg (by omega), if_neg (by omega), if_neg (by rw [List.length_drop]; omega)]
      · unfold rdGot chunkF; rw [if_neg (by rw [List.length_drop]; omega)]; rfl
      · unfold rdRest nxtR; rw [if_neg (by rw [List.length_drop]; omega)]; rfl
      · unfold nxt; rw [if_neg (by omega)]
theorem ofF_bad {v : PV} (h : (ofF v).2 ≠ 0) : ofF v = (itZ, 4) := by
  unfold ofF at h ⊢
  split
  · rename_i hh; rw [if_pos hh] at h; exact absurd rfl h
  · rfl
/-- What next answers, and what it leaves. -/
def NextP (B : Nat) (w : World) (g : Nat) (l : List UInt8) (e : Ending) (w' : World) : Prop :=
  ∃ ds, e = .returned (.tuple #[.agg (List.toArray ds), .int .i64 (nxt l).2]) ∧ ItP (fun b => w.heap.size ≤ b) w' ds (nxt l).1 ∧ w.grownBy w' (some g) ∧ ((nxt l).2 = 0 → RdAt B w' g (nxtR l) 0)
attribute [local go_sem ↓] h_ldV h_stV h_alV h_ldIT h_stIT h_alIT h_bdIT
attribute [local go_sem] r_ldV r_stV r_alV r_ldIT r_stIT r_alIT
set_option maxHeartbeats 4000000 in
theorem next_any {B g : Nat} {w : World} {l : List UInt8} (h : RdAt B w g l 0) (hBw : B ≤ w.heap.size) (hl : l.length ≤ 100000000) : Calls Tryd.prog 55 #[.pointer (some ⟨g, 0, none⟩)] w (NextP B w g l) := by
  have zs := zIT_size
  have zv := zV_size
  have hgl := h.lt
  have hb00 := fun w' => bd_it00 (w := w')
  have zo : ∀ u ∈ zIT.toList, u.oneCell' = true := by intro u hu; simp [zIT] at hu; rcases hu with rfl | rfl | rfl | rfl | rfl | rfl | rfl <;> rfl
  have hb0 : Below w.heap.size w (w.alloc (.cells zIT 24)) := (Below.refl _ _).alloc (Nat.le_refl _) _
  have hR0 : Blk (w.alloc (.cells zIT 24)) w.heap.size 24 zIT.toList := Blk.new _ _ _
  have h0 := h.keep hb0
  obtain ⟨G1, R1, E1, q1, q2, q3, hnl, hcase⟩ := nx_cases l
  have hby := bytes_any (n := 4) h0 (by omega)
  rw [q1, q2, q3] at hby
  have hG1 : Hid (R1.length ≤ 100000000) := by
    show _ ≤ _
    rw [← q2]; unfold rdRest; split
    · exact hl
    · simp; omega
  have hput : ∀ w', Blk w' w.heap.size 24 zIT.toList → w.grownBy w' (some g) → ∀ cs2 : List Value, cs2.length = 7 → (∀ u ∈ cs2, u.oneCell' = true) → ∃ W2, (stoOp 24 (.pointer (some ⟨w.heap.size, 0, none⟩)) (.agg (List.toArray cs2))).run Tryd.prog w' = .ok () W2 ∧ Blk W2 w.heap.size 24 cs2 ∧ w.grownBy W2 (some g) ∧ w'.grownBy W2 (some w.heap.size) := fun w' hR' hb cs2 h7 h1 => by
    have hgr := setRow_gr w' w.heap.size (List.toArray cs2)
    refine ⟨w'.setRow w.heap.size (List.toArray cs2), st_rowI hR' (by rfl) _ (by simpa using h7) (all_oneCell_toArray h1), setRow_blk hR' cs2, ?_, hgr⟩
    exact ⟨hgr.os.trans hb.os, hgr.tape.trans hb.tape, hgr.output.trans hb.output, Nat.le_trans hb.size hgr.size, fun k hk hne => (hgr.block k (Nat.lt_of_lt_of_le hk hb.size) (by simp; omega)).trans (hb.block k hk hne)⟩
  have hputz := fun w' h1 h2 => hput w' h1 h2 zIT.toList rfl zo
  have ez : List.toArray zIT.toList = zIT := Array.toArray_toList
  rw [ez] at hputz
  have hFz : Hid (∀ (E : Int), E ≠ 0 → nxt l = (itZ, E) → ∀ W2, w.grownBy W2 (some g) → NextP B w g l (.returned (.tuple #[.agg (List.toArray zIT.toList), .int .i64 E])) W2) := fun E hE he W2 hg2 => ⟨zIT.toList, by rw [he], by rw [he]; exact itZ_at _ _, hg2, fun h0 => by rw [he] at h0; exact absurd h0 hE⟩
  have hCl : Hid ((chunkF l).length ≤ 100000000) := by show _ ≤ _; unfold chunkF; simp; omega
  clear hl q1 q2 q3 h
  go_enter Tryd.func55, Tryd.ntmps55
  go_wp2_with fail
  refine hby.mono ?_
  rintro e w1 ⟨v1, rfl, hO1, hrd1, hg1⟩
  obtain ⟨a1, c1, rfl, _, _, hr1, _⟩ := owns_rowN hO1 (by decide)
  go_wp2_with fail
  refine (getbig_all rfl hr1).mono ?_
  rintro e w1' ⟨rfl, rfl⟩
  have hR1 := hR0.grown hg1 (by omega)
  have hg01 : w.grownBy w1 (some g) := grownBy_trans ⟨hb0.os, hb0.tape, hb0.output, hb0.size, fun k hk _ => hb0.block k hk⟩ hg1
  clear hby hO1 hr1 hR0 h0 hb0
  generalize gV G1.reverse = n at *
  have hwr : IntKind.i64.wrap (n : Int) = (n : Int) := IntWalk.i64_in _ (by omega)
  have hby2 := bytes_any (n := (n : Int)) hrd1 (by have := hG1.out; omega)
  generalize hE2 : rdErr R1 E1 (n : Int) = E2 at *
  generalize rdGot R1 E1 (n : Int) = C at *
  generalize rdRest R1 E1 (n : Int) = R2 at *
  go_wp2_with fail
  refine hby2.mono ?_
  rintro e w2 ⟨v2, rfl, hO2, hrd2, hg2⟩
  obtain ⟨a2, c2, rfl, _, _, hr2, _⟩ := owns_rowN hO2 (by decide)
  have hR2 := hR1.grown hg2 (by omega)
  have hg02 := grownBy_trans hg01 hg2
  clear hby2 hO2 hR1 hg2 hrd1 hg1 hg01 hnl hE2 hwr
  go_wp2_with fail
  refine (err_any hrd2).mono ?_
  rintro e w2' ⟨rfl, rfl⟩
  rcases hcase with ⟨rfl, hN⟩ | ⟨rfl, rfl, rfl, hN⟩
  · obtain ⟨W2, y1, y2, y3, _⟩ := hputz _ hR2 hg02
    have hF := Lib.hid (hFz.out 3 (by decide) hN _ y3)
    clear hN hFz
    go_wp2
    exact bodyPost_ret (results_cell_tmp (fn := Tryd.f55) (p := 2) (t := 3) (by rfl) _ _ w.heap.size 24 _ (0, 0) _ (by rfl) y2 Tryd.underlying24 rfl (by exact sizeIT)) rfl hF.out
  · have hCl2 := hCl.out
    go_wp2_with fail
    refine (dec_any rfl hr2 (by unfold maxLen; omega)).mono ?_
    rintro e w3 ⟨dv, rfl, hV, hb3⟩
    have hV := hV.at
    have d6 : (List.toArray dv).size = 6 := by simpa using hV.len
    have do6 : OneC (List.toArray dv) := all_oneCell_toArray hV.one
    have hbA : Below w3.heap.size w3 (w3.alloc (.cells (List.toArray dv) 30)) := (Below.refl _ _).alloc (Nat.le_refl _) _
    have hVB : Blk (w3.alloc (.cells (List.toArray dv) 30)) w3.heap.size 30 dv := Blk.new _ _ _
    have hb24 := Gr.trans hb3 hbA
    have hV4 := hV.keep hbA
    have hsz24 := hb24.size
    clear hbA hb3 hV hCl
    go_upto_region 7 with (fail)
    generalize w3.alloc (.cells (List.toArray dv) 30) = w4 at *
    generalize w3.heap.size = qv at *
    have hR4 := hR2.below hb24
    have hw4 := hR4.lt
    have hg04 := gb_below hg02 (hb24.mono hg02.size)
    have hr4 := hr2.below hb24
    have hrd4 := hrd2.keep hb24
    clear hR2 hg02 hr2 hrd2 hb24
    by_cases hd : (decF (chunkF l)).2 = 0
    case neg =>
      have t1 : ((decF (chunkF l)).2 != 0) = true := by simpa using hd
      rw [if_pos hd] at hN
      obtain ⟨W2, y1, y2, y3, _⟩ := hputz _ hR4 hg04
      have hF := Lib.hid (hFz.out _ hd hN _ y3)
      clear hN hFz hd
      generalize (decF (chunkF l)).2 = DE at *
      go_wp2
      exact bodyPost_ret (results_cell_tmp (fn := Tryd.f55) (p := 2) (t := 3) (by rfl) _ _ w.heap.size 24 _ (0, 0) _ (by rfl) y2 Tryd.underlying24 rfl (by exact sizeIT)) rfl hF.out
    case pos =>
      rw [if_neg (by simpa using hd)] at hN
      have hdec : decF (chunkF l) = ((decF (chunkF l)).1, 0) := by rw [← hd]
      have hE := Lib.hid (encF_dec hdec)
      have hS := Lib.hid (decF_sm (chunkF l))
      rw [hd]
      clear hd hdec
      generalize (decF (chunkF l)).1 = u at *
      have lV := ldOp_all (P := Tryd.prog) (ty := 30) hVB Tryd.underlying30 rfl (by rw [show dv.length = 6 by simpa using d6]; exact sizeV)
      go_wp2_with fail
      refine (iof_any hV4 hS.out w4 (Below.refl _ _)).mono ?_
      rintro e w5 ⟨ds, rfl, hD, hb5⟩
      have s7 := hD.at.len
      have so := hD.at.one
      have e7 : (List.toArray ds).size = 7 := by simpa using s7
      have eo : OneC (List.toArray ds) := all_oneCell_toArray so
      have hbA : Below w5.heap.size w5 (w5.alloc (.cells (List.toArray ds) 24)) := (Below.refl _ _).alloc (Nat.le_refl _) _
      have hXB : Blk (w5.alloc (.cells (List.toArray ds) 24)) w5.heap.size 24 ds := Blk.new _ _ _
      have hb46 := Gr.trans hb5 hbA
      have hD6 := hD.below hbA
      clear hbA hb5 hD lV
      go_upto_region 10 with (fail)
      generalize w5.alloc (.cells (List.toArray ds) 24) = w6 at *
      generalize w5.heap.size = qx at *
      have hR6 := hR4.below hb46
      have hg06 := gb_below hg04 (hb46.mono hg04.size)
      have hr6 := hr4.below hb46
      have hrd6 := hrd4.keep hb46
      have hV6 := hV4.keep hb46
      have hVB6 := hVB.below hb46
      clear hR4 hr4 hrd4 hb46 hV4 hVB
      by_cases ho : (ofF u).2 = 0
      case neg =>
        have t1 : ((ofF u).2 != 0) = true := by simpa using ho
        have hN2 : nxt l = (itZ, (ofF u).2) := by rw [hN]; have := ofF_bad ho; rw [this]
        obtain ⟨W2, y1, y2, y3, _⟩ := hputz _ hR6 hg06
        have hF := Lib.hid (hFz.out _ ho hN2 _ y3)
        clear hN hN2 hFz ho
        generalize (ofF u).2 = OE at *
        go_wp2
        exact bodyPost_ret (results_cell_tmp (fn := Tryd.f55) (p := 2) (t := 3) (by rfl) _ _ w.heap.size 24 _ (0, 0) _ (by rfl) y2 Tryd.underlying24 rfl (by exact sizeIT)) rfl hF.out
      case pos =>
        have HN := Lib.hid hN
        have HO := Lib.hid ho
        rw [ho]
        clear hN ho hFz hputz
        have lV := ldOp_all (P := Tryd.prog) (ty := 30) hVB6 Tryd.underlying30 rfl (by rw [show dv.length = 6 by simpa using d6]; exact sizeV)
        go_wp2_with fail
        refine (enc_own hV6 (Below.refl _ _)).mono ?_
        rintro e w7 ⟨ub, rfl, hBR, hb7⟩
        rw [hE.out] at hBR ⊢
        obtain ⟨a7, c7, rfl, _, _, hr7, _⟩ := hBR
        have hr6' := hr6.below hb7
        have hX7 := hXB.below hb7
        have lX := ldOp_all (P := Tryd.prog) (ty := 24) hX7 Tryd.underlying24 rfl (by rw [s7]; exact sizeIT)
        obtain ⟨W2, y1, y2, y3, y4⟩ := hput w7 (hR6.below hb7) (gb_below hg06 (hb7.mono hg06.size)) ds s7 so
        have hF : Hid (NextP B w g l (.returned (.tuple #[.agg (List.toArray ds), .int .i64 0])) W2) := by
          show NextP _ _ _ _ _ _
          refine ⟨ds, by rw [HN.out, HO.out], ?_, y3, fun _ => ?_⟩
          · rw [HN.out]
            exact ((hD6.below hb7).kept y4 (fun b hb e => by simp at e; omega)).mono (fun b hb _ => by omega)
          · exact (hrd6.keep hb7).keptOwn y4 (fun k hk => by cases hk; exact ⟨hBw, by omega⟩)
        have heq := equal21_any (c := c2) (d := c7) rfl rfl hr6' hr7
        have tE : (chunkF l == chunkF l) = true := by simp
        rw [tE] at heq
        clear hput HN HO hE hS hD6 hrd6 hr6 hr6' hr7 hb7 hXB hX7 hVB6 hV6 y3 y4 hR6 hg06 hg04 lV tE
        go_wp2_with fail
        refine heq.mono ?_
        rintro e w8 ⟨rfl, rfl⟩
        go_wp2
        exact bodyPost_ret (results_cell_tmp (fn := Tryd.f55) (p := 2) (t := 3) (by rfl) _ _ w.heap.size 24 _ (0, 0) _ (by rfl) y2 Tryd.underlying24 rfl (by rw [e7]; exact sizeIT)) rfl hF.out
end Go.Proofs.YtpchogicdnfggaaDoor
set_option maxRecDepth 20000
namespace Go.Proofs.YtpchogicdnfggaaDoor
open Go.RowKit Go.Hd
/-- The last one's path. -/
def lastP (l : List Itm) : List UInt8 := (l[l.length - 1]?.getD itZ).path
/-- The items that bytes are, some having been read. -/
def itsF : Nat → List Itm → List UInt8 → List Itm × Int
  | 0, out, _ => (out, 0)
  | f + 1, out, l => if l = [] then (out, 0) else if out.length = 100 then ([], 16) else if (nxt l).2 ≠ 0 then ([], (nxt l).2) else if 0 < out.length ∧ lessF (lastP out) (nxt l).1.path = false then ([], 18) else itsF f (out ++ [(nxt l).1]) (nxtR l)
def itemsF (l : List UInt8) : List Itm × Int := itsF (l.length + 1) [] l
theorem nxt_ok {l : List UInt8} (h : (nxt l).2 = 0) : 4 ≤ l.length ∧ sz4 l ≤ l.length - 4 ∧ (decF (chunkF l)).2 = 0 ∧ nxt l = ofF (decF (chunkF l)).1 := by
  unfold nxt at h ⊢
  by_cases h1 : l.length < 4 ∨ l.length - 4 < sz4 l
  · rw [if_pos h1] at h; cases h
  · rw [if_neg h1] at h ⊢
    by_cases h2 : (decF (chunkF l)).2 ≠ 0
    · rw [if_pos h2] at h; exact absurd h h2
    · rw [if_neg h2] at h ⊢
      exact ⟨by omega, by omega, by omega, rfl⟩
theorem nxtR_len {l : List UInt8} (h : (nxt l).2 = 0) : (nxtR l).length + 4 ≤ l.length := by
  have := nxt_ok h
  unfold nxtR
  rw [List.length_drop, List.length_drop]; omega
theorem ofF_path {v : PV} (h : Sm v) : (ofF v).1.path.length ≤ 65536 := by
  unfold ofF
  split
  · exact (fldV_sm h [112]).text
  · exact Nat.zero_le _
theorem nxt_path (l : List UInt8) : (nxt l).1.path.length ≤ 65536 ∧ (nxt l).1.parts.length ≤ 64 := by
  unfold nxt
  split
  · exact ⟨Nat.zero_le _, Nat.zero_le _⟩
  · split
    · exact ⟨Nat.zero_le _, Nat.zero_le _⟩
    · refine ⟨ofF_path (decF_sm _), ?_⟩
      unfold ofF
      split
      · rename_i h; exact check_parts h.2.1
      · exact Nat.zero_le _
theorem itsF_step {f : Nat} {out : List Itm} {l : List UInt8} (h0 : l ≠ []) (h1 : out.length ≠ 100) (h2 : (nxt l).2 = 0) (h3 : ¬ (0 < out.length ∧ lessF (lastP out) (nxt l).1.path = false)) (hf : l.length ≤ f) : itsF (f + 1) out l = itsF ((nxtR l).length + 1 + (f - 1 - (nxtR l).length)) (out ++ [(nxt l).1]) (nxtR l) := by
  have hl := nxtR_len h2
  have e : (nxtR l).length + 1 + (f - 1 - (nxtR l).length) = f := by omega
  rw [e]
  show (if l = [] then _ else _) = _
  rw [if_neg h0, if_neg h1, if_neg (by simpa using h2), if_neg h3]
theorem itsF_more : ∀ (f k : Nat) (out : List Itm) (l : List UInt8), l.length < f → itsF (f + k) out l = itsF f out l
  | 0, k, out, l, h => by omega
  | f + 1, k, out, l, h => by
    rw [Nat.add_right_comm]
    show (if l = [] then _ else _) = (if l = [] then _ else _)
    by_cases h0 : l = []
    · rw [if_pos h0, if_pos h0]
    rw [if_neg h0, if_neg h0]
    by_cases h1 : out.length = 100
    · rw [if_pos h1, if_pos h1]
    rw [if_neg h1, if_neg h1]
    by_cases h2 : (nxt l).2 = 0
    · have hn : ¬ ((nxt l).2 ≠ 0) := fun h => h h2
      rw [if_neg hn, if_neg hn]
      split
      · rfl
      · have := nxtR_len h2
        exact itsF_more f k _ _ (by omega)
    · rw [if_pos h2, if_pos h2]
/-- One more read. -/
theorem its_next {out : List Itm} {l : List UInt8} (h0 : l ≠ []) (h1 : out.length ≠ 100) (h2 : (nxt l).2 = 0) (h3 : ¬ (0 < out.length ∧ lessF (lastP out) (nxt l).1.path = false)) : itsF (l.length + 1) out l = itsF ((nxtR l).length + 1) (out ++ [(nxt l).1]) (nxtR l) := by
  rw [itsF_step h0 h1 h2 h3 (Nat.le_refl _)]
  exact itsF_more _ _ _ _ (Nat.lt_succ_self _)
theorem ItsO.kept {base g : Nat} {w w' : World} {v : Value} {l : List Itm} (h : ItsO base w v l) (hg : w.grownBy w' (some g)) (hb : g < base) : ItsO base w' v l := by
  have hlo := h.lo
  obtain ⟨css, h1, h2, h3, h4⟩ := h
  exact ⟨css, h1, h2.kept hg (.inr (fun e => by have := (hlo _ e).1; omega)), h3, fun i c x hc hx => (h4 i c x hc hx).kept hg (fun b hb2 e => by cases e; omega)⟩
theorem ItsO.mono {base base' : Nat} {w : World} {v : Value} {l : List Itm} (h : ItsO base w v l) (hb : base' ≤ base) : ItsO base' w v l := by
  obtain ⟨css, h1, h2, h3, h4⟩ := h
  exact ⟨css, h1, ownsRow_mono h2 hb, h3, fun i c x hc hx => (h4 i c x hc hx).mono (fun b hk _ => ⟨Nat.le_trans hb hk.1, hk.2⟩)⟩
theorem ItP.cell0 {ok : Nat → Prop} {w : World} {cs : List Value} {x : Itm} (h : ItP ok w cs x) : cs[0]? = some (.string (str x.path)) := by
  obtain ⟨a, c, rfl, _⟩ := h; rfl
attribute [local go_sem ↓] h_ldIT h_stIT h_alIT h_bsIT
attribute [local go_sem] r_ldIT r_stIT r_alIT r_bsIT
set_option maxHeartbeats 4000000 in
theorem items_any {a : Option Addr} {n c : Nat} {l : List UInt8} {w : World} (hn : n = l.length) (hr : Row w a (l.map b8)) (hl : l.length ≤ 100000000) :
    Calls Tryd.prog 27 #[.slice a n c] w fun e w' => ∃ u, e = .returned (.tuple #[u, .int .i64 (itemsF l).2]) ∧ ItsO w.heap.size w' u (itemsF l).1 ∧ Below w.heap.size w w' := by
  subst hn
  have zt := zIT_size
  have hop := open_any (c := c) rfl hr (by omega)
  have hF : Hid (itemsF l = itsF (l.length + 1) [] l) := rfl
  generalize itemsF l = F at *
  clear hr
  go_enter Tryd.func27, Tryd.ntmps27
  go_wp2_with fail
  refine hop.mono ?_
  rintro e w1 ⟨g, rfl, hg0, hrd, hb1⟩
  have hgl := hrd.lt
  have HB := Lib.hid hb1
  have HG := Lib.hid (And.intro hg0 hgl)
  have hrd0 := Lib.hid hrd
  have HL0 : Hid (l.length ≤ 100000000) := hl
  clear hop hb1 hrd hg0 hgl hl
  go_wp2
  go_loopw [4] (fun u wr => ∃ (out : List Itm) (r : List UInt8), Hid (itsF (r.length + 1) out r = F) ∧ out.length ≤ 100 ∧ Hid (r.length ≤ 100000000) ∧ Hid (RdAt w1.heap.size wr g r 0) ∧ Hid (ItsO w1.heap.size wr u out) ∧ Hid (w1.grownBy wr (some g)) ∧ Hid (∀ x ∈ out, x.path.length ≤ 65536)) (fun u wr => 101 - (match u with | .slice _ n _ => n | _ => 0))
  case atStart => exact ⟨[], l, Lib.hid hF.out.symm, Nat.zero_le _, HL0, hrd0, Lib.hid (ItsO.nil _ _), Lib.hid ⟨rfl, rfl, rfl, Nat.le_refl _, fun _ _ _ => rfl⟩, Lib.hid (by intro x hx; cases hx)⟩
  case round =>
    obtain ⟨out, r, hI, hout, hrl, hrd, hO, hgr, hp⟩ := hrel
    obtain ⟨ao, co, rfl, hco1, hco2, hat⟩ := hO.out.at
    go_wp2_with fail
    refine (left_any hrd.out).mono ?_
    rintro e wl ⟨rfl, rfl⟩
    have hbF : Hid (Below w.heap.size w wr) := Below.grown HB.out hgr.out HB.out.size (fun k hk => by cases hk; exact Nat.le_trans (Nat.le_refl _) HG.out.1)
    by_cases h0 : r = []
    case pos =>
      subst h0
      have hF2 : Hid (F = (out, 0)) := by show _ = _; rw [← hI.out]; rfl
      have hO2 := Lib.hid (hO.out.mono (base' := w.heap.size) HB.out.size)
      clear hI hrd hO hgr hp
      go_wp2
      go_ret2
      exact ⟨_, by rw [hF2.out] <;> rfl, by rw [hF2.out]; exact hO2.out, hbF.out⟩
    case neg =>
    have h1 : 0 < r.length := List.length_pos_iff.2 h0
    have t0 : (0 : Int) < (r.length : Int) := by omega
    by_cases h100 : out.length = 100
    case pos =>
      have t1 : ((out.length : Int) == 100) = true := by rw [h100]; rfl
      have hF2 : Hid (F = ([], 16)) := by
        show _ = _
        rw [← hI.out]
        show (if r = [] then _ else _) = _
        rw [if_neg h0, if_pos h100]
      clear hI hrd hO hgr hp h100
      go_wp2
      go_ret2
      exact ⟨.slice none 0 0, by rw [hF2.out] <;> rfl, by rw [hF2.out]; exact ItsO.nil _ _, hbF.out⟩
    case neg =>
    have t1 : ((out.length : Int) == 100) = false := by rw [beq_eq_false_iff_ne]; omega
    have hnx := next_any hrd.out hgr.out.size hrl.out
    have hlo := hO.out.lo
    go_wp2_with fail
    refine hnx.mono ?_
    rintro e w2 ⟨ds, rfl, hD, hg2, hR2⟩
    have s7 := hD.at.len
    have so := hD.at.one
    have e7 : (List.toArray ds).size = 7 := by simpa using s7
    have eo : OneC (List.toArray ds) := all_oneCell_toArray so
    have hbA : Below w2.heap.size w2 (w2.alloc (.cells (List.toArray ds) 24)) := (Below.refl _ _).alloc (Nat.le_refl _) _
    have hXB := Lib.hid (Blk.new w2 24 (List.toArray ds))
    have hg3 : Hid (w1.grownBy (w2.alloc (.cells (List.toArray ds) 24)) (some g)) := gb_below (grownBy_trans hgr.out hg2) (hbA.mono (Nat.le_trans hgr.out.size hg2.size))
    have hO3 : Hid (ItsO w1.heap.size (w2.alloc (.cells (List.toArray ds) 24)) (.slice ao out.length co) out) := (hO.out.kept hg2 (by have := HG.out; omega)).below hbA
    have hD3 := Lib.hid (hD.below hbA)
    have hok : Hid (∀ b, wr.heap.size ≤ b → w1.heap.size ≤ b ∧ (Value.slice ao out.length co).ownBlock ≠ some b) := fun b hb => ⟨Nat.le_trans hgr.out.size hb, fun e => by have := (hlo b e).2; omega⟩
    have hs3 : Hid (w1.heap.size ≤ (w2.alloc (.cells (List.toArray ds) 24)).heap.size) := hg3.out.size
    go_upto_region 7 with (fail)
    by_cases hE0 : (nxt r).2 = 0
    case neg =>
      have t2 : ((nxt r).2 != 0) = true := by simpa using hE0
      have hF2 : Hid (F = ([], (nxt r).2)) := by
        show _ = _
        rw [← hI.out]
        show (if r = [] then _ else _) = _
        rw [if_neg h0, if_neg h100, if_pos hE0]
      have hbF3 : Hid (Below w.heap.size w (w2.alloc (.cells (List.toArray ds) 24))) := Below.grown HB.out hg3.out HB.out.size (fun k hk => by cases hk; exact HG.out.1)
      clear hI hrd hO hgr hp hR2 hD hg2 hXB hg3 hO3 hD3 hok hs3 hE0 hnx hbA
      generalize w2.alloc (.cells (List.toArray ds) 24) = w3 at *
      generalize (nxt r).2 = NE at *
      go_wp2
      go_ret2
      exact ⟨.slice none 0 0, by rw [hF2.out] <;> rfl, by rw [hF2.out]; exact ItsO.nil _ _, hbF3.out⟩
    case pos =>
      have hrd3 := Lib.hid ((hR2 hE0).keep hbA)
      have hE := Lib.hid hE0
      have d0 := hD.cell0
      rw [hE0]
      clear hE0 hrd hO hgr hR2 hD hg2 hbA hnx hlo
      generalize w2.alloc (.cells (List.toArray ds) 24) = w3 at *
      generalize w2.heap.size = qx at *
      have x0 : w3.cell? ⟨qx, 0, none⟩ = some (.string (str (nxt r).1.path)) := hXB.out.cell (by simpa using d0)
      by_cases hpos : 0 < out.length
      case neg =>
        have t3 : decide (0 < out.length) = false := decide_eq_false hpos
        have hI2 : Hid (itsF ((nxtR r).length + 1) (out ++ [(nxt r).1]) (nxtR r) = F) := by
          show _ = _
          rw [← its_next h0 h100 hE.out (fun h => hpos h.1)]; exact hI.out
        clear hI hpos
        go_wp2
        go_quiet (fail)
        have hO4 := (hO3.out.below (Below.drewN (Below.refl _ _) nq))
        have hX4 := hD3.out.below (Below.drewN (Below.refl _ _) nq)
        obtain ⟨a', c', w5, happ, hO5, hG5⟩ := hO4.app (hX4.mono (fun b hk _ => by have := hok.out b hk; exact this)) (by omega) (by have := hs3.out; simpa using this)
        have lX := ldOp_all (P := Tryd.prog) (ty := 24) (hXB.out.drewN nq) Tryd.underlying24 rfl (by rw [s7]; exact sizeIT)
        have hrd5 : Hid (RdAt w1.heap.size w5 g (nxtR r) 0) := by
          show RdAt _ _ _ _ _
          exact (hrd3.out.keep (Below.drewN (Below.refl _ _) nq)).keptOwn hG5.gr (fun k hk => by have := hO4.lo k hk; have := HG.out; omega)
        have hg5 : Hid (w1.grownBy w5 (some g)) := gb_below (gb_below hg3.out (Below.drewN (Below.refl _ _) nq)) (hG5.below (fun k hk => (hO4.lo k hk).1) (Nat.le_refl _) (by have := hs3.out; simpa using this))
        have hO6 : Hid (ItsO w1.heap.size w5 (.slice a' (out.length + 1) c') (out ++ [(nxt r).1])) := hO5
        have hp5 : Hid (∀ x ∈ out ++ [(nxt r).1], x.path.length ≤ 65536) := by
          intro x hx
          rcases List.mem_append.1 hx with hx | hx
          · exact hp.out x hx
          · simp at hx; subst hx; exact (nxt_path r).1
        have hrl5 : Hid ((nxtR r).length ≤ 100000000) := by
          show _ ≤ _
          have h1 := nxtR_len hE.out; have h2 := hrl.out; omega
        clear hO4 hX4 hO5 hG5 hO3 hD3 hrd3 hg3 hp hrl hXB hok hs3 hE
        go_wp2_with (at_builtin; refine wpList_append_run happ rfl rfl rfl rfl ?_)
        first
          | exact ⟨⟨out ++ [(nxt r).1], nxtR r, hI2, by simp; omega, hrl5, hrd5, hO6, hg5, hp5⟩, by simp [intOf] <;> omega⟩
          | (refine ⟨?_, by simp [intOf] <;> omega⟩; (repeat apply Exists.intro); exact ⟨⟨out ++ [(nxt r).1], nxtR r, hI2, by simp; omega, hrl5, hrd5, hO6, hg5, hp5⟩, rfl⟩)
      case pos =>
        obtain ⟨k, hk⟩ : ∃ k, k = out.length - 1 := ⟨_, rfl⟩
        have hkl : k < out.length := by omega
        have t3 : decide (0 < out.length) = true := decide_eq_true hpos
        have im : IntKind.i64.wrap ((out.length : Int) - 1) = (k : Int) := by rw [IntWalk.i64_in _ (by omega)]; omega
        have k0 : (0 : Int) ≤ (k : Int) := by omega
        have k1 : (k : Int) < (out.length : Int) := by omega
        obtain ⟨a9, c9, e9, _, _, hat3⟩ := hO3.out.at
        simp only [Value.slice.injEq] at e9
        obtain ⟨rfl, _, rfl⟩ := e9
        obtain ⟨q1, s1⟩ := hat3.path hkl
        have hLP : Hid (lastP out = out[k].path) := by
          show _ = _
          unfold lastP
          rw [← hk, List.getElem?_eq_getElem hkl]; rfl
        have hle := fun w' => less_any out[k].path (nxt r).1.path w' (by have := hp.out _ (List.getElem_mem hkl); omega) (by have := (nxt_path r).1; omega)
        generalize out[k].path = zp at *
        clear hat3
        generalize hLF : lessF zp (nxt r).1.path = LF at *
        cases LF with
        | false =>
          have hF2 : Hid (F = ([], 18)) := by
            show _ = _
            rw [← hI.out]
            show (if r = [] then _ else _) = _
            rw [if_neg h0, if_neg h100, if_neg (fun h => h hE.out), if_pos ⟨hpos, by rw [hLP.out]; exact hLF⟩]
          have hbF3 : Hid (∀ n, Below w.heap.size w (w3.drewN n)) := fun n => Below.drewN (Below.grown HB.out hg3.out HB.out.size (fun k hk => by cases hk; exact HG.out.1)) n
          clear hI hLF hLP hp hXB hg3 hO3 hD3 hok hs3 hpos hk
          go_wp2
          go_quiet ((go_at_call 42; exact Calls.quiet_of (hle _)))
          go_wp2
          go_ret2
          exact ⟨.slice none 0 0, by rw [hF2.out] <;> rfl, by rw [hF2.out]; exact ItsO.nil _ _, hbF3.out nq⟩
        | true =>
          have hI2 : Hid (itsF ((nxtR r).length + 1) (out ++ [(nxt r).1]) (nxtR r) = F) := by
            show _ = _
            rw [← its_next h0 h100 hE.out (fun h => by rw [hLP.out, hLF] at h; cases h.2)]; exact hI.out
          clear hI hLF hLP hpos hk
          go_wp2
          go_quiet ((go_at_call 42; exact Calls.quiet_of (hle _)))
          have hO4 := (hO3.out.below (Below.drewN (Below.refl _ _) nq))
          have hX4 := hD3.out.below (Below.drewN (Below.refl _ _) nq)
          obtain ⟨a', c', w5, happ, hO5, hG5⟩ := hO4.app (hX4.mono (fun b hk _ => by have := hok.out b hk; exact this)) (by omega) (by have := hs3.out; simpa using this)
          have lX := ldOp_all (P := Tryd.prog) (ty := 24) (hXB.out.drewN nq) Tryd.underlying24 rfl (by rw [s7]; exact sizeIT)
          have hrd5 : Hid (RdAt w1.heap.size w5 g (nxtR r) 0) := by
            show RdAt _ _ _ _ _
            exact (hrd3.out.keep (Below.drewN (Below.refl _ _) nq)).keptOwn hG5.gr (fun k hk => by have := hO4.lo k hk; have := HG.out; omega)
          have hg5 : Hid (w1.grownBy w5 (some g)) := gb_below (gb_below hg3.out (Below.drewN (Below.refl _ _) nq)) (hG5.below (fun k hk => (hO4.lo k hk).1) (Nat.le_refl _) (by have := hs3.out; simpa using this))
          have hO6 : Hid (ItsO w1.heap.size w5 (.slice a' (out.length + 1) c') (out ++ [(nxt r).1])) := hO5
          have hp5 : Hid (∀ x ∈ out ++ [(nxt r).1], x.path.length ≤ 65536) := by
            intro x hx
            rcases List.mem_append.1 hx with hx | hx
            · exact hp.out x hx
            · simp at hx; subst hx; exact (nxt_path r).1
          have hrl5 : Hid ((nxtR r).length ≤ 100000000) := by
            show _ ≤ _
            have h1 := nxtR_len hE.out; have h2 := hrl.out; omega
          clear hO4 hX4 hO5 hG5 hO3 hD3 hrd3 hg3 hp hrl hXB hok hs3 hE
          go_wp2_with (at_builtin; refine wpList_append_run happ rfl rfl rfl rfl ?_)
          first
            | exact ⟨⟨out ++ [(nxt r).1], nxtR r, hI2, by simp; omega, hrl5, hrd5, hO6, hg5, hp5⟩, by simp [intOf] <;> omega⟩
            | (refine ⟨?_, by simp [intOf] <;> omega⟩; (repeat apply Exists.intro); exact ⟨⟨out ++ [(nxt r).1], nxtR r, hI2, by simp; omega, hrl5, hrd5, hO6, hg5, hp5⟩, rfl⟩)
end Go.Proofs.YtpchogicdnfggaaDoor
set_option maxRecDepth 20000
namespace Go.Proofs.YtpchogicdnfggaaDoor
open Go.RowKit Go.Hd
theorem itV_norm (x : Itm) : normV (itV x) = itV x := by
  have h0 : normV pv0 = pv0 := by unfold pv0; rw [normV_mk]; rfl
  unfold itV
  split
  · exact h0
  · split
    · rw [normV_7 rfl]
      show PV.mk 7 0 [] [] _ (normL [pList (x.parts.map ptV), pNum x.kind, pNum x.mode, pTxt x.path, pNum x.size, pNum x.time]) = _
      simp only [normL_cons, normL_nil, normV_lst, normL_pts, normV_num, normV_txt]; rfl
    · split
      · rw [normV_7 rfl]
        show PV.mk 7 0 [] [] _ (normL [pNum x.kind, pNum x.mode, pTxt x.path, pNum x.time]) = _
        simp only [normL_cons, normL_nil, normV_num, normV_txt]; rfl
      · rw [normV_7 rfl]
        show PV.mk 7 0 [] [] _ (normL [pNum x.kind, pTxt x.target, pNum x.mode, pTxt x.path, pNum x.time]) = _
        simp only [normL_cons, normL_nil, normV_num, normV_txt]; rfl
theorem of_same {x : Itm} {v : PV} (hc : checkI x = 0) (hi : ∀ p ∈ x.parts, p.id.length = 32) (hs : sameV (itV x) v = true) : ofF v = (x, 0) := by
  obtain ⟨k1, k2, _⟩ := of_main hc hi hs
  unfold ofF
  rw [if_pos ⟨k1, by rw [k2]; exact hc, by rw [k2]; exact hs⟩, k2]
theorem of_itV {x : Itm} (hc : checkI x = 0) (hi : ∀ p ∈ x.parts, p.id.length = 32) : ofF (itV x) = (x, 0) := of_same hc hi (sameV_refl _)
theorem ofF_ok {v : PV} (h : (ofF v).2 = 0) : checkI (ofF v).1 = 0 ∧ sameV (itV (ofF v).1) v = true ∧ ∀ p ∈ (ofF v).1.parts, p.id.length = 32 := by
  unfold ofF at h ⊢
  split
  · rename_i hh; exact ⟨hh.2.1, hh.2.2, refX_ids v⟩
  · rename_i hh; rw [if_neg hh] at h; cases h
theorem okV_zero21 : OkV pv0 := .mk (by unfold in64; omega) (by simp)
theorem decF_okV21 (l : List UInt8) : OkV (decF l).1 := by
  unfold decF
  split
  · exact okV_zero21
  · split
    · exact okV_zero21
    · rename_i v r h
      split
      · obtain ⟨_, _, _, h1, _⟩ := enc_dec 16 _ _ _ h
        exact h1
      · exact okV_zero21
theorem in64_0 {n : Int} (h : 0 ≤ n ∧ n ≤ 100) : in64 n := by unfold in64; omega
theorem okN {n : Int} (h : in64 n) : OkV (pNum n) := .mk h (by simp)
theorem okT (t : List UInt8) : OkV (pTxt t) := .mk (in64_0 (by omega)) (by simp)
theorem okBt (b : List UInt8) : OkV (pByt b) := .mk (in64_0 (by omega)) (by simp)
theorem okL {l : List PV} (h : ∀ x ∈ l, OkV x) : OkV (pList l) := .mk (in64_0 (by omega)) h
theorem okV_itV {x : Itm} (h : ItmOk x) : OkV (itV x) := by
  have hp : OkV (pList (x.parts.map ptV)) := okL (by
    intro y hy
    obtain ⟨p, hp, rfl⟩ := List.mem_map.1 hy
    refine okL ?_
    intro z hz
    simp only [List.mem_cons, List.not_mem_nil, or_false] at hz
    rcases hz with rfl | rfl
    · exact okBt _
    · exact okN (h.parts p hp).size)
  have k := okN h.kind
  have m := okN h.mode
  have t := okN h.time
  have s := okN h.size
  have p := okT x.path
  have g := okT x.target
  unfold itV
  split
  · exact okV_zero21
  · split
    · refine .mk (in64_0 (by omega)) ?_
      intro y hy
      simp only [List.mem_cons, List.not_mem_nil, or_false] at hy
      rcases hy with rfl | rfl | rfl | rfl | rfl | rfl <;> assumption
    · split
      · refine .mk (in64_0 (by omega)) ?_
        intro y hy
        simp only [List.mem_cons, List.not_mem_nil, or_false] at hy
        rcases hy with rfl | rfl | rfl | rfl <;> assumption
      · refine .mk (in64_0 (by omega)) ?_
        intro y hy
        simp only [List.mem_cons, List.not_mem_nil, or_false] at hy
        rcases hy with rfl | rfl | rfl | rfl | rfl <;> assumption
/-- A record, read. -/
theorem nxt_rec {x : Itm} (hx : ItmOk x) (hc : checkI x = 0) (he : (encF (itV x)).2 = 0) (r : List UInt8) : nxt (recB x ++ r) = (x, 0) ∧ nxtR (recB x ++ r) = r := by
  have hE : encF (itV x) = ((encF (itV x)).1, 0) := by rw [← he]
  obtain ⟨_, _, hL, _, hD⟩ := decF_enc (okV_itV hx) hE
  have hof := of_itV hc (fun p hp => (hx.parts p hp).id)
  rw [itV_norm] at hD
  have hrec : recB x = (putL (encF (itV x)).1.length 4).reverse ++ (encF (itV x)).1 := rfl
  generalize (encF (itV x)).1 = C at *
  generalize recB x = R at *
  subst hrec
  have h4 : (putL C.length 4).reverse.length = 4 := by simp
  have e1 : ((putL C.length 4).reverse ++ C ++ r).take 4 = (putL C.length 4).reverse := by
    rw [List.append_assoc]; exact List.take_left' h4
  have e2 : ((putL C.length 4).reverse ++ C ++ r).drop 4 = C ++ r := by
    rw [List.append_assoc]; exact List.drop_left' h4
  have e3 : sz4 ((putL C.length 4).reverse ++ C ++ r) = C.length := by
    unfold sz4
    rw [e1, List.reverse_reverse, getL_putL]
    exact Nat.mod_eq_of_lt (by have : (256 : Nat) ^ 4 = 4294967296 := by decide
                               omega)
  have e4 : chunkF ((putL C.length 4).reverse ++ C ++ r) = C := by unfold chunkF; rw [e3, e2]; exact List.take_left' rfl
  have e5 : nxtR ((putL C.length 4).reverse ++ C ++ r) = r := by unfold nxtR; rw [e3, e2]; exact List.drop_left' rfl
  refine ⟨?_, e5⟩
  unfold nxt
  have hlen : ((putL C.length 4).reverse ++ C ++ r).length = 4 + C.length + r.length := by simp; omega
  rw [e3, e4, hlen, if_neg (by omega), hD, if_neg (by simp)]
  exact hof
/-- What was read is a record. -/
theorem rec_nxt {l : List UInt8} (h : (nxt l).2 = 0) : checkI (nxt l).1 = 0 ∧ (encF (itV (nxt l).1)).2 = 0 ∧ recB (nxt l).1 ++ nxtR l = l := by
  obtain ⟨h1, h2, h3, h4⟩ := nxt_ok h
  rw [h4] at h ⊢
  obtain ⟨k1, k2, k3⟩ := ofF_ok h
  have hd : decF (chunkF l) = ((decF (chunkF l)).1, 0) := by rw [← h3]
  have he := encF_dec hd
  have hn := decF_norm (decF_okV21 (chunkF l)) h3
  have hv : itV (ofF (decF (chunkF l)).1).1 = (decF (chunkF l)).1 := by
    have := (sameV_norm _ _).1 k2
    rw [itV_norm, hn] at this; exact this
  refine ⟨k1, by rw [hv, he], ?_⟩
  unfold recB
  rw [hv, he]
  have hcl : (chunkF l).length = sz4 l := by unfold chunkF; rw [List.length_take, List.length_drop]; omega
  have e1 : (putL (chunkF l).length 4).reverse = l.take 4 := by
    rw [hcl]
    have h5 : (l.take 4).reverse.length = 4 := by simp; omega
    have := putL_getL (l.take 4).reverse
    rw [h5] at this
    unfold sz4
    rw [this, List.reverse_reverse]
  show (putL (chunkF l).length 4).reverse ++ chunkF l ++ nxtR l = l
  rw [e1]
  unfold chunkF nxtR
  rw [List.append_assoc, List.take_append_drop, List.take_append_drop]
theorem lastP_snoc (l : List Itm) (y : Itm) : lastP (l ++ [y]) = y.path := by
  unfold lastP
  rw [List.length_append, List.length_singleton, Nat.add_sub_cancel, List.getElem?_append_right (Nat.le_refl _)]
  simp
theorem rises_put {out : List Itm} {x : Itm} : risesP ((out ++ [x]).map (·.path)) = (risesP (out.map (·.path)) && (decide (out.length = 0) || lessF (lastP out) x.path)) := by
  rcases List.eq_nil_or_concat out with rfl | ⟨i, y, rfl⟩
  · rfl
  · have hl : (i.concat y).length ≠ 0 := by simp
    rw [decide_eq_false hl, Bool.false_or, List.concat_eq_append, lastP_snoc, List.map_append, List.map_append, List.append_assoc]
    show risesP (i.map (·.path) ++ [y.path, x.path]) = _
    rw [risesP_snoc]
    simp
theorem rises_pre {a b : List (List UInt8)} (h : risesP (a ++ b) = true) : risesP a = true := by
  have := risesP_of (a ++ b) a.length h
  rwa [List.take_left' rfl] at this
/-- Items, written, are read as they were. -/
theorem items_there : ∀ (M out : List Itm), strE M = 0 → risesP ((out ++ M).map (·.path)) = true → (out ++ M).length ≤ 100 → (∀ x ∈ M, ItmOk x) → itsF ((strB M).length + 1) out (strB M) = (out ++ M, 0)
  | [], out, _, _, _, _ => by
    show (if ([] : List UInt8) = [] then _ else _) = _
    rw [if_pos rfl, List.append_nil]
  | x :: M, out, hE, hR, hl, hok => by
    unfold strE at hE
    by_cases hc : checkI x = 0
    case neg => rw [if_pos hc] at hE; exact absurd hE hc
    rw [if_neg (fun h => h hc)] at hE
    by_cases he : (encF (itV x)).2 = 0
    case neg => rw [if_pos he] at hE; exact absurd hE he
    rw [if_neg (fun h => h he)] at hE
    have hs : strB (x :: M) = recB x ++ strB M := by unfold strB; rfl
    obtain ⟨n1, n2⟩ := nxt_rec (hok x (List.mem_cons_self ..)) hc he (strB M)
    rw [hs]
    have hne : recB x ++ strB M ≠ [] := by
      intro h
      have h2 := recB_len x
      have h3 := congrArg List.length h
      rw [List.length_append] at h3
      simp at h3
      rw [h3.1] at h2
      simp at h2; omega
    have e : out ++ x :: M = (out ++ [x]) ++ M := by simp
    rw [e] at hR hl ⊢
    have hRx : risesP ((out ++ [x]).map (·.path)) = true := by rw [List.map_append] at hR; exact rises_pre hR
    rw [rises_put] at hRx
    have h3 : ¬ (0 < out.length ∧ lessF (lastP out) (nxt (recB x ++ strB M)).1.path = false) := by
      rw [n1]
      rintro ⟨h4, h5⟩
      rw [h5, decide_eq_false (by omega)] at hRx
      simp at hRx
    rw [its_next hne (by have : ((out ++ [x]) ++ M).length = out.length + 1 + M.length := by simp; omega
                         omega) (by rw [n1]) h3, n1, n2]
    exact items_there M (out ++ [x]) hE hR hl (fun y hy => hok y (List.mem_cons_of_mem _ hy))
/-- Bytes, read as items, are written as they were. -/
theorem items_again : ∀ (f : Nat) (out : List Itm) (r : List UInt8) (L : List Itm), r.length < f → out.length ≤ 100 → risesP (out.map (·.path)) = true → itsF f out r = (L, 0) → ∃ M, L = out ++ M ∧ strB M = r ∧ strE M = 0 ∧ risesP (L.map (·.path)) = true ∧ L.length ≤ 100
  | 0, out, r, L, h, _, _, _ => by omega
  | f + 1, out, r, L, h, hl, hR, hI => by
    have hI2 : (if r = [] then (out, (0 : Int)) else if out.length = 100 then ([], 16) else if (nxt r).2 ≠ 0 then ([], (nxt r).2) else if 0 < out.length ∧ lessF (lastP out) (nxt r).1.path = false then ([], 18) else itsF f (out ++ [(nxt r).1]) (nxtR r)) = (L, 0) := hI
    by_cases h0 : r = []
    · rw [if_pos h0] at hI2
      have : out = L := congrArg Prod.fst hI2
      subst this
      exact ⟨[], by simp, by rw [h0]; rfl, rfl, hR, hl⟩
    rw [if_neg h0] at hI2
    by_cases h1 : out.length = 100
    · rw [if_pos h1] at hI2; cases hI2
    rw [if_neg h1] at hI2
    by_cases h2 : (nxt r).2 = 0
    case neg => rw [if_pos h2] at hI2; exact absurd (congrArg Prod.snd hI2) h2
    rw [if_neg (fun h => h h2)] at hI2
    by_cases h3 : 0 < out.length ∧ lessF (lastP out) (nxt r).1.path = false
    · rw [if_pos h3] at hI2; cases hI2
    rw [if_neg h3] at hI2
    have hlen := nxtR_len h2
    have hR2 : risesP ((out ++ [(nxt r).1]).map (·.path)) = true := by
      rw [rises_put, hR, Bool.true_and]
      by_cases h4 : out.length = 0
      · rw [decide_eq_true h4]; rfl
      · rw [decide_eq_false h4, Bool.false_or]
        rcases Bool.eq_false_or_eq_true (lessF (lastP out) (nxt r).1.path) with h5 | h5
        · exact h5
        · exact absurd ⟨by omega, h5⟩ h3
    obtain ⟨M, k1, k2, k3, k4, k5⟩ := items_again f _ _ _ (by omega) (by simp; omega) hR2 hI2
    obtain ⟨c1, c2, c3⟩ := rec_nxt h2
    refine ⟨(nxt r).1 :: M, by rw [k1]; simp, ?_, ?_, k4, k5⟩
    · have hs : strB ((nxt r).1 :: M) = recB (nxt r).1 ++ strB M := by unfold strB; rfl
      rw [hs, k2, c3]
    · unfold strE
      rw [if_neg (fun h => h c1), if_neg (fun h => h c2)]; exact k3
theorem stream_there {L : List Itm} {b : List UInt8} (h : streamF L = (b, 0)) (hok : ∀ x ∈ L, ItmOk x) : itemsF b = (L, 0) := by
  unfold streamF at h
  by_cases h1 : 100 < L.length
  · rw [if_pos h1] at h; cases h
  rw [if_neg h1] at h
  by_cases h2 : strE L = 0
  case neg => rw [if_pos h2] at h; exact absurd (congrArg Prod.snd h) h2
  rw [if_neg (fun h => h h2)] at h
  by_cases h3 : risesP (L.map (·.path)) = true
  case neg => rw [if_neg h3] at h; cases h
  rw [if_pos h3] at h
  have : strB L = b := congrArg Prod.fst h
  subst this
  unfold itemsF
  exact items_there L [] h2 h3 (by simpa using h1) hok
theorem stream_again {L : List Itm} {b : List UInt8} (h : itemsF b = (L, 0)) : streamF L = (b, 0) := by
  unfold itemsF at h
  obtain ⟨M, k1, k2, k3, k4, k5⟩ := items_again _ _ _ _ (Nat.lt_succ_self _) (Nat.zero_le _) rfl h
  rw [List.nil_append] at k1
  subst k1
  unfold streamF
  rw [if_neg (by omega), if_neg (fun h => h k3), if_pos k4, k2]
theorem stream_bad {L : List Itm} (h : (streamF L).2 ≠ 0) : (streamF L).1 = [] := by
  unfold streamF at h ⊢
  split
  · rfl
  · split
    · rfl
    · split
      · rename_i h1 h2 h3; rw [if_neg h1, if_neg h2, if_pos h3] at h; exact absurd rfl h
      · rfl
theorem itsF_bad : ∀ (f : Nat) (out : List Itm) (r : List UInt8), (itsF f out r).2 ≠ 0 → (itsF f out r).1 = []
  | 0, out, r, h => absurd rfl h
  | f + 1, out, r, h => by
    have hh : itsF (f + 1) out r = (if r = [] then (out, (0 : Int)) else if out.length = 100 then ([], 16) else if (nxt r).2 ≠ 0 then ([], (nxt r).2) else if 0 < out.length ∧ lessF (lastP out) (nxt r).1.path = false then ([], 18) else itsF f (out ++ [(nxt r).1]) (nxtR r)) := rfl
    rw [hh] at h ⊢
    by_cases h0 : r = []
    · rw [if_pos h0] at h; exact absurd rfl h
    rw [if_neg h0] at h ⊢
    by_cases h1 : out.length = 100
    · rw [if_pos h1]
    rw [if_neg h1] at h ⊢
    by_cases h2 : (nxt r).2 ≠ 0
    · rw [if_pos h2]
    rw [if_neg h2] at h ⊢
    by_cases h3 : 0 < out.length ∧ lessF (lastP out) (nxt r).1.path = false
    · rw [if_pos h3]
    rw [if_neg h3] at h ⊢
    exact itsF_bad f _ _ h
end Go.Proofs.YtpchogicdnfggaaDoor
set_option maxRecDepth 20000
namespace Go.Proofs.YtpchogicdnfggaaDoor
open Go.RowKit Go.Hd Go.ChangeShapes Go.WideShapes Go.ChangeAt
theorem itsF_all : ∀ (f : Nat) (out : List Itm) (r : List UInt8), (∀ x ∈ out, x.path.length ≤ 65536 ∧ x.parts.length ≤ 64) → ∀ x ∈ (itsF f out r).1, x.path.length ≤ 65536 ∧ x.parts.length ≤ 64
  | 0, out, r, h => h
  | f + 1, out, r, h => by
    have hh : itsF (f + 1) out r = (if r = [] then (out, (0 : Int)) else if out.length = 100 then ([], 16) else if (nxt r).2 ≠ 0 then ([], (nxt r).2) else if 0 < out.length ∧ lessF (lastP out) (nxt r).1.path = false then ([], 18) else itsF f (out ++ [(nxt r).1]) (nxtR r)) := rfl
    rw [hh]
    split
    · exact h
    · split
      · intro x hx; cases hx
      · split
        · intro x hx; cases hx
        · split
          · intro x hx; cases hx
          · refine itsF_all f _ _ (fun x hx => ?_)
            rcases List.mem_append.1 hx with hx | hx
            · exact h x hx
            · simp at hx; subst hx; exact nxt_path r
theorem itemsF_all (l : List UInt8) : ∀ x ∈ (itemsF l).1, x.path.length ≤ 1000000 ∧ x.parts.length ≤ 1000 := fun x hx => by
  have := itsF_all _ _ _ (by intro x hx; cases hx) x hx
  omega
theorem itsF_len : ∀ (f : Nat) (out : List Itm) (r : List UInt8), out.length ≤ 100 → (itsF f out r).1.length ≤ 100
  | 0, out, r, h => h
  | f + 1, out, r, h => by
    have hh : itsF (f + 1) out r = (if r = [] then (out, (0 : Int)) else if out.length = 100 then ([], 16) else if (nxt r).2 ≠ 0 then ([], (nxt r).2) else if 0 < out.length ∧ lessF (lastP out) (nxt r).1.path = false then ([], 18) else itsF f (out ++ [(nxt r).1]) (nxtR r)) := rfl
    rw [hh]
    split
    · exact h
    · split
      · exact Nat.zero_le _
      · split
        · exact Nat.zero_le _
        · split
          · exact Nat.zero_le _
          · exact itsF_len f _ _ (by simp; omega)
theorem itemsF_len (l : List UInt8) : (itemsF l).1.length ≤ 100 := itsF_len _ _ _ (Nat.zero_le _)
set_option maxHeartbeats 4000000 in
theorem iagain_law {W : World} {a0 : Option Addr} {c0 : Nat} {l : List UInt8} (hl : Row W a0 (l.map b8)) (hc0 : l.length ≤ c0) (_hm0 : c0 ≤ maxLen) :
    Calls Tryd.prog 8 #[.slice a0 l.length c0] W fun e W' => e = .returned (.bool true) ∧ Below W.heap.size W W' := by
  obtain ⟨L, hL⟩ : ∃ L, L = l.take 1500 := ⟨_, rfl⟩
  have hLl : min l.length (1500 : Int).toNat = L.length := by rw [hL, List.length_take]; exact Nat.min_comm _ _
  have hcut := cut_any a0 l.length c0 1500 W (by decide) hc0
  rw [hLl] at hcut
  have hLr : Row W a0 (L.map b8) := by
    have := hl.take 1500
    rw [← List.map_take, ← hL] at this
    exact this
  have hLm : L.length ≤ 1500 := by rw [hL]; simp; omega
  have hit := fun (w : World) (h : Row w a0 (L.map b8)) => items_any (c := c0) rfl h (by omega)
  have hall := itemsF_all L
  have hlen := itemsF_len L
  have hbad : Hid ((itemsF L).2 ≠ 0 → (itemsF L).1 = []) := itsF_bad _ _ _
  have hag : Hid ((itemsF L).2 = 0 → streamF (itemsF L).1 = (L, 0)) := fun h => stream_again (by rw [← h])
  have hsb := fun (a : Option Addr) (c : Nat) (w : World) (h1 : Row w a0 (L.map b8)) (h2 : Row w a (L.map b8)) => same_any (c := c0) (d := c) rfl rfl h1 h2 (by unfold maxLen; omega)
  rw [show (L == L) = true by simp] at hsb
  have hlv := fun w' => lives21_any w'
  clear hL hLl hl hLm
  generalize (itemsF L).1 = M at *
  generalize (itemsF L).2 = E at *
  have hst := fun (a : Option Addr) (c : Nat) (w : World) (h : ItsAt w a M) => stream_any (c := c) rfl h hall (by omega)
  clear hall
  go_enter Tryd.func8, Tryd.ntmps8
  go_wp2_with fail
  refine hcut.mono ?_
  rintro e w0 ⟨rfl, rfl⟩
  clear hcut
  go_wp2_with fail
  refine (hit _ hLr).mono ?_
  rintro e w2 ⟨u2, rfl, hO, hb2⟩
  obtain ⟨a2, c2, rfl, _, _, hI⟩ := hO.at
  have hr0 := hLr.below hb2
  clear hO hit
  by_cases hE : E = 0
  case neg =>
    have t1 : (E != 0) = true := by simpa using hE
    have hM := hbad.out hE
    subst hM
    clear hbad hag hE hst hsb
    go_wp2_with fail
    refine (hlv _).mono ?_
    rintro e w5 ⟨rfl, hb5⟩
    go_wp2
    go_ret
    exact ⟨rfl, hb2.trans (hb5.mono hb2.size)⟩
  case pos =>
    subst hE
    have hs := hag.out rfl
    rw [hs] at hst
    simp only at hst
    clear hbad hag hs
    go_wp2_with fail
    refine (hst _ _ _ hI).mono ?_
    rintro e w3 ⟨u3, rfl, ⟨a3, c3, rfl, _, _, hr3⟩, hb3⟩
    have hr1 := hr0.below hb3
    have hbW3 := hb2.trans (hb3.mono hb2.size)
    clear hb3 hst hI
    have hsm := hsb _ c3 _ hr1 hr3
    clear hsb hr0 hr1 hr3
    go_wp2_with fail
    refine hsm.mono ?_
    rintro e w4 ⟨rfl, n4, rfl⟩
    have hbW4 := Below.drewN hbW3 n4
    clear hsm hbW3
    go_wp2_with fail
    refine (hlv _).mono ?_
    rintro e w5 ⟨rfl, hb5⟩
    go_wp2
    go_ret
    exact ⟨rfl, hbW4.trans (hb5.mono hbW4.size)⟩
theorem itemAgain_calls {H : Type} {enc : TypeId × Value → H} {W : World} {base : Nat} {v0 : Value} {d0 : DataW H} {p0 : List MemPlace}
    (o0 : Value.okWide Tryd.prog W .any base 26 v0) (h0 : DataW.Trod enc Tryd.prog W 0 (fun _ => true) true 26 v0 d0 p0) :
    Calls Tryd.prog 8 #[v0] W fun e W' => e = .returned (.bool true) ∧ Below W.heap.size W W' := by
  obtain ⟨a, n, c, l, rfl, rfl, h2, h3, hr⟩ := open_byt Tryd.underlying26 Tryd.underlying5 (by kernel_rfl) o0 h0
  exact iagain_law hr h2 h3
end Go.Proofs.YtpchogicdnfggaaDoor
set_option maxRecDepth 20000
namespace Go.Proofs.YtpchogicdnfggaaDoor
open Go.ChangeShapes Go.WideShapes Go.ChangeAt Go.RowKit Go.Hd
section
variable {H : Type} {enc : TypeId × Value → H} {W : World}
/-- The cells of an array of bytes. -/
theorem bytes_of_id {cs : List Value} {fuel : Nat} {y : DataW H × List MemPlace} (hl : cs.length = 32) (h : DataW.trod enc Tryd.prog W 0 (fun _ => true) true fuel 63 cs = some y) : ∃ key : List UInt8, key.length = 32 ∧ cs = key.map b8 := by
  obtain ⟨xs, m, _, _, _, hxl, hx⟩ := DataW.trod_array Tryd.underlying63 h
  rw [show Tryd.prog.cellsOf 5 = 1 by kernel_rfl] at hx
  have each : ∀ i, i < 32 → ∃ c : UInt8, cs[i]? = some (b8 c) := by
    intro i hi
    have h1 := hx i hi
    rw [Nat.mul_one, List.getElem?_eq_getElem (by omega)] at h1
    obtain ⟨z, hz, _, hw⟩ := DataW.trod_int Tryd.underlying5 h1
    have hb := u8_wf hw
    have h2 : cs[i]? = some (.int .u8 z) := by
      have h3 : (cs.drop i).take 1 = [cs[i]'(by omega)] := by rw [List.drop_eq_getElem_cons (by omega)]; rfl
      rw [h3] at hz
      rw [List.getElem?_eq_getElem (by omega)]
      simpa using hz
    exact ⟨UInt8.ofNat z.toNat, by rw [h2]; congr 2; simp; omega⟩
  have build : ∀ m, m ≤ 32 → ∃ key : List UInt8, key.length = m ∧ cs.take m = key.map b8 := by
    intro m
    induction m with
    | zero => intro _; exact ⟨[], rfl, by simp⟩
    | succ m ih =>
      intro hm
      obtain ⟨key, h1, h2⟩ := ih (by omega)
      obtain ⟨c, hc⟩ := each m (by omega)
      refine ⟨key ++ [c], by simp [h1], ?_⟩
      rw [List.take_add_one, h2, hc]
      simp
  obtain ⟨key, h1, h2⟩ := build 32 (by omega)
  rw [List.take_of_length_le (by omega)] at h2
  exact ⟨key, h1, h2⟩
theorem int_of {t : TypeId} (ht : Tryd.prog.underlying t = some (.int .i64)) {cs : List Value} {fuel : Nat} {y : DataW H × List MemPlace} (h : DataW.trod enc Tryd.prog W 0 (fun _ => true) true fuel t cs = some y) : ∃ z : Int, cs = [.int .i64 z] ∧ in64 z := by
  obtain ⟨z, hz, _, hw⟩ := DataW.trod_int ht h
  exact ⟨z, hz, i64_wf hw⟩
theorem str_of_cells {cs : List Value} {fuel : Nat} {y : DataW H × List MemPlace} (h : DataW.trod enc Tryd.prog W 0 (fun _ => true) true fuel 9 cs = some y) : ∃ l : List UInt8, cs = [strV l] ∧ l.length ≤ maxLen := by
  obtain ⟨s, e, _, hs⟩ := DataW.trod_string Tryd.underlying9 h
  exact ⟨s.data.toList, by unfold strV; rw [str_of]; exact e, by have : s.data.toList.length = s.size := Array.length_toList; omega⟩
theorem prt_of {cs : List Value} {fuel : Nat} {y : DataW H × List MemPlace} (hl : cs.length = 33) (h : DataW.trod enc Tryd.prog W 0 (fun _ => true) true fuel 65 cs = some y) : ∃ x : Prt, cs = prtC x ∧ PrtOk x := by
  obtain ⟨xs, n, _, _, _, hlen, hfl⟩ := DataW.trod_struct Tryd.underlying65 h
  have x6 : xs.length = 2 := by rw [hlen]; rfl
  match xs, x6 with
  | [y0, y1], _ =>
    have f0 : DataW.trod enc Tryd.prog W 0 (fun _ => true) true n 63 ((cs.drop 0).take (Tryd.prog.cellsOf 63)) = some y0 := hfl 0 _ rfl
    have f1 : DataW.trod enc Tryd.prog W 0 (fun _ => true) true n 3 ((cs.drop 32).take (Tryd.prog.cellsOf 3)) = some y1 := hfl 1 _ rfl
    have s1 : Tryd.prog.cellsOf 63 = 32 := by kernel_rfl
    rw [s1] at f0
    rw [cells_one 3 (by kernel_rfl)] at f1
    obtain ⟨id, hi, e0⟩ := bytes_of_id (by simp; omega) f0
    obtain ⟨sz, e1, h1⟩ := int_of Tryd.underlying3 f1
    refine ⟨⟨id, sz⟩, ?_, ⟨hi, h1⟩⟩
    have k : cs = (cs.drop 0).take 32 ++ (cs.drop 32).take 1 := by
      rw [List.drop_zero, List.take_of_length_le (l := cs.drop 32) (by simp; omega), List.take_append_drop]
    rw [k, e0, e1]
    rfl
theorem all_of {X : Type} {C : X → List Value} {K : X → Prop} {s : Nat} {t : TypeId} (hk : ∀ {x : List Value} {fuel : Nat} {y : DataW H × List MemPlace}, x.length = s → DataW.trod enc Tryd.prog W 0 (fun _ => true) true fuel t x = some y → ∃ r : X, x = C r ∧ K r)
    {xs : List (List Value)} (h : ∀ x ∈ xs, x.length = s ∧ ∃ fuel y, DataW.trod enc Tryd.prog W 0 (fun _ => true) true fuel t x = some y) :
    ∃ l : List X, l.length = xs.length ∧ xs = l.map C ∧ ∀ r ∈ l, K r := by
  induction xs with
  | nil => exact ⟨[], rfl, rfl, by simp⟩
  | cons x xs ih =>
    obtain ⟨l, h1, h2, h3⟩ := ih (fun y hy => h y (by simp [hy]))
    obtain ⟨hx, fuel, y, hy⟩ := h x (by simp)
    obtain ⟨r, e1, e2⟩ := hk hx hy
    exact ⟨r :: l, by simp [h1], by rw [e1, h2]; rfl, fun q hq => (List.mem_cons.1 hq).elim (fun h => h ▸ e2) (h3 q)⟩
theorem item_of {cs : List Value} {fuel : Nat} {y : DataW H × List MemPlace} (hl : cs.length = 7) (h : DataW.trod enc Tryd.prog W 0 (fun _ => true) true fuel 24 cs = some y) : ∃ x : Itm, ItAt W cs x := by
  obtain ⟨xs, n, _, _, _, hlen, hfl⟩ := DataW.trod_struct Tryd.underlying24 h
  have x6 : xs.length = 7 := by rw [hlen]; rfl
  match xs, x6 with
  | [y0, y1, y2, y3, y4, y5, y6], _ =>
    have f0 : DataW.trod enc Tryd.prog W 0 (fun _ => true) true n 9 ((cs.drop 0).take (Tryd.prog.cellsOf 9)) = some y0 := hfl 0 _ rfl
    have f1 : DataW.trod enc Tryd.prog W 0 (fun _ => true) true n 3 ((cs.drop 1).take (Tryd.prog.cellsOf 3)) = some y1 := hfl 1 _ rfl
    have f2 : DataW.trod enc Tryd.prog W 0 (fun _ => true) true n 3 ((cs.drop 2).take (Tryd.prog.cellsOf 3)) = some y2 := hfl 2 _ rfl
    have f3 : DataW.trod enc Tryd.prog W 0 (fun _ => true) true n 2 ((cs.drop 3).take (Tryd.prog.cellsOf 2)) = some y3 := hfl 3 _ rfl
    have f4 : DataW.trod enc Tryd.prog W 0 (fun _ => true) true n 9 ((cs.drop 4).take (Tryd.prog.cellsOf 9)) = some y4 := hfl 4 _ rfl
    have f5 : DataW.trod enc Tryd.prog W 0 (fun _ => true) true n 3 ((cs.drop 5).take (Tryd.prog.cellsOf 3)) = some y5 := hfl 5 _ rfl
    have f6 : DataW.trod enc Tryd.prog W 0 (fun _ => true) true n 22 ((cs.drop 6).take (Tryd.prog.cellsOf 22)) = some y6 := hfl 6 _ rfl
    rw [cells_one 9 (by kernel_rfl)] at f0 f4
    rw [cells_one 2 (by kernel_rfl)] at f3
    rw [cells_one 3 (by kernel_rfl)] at f1 f2 f5
    rw [cells_one 22 (by kernel_rfl)] at f6
    obtain ⟨pt, e0, h0⟩ := str_of_cells f0
    obtain ⟨k, e1, h1⟩ := int_of Tryd.underlying3 f1
    obtain ⟨md, e2, h2⟩ := int_of Tryd.underlying3 f2
    obtain ⟨tm, e3, h3⟩ := int_of Tryd.underlying2 f3
    obtain ⟨tg, e4, h4⟩ := str_of_cells f4
    obtain ⟨sz, e5, h5⟩ := int_of Tryd.underlying3 f5
    obtain ⟨a, m, c, css, e6, g1, g2, g3, g4, g5⟩ := open_rows_cells (s := 33) Tryd.underlying22 (by kernel_rfl) f6
    obtain ⟨l, k1, k2, k3⟩ := all_of (C := prtC) (K := PrtOk) (s := 33) (t := 65) prt_of (fun x hx => by
      obtain ⟨p1, p2, p3, _, p4⟩ := g5 x hx
      exact ⟨p1, p2, p3, p4⟩)
    refine ⟨⟨pt, k, md, tm, tg, sz, l⟩, a, c, ?_, ?_, g3, by rw [← k2]; exact g4, ⟨h1, h2, h3, h5, h0, h4, k3⟩⟩
    · have d0 := drop_one e0
      have d1 := drop_one e1
      have d2 := drop_one e2
      have d3 := drop_one e3
      have d4 := drop_one e4
      have d5 := drop_one e5
      have d6 := drop_one e6
      match cs, hl with
      | [u0, u1, u2, u3, u4, u5, u6], _ =>
        simp at d0 d1 d2 d3 d4 d5 d6
        rw [d0, d1, d2, d3, d4, d5, d6]
        unfold itC
        simp only
        rw [k1, g1]
    · show l.length ≤ c
      omega
theorem open_items {base : Nat} {v : Value} {d : DataW H} {p : List MemPlace} (o : Value.okWide Tryd.prog W .any base 39 v) (h : DataW.Trod enc Tryd.prog W 0 (fun _ => true) true 39 v d p) :
    ∃ (a : Option Addr) (n c : Nat) (l : List Itm), v = .slice a n c ∧ n = l.length ∧ n ≤ c ∧ c ≤ maxLen ∧ ItsAt W a l := by
  obtain ⟨a, n, c, xs, rfl, hn, hnc, hcm, hr, hx⟩ := open_rows (s := 7) Tryd.underlying39 (by kernel_rfl) o h
  have hk : ∃ l : List Itm, l.length = xs.length ∧ ∀ (i : Nat) (c : List Value) (x : Itm), xs[i]? = some c → l[i]? = some x → ItAt W c x := by
    clear hr hn
    induction xs with
    | nil => exact ⟨[], rfl, by simp⟩
    | cons y xs ih =>
      obtain ⟨l, g1, g2⟩ := ih (fun z hz => hx z (by simp [hz]))
      obtain ⟨hy, fuel, z, hz⟩ := hx y (by simp)
      obtain ⟨x, hxx⟩ := item_of hy hz
      refine ⟨x :: l, by simp [g1], fun i c w hc hw => ?_⟩
      cases i with
      | zero => simp at hc hw; subst hc hw; exact hxx
      | succ i => exact g2 i c w (by simpa using hc) (by simpa using hw)
  obtain ⟨l, h1, h2⟩ := hk
  exact ⟨a, n, c, l, rfl, by omega, hnc, hcm, xs, h1.symm, hr, fun c hc => (hx c hc).1, h2⟩
end
end Go.Proofs.YtpchogicdnfggaaDoor
set_option maxRecDepth 20000
namespace Go.Proofs.YtpchogicdnfggaaDoor
open Go.RowKit Go.Hd Go.ChangeShapes Go.WideShapes Go.ChangeAt
theorem cutI_small (x : Itm) : (cutI x).path.length ≤ 250 ∧ (cutI x).parts.length ≤ 70 := by unfold cutI; simp; omega
theorem ivalue_at {cs : List Value} {x : Itm} {w : World} (h : ItAt w cs x) (hl : x.parts.length ≤ 1000) (hp : x.path.length ≤ 1000000) : Calls Tryd.prog 10 #[.agg (List.toArray cs)] w fun e w' => ∃ cs, e = .returned (.agg (List.toArray cs)) ∧ VAtP (fun b => w.heap.size ≤ b) w' cs (itV x) ∧ Below w.heap.size w w' := by
  obtain ⟨a, c, rfl, _, _, hr, hok⟩ := h
  exact ivalue_any hr hok hl hp
attribute [local go_sem ↓] h_ldV h_stV h_alV h_ldIT h_stIT h_alIT
attribute [local go_sem] r_ldV r_stV r_alV r_ldIT r_stIT r_alIT
end Go.Proofs.YtpchogicdnfggaaDoor
