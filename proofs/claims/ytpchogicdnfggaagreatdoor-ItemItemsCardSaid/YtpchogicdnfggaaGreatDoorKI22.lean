/- Joined: what one statement of this layer stands on, part 22 of 26; nothing is assumed. -/
import Derived.Deep.CutBlock
import Derived.Deep.DeepCutAuto
import Derived.Test.YtpchogicdnfggaaGreatDoorKI5
import Derived.Test.YtpchogicdnfggaaGreatDoorKI6
import Derived.Test.YtpchogicdnfggaaGreatDoorKI9
import Derived.Test.YtpchogicdnfggaaGreatDoorKI11
import Derived.Test.YtpchogicdnfggaaGreatDoorKI14
import Derived.Test.YtpchogicdnfggaaGreatDoorKI18
import Derived.Test.YtpchogicdnfggaaGreatDoorKI21
set_option maxRecDepth 20000
namespace Go.Proofs.YtpchogicdnfggaaGreatDoor
open Go.RowKit Go.Hd
theorem equal21_any {a b : Option Addr} {n1 n2 c d : Nat} {l m : List UInt8} {w : World} (h1 : n1 = l.length) (h2 : n2 = m.length) (hl : Row w a (l.map b8)) (hm : Row w b (m.map b8)) :
    Calls Tryz.prog 30 #[.slice a n1 c, .slice b n2 d] w fun e w' => e = .returned (.bool (l == m)) ∧ w = w' := by
  subst h1 h2
  have k1 := run_convert_row (P := Tryz.prog) (w := w) (src := 22) (e := 5) (dst := 9) (c := c) eB.ht Tryz.underlying5 Tryz.underlying9 rfl hl
  have k2 := run_convert_row (P := Tryz.prog) (w := w) (src := 22) (e := 5) (dst := 9) (c := d) eB.ht Tryz.underlying5 Tryz.underlying9 rfl hm
  go_enter Tryz.func30, Tryz.ntmps30
  go_wp2
  go_ret
  exact ⟨ret_bool (str_beq l m), rfl⟩
/-- How long the next item is said to be. -/
def sz4 (l : List UInt8) : Nat := getL (l.take 4).reverse
/-- The next item's bytes. -/
def chunkF (l : List UInt8) : List UInt8 := (l.drop 4).take (sz4 l)
/-- What is left behind it. -/
def nxtR (l : List UInt8) : List UInt8 := (l.drop 4).drop (sz4 l)
/-- The next item. -/
def nxt (l : List UInt8) : Itm × Int := if l.length < 4 ∨ l.length - 4 < sz4 l then (itZ, 3) else if (decF (chunkF l)).2 ≠ 0 then (itZ, (decF (chunkF l)).2) else ofF (decF (chunkF l)).1
theorem nx_cases (l : List UInt8) : ∃ G1 R1 : List UInt8, ∃ E1 : Int, rdGot l 0 4 = G1 ∧ rdRest l 0 4 = R1 ∧ rdErr l 0 4 = E1 ∧ gV G1.reverse < 4294967296 ∧
    ((rdErr R1 E1 (gV G1.reverse : Nat) = 3 ∧ nxt l = (itZ, 3)) ∨ (rdErr R1 E1 (gV G1.reverse : Nat) = 0 ∧ rdGot R1 E1 (gV G1.reverse : Nat) = chunkF l ∧ rdRest R1 E1 (gV G1.reverse : Nat) = nxtR l ∧ nxt l = if (decF (chunkF l)).2 ≠ 0 then (itZ, (decF (chunkF l)).2) else ofF (decF (chunkF l)).1)) := by
  refine ⟨_, _, _, rfl, rfl, rfl, ?_⟩
  by_cases h4 : l.length < 4
  · have e1 : rdGot l 0 4 = [] := by unfold rdGot; rw [if_pos (by omega)]
    have e2 : rdRest l 0 4 = l := by unfold rdRest; rw [if_pos (by omega)]
    have e3 : rdErr l 0 4 = 3 := by unfold rdErr; rw [if_neg (by omega), if_neg (by omega), if_pos (by omega)]
    rw [e1, e2, e3]
    refine ⟨by decide, .inl ⟨by unfold rdErr; rw [if_pos (by decide)], by unfold nxt; rw [if_pos (.inl h4)]⟩⟩
  · have e1 : rdGot l 0 4 = l.take 4 := by unfold rdGot; rw [if_neg (by omega)]; rfl
    have e2 : rdRest l 0 4 = l.drop 4 := by unfold rdRest; rw [if_neg (by omega)]; rfl
    have e3 : rdErr l 0 4 = 0 := by unfold rdErr; rw [if_neg (by omega), if_neg (by omega), if_neg (by omega)]
    have hl4 : (l.take 4).reverse.length = 4 := by simp; omega
    have hg : gV (l.take 4).reverse = sz4 l := by unfold gV sz4; rw [if_pos (by rw [hl4]; omega)]
    have hlt := getL_lt (l.take 4).reverse
    rw [hl4] at hlt
    rw [e1, e2, e3, hg]
    refine ⟨by unfold sz4; omega, ?_⟩
    by_cases h5 : l.length - 4 < sz4 l
    · refine .inl ⟨?_, ?_⟩
      · unfold rdErr; rw [if_neg (by omega), if_neg (by omega), if_pos (by rw [List.length_drop]; omega)]
      · unfold nxt; rw [if_pos (.inr h5)]
    · refine .inr ⟨?_, ?_, ?_, ?_⟩
      · unfold rdErr; rw [if_neg (by omega), if_neg (by omega), if_neg (by rw [List.length_drop]; omega)]
      · unfold rdGot chunkF; rw [if_neg (by rw [List.length_drop]; omega)]; rfl
      · unfold rdRest nxtR; rw [if_neg (by rw [List.length_drop]; omega)]; rfl
      · unfold nxt; rw [if_neg (by omega)]
theorem ofF_bad {v : PV} (h : (ofF v).2 ≠ 0) : ofF v = (itZ, 4) := by
  unfold ofF at h ⊢
  split
  · rename_i hh; rw [if_pos hh] at h; exact absurd rfl h
  · rfl
/-- What next answers, and what it leaves. -/
def NextP (B : Nat) (w : World) (g : Nat) (l : List UInt8) (e : Ending) (w' : World) : Prop :=
  ∃ ds, e = .returned (.tuple #[.agg (List.toArray ds), .int .i64 (nxt l).2]) ∧ ItP (fun b => w.heap.size ≤ b) w' ds (nxt l).1 ∧ w.grownBy w' (some g) ∧ ((nxt l).2 = 0 → RdAt B w' g (nxtR l) 0)
attribute [local go_sem ↓] h_ldV h_stV h_alV h_ldIT h_stIT h_alIT h_bdIT
attribute [local go_sem] r_ldV r_stV r_alV r_ldIT r_stIT r_alIT
set_option maxHeartbeats 4000000 in
theorem next_any {B g : Nat} {w : World} {l : List UInt8} (h : RdAt B w g l 0) (hBw : B ≤ w.heap.size) (hl : l.length ≤ 100000000) : Calls Tryz.prog 13 #[.pointer (some ⟨g, 0, none⟩)] w (NextP B w g l) := by
  have zs := zIT_size
  have zv := zV_size
  have hgl := h.lt
  have hb00 := fun w' => bd_it00 (w := w')
  have zo : ∀ u ∈ zIT.toList, u.oneCell' = true := by intro u hu; simp [zIT] at hu; rcases hu with rfl | rfl | rfl | rfl | rfl | rfl | rfl <;> rfl
  have hb0 : Below w.heap.size w (w.alloc (.cells zIT 40)) := (Below.refl _ _).alloc (Nat.le_refl _) _
  have hR0 : Blk (w.alloc (.cells zIT 40)) w.heap.size 40 zIT.toList := Blk.new _ _ _
  have h0 := h.keep hb0
  obtain ⟨G1, R1, E1, q1, q2, q3, hnl, hcase⟩ := nx_cases l
  have hby := bytes_any (n := 4) h0 (by omega)
  rw [q1, q2, q3] at hby
  have hG1 : Hid (R1.length ≤ 100000000) := by
    show _ ≤ _
    rw [← q2]; unfold rdRest; split
    · exact hl
    · simp; omega
  have hput : ∀ w', Blk w' w.heap.size 40 zIT.toList → w.grownBy w' (some g) → ∀ cs2 : List Value, cs2.length = 7 → (∀ u ∈ cs2, u.oneCell' = true) → ∃ W2, (stoOp 40 (.pointer (some ⟨w.heap.size, 0, none⟩)) (.agg (List.toArray cs2))).run Tryz.prog w' = .ok () W2 ∧ Blk W2 w.heap.size 40 cs2 ∧ w.grownBy W2 (some g) ∧ w'.grownBy W2 (some w.heap.size) := fun w' hR' hb cs2 h7 h1 => by
    have hgr := setRow_gr w' w.heap.size (List.toArray cs2)
    refine ⟨w'.setRow w.heap.size (List.toArray cs2), st_rowI hR' (by rfl) _ (by simpa using h7) (all_oneCell_toArray h1), setRow_blk hR' cs2, ?_, hgr⟩
    exact ⟨hgr.os.trans hb.os, hgr.tape.trans hb.tape, hgr.output.trans hb.output, Nat.le_trans hb.size hgr.size, fun k hk hne => (hgr.block k (Nat.lt_of_lt_of_le hk hb.size) (by simp; omega)).trans (hb.block k hk hne)⟩
  have hputz := fun w' h1 h2 => hput w' h1 h2 zIT.toList rfl zo
  have ez : List.toArray zIT.toList = zIT := Array.toArray_toList
  rw [ez] at hputz
  have hFz : Hid (∀ (E : Int), E ≠ 0 → nxt l = (itZ, E) → ∀ W2, w.grownBy W2 (some g) → NextP B w g l (.returned (.tuple #[.agg (List.toArray zIT.toList), .int .i64 E])) W2) := fun E hE he W2 hg2 => ⟨zIT.toList, by rw [he], by rw [he]; exact itZ_at _ _, hg2, fun h0 => by rw [he] at h0; exact absurd h0 hE⟩
  have hCl : Hid ((chunkF l).length ≤ 100000000) := by show _ ≤ _; unfold chunkF; simp; omega
  clear hl q1 q2 q3 h
  go_enter Tryz.func13, Tryz.ntmps13
  go_wp2_with fail
  refine hby.mono ?_
  rintro e w1 ⟨v1, rfl, hO1, hrd1, hg1⟩
  obtain ⟨a1, c1, rfl, _, _, hr1, _⟩ := owns_rowN hO1 (by decide)
  go_wp2_with fail
  refine (getbig_all rfl hr1).mono ?_
  rintro e w1' ⟨rfl, rfl⟩
  have hR1 := hR0.grown hg1 (by omega)
  have hg01 : w.grownBy w1 (some g) := grownBy_trans ⟨hb0.os, hb0.tape, hb0.output, hb0.size, fun k hk _ => hb0.block k hk⟩ hg1
  clear hby hO1 hr1 hR0 h0 hb0
  generalize gV G1.reverse = n at *
  have hwr : IntKind.i64.wrap (n : Int) = (n : Int) := IntWalk.i64_in _ (by omega)
  have hby2 := bytes_any (n := (n : Int)) hrd1 (by have := hG1.out; omega)
  generalize hE2 : rdErr R1 E1 (n : Int) = E2 at *
  generalize rdGot R1 E1 (n : Int) = C at *
  generalize rdRest R1 E1 (n : Int) = R2 at *
  go_wp2_with fail
  refine hby2.mono ?_
  rintro e w2 ⟨v2, rfl, hO2, hrd2, hg2⟩
  obtain ⟨a2, c2, rfl, _, _, hr2, _⟩ := owns_rowN hO2 (by decide)
  have hR2 := hR1.grown hg2 (by omega)
  have hg02 := grownBy_trans hg01 hg2
  clear hby2 hO2 hR1 hg2 hrd1 hg1 hg01 hnl hE2 hwr
  go_wp2_with fail
  refine (err_any hrd2).mono ?_
  rintro e w2' ⟨rfl, rfl⟩
  rcases hcase with ⟨rfl, hN⟩ | ⟨rfl, rfl, rfl, hN⟩
  · obtain ⟨W2, y1, y2, y3, _⟩ := hputz _ hR2 hg02
    have hF := Lib.hid (hFz.out 3 (by decide) hN _ y3)
    clear hN hFz
    go_wp2
    exact bodyPost_ret (results_cell_tmp (fn := Tryz.f13) (p := 2) (t := 3) (by rfl) _ _ w.heap.size 40 _ (0, 0) _ (by rfl) y2 Tryz.underlying40 rfl (by exact sizeIT)) rfl hF.out
  · have hCl2 := hCl.out
    go_wp2_with fail
    refine (dec_any rfl hr2 (by unfold maxLen; omega)).mono ?_
    rintro e w3 ⟨dv, rfl, hV, hb3⟩
    have hV := hV.at
    have d6 : (List.toArray dv).size = 6 := by simpa using hV.len
    have do6 : OneC (List.toArray dv) := all_oneCell_toArray hV.one
    have hbA : Below w3.heap.size w3 (w3.alloc (.cells (List.toArray dv) 50)) := (Below.refl _ _).alloc (Nat.le_refl _) _
    have hVB : Blk (w3.alloc (.cells (List.toArray dv) 50)) w3.heap.size 50 dv := Blk.new _ _ _
    have hb24 := Gr.trans hb3 hbA
    have hV4 := hV.keep hbA
    have hsz24 := hb24.size
    clear hbA hb3 hV hCl
    go_upto_region 7 with (fail)
    generalize w3.alloc (.cells (List.toArray dv) 50) = w4 at *
    generalize w3.heap.size = qv at *
    have hR4 := hR2.below hb24
    have hw4 := hR4.lt
    have hg04 := gb_below hg02 (hb24.mono hg02.size)
    have hr4 := hr2.below hb24
    have hrd4 := hrd2.keep hb24
    clear hR2 hg02 hr2 hrd2 hb24
    by_cases hd : (decF (chunkF l)).2 = 0
    case neg =>
      have t1 : ((decF (chunkF l)).2 != 0) = true := by simpa using hd
      rw [if_pos hd] at hN
      obtain ⟨W2, y1, y2, y3, _⟩ := hputz _ hR4 hg04
      have hF := Lib.hid (hFz.out _ hd hN _ y3)
      clear hN hFz hd
      generalize (decF (chunkF l)).2 = DE at *
      go_wp2
      exact bodyPost_ret (results_cell_tmp (fn := Tryz.f13) (p := 2) (t := 3) (by rfl) _ _ w.heap.size 40 _ (0, 0) _ (by rfl) y2 Tryz.underlying40 rfl (by exact sizeIT)) rfl hF.out
    case pos =>
      rw [if_neg (by simpa using hd)] at hN
      have hdec : decF (chunkF l) = ((decF (chunkF l)).1, 0) := by rw [← hd]
      have hE := Lib.hid (encF_dec hdec)
      have hS := Lib.hid (decF_sm (chunkF l))
      rw [hd]
      clear hd hdec
      generalize (decF (chunkF l)).1 = u at *
      have lV := ldOp_all (P := Tryz.prog) (ty := 50) hVB Tryz.underlying50 rfl (by rw [show dv.length = 6 by simpa using d6]; exact sizeV)
      go_wp2_with fail
      refine (iof_any hV4 hS.out w4 (Below.refl _ _)).mono ?_
      rintro e w5 ⟨ds, rfl, hD, hb5⟩
      have s7 := hD.at.len
      have so := hD.at.one
      have e7 : (List.toArray ds).size = 7 := by simpa using s7
      have eo : OneC (List.toArray ds) := all_oneCell_toArray so
      have hbA : Below w5.heap.size w5 (w5.alloc (.cells (List.toArray ds) 40)) := (Below.refl _ _).alloc (Nat.le_refl _) _
      have hXB : Blk (w5.alloc (.cells (List.toArray ds) 40)) w5.heap.size 40 ds := Blk.new _ _ _
      have hb46 := Gr.trans hb5 hbA
      have hD6 := hD.below hbA
      clear hbA hb5 hD lV
      go_upto_region 10 with (fail)
      generalize w5.alloc (.cells (List.toArray ds) 40) = w6 at *
      generalize w5.heap.size = qx at *
      have hR6 := hR4.below hb46
      have hg06 := gb_below hg04 (hb46.mono hg04.size)
      have hr6 := hr4.below hb46
      have hrd6 := hrd4.keep hb46
      have hV6 := hV4.keep hb46
      have hVB6 := hVB.below hb46
      clear hR4 hr4 hrd4 hb46 hV4 hVB
      by_cases ho : (ofF u).2 = 0
      case neg =>
        have t1 : ((ofF u).2 != 0) = true := by simpa using ho
        have hN2 : nxt l = (itZ, (ofF u).2) := by rw [hN]; have := ofF_bad ho; rw [this]
        obtain ⟨W2, y1, y2, y3, _⟩ := hputz _ hR6 hg06
        have hF := Lib.hid (hFz.out _ ho hN2 _ y3)
        clear hN hN2 hFz ho
        generalize (ofF u).2 = OE at *
        go_wp2
        exact bodyPost_ret (results_cell_tmp (fn := Tryz.f13) (p := 2) (t := 3) (by rfl) _ _ w.heap.size 40 _ (0, 0) _ (by rfl) y2 Tryz.underlying40 rfl (by exact sizeIT)) rfl hF.out
      case pos =>
        have HN := Lib.hid hN
        have HO := Lib.hid ho
        rw [ho]
        clear hN ho hFz hputz
        have lV := ldOp_all (P := Tryz.prog) (ty := 50) hVB6 Tryz.underlying50 rfl (by rw [show dv.length = 6 by simpa using d6]; exact sizeV)
        go_wp2_with fail
        refine (enc_own hV6 (Below.refl _ _)).mono ?_
        rintro e w7 ⟨ub, rfl, hBR, hb7⟩
        rw [hE.out] at hBR ⊢
        obtain ⟨a7, c7, rfl, _, _, hr7, _⟩ := hBR
        have hr6' := hr6.below hb7
        have hX7 := hXB.below hb7
        have lX := ldOp_all (P := Tryz.prog) (ty := 40) hX7 Tryz.underlying40 rfl (by rw [s7]; exact sizeIT)
        obtain ⟨W2, y1, y2, y3, y4⟩ := hput w7 (hR6.below hb7) (gb_below hg06 (hb7.mono hg06.size)) ds s7 so
        have hF : Hid (NextP B w g l (.returned (.tuple #[.agg (List.toArray ds), .int .i64 0])) W2) := by
          show NextP _ _ _ _ _ _
          refine ⟨ds, by rw [HN.out, HO.out], ?_, y3, fun _ => ?_⟩
          · rw [HN.out]
            exact ((hD6.below hb7).kept y4 (fun b hb e => by simp at e; omega)).mono (fun b hb _ => by omega)
          · exact (hrd6.keep hb7).keptOwn y4 (fun k hk => by cases hk; exact ⟨hBw, by omega⟩)
        have heq := equal21_any (c := c2) (d := c7) rfl rfl hr6' hr7
        have tE : (chunkF l == chunkF l) = true := by simp
        rw [tE] at heq
        clear hput HN HO hE hS hD6 hrd6 hr6 hr6' hr7 hb7 hXB hX7 hVB6 hV6 y3 y4 hR6 hg06 hg04 lV tE
        go_wp2_with fail
        refine heq.mono ?_
        rintro e w8 ⟨rfl, rfl⟩
        go_wp2
        exact bodyPost_ret (results_cell_tmp (fn := Tryz.f13) (p := 2) (t := 3) (by rfl) _ _ w.heap.size 40 _ (0, 0) _ (by rfl) y2 Tryz.underlying40 rfl (by rw [e7]; exact sizeIT)) rfl hF.out
end Go.Proofs.YtpchogicdnfggaaGreatDoor
set_option maxRecDepth 20000
namespace Go.Proofs.YtpchogicdnfggaaGreatDoor
open Go.RowKit Go.Hd
/-- The last one's path. -/
def lastP (l : List Itm) : List UInt8 := (l[l.length - 1]?.getD itZ).path
/-- The items that bytes are, some having been read. -/
def itsF : Nat → List Itm → List UInt8 → List Itm × Int
  | 0, out, _ => (out, 0)
  | f + 1, out, l => if l = [] then (out, 0) else if out.length = 100 then ([], 16) else if (nxt l).2 ≠ 0 then ([], (nxt l).2) else if 0 < out.length ∧ lessF (lastP out) (nxt l).1.path = false then ([], 18) else itsF f (out ++ [(nxt l).1]) (nxtR l)
def itemsF (l : List UInt8) : List Itm × Int := itsF (l.length + 1) [] l
theorem nxt_ok {l : List UInt8} (h : (nxt l).2 = 0) : 4 ≤ l.length ∧ sz4 l ≤ l.length - 4 ∧ (decF (chunkF l)).2 = 0 ∧ nxt l = ofF (decF (chunkF l)).1 := by
  unfold nxt at h ⊢
  by_cases h1 : l.length < 4 ∨ l.length - 4 < sz4 l
  · rw [if_pos h1] at h; cases h
  · rw [if_neg h1] at h ⊢
    by_cases h2 : (decF (chunkF l)).2 ≠ 0
    · rw [if_pos h2] at h; exact absurd h h2
    · rw [if_neg h2] at h ⊢
      exact ⟨by omega, by omega, by omega, rfl⟩
theorem nxtR_len {l : List UInt8} (h : (nxt l).2 = 0) : (nxtR l).length + 4 ≤ l.length := by
  have := nxt_ok h
  unfold nxtR
  rw [List.length_drop, List.length_drop]; omega
theorem ofF_path {v : PV} (h : Sm v) : (ofF v).1.path.length ≤ 65536 := by
  unfold ofF
  split
  · exact (fldV_sm h [112]).text
  · exact Nat.zero_le _
theorem nxt_path (l : List UInt8) : (nxt l).1.path.length ≤ 65536 ∧ (nxt l).1.parts.length ≤ 64 := by
  unfold nxt
  split
  · exact ⟨Nat.zero_le _, Nat.zero_le _⟩
  · split
    · exact ⟨Nat.zero_le _, Nat.zero_le _⟩
    · refine ⟨ofF_path (decF_sm _), ?_⟩
      unfold ofF
      split
      · rename_i h; exact check_parts h.2.1
      · exact Nat.zero_le _
theorem itsF_step {f : Nat} {out : List Itm} {l : List UInt8} (h0 : l ≠ []) (h1 : out.length ≠ 100) (h2 : (nxt l).2 = 0) (h3 : ¬ (0 < out.length ∧ lessF (lastP out) (nxt l).1.path = false)) (hf : l.length ≤ f) : itsF (f + 1) out l = itsF ((nxtR l).length + 1 + (f - 1 - (nxtR l).length)) (out ++ [(nxt l).1]) (nxtR l) := by
  have hl := nxtR_len h2
  have e : (nxtR l).length + 1 + (f - 1 - (nxtR l).length) = f := by omega
  rw [e]
  show (if l = [] then _ else _) = _
  rw [if_neg h0, if_neg h1, if_neg (by simpa using h2), if_neg h3]
theorem itsF_more : ∀ (f k : Nat) (out : List Itm) (l : List UInt8), l.length < f → itsF (f + k) out l = itsF f out l
  | 0, k, out, l, h => by omega
  | f + 1, k, out, l, h => by
    rw [Nat.add_right_comm]
    show (if l = [] then _ else _) = (if l = [] then _ else _)
    by_cases h0 : l = []
    · rw [if_pos h0, if_pos h0]
    rw [if_neg h0, if_neg h0]
    by_cases h1 : out.length = 100
    · rw [if_pos h1, if_pos h1]
    rw [if_neg h1, if_neg h1]
    by_cases h2 : (nxt l).2 = 0
    · have hn : ¬ ((nxt l).2 ≠ 0) := fun h => h h2
      rw [if_neg hn, if_neg hn]
      split
      · rfl
      · have := nxtR_len h2
        exact itsF_more f k _ _ (by omega)
    · rw [if_pos h2, if_pos h2]
/-- One more read. -/
theorem its_next {out : List Itm} {l : List UInt8} (h0 : l ≠ []) (h1 : out.length ≠ 100) (h2 : (nxt l).2 = 0) (h3 : ¬ (0 < out.length ∧ lessF (lastP out) (nxt l).1.path = false)) : itsF (l.length + 1) out l = itsF ((nxtR l).length + 1) (out ++ [(nxt l).1]) (nxtR l) := by
  rw [itsF_step h0 h1 h2 h3 (Nat.le_refl _)]
  exact itsF_more _ _ _ _ (Nat.lt_succ_self _)
theorem ItsO.kept {base g : Nat} {w w' : World} {v : Value} {l : List Itm} (h : ItsO base w v l) (hg : w.grownBy w' (some g)) (hb : g < base) : ItsO base w' v l := by
  have hlo := h.lo
  obtain ⟨css, h1, h2, h3, h4⟩ := h
  exact ⟨css, h1, h2.kept hg (.inr (fun e => by have := (hlo _ e).1; omega)), h3, fun i c x hc hx => (h4 i c x hc hx).kept hg (fun b hb2 e => by cases e; omega)⟩
theorem ItsO.mono {base base' : Nat} {w : World} {v : Value} {l : List Itm} (h : ItsO base w v l) (hb : base' ≤ base) : ItsO base' w v l := by
  obtain ⟨css, h1, h2, h3, h4⟩ := h
  exact ⟨css, h1, ownsRow_mono h2 hb, h3, fun i c x hc hx => (h4 i c x hc hx).mono (fun b hk _ => ⟨Nat.le_trans hb hk.1, hk.2⟩)⟩
theorem ItP.cell0 {ok : Nat → Prop} {w : World} {cs : List Value} {x : Itm} (h : ItP ok w cs x) : cs[0]? = some (.string (str x.path)) := by
  obtain ⟨a, c, rfl, _⟩ := h; rfl
attribute [local go_sem ↓] h_ldIT h_stIT h_alIT h_bsIT
attribute [local go_sem] r_ldIT r_stIT r_alIT r_bsIT
set_option maxHeartbeats 4000000 in
theorem items_any {a : Option Addr} {n c : Nat} {l : List UInt8} {w : World} (hn : n = l.length) (hr : Row w a (l.map b8)) (hl : l.length ≤ 100000000) :
    Calls Tryz.prog 6 #[.slice a n c] w fun e w' => ∃ u, e = .returned (.tuple #[u, .int .i64 (itemsF l).2]) ∧ ItsO w.heap.size w' u (itemsF l).1 ∧ Below w.heap.size w w' := by
  subst hn
  have zt := zIT_size
  have hop := open_any (c := c) rfl hr (by omega)
  have hF : Hid (itemsF l = itsF (l.length + 1) [] l) := rfl
  generalize itemsF l = F at *
  clear hr
  go_enter Tryz.func6, Tryz.ntmps6
  go_wp2_with fail
  refine hop.mono ?_
  rintro e w1 ⟨g, rfl, hg0, hrd, hb1⟩
  have hgl := hrd.lt
  have HB := Lib.hid hb1
  have HG := Lib.hid (And.intro hg0 hgl)
  have hrd0 := Lib.hid hrd
  have HL0 : Hid (l.length ≤ 100000000) := hl
  clear hop hb1 hrd hg0 hgl hl
  go_wp2
  go_loopw [4] (fun u wr => ∃ (out : List Itm) (r : List UInt8), Hid (itsF (r.length + 1) out r = F) ∧ out.length ≤ 100 ∧ Hid (r.length ≤ 100000000) ∧ Hid (RdAt w1.heap.size wr g r 0) ∧ Hid (ItsO w1.heap.size wr u out) ∧ Hid (w1.grownBy wr (some g)) ∧ Hid (∀ x ∈ out, x.path.length ≤ 65536)) (fun u wr => 101 - (match u with | .slice _ n _ => n | _ => 0))
  case atStart => exact ⟨[], l, Lib.hid hF.out.symm, Nat.zero_le _, HL0, hrd0, Lib.hid (ItsO.nil _ _), Lib.hid ⟨rfl, rfl, rfl, Nat.le_refl _, fun _ _ _ => rfl⟩, Lib.hid (by intro x hx; cases hx)⟩
  case round =>
    obtain ⟨out, r, hI, hout, hrl, hrd, hO, hgr, hp⟩ := hrel
    obtain ⟨ao, co, rfl, hco1, hco2, hat⟩ := hO.out.at
    go_wp2_with fail
    refine (left_any hrd.out).mono ?_
    rintro e wl ⟨rfl, rfl⟩
    have hbF : Hid (Below w.heap.size w wr) := Below.grown HB.out hgr.out HB.out.size (fun k hk => by cases hk; exact Nat.le_trans (Nat.le_refl _) HG.out.1)
    by_cases h0 : r = []
    case pos =>
      subst h0
      have hF2 : Hid (F = (out, 0)) := by show _ = _; rw [← hI.out]; rfl
      have hO2 := Lib.hid (hO.out.mono (base' := w.heap.size) HB.out.size)
      clear hI hrd hO hgr hp
      go_wp2
      go_ret2
      exact ⟨_, by rw [hF2.out] <;> rfl, by rw [hF2.out]; exact hO2.out, hbF.out⟩
    case neg =>
    have h1 : 0 < r.length := List.length_pos_iff.2 h0
    have t0 : (0 : Int) < (r.length : Int) := by omega
    by_cases h100 : out.length = 100
    case pos =>
      have t1 : ((out.length : Int) == 100) = true := by rw [h100]; rfl
      have hF2 : Hid (F = ([], 16)) := by
        show _ = _
        rw [← hI.out]
        show (if r = [] then _ else _) = _
        rw [if_neg h0, if_pos h100]
      clear hI hrd hO hgr hp h100
      go_wp2
      go_ret2
      exact ⟨.slice none 0 0, by rw [hF2.out] <;> rfl, by rw [hF2.out]; exact ItsO.nil _ _, hbF.out⟩
    case neg =>
    have t1 : ((out.length : Int) == 100) = false := by rw [beq_eq_false_iff_ne]; omega
    have hnx := next_any hrd.out hgr.out.size hrl.out
    have hlo := hO.out.lo
    go_wp2_with fail
    refine hnx.mono ?_
    rintro e w2 ⟨ds, rfl, hD, hg2, hR2⟩
    have s7 := hD.at.len
    have so := hD.at.one
    have e7 : (List.toArray ds).size = 7 := by simpa using s7
    have eo : OneC (List.toArray ds) := all_oneCell_toArray so
    have hbA : Below w2.heap.size w2 (w2.alloc (.cells (List.toArray ds) 40)) := (Below.refl _ _).alloc (Nat.le_refl _) _
    have hXB := Lib.hid (Blk.new w2 40 (List.toArray ds))
    have hg3 : Hid (w1.grownBy (w2.alloc (.cells (List.toArray ds) 40)) (some g)) := gb_below (grownBy_trans hgr.out hg2) (hbA.mono (Nat.le_trans hgr.out.size hg2.size))
    have hO3 : Hid (ItsO w1.heap.size (w2.alloc (.cells (List.toArray ds) 40)) (.slice ao out.length co) out) := (hO.out.kept hg2 (by have := HG.out; omega)).below hbA
    have hD3 := Lib.hid (hD.below hbA)
    have hok : Hid (∀ b, wr.heap.size ≤ b → w1.heap.size ≤ b ∧ (Value.slice ao out.length co).ownBlock ≠ some b) := fun b hb => ⟨Nat.le_trans hgr.out.size hb, fun e => by have := (hlo b e).2; omega⟩
    have hs3 : Hid (w1.heap.size ≤ (w2.alloc (.cells (List.toArray ds) 40)).heap.size) := hg3.out.size
    go_upto_region 7 with (fail)
    by_cases hE0 : (nxt r).2 = 0
    case neg =>
      have t2 : ((nxt r).2 != 0) = true := by simpa using hE0
      have hF2 : Hid (F = ([], (nxt r).2)) := by
        show _ = _
        rw [← hI.out]
        show (if r = [] then _ else _) = _
        rw [if_neg h0, if_neg h100, if_pos hE0]
      have hbF3 : Hid (Below w.heap.size w (w2.alloc (.cells (List.toArray ds) 40))) := Below.grown HB.out hg3.out HB.out.size (fun k hk => by cases hk; exact HG.out.1)
      clear hI hrd hO hgr hp hR2 hD hg2 hXB hg3 hO3 hD3 hok hs3 hE0 hnx hbA
      generalize w2.alloc (.cells (List.toArray ds) 40) = w3 at *
      generalize (nxt r).2 = NE at *
      go_wp2
      go_ret2
      exact ⟨.slice none 0 0, by rw [hF2.out] <;> rfl, by rw [hF2.out]; exact ItsO.nil _ _, hbF3.out⟩
    case pos =>
      have hrd3 := Lib.hid ((hR2 hE0).keep hbA)
      have hE := Lib.hid hE0
      have d0 := hD.cell0
      rw [hE0]
      clear hE0 hrd hO hgr hR2 hD hg2 hbA hnx hlo
      generalize w2.alloc (.cells (List.toArray ds) 40) = w3 at *
      generalize w2.heap.size = qx at *
      have x0 : w3.cell? ⟨qx, 0, none⟩ = some (.string (str (nxt r).1.path)) := hXB.out.cell (by simpa using d0)
      by_cases hpos : 0 < out.length
      case neg =>
        have t3 : decide (0 < out.length) = false := decide_eq_false hpos
        have hI2 : Hid (itsF ((nxtR r).length + 1) (out ++ [(nxt r).1]) (nxtR r) = F) := by
          show _ = _
          rw [← its_next h0 h100 hE.out (fun h => hpos h.1)]; exact hI.out
        clear hI hpos
        go_wp2
        go_quiet (fail)
        have hO4 := (hO3.out.below (Below.drewN (Below.refl _ _) nq))
        have hX4 := hD3.out.below (Below.drewN (Below.refl _ _) nq)
        obtain ⟨a', c', w5, happ, hO5, hG5⟩ := hO4.app (hX4.mono (fun b hk _ => by have := hok.out b hk; exact this)) (by omega) (by have := hs3.out; simpa using this)
        have lX := ldOp_all (P := Tryz.prog) (ty := 40) (hXB.out.drewN nq) Tryz.underlying40 rfl (by rw [s7]; exact sizeIT)
        have hrd5 : Hid (RdAt w1.heap.size w5 g (nxtR r) 0) := by
          show RdAt _ _ _ _ _
          exact (hrd3.out.keep (Below.drewN (Below.refl _ _) nq)).keptOwn hG5.gr (fun k hk => by have := hO4.lo k hk; have := HG.out; omega)
        have hg5 : Hid (w1.grownBy w5 (some g)) := gb_below (gb_below hg3.out (Below.drewN (Below.refl _ _) nq)) (hG5.below (fun k hk => (hO4.lo k hk).1) (Nat.le_refl _) (by have := hs3.out; simpa using this))
        have hO6 : Hid (ItsO w1.heap.size w5 (.slice a' (out.length + 1) c') (out ++ [(nxt r).1])) := hO5
        have hp5 : Hid (∀ x ∈ out ++ [(nxt r).1], x.path.length ≤ 65536) := by
          intro x hx
          rcases List.mem_append.1 hx with hx | hx
          · exact hp.out x hx
          · simp at hx; subst hx; exact (nxt_path r).1
        have hrl5 : Hid ((nxtR r).length ≤ 100000000) := by
          show _ ≤ _
          have h1 := nxtR_len hE.out; have h2 := hrl.out; omega
        clear hO4 hX4 hO5 hG5 hO3 hD3 hrd3 hg3 hp hrl hXB hok hs3 hE
        go_wp2_with (at_builtin; refine wpList_append_run happ rfl rfl rfl rfl ?_)
        first
          | exact ⟨⟨out ++ [(nxt r).1], nxtR r, hI2, by simp; omega, hrl5, hrd5, hO6, hg5, hp5⟩, by simp [intOf] <;> omega⟩
          | (refine ⟨?_, by simp [intOf] <;> omega⟩; (repeat apply Exists.intro); exact ⟨⟨out ++ [(nxt r).1], nxtR r, hI2, by simp; omega, hrl5, hrd5, hO6, hg5, hp5⟩, rfl⟩)
      case pos =>
        obtain ⟨k, hk⟩ : ∃ k, k = out.length - 1 := ⟨_, rfl⟩
        have hkl : k < out.length := by omega
        have t3 : decide (0 < out.length) = true := decide_eq_true hpos
        have im : IntKind.i64.wrap ((out.length : Int) - 1) = (k : Int) := by rw [IntWalk.i64_in _ (by omega)]; omega
        have k0 : (0 : Int) ≤ (k : Int) := by omega
        have k1 : (k : Int) < (out.length : Int) := by omega
        obtain ⟨a9, c9, e9, _, _, hat3⟩ := hO3.out.at
        simp only [Value.slice.injEq] at e9
        obtain ⟨rfl, _, rfl⟩ := e9
        obtain ⟨q1, s1⟩ := hat3.path hkl
        have hLP : Hid (lastP out = out[k].path) := by
          show _ = _
          unfold lastP
          rw [← hk, List.getElem?_eq_getElem hkl]; rfl
        have hle := fun w' => less_any out[k].path (nxt r).1.path w' (by have := hp.out _ (List.getElem_mem hkl); omega) (by have := (nxt_path r).1; omega)
        generalize out[k].path = zp at *
        clear hat3
        generalize hLF : lessF zp (nxt r).1.path = LF at *
        cases LF with
        | false =>
          have hF2 : Hid (F = ([], 18)) := by
            show _ = _
            rw [← hI.out]
            show (if r = [] then _ else _) = _
            rw [if_neg h0, if_neg h100, if_neg (fun h => h hE.out), if_pos ⟨hpos, by rw [hLP.out]; exact hLF⟩]
          have hbF3 : Hid (∀ n, Below w.heap.size w (w3.drewN n)) := fun n => Below.drewN (Below.grown HB.out hg3.out HB.out.size (fun k hk => by cases hk; exact HG.out.1)) n
          clear hI hLF hLP hp hXB hg3 hO3 hD3 hok hs3 hpos hk
          go_wp2
          go_quiet ((go_at_call 14; exact Calls.quiet_of (hle _)))
          go_wp2
          go_ret2
          exact ⟨.slice none 0 0, by rw [hF2.out] <;> rfl, by rw [hF2.out]; exact ItsO.nil _ _, hbF3.out nq⟩
        | true =>
          have hI2 : Hid (itsF ((nxtR r).length + 1) (out ++ [(nxt r).1]) (nxtR r) = F) := by
            show _ = _
            rw [← its_next h0 h100 hE.out (fun h => by rw [hLP.out, hLF] at h; cases h.2)]; exact hI.out
          clear hI hLF hLP hpos hk
          go_wp2
          go_quiet ((go_at_call 14; exact Calls.quiet_of (hle _)))
          have hO4 := (hO3.out.below (Below.drewN (Below.refl _ _) nq))
          have hX4 := hD3.out.below (Below.drewN (Below.refl _ _) nq)
          obtain ⟨a', c', w5, happ, hO5, hG5⟩ := hO4.app (hX4.mono (fun b hk _ => by have := hok.out b hk; exact this)) (by omega) (by have := hs3.out; simpa using this)
          have lX := ldOp_all (P := Tryz.prog) (ty := 40) (hXB.out.drewN nq) Tryz.underlying40 rfl (by rw [s7]; exact sizeIT)
          have hrd5 : Hid (RdAt w1.heap.size w5 g (nxtR r) 0) := by
            show RdAt _ _ _ _ _
            exact (hrd3.out.keep (Below.drewN (Below.refl _ _) nq)).keptOwn hG5.gr (fun k hk => by have := hO4.lo k hk; have := HG.out; omega)
          have hg5 : Hid (w1.grownBy w5 (some g)) := gb_below (gb_below hg3.out (Below.drewN (Below.refl _ _) nq)) (hG5.below (fun k hk => (hO4.lo k hk).1) (Nat.le_refl _) (by have := hs3.out; simpa using this))
          have hO6 : Hid (ItsO w1.heap.size w5 (.slice a' (out.length + 1) c') (out ++ [(nxt r).1])) := hO5
          have hp5 : Hid (∀ x ∈ out ++ [(nxt r).1], x.path.length ≤ 65536) := by
            intro x hx
            rcases List.mem_append.1 hx with hx | hx
            · exact hp.out x hx
            · simp at hx; subst hx; exact (nxt_path r).1
          have hrl5 : Hid ((nxtR r).length ≤ 100000000) := by
            show _ ≤ _
            have h1 := nxtR_len hE.out; have h2 := hrl.out; omega
          clear hO4 hX4 hO5 hG5 hO3 hD3 hrd3 hg3 hp hrl hXB hok hs3 hE
          go_wp2_with (at_builtin; refine wpList_append_run happ rfl rfl rfl rfl ?_)
          first
            | exact ⟨⟨out ++ [(nxt r).1], nxtR r, hI2, by simp; omega, hrl5, hrd5, hO6, hg5, hp5⟩, by simp [intOf] <;> omega⟩
            | (refine ⟨?_, by simp [intOf] <;> omega⟩; (repeat apply Exists.intro); exact ⟨⟨out ++ [(nxt r).1], nxtR r, hI2, by simp; omega, hrl5, hrd5, hO6, hg5, hp5⟩, rfl⟩)
end Go.Proofs.YtpchogicdnfggaaGreatDoor
set_option maxRecDepth 20000
namespace Go.Proofs.YtpchogicdnfggaaGreatDoor
open Go.RowKit Go.Hd Go.ChangeShapes Go.WideShapes Go.ChangeAt
theorem itsF_all : ∀ (f : Nat) (out : List Itm) (r : List UInt8), (∀ x ∈ out, x.path.length ≤ 65536 ∧ x.parts.length ≤ 64) → ∀ x ∈ (itsF f out r).1, x.path.length ≤ 65536 ∧ x.parts.length ≤ 64
  | 0, out, r, h => h
  | f + 1, out, r, h => by
    have hh : itsF (f + 1) out r = (if r = [] then (out, (0 : Int)) else if out.length = 100 then ([], 16) else if (nxt r).2 ≠ 0 then ([], (nxt r).2) else if 0 < out.length ∧ lessF (lastP out) (nxt r).1.path = false then ([], 18) else itsF f (out ++ [(nxt r).1]) (nxtR r)) := rfl
    rw [hh]
    split
    · exact h
    · split
      · intro x hx; cases hx
      · split
        · intro x hx; cases hx
        · split
          · intro x hx; cases hx
          · refine itsF_all f _ _ (fun x hx => ?_)
            rcases List.mem_append.1 hx with hx | hx
            · exact h x hx
            · simp at hx; subst hx; exact nxt_path r
theorem itemsF_all (l : List UInt8) : ∀ x ∈ (itemsF l).1, x.path.length ≤ 1000000 ∧ x.parts.length ≤ 1000 := fun x hx => by
  have := itsF_all _ _ _ (by intro x hx; cases hx) x hx
  omega
theorem itsF_len : ∀ (f : Nat) (out : List Itm) (r : List UInt8), out.length ≤ 100 → (itsF f out r).1.length ≤ 100
  | 0, out, r, h => h
  | f + 1, out, r, h => by
    have hh : itsF (f + 1) out r = (if r = [] then (out, (0 : Int)) else if out.length = 100 then ([], 16) else if (nxt r).2 ≠ 0 then ([], (nxt r).2) else if 0 < out.length ∧ lessF (lastP out) (nxt r).1.path = false then ([], 18) else itsF f (out ++ [(nxt r).1]) (nxtR r)) := rfl
    rw [hh]
    split
    · exact h
    · split
      · exact Nat.zero_le _
      · split
        · exact Nat.zero_le _
        · split
          · exact Nat.zero_le _
          · exact itsF_len f _ _ (by simp; omega)
theorem itemsF_len (l : List UInt8) : (itemsF l).1.length ≤ 100 := itsF_len _ _ _ (Nat.zero_le _)
end Go.Proofs.YtpchogicdnfggaaGreatDoor
set_option maxRecDepth 20000
namespace Go.Proofs.YtpchogicdnfggaaGreatDoor
open Go.RowKit Go.Hd

/-- The state as the document's own reader has it: place, error. -/
def RSst {α : Type} (s : Rs α) (L : List UInt8) (p : Nat) (e : Int) : Prop := match s with
  | .ok _ r => r = L.drop p ∧ e = 0
  | .no c => e = c ∧ c ≠ 0
def RRs {α : Type} (B : Nat) (w : World) (g : Nat) (L : List UInt8) (s : Rs α) : Prop :=
  ∃ (a : Option Addr) (c p : Nat) (e : Int), Blk w g 71 [.slice a L.length c, .int .i64 (p : Int), .int .i64 e] ∧ Row w a (L.map b8) ∧ (L.length ≤ c ∧ c ≤ maxLen) ∧ (0 < L.length → (hd a).block < B) ∧ B ≤ g ∧ p ≤ L.length ∧ L.length ≤ 65536 ∧ RSst s L p e
theorem RRs.keep {α : Type} {B g : Nat} {w w' : World} {L : List UInt8} {s : Rs α} (h : RRs B w g L s) (hb : Below w.heap.size w w') : RRs B w' g L s := by
  obtain ⟨a, c, p, e, h1, h2, h3⟩ := h
  exact ⟨a, c, p, e, h1.below hb, h2.below hb, h3⟩
theorem RRs.far {α : Type} {B g : Nat} {w w' : World} {L : List UInt8} {s : Rs α} (h : RRs B w g L s) {r : Option Nat} (hg : w.grownBy w' r) (hr : ∀ k, r = some k → B ≤ k ∧ k ≠ g) : RRs B w' g L s := by
  obtain ⟨a, c, p, e, h1, h2, h3, h4, h5⟩ := h
  exact ⟨a, c, p, e, h1.keptBy hg (fun e => (hr g e).2 rfl), Row.keptFar h2 hg (fun h0 e => by have := (hr _ e).1; have := h4 (by simpa using h0); omega), h3, h4, h5⟩
theorem RRs.lt {α : Type} {B g : Nat} {w : World} {L : List UInt8} {s : Rs α} (h : RRs B w g L s) : g < w.heap.size := by
  obtain ⟨a, c, p, e, h1, _⟩ := h; exact h1.lt
theorem RRs.cast {α β : Type} {B g : Nat} {w : World} {L : List UInt8} {s : Rs α} {s' : Rs β} (h : RRs B w g L s) (hs : ∀ p e, RSst s L p e → RSst s' L p e) : RRs B w g L s' := by
  obtain ⟨a, c, p, e, h1, h2, h3, h4, h5, h6, h7, h8⟩ := h
  exact ⟨a, c, p, e, h1, h2, h3, h4, h5, h6, h7, hs _ _ h8⟩
theorem RRs.unit {α : Type} {B g : Nat} {w : World} {L : List UInt8} {s : Rs α} (h : RRs B w g L s) : RRs B w g L s.unit := h.cast (fun _ _ hh => by cases s <;> exact hh)
theorem RRs.ok0 {α : Type} {B g : Nat} {w : World} {L r : List UInt8} {x : α} (h : RRs B w g L (.ok x r)) : w.cell? ⟨g, 2, none⟩ = some (.int .i64 0) := by
  obtain ⟨a, c, p, e, h1, h2, h3, h4, h5, h6, h7, h8⟩ := h
  obtain ⟨_, rfl⟩ := h8
  exact h1.cell rfl
theorem RRs.noC {α : Type} {B g : Nat} {w : World} {L : List UInt8} {c : Int} (h : RRs B w g L (.no c : Rs α)) : w.cell? ⟨g, 2, none⟩ = some (.int .i64 c) ∧ c ≠ 0 := by
  obtain ⟨a, c, p, e, h1, h2, h3, h4, h5, h6, h7, h8⟩ := h
  obtain ⟨rfl, hc⟩ := h8
  exact ⟨h1.cell rfl, hc⟩
/-- An error is set. -/
theorem RRs.fail {α β : Type} {B g : Nat} {w : World} {L : List UInt8} {s : Rs α} (h : RRs B w g L s) (x : Int) (hx : x ≠ 0) : RRs B (w.setCell ⟨g, 2, none⟩ (.int .i64 x)) g L (.no x : Rs β) ∧ w.grownBy (w.setCell ⟨g, 2, none⟩ (.int .i64 x)) (some g) ∧ w.frozen? ⟨g, 2, none⟩ = false ∧ (∃ z, w.cell? ⟨g, 2, none⟩ = some (.int .i64 z)) := by
  obtain ⟨a, c, p, e, h1, h2, h3, h4, h5, h6, h7, h8⟩ := h
  have hg : w.grownBy (w.setCell ⟨g, 2, none⟩ (.int .i64 x)) (some g) := grown_set (World.grownBy.refl _ _) _ _
  refine ⟨⟨a, c, p, x, h1.set 2 (.int .i64 x), ?_, h3, h4, h5, h6, h7, rfl, hx⟩, hg, h1.free 2, e, h1.cell rfl⟩
  exact Row.grown h2 hg (fun h0 => by have := h4 (by simpa using h0); omega)
theorem Dk.one {g : Nat} {a b : World} (h : a.grownBy b (some g)) : Dk g g a b := Dk.ofGrown h (.inl rfl)
/-- What take answers. -/
def RTkP (B g : Nat) (L : List UInt8) (w : World) (n : Nat) (R : Rs (List UInt8)) (e : Ending) (w' : World) : Prop :=
  ∃ (a : Option Addr) (c : Nat) (t : List UInt8), e = .returned (.slice a t.length c) ∧ (t.length ≤ c ∧ c ≤ maxLen) ∧ Row w' a (t.map b8) ∧ (∀ t0 r, R = .ok t0 r → t = t0) ∧ (R.isNo = true → t = []) ∧ t.length ≤ n ∧ RRs B w' g L R ∧ Dk g g w w'
set_option maxHeartbeats 1000000 in
theorem rtake_any {α : Type} {B g n : Nat} {L : List UInt8} {w : World} {s : Rs α} (h : RRs B w g L s) (hn : n ≤ 4294967295) :
    Calls Tryz.prog 55 #[.pointer (some ⟨g, 0, none⟩), .int .i64 (n : Int)] w (RTkP B g L w n (s.bind fun _ r => takeR n r)) := by
  have h' := h
  obtain ⟨a, c, p, e, hB, hr, ⟨hc1, hc2⟩, hk, hBg, hp, hL, hst⟩ := h
  have c0 : w.cell? ⟨g, 0, none⟩ = _ := hB.cell rfl
  have c1 : w.cell? ⟨g, 1, none⟩ = _ := hB.cell rfl
  have c2 : w.cell? ⟨g, 2, none⟩ = _ := hB.cell rfl
  have f1 := hB.free 1
  have f2 := hB.free 2
  have w1 : IntKind.i64.wrap ((L.length : Int) - (p : Int)) = (L.length : Int) - (p : Int) := IntWalk.i64_in _ (by omega)
  cases s with
  | no cc =>
    obtain ⟨rfl, hne⟩ := hst
    have e1 : (e == 0) = false := by simpa using hne
    have e2 : (e != 0) = true := by simpa using hne
    go_enter Tryz.func55, Tryz.ntmps55
    go_wp2
    go_quiet (fail)
    go_wp2
    go_ret
    exact ⟨none, 0, [], rfl, ⟨Nat.le_refl _, Nat.zero_le _⟩, Row.nil _ _, (fun _ _ h => by cases h), fun _ => rfl, Nat.zero_le _, (h'.keep (Gr.drewN w _)).cast (fun _ _ hh => hh), Dk.ofBelow (Gr.drewN w _)⟩
  | ok x r =>
    obtain ⟨hrr, rfl⟩ := hst
    have HRR := Lib.hid hrr
    clear hrr
    have hrl : r.length = L.length - p := by rw [HRR.out, List.length_drop]
    by_cases hl : L.length - p < n
    · have HT : Hid (((Rs.ok x r).bind fun _ r => takeR n r) = .no 3) := by
        show _ = _
        rw [Rs.bind_ok]; unfold takeR; rw [if_pos (by omega)]
      have i1 : (L.length : Int) - (p : Int) < (n : Int) := by omega
      have HQ := fun m => RRs.fail (β := List UInt8) (h'.keep (Gr.drewN w m)) 3 (by decide)
      clear hrl hl
      go_enter Tryz.func55, Tryz.ntmps55
      go_wp2
      go_quiet (fail)
      go_wp2
      go_ret
      rw [HT.out]
      exact ⟨none, 0, [], rfl, ⟨Nat.le_refl _, Nat.zero_le _⟩, Row.nil _ _, (fun _ _ h => by cases h), fun _ => rfl, Nat.zero_le _, (HQ _).1, (Dk.ofBelow (Gr.drewN w _)).trans (Dk.one (HQ _).2.1)⟩
    · have HT : Hid (((Rs.ok x r).bind fun _ r => takeR n r) = .ok (r.take n) (r.drop n)) := by
        show _ = _
        rw [Rs.bind_ok]; unfold takeR; rw [if_neg (by omega)]
      have i1 : ¬ (L.length : Int) - (p : Int) < (n : Int) := by omega
      have w2 : IntKind.i64.wrap ((p : Int) + (n : Int)) = (p : Int) + (n : Int) := IntWalk.i64_in _ (by omega)
      have w3 : IntKind.i64.wrap ((p : Int) + (n : Int) - (n : Int)) = (p : Int) := by rw [IntWalk.i64_in _ (by omega)]; omega
      obtain ⟨a', c', hcut, k1, k2, k3⟩ := cut_lh (P := Tryz.prog) (t := 22) (e := 5) (s := 1) (by rfl) (by kernel_rfl) hr (n := L.length) (c := c) (k1 := .i64) (k2 := .i64) (i := (p : Int)) (j := (p : Int) + (n : Int)) (p := p) (q := p + n) rfl (by omega) (by omega) (by omega)
      rw [Nat.add_sub_cancel_left] at hcut k1 k3
      have hg : ∀ m k : Nat, w.grownBy (((w.drewN m).setCell ⟨g, 1, none⟩ (.int .i64 ((p : Int) + (n : Int)))).drewN k) (some g) := fun m k => grownBy_drewN (grown_set (grownBy_drewN (World.grownBy.refl _ _) m) _ _) k
      have hR2 : ∀ m k : Nat, RRs B (((w.drewN m).setCell ⟨g, 1, none⟩ (.int .i64 ((p : Int) + (n : Int)))).drewN k) g L (.ok (r.take n) (r.drop n)) := by
        intro m k
        refine ⟨a, c, p + n, 0, ?_, Row.grown hr (hg m k) (fun h0 => by have := hk (by simpa using h0); omega), ⟨hc1, hc2⟩, hk, hBg, by omega, hL, ?_, rfl⟩
        · have := hB.set 1 (.int .i64 ((p : Int) + (n : Int)))
          exact this
        · rw [HRR.out, List.drop_drop]
      have hrow : ∀ m k : Nat, Row (((w.drewN m).setCell ⟨g, 1, none⟩ (.int .i64 ((p : Int) + (n : Int)))).drewN k) a' ((r.take n).map b8) := by
        intro m k
        have hr2 := Row.grown hr (hg m k) (fun h0 => by have := hk (by simpa using h0); omega)
        obtain ⟨a2, c2', hcut2, _, _, j3⟩ := cut_lh (P := Tryz.prog) (t := 22) (e := 5) (s := 1) (by rfl) (by kernel_rfl) hr2 (n := L.length) (c := c) (k1 := .i64) (k2 := .i64) (i := (p : Int)) (j := (p : Int) + (n : Int)) (p := p) (q := p + n) rfl (by omega) (by omega) (by omega)
        rw [Nat.add_sub_cancel_left] at hcut2 j3
        have e1 := (hcut w).symm.trans (hcut2 w)
        simp only [Result.ok.injEq, Value.slice.injEq] at e1
        rw [e1.1.1, HRR.out, List.map_take, List.map_drop]
        simpa using j3
      have htl : (r.take n).length = n := by rw [List.length_take]; omega
      have HF : Hid (∀ m k : Nat, RTkP B g L w n (.ok (r.take n) (r.drop n)) (.returned (.slice a' n c')) (((w.drewN m).setCell ⟨g, 1, none⟩ (.int .i64 ((p : Int) + (n : Int)))).drewN k)) := fun m k =>
        ⟨a', c', r.take n, by rw [htl], ⟨by rw [htl]; exact k1, by omega⟩, hrow m k, (fun _ _ h => by cases h; rfl), (fun h => by cases h), by rw [htl]; exact Nat.le_refl _, hR2 m k, Dk.one (hg m k)⟩
      clear hrow htl hR2 hg hrl hl k1 k2 k3 hr
      go_enter Tryz.func55, Tryz.ntmps55
      go_wp2
      go_quiet (fail)
      go_wp2
      go_quiet (fail)
      go_wp2
      go_ret
      rw [HT.out]
      exact HF.out _ _
/-- What num answers. -/
def RNumP (B g : Nat) (L : List UInt8) (w : World) (lim : Nat) (R : Rs Nat) (e : Ending) (w' : World) : Prop :=
  ∃ x : Nat, e = .returned (.int .u64 (x : Int)) ∧ x < lim ∧ (∀ x0 r, R = .ok x0 r → x = x0) ∧ RRs B w' g L R ∧ Dk g g w w'
set_option maxHeartbeats 1000000 in
theorem rrnum_any {α : Type} {B g n lo : Nat} {L : List UInt8} {w : World} {s : Rs α} (h : RRs B w g L s) (h1n : 1 ≤ n) (h8 : n ≤ 8) (hlo : lo < 18446744073709551616) :
    Calls Tryz.prog 85 #[.pointer (some ⟨g, 0, none⟩), .int .i64 (n : Int), .int .u64 (lo : Int)] w (RNumP B g L w (256 ^ n) (s.bind fun _ r => leastR n lo r)) := by
  have htk := rtake_any (n := n) h (by omega)
  have HR : Hid ((s.bind fun _ r => leastR n lo r) = (s.bind fun _ r => takeR n r).bind fun b r => if getL b.reverse < lo then .no 4 else .ok (getL b.reverse) r) := by
    show _ = _
    cases s with
    | no c => rfl
    | ok x r =>
      simp only [Rs.bind_ok]
      unfold leastR bigR
      rw [Rs.bind_bind]; rfl
  generalize (s.bind fun _ r => leastR n lo r) = R at *
  generalize (s.bind fun _ r => takeR n r) = T at *
  have HN := Lib.hid (And.intro h1n h8)
  have HLO := Lib.hid hlo
  clear h1n h8 hlo h
  go_enter Tryz.func85, Tryz.ntmps85
  go_wp2_with fail
  refine htk.mono ?_
  rintro ee w1 ⟨a, c, t, rfl, ⟨hc, hm⟩, hrow, ht, htn, htl, hP, hk⟩
  have hbk := back_any a t.length c t w1 rfl hrow (by have := HN.out; omega)
  clear htk
  go_wp2_with fail
  refine hbk.mono ?_
  rintro ee w2 ⟨v, rfl, hfr⟩
  obtain ⟨a2, c2, rfl, hrow2, hb2, hm2, hc2⟩ := hfr.open
  have hP2 := hP.keep hb2
  have hk2 := hk.trans (Dk.ofBelow hb2)
  have htl8 : t.reverse.length ≤ n := by rw [List.length_reverse]; exact htl
  have hget : Calls Tryz.prog 15 #[.slice a2 t.length c2] w2 fun e w' => (∃ bb, e = .returned (.tuple #[.int .u64 (getL t.reverse : Int), .bool bb])) ∧ w2 = w' := by
    by_cases h0 : t.reverse.length < 1
    · have ht0 : t.reverse = [] := List.eq_nil_of_length_eq_zero (by omega)
      rw [ht0]
      rw [List.length_reverse] at h0
      exact (rget_none a2 _ c2 w2 (.inl h0)).mono fun e w' ⟨h1, h2⟩ => ⟨⟨false, h1⟩, h2⟩
    · exact (rget_any a2 _ c2 t.reverse w2 (by rw [List.length_reverse]) hrow2 (by omega) (Nat.le_trans htl8 HN.out.2)).mono fun e w' ⟨h1, h2⟩ => ⟨⟨true, h1⟩, h2⟩
  have hlim : getL t.reverse < 256 ^ n := getL_lim htl HN.out.2
  have htx : ∀ b r, T = .ok b r → getL t.reverse = getL b.reverse := fun b r hb => by rw [ht b r hb]
  clear hbk hfr hrow hrow2 hP hk ht htn
  generalize getL t.reverse = x at *
  cases T with
  | no cc =>
    obtain ⟨q1, q2⟩ := hP2.noC
    have e1 : (cc == 0) = false := by simpa using q2
    have HF : Hid (RNumP B g L w (256 ^ n) R (.returned (.int .u64 (x : Int))) w2) := by
      show RNumP _ _ _ _ _ _ _ _
      rw [HR.out]
      exact ⟨x, rfl, hlim, (fun _ _ h => by cases h), hP2.cast (fun _ _ hh => hh), hk2⟩
    clear hP2 hk2 hlim
    go_wp2_with fail
    refine hget.mono ?_
    rintro ee w3 ⟨⟨bb, rfl⟩, rfl⟩
    go_wp2
    go_ret
    exact HF.out
  | ok b r =>
    have hxb := htx b r rfl
    have q1 := hP2.ok0
    by_cases hlt : x < lo
    · have i1 : (x : Int) < (lo : Int) := by omega
      obtain ⟨hP3, hg3, f2, z, c2'⟩ := RRs.fail (β := Nat) hP2 4 (by decide)
      have HF : Hid (RNumP B g L w (256 ^ n) R (.returned (.int .u64 (x : Int))) (w2.setCell ⟨g, 2, none⟩ (.int .i64 4))) := by
        show RNumP _ _ _ _ _ _ _ _
        rw [HR.out, Rs.bind_ok, if_pos (by rw [← hxb]; exact hlt)]
        exact ⟨x, rfl, hlim, (fun _ _ h => by cases h), hP3, hk2.trans (Dk.one hg3)⟩
      clear hP2 hk2 hlim hlt hxb htx hP3 hg3
      go_wp2_with fail
      refine hget.mono ?_
      rintro ee w3 ⟨⟨bb, rfl⟩, rfl⟩
      go_wp2
      go_ret
      exact HF.out
    · have i1 : ¬ (x : Int) < (lo : Int) := by omega
      have HF : Hid (RNumP B g L w (256 ^ n) R (.returned (.int .u64 (x : Int))) w2) := by
        show RNumP _ _ _ _ _ _ _ _
        rw [HR.out, Rs.bind_ok, if_neg (by rw [← hxb]; exact hlt)]
        exact ⟨x, rfl, hlim, (fun _ _ h => by cases h; exact hxb), hP2.cast (fun _ _ hh => hh), hk2⟩
      clear hP2 hk2 hlim hlt hxb htx
      go_wp2_with fail
      refine hget.mono ?_
      rintro ee w3 ⟨⟨bb, rfl⟩, rfl⟩
      go_wp2
      go_ret
      exact HF.out
attribute [local go_sem ↓] h_ldV h_stV h_alV
attribute [local go_sem] r_ldV r_stV r_alV

/-- What a reading of a value answers. -/
def RValP (B g : Nat) (L : List UInt8) (w : World) (R : Rs PV) (e : Ending) (w' : World) : Prop :=
  ∃ cs v, e = .returned (.agg (List.toArray cs)) ∧ VAtP (fun b => w.heap.size ≤ b) w' cs v ∧ (∀ v0 r, R = .ok v0 r → v = v0) ∧ RRs B w' g L R ∧ Dk g g w w'
theorem rval_end {α : Type} {B g : Nat} {L : List UInt8} {w w2 : World} {cs old : List Value} {v : PV} {S : Rs α} {R : Rs PV} (hres : Blk w2 w.heap.size 50 old) (ho : old.length = 6) (hP : RRs B w2 g L S) (hk : Dk g g w w2) (hv : VAtP (fun b => w.heap.size + 1 ≤ b) w2 cs v) (hB : B ≤ w.heap.size) (h1 : g < w.heap.size)
    (hc : ∀ p e, RSst S L p e → RSst R L p e) (hg : ∀ v0 r, R = .ok v0 r → v = v0) :
    (stoOp 50 (.pointer (some ⟨w.heap.size, 0, none⟩)) (.agg (List.toArray cs))).run Tryz.prog w2 = .ok () (w2.setRow w.heap.size (List.toArray cs)) ∧ Blk (w2.setRow w.heap.size (List.toArray cs)) w.heap.size 50 cs ∧ Hid (RValP B g L w R (.returned (.agg (List.toArray cs))) (w2.setRow w.heap.size (List.toArray cs))) := by
  have hgr := setRow_gr w2 w.heap.size (List.toArray cs)
  refine ⟨st_row hres ho _ hv.len (all_oneCell_toArray hv.one), setRow_blk hres cs, ?_⟩
  show RValP _ _ _ _ _ _ _
  refine ⟨_, _, rfl, ?_, hg, (hP.far hgr (fun k hk => by cases hk; exact ⟨hB, by omega⟩)).cast hc, ?_⟩
  · exact (hv.same (w' := w2.setRow w.heap.size _) (fun z hz hlt => hgr.block z hlt (by have hz : w.heap.size + 1 ≤ z := hz; simp; omega))).mono (fun z hz _ => by have hz : w.heap.size + 1 ≤ z := hz; omega)
  · exact ⟨hk.os, hk.tape, hk.output, by simp; exact hk.size, fun i hi g1 g2 => (hgr.block i (by have := hk.size; omega) (by simp; omega)).trans (hk.block i hi g1 g2)⟩
theorem least0 (n : Nat) (r : List UInt8) : leastR n 0 r = bigR n r := by
  unfold leastR
  cases bigR n r with
  | no c => rfl
  | ok x r => simp
theorem VAtP.numP {ok : Nat → Prop} (w : World) {n : Int} (h : in64 n) : VAtP ok w [.int .i64 3, .int .i64 n, .slice none 0 0, .string { data := #[] }, .slice none 0 0, .slice none 0 0] (pNum n) := VAtP.num w h

theorem VAtP.kindP {ok : Nat → Prop} (w : World) {k : Int} (h : in64 k) : VAtP ok w [.int .i64 k, .int .i64 0, .slice none 0 0, .string { data := #[] }, .slice none 0 0, .slice none 0 0] (pKind k) := VAtP.plain (n := 0) (t := []) w h (by unfold in64; omega) (Nat.zero_le _)
theorem hd_add0 (a : Option Addr) : (hd a).add 0 = hd a := by unfold Addr.add; simp

/-- The state of a list's, a map's loop. -/
structure RJ {α : Type} (B g : Nat) (L : List UInt8) (w wr : World) (k : Int) (uK uL : Value) (ks : List (List UInt8)) (vs : List PV) (S : Rs α) : Prop where
  res : Blk wr w.heap.size 50 zV.toList
  vb : VB (w.heap.size + 1) (w.heap.size + 1) wr (.mk k 0 [] [] ks vs) (.slice none 0 0) uK uL
  st : RRs B wr g L S
  dk : Dk g g w wr
theorem RJ.call {α β : Type} {B g : Nat} {L : List UInt8} {w wr w2 : World} {k : Int} {uK uL : Value} {ks : List (List UInt8)} {vs : List PV} {S : Rs α} {S2 : Rs β} (h : RJ B g L w wr k uK uL ks vs S) (h1 : g < w.heap.size) (hP : RRs B w2 g L S2) (hk : Dk g g wr w2) : RJ B g L w w2 k uK uL ks vs S2 :=
  ⟨hk.blk h.res (by omega) (by omega), h.vb.keep hk.size (fun b hb hlt => hk.block b hlt (by omega) (by omega)), hP, h.dk.trans hk⟩
theorem RJ.cast {α β : Type} {B g : Nat} {L : List UInt8} {w wr : World} {k : Int} {uK uL : Value} {ks : List (List UInt8)} {vs : List PV} {S : Rs α} {S2 : Rs β} (h : RJ B g L w wr k uK uL ks vs S) (hc : ∀ p e, RSst S L p e → RSst S2 L p e) : RJ B g L w wr k uK uL ks vs S2 := ⟨h.res, h.vb, h.st.cast hc, h.dk⟩
theorem RJ.drew {α : Type} {B g : Nat} {L : List UInt8} {w wr : World} {k : Int} {uK uL : Value} {ks : List (List UInt8)} {vs : List PV} {S : Rs α} (h : RJ B g L w wr k uK uL ks vs S) : RJ B g L w wr.drew k uK uL ks vs S :=
  ⟨h.res, h.vb.keep (Nat.le_refl _) (fun _ _ _ => rfl), h.st.keep (Gr.drewN wr 1), ⟨h.dk.os, h.dk.tape, h.dk.output, h.dk.size, h.dk.block⟩⟩
theorem RJ.drewN {α : Type} {B g : Nat} {L : List UInt8} {w wr : World} {k : Int} {uK uL : Value} {ks : List (List UInt8)} {vs : List PV} {S : Rs α} (h : RJ B g L w wr k uK uL ks vs S) (m : Nat) : RJ B g L w (wr.drewN m) k uK uL ks vs S :=
  ⟨h.res, h.vb.keep (Nat.le_refl _) (fun _ _ _ => rfl), h.st.keep (Gr.drewN wr m), ⟨h.dk.os, h.dk.tape, h.dk.output, h.dk.size, h.dk.block⟩⟩
theorem RJ.after {α : Type} {B g : Nat} {L : List UInt8} {w wr w' : World} {k : Int} {uK uL u2 uK2 uL2 x : Value} {ks ks2 : List (List UInt8)} {vs vs2 : List PV} {S : Rs α} {i : Nat} (h : RJ B g L w wr k uK uL ks vs S) (hB : B ≤ w.heap.size) (h1 : g < w.heap.size) (hg : Gro wr w' uK u2 ∨ Gro wr w' uL u2)
    (hv : VB (w.heap.size + 1) (w.heap.size + 1) (w'.setCell ⟨w.heap.size + 1, i, none⟩ x) (.mk k 0 [] [] ks2 vs2) (.slice none 0 0) uK2 uL2) : RJ B g L w (w'.setCell ⟨w.heap.size + 1, i, none⟩ x) k uK2 uL2 ks2 vs2 S := by
  have hk := h.vb.kown
  have hs : w'.grownBy (w'.setCell ⟨w.heap.size + 1, i, none⟩ x) (some (w.heap.size + 1)) := grown_set (World.grownBy.refl _ _) _ _
  have key : ∀ {u : Value}, (∀ b, u.ownBlock = some b → w.heap.size + 1 ≤ b ∧ b < wr.heap.size) → wr.grownBy w' u.ownBlock → RJ B g L w (w'.setCell ⟨w.heap.size + 1, i, none⟩ x) k uK2 uL2 ks2 vs2 S := by
    intro u hu hgr
    refine ⟨?_, hv, (h.st.far hgr (fun k hk => by have := (hu k hk).1; exact ⟨by omega, by omega⟩)).far hs (fun k hk => by cases hk; exact ⟨by omega, by omega⟩), ?_⟩
    · exact (h.res.keptBy hgr (fun e => by have := (hu _ e).1; omega)).grown hs (by omega)
    · refine ⟨hgr.os.trans h.dk.os, hgr.tape.trans h.dk.tape, hgr.output.trans h.dk.output, Nat.le_trans h.dk.size (by simpa using hgr.size), fun k hk1 g1 g2 => ?_⟩
      have hws := h.dk.size
      rw [hs.block k (by have := hgr.size; omega) (by simp; omega), hgr.block k (by omega) (fun e => by have := (hu k e.symm).1; omega)]
      exact h.dk.block k hk1 g1 g2
  rcases hg with hg | hg
  · exact key hk.1 hg.gr
  · exact key hk.2 hg.gr
/-- What a list, a map is at the end. -/
theorem RJ.done {α : Type} {B g : Nat} {L : List UInt8} {w wc : World} {k : Int} {uK uL : Value} {ks : List (List UInt8)} {vs : List PV} {S : Rs α} {R : Rs PV} (hI : RJ B g L w wc k uK uL ks vs S) (hB : B ≤ w.heap.size) (h1 : g < w.heap.size) (hc : ∀ p e, RSst S L p e → RSst R L p e) (hg : ∀ v0 r, R = .ok v0 r → PV.mk k 0 [] [] ks vs = v0) :
    (ldOp 50 (.pointer (some ⟨w.heap.size + 1, 0, none⟩))).run Tryz.prog wc = .ok (.agg (List.toArray (α := Value) [.int .i64 k, .int .i64 0, .slice none 0 0, strV [], uK, uL])) wc ∧
    (stoOp 50 (.pointer (some ⟨w.heap.size, 0, none⟩)) (.agg (List.toArray [.int .i64 k, .int .i64 0, .slice none 0 0, strV [], uK, uL]))).run Tryz.prog wc = .ok () (wc.setRow w.heap.size (List.toArray [.int .i64 k, .int .i64 0, .slice none 0 0, strV [], uK, uL])) ∧
    Blk (wc.setRow w.heap.size (List.toArray [.int .i64 k, .int .i64 0, .slice none 0 0, strV [], uK, uL])) w.heap.size 50 [.int .i64 k, .int .i64 0, .slice none 0 0, strV [], uK, uL] ∧
    Hid (RValP B g L w R (.returned (.agg (List.toArray (α := Value) [.int .i64 k, .int .i64 0, .slice none 0 0, strV [], uK, uL]))) (wc.setRow w.heap.size (List.toArray [.int .i64 k, .int .i64 0, .slice none 0 0, strV [], uK, uL]))) := by
  have HP := hI.vb.done
  obtain ⟨a1, a2, a3⟩ := rval_end (R := R) (cs := [.int .i64 k, .int .i64 0, .slice none 0 0, strV [], uK, uL]) hI.res (by rfl) hI.st hI.dk (HP.mono (fun z hz _ => by have := hz.1; omega)) hB h1 hc hg
  exact ⟨ldOp_all (P := Tryz.prog) (ty := 50) hI.vb.blk Tryz.underlying50 rfl sizeV, a1, a2, a3⟩
end Go.Proofs.YtpchogicdnfggaaGreatDoor
