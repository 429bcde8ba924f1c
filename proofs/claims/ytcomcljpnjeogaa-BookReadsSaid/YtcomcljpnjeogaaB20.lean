/- Walks of layer 13: the document's ReadIndex, ReadCounts, ReadUses. -/
import Derived.Test.YtcomcljpnjeogaaB19
import Derived.Test.YtcomcljpnjeogaaB16
import Derived.Test.YtcomcljpnjeogaaB10
set_option maxRecDepth 20000
namespace Go.Proofs.Ytcomcljpnjeogaa
open Go.RowKit Go.Hd
attribute [local go_sem ↓] h_ldID h_ldKD h_stKD h_alKD h_bdKD h_bsKD h_ldCD h_stCD h_alCD h_bdCD h_bsCD h_ldUS h_stUS h_alUS h_bdUS h_bsUS
attribute [local go_sem] r_ldKD r_stKD r_s2KD r_alKD r_bsKD r_ldCD r_stCD r_s2CD r_alCD r_bsCD r_ldUS r_stUS r_s2US r_alUS r_bsUS

theorem EntV.nil (s : Nat) (w : World) : EntV s w (.slice none 0 0) [] := ⟨none, 0, rfl, Nat.le_refl _, Nat.zero_le _, EntRd.nil s w⟩
theorem doc_ok {k : BKind} {l : List UInt8} (h : risesB k (rowsF k (l.drop 12) (rowsN k l)) = true) : readF k l = (rowsF k (l.drop 12) (rowsN k l), rowsE k l) := by
  unfold readF rowsN at *
  by_cases he : rowsE k l = 0
  · rw [if_pos he] at h
    rw [if_neg (by simp [he]), if_neg (by simp [h]), if_pos he, he]
  · rw [if_pos he, if_neg he]
    rfl
theorem doc_no {k : BKind} {l : List UInt8} (h : risesB k (rowsF k (l.drop 12) (rowsN k l)) = false) : readF k l = ([], 18) := by
  unfold rowsN at h
  unfold readF
  by_cases he : rowsE k l = 0
  · rw [if_pos he] at h
    rw [if_neg (by simp [he]), if_pos h]
  · rw [if_neg he] at h
    cases h
theorem doc_some {k : BKind} {l : List UInt8} (h : 0 < rowsN k l) : (rowsE k l == 0) = true ∧ rowsN k l ≤ 65536 ∧ l.length = 20 + rowsN k l * k.size := by
  unfold rowsN at *
  by_cases he : rowsE k l = 0
  · rw [if_pos he] at *
    obtain ⟨h1, _, h3, _⟩ := rowsE_ok he
    exact ⟨by rw [he]; rfl, h3, h1⟩
  · rw [if_neg he] at h; omega
theorem risesB_down {k : BKind} {l : List BRow} {j : Nat} (h : risesB k (l.take j) = false) : risesB k l = false := by
  rcases Bool.eq_false_or_eq_true (risesB k l) with h2 | h2
  · rw [risesB_take_of k l j h2] at h; cases h
  · exact h2
theorem read_okI {k : BKind} {b : List UInt8} : ∀ r ∈ (readF k b).1, okI r := by
  have h : ∀ n, ∀ r ∈ rowsF k (b.drop 12) n, okI r := by
    intro n r hr x hx
    have h1 := List.all_eq_true.1 (rowsF_ok k (b.drop 12) n) r hr
    have h2 := List.all_eq_true.1 h1 x hx
    simp only [okN, Bool.and_eq_true, decide_eq_true_eq] at h2
    unfold i64Ok
    omega
  intro r hr
  unfold readF at hr
  split at hr
  · cases hr
  · split at hr
    · cases hr
    · exact h _ r hr
theorem key_int {w : World} {a : Option Addr} {n c i : Nat} {z : Int} {l : List UInt8} (hz : z = (i : Int)) (hn : n = l.length) (hc : n ≤ c) (hl : Row w a (l.map b8)) (hi : i + 32 ≤ l.length) (hm : l.length ≤ 140737488355328) :
    Calls Try.prog 52 #[.slice a n c, .int .i64 z] w fun e w' => e = .returned (.agg (kcs ((l.drop i).take 32))) ∧ Below w.heap.size w w' := by
  subst hz; exact key_any hn hc hl hi hm
theorem at_int {w : World} {a : Option Addr} {n c i : Nat} {z : Int} {l : List UInt8} (hz : z = (i : Int)) (hn : n = l.length) (hc : n ≤ c) (hl : Row w a (l.map b8)) (hi : i + 4 ≤ l.length) (hm : l.length ≤ 140737488355328) :
    Calls Try.prog 53 #[.slice a n c, .int .i64 z] w fun e w' => e = .returned (.int .i64 (getL ((l.drop i).take 4) : Int)) ∧ w = w' := by
  subst hz; exact at_any hn hc hl hi hm

theorem rows_KD {l : List UInt8} {N j : Nat} (h : j < (rowsF kI (l.drop 12) N).length) : (rowsF kI (l.drop 12) N)[j] = ((l.drop (12 + j * 44)).take 32, [(getL ((l.drop (12 + j * 44 + 32)).take 4) : Int), (getL ((l.drop (12 + j * 44 + 36)).take 4) : Int), (getL ((l.drop (12 + j * 44 + 40)).take 4) : Int)]) := by
  simp only [rowsF, List.getElem_map, List.getElem_range, rowF, List.drop_drop]
  rfl
set_option maxHeartbeats 4000000 in
theorem rrdKD_any {a : Option Addr} {n c : Nat} {l : List UInt8} {w : World} (hn : n = l.length) (hc : n ≤ c) (hl : Row w a (l.map b8)) (hm : l.length ≤ 3000000) :
    Calls Try.prog 23 #[.slice a n c] w fun e w' => ∃ v, e = .returned (.tuple #[v, .int .i64 (readF kI l).2]) ∧ EntV 35 w' v (readF kI l).1 ∧ Below w.heap.size w w' := by
  subst hn
  have D1 := Lib.hid (doc_ok (k := kI) (l := l))
  have D2 := Lib.hid (doc_no (k := kI) (l := l))
  have D3 := Lib.hid (doc_some (k := kI) (l := l))
  have hsz : kI.size = 44 := rfl
  have HROW := Lib.hid (fun N j h => rows_KD (l := l) (N := N) (j := j) h)
  have HLEN := Lib.hid (rowsF_length kI (l.drop 12) (rowsN kI l))
  have HFIT : Hid (∀ r ∈ rowsF kI (l.drop 12) (rowsN kI l), fitR kI r) := by
    show ∀ _, _
    rcases Nat.eq_zero_or_pos (rowsN kI l) with h | h
    · rw [h]; intro r hr; cases hr
    · obtain ⟨_, _, h3⟩ := D3.out h
      exact rowsF_fit (by rw [List.length_drop]; omega)
  have hm' : l.length ≤ 140737488355328 := by omega
  go_enter Try.func23, Try.ntmps23
  go_wp2_with fail
  refine (rrows_any kI kI_good rfl hc hl (by omega)).mono ?_
  rintro e w1 ⟨rfl, hb1⟩
  have HR := Lib.hid (HROW.out (rowsN kI l))
  have HN0 : Hid (rowsN kI l ≤ 65536) := by
    show _ ≤ _
    rcases Nat.eq_zero_or_pos (rowsN kI l) with h | h
    · omega
    · exact (D3.out h).2.1
  clear HROW
  generalize rowsF kI (l.drop 12) (rowsN kI l) = l0 at *
  generalize rowsN kI l = N at *
  generalize rowsE kI l = E at *
  have hl0 : l0.length = N := HLEN.out
  have hN0 := HN0.out
  go_wp2
  go_loopw [6, 7] (fun v i wr => ∃ j : Nat, j ≤ N ∧ i = .int .i64 j ∧ wr.ownsRow w.heap.size 71 35 v j ((l0.take j).map entL).flatten ∧ risesB kI (l0.take j) = true ∧ Below w.heap.size w wr) (fun _ i _ => N - (intOf i).toNat)
  case atStart => exact ⟨0, Nat.zero_le _, rfl, World.ownsRow_nil _ _ _ _, by rw [List.take_zero]; rfl, hb1⟩
  case round =>
    clear hb1
    obtain ⟨j, hj, rfl, hv, hri, hb⟩ := hrel
    by_cases hlt : j < N
    · obtain ⟨hE0, _, hlen⟩ := D3.out (by omega)
      have hjl : j < l0.length := by omega
      have hbb : (j + 1) * 44 ≤ N * 44 := Nat.mul_le_mul (by omega) (Nat.le_refl _)
      rw [hsz] at hlen
      have hrow := hl.below hb
      have hfit := HFIT.out
      have HE := Lib.hid (HR.out j hjl)
      have j0 : (0 : Int) ≤ (j : Int) := by omega
      have j1 : (j : Int) ≤ 65536 := by omega
      have j2 : (j : Int) < (N : Int) := by omega
      have hall : ∀ r ∈ l0.take j, (entL r).length = 35 := fun r hr => ent_len_KD (hfit r (List.mem_of_mem_take hr))
      obtain ⟨a2, c2, rfl, hjc, _, hrow4, _⟩ := owns_atS hv
      have hsw := hb.size
      have HT : Hid (((l0.take (j + 1)).map entL).flatten = ((l0.take j).map entL).flatten ++ entL l0[j]) := by
        show _ = _
        rw [List.take_succ_eq_append_getElem hjl]
        simp only [List.map_append, List.flatten_append, List.map_cons, List.map_nil, List.flatten_cons, List.flatten_nil, List.append_nil]
      have z0 : Hid (12 + 44 * (j : Int) = ((12 + j * 44 : Nat) : Int)) := by show _ = _; omega
      have y0 : 12 + j * 44 + 32 ≤ l.length := by omega
      have z32 : Hid (12 + 44 * (j : Int) + 32 = ((12 + j * 44 + 32 : Nat) : Int)) := by show _ = _; omega
      have y32 : 12 + j * 44 + 32 + 4 ≤ l.length := by omega
      have z36 : Hid (12 + 44 * (j : Int) + 36 = ((12 + j * 44 + 36 : Nat) : Int)) := by show _ = _; omega
      have y36 : 12 + j * 44 + 36 + 4 ≤ l.length := by omega
      have z40 : Hid (12 + 44 * (j : Int) + 40 = ((12 + j * 44 + 40 : Nat) : Int)) := by show _ = _; omega
      have y40 : 12 + j * 44 + 40 + 4 ≤ l.length := by omega
      clear hlen hbb
      go_wp2_with fail
      refine (key_int (i := 12 + j * 44) z0.out rfl hc hrow y0 hm').mono ?_
      rintro e w2 ⟨rfl, hb2⟩
      have hrow2 := hrow.below hb2
      go_wp2_with fail
      refine (at_int (i := 12 + j * 44 + 32) z32.out rfl hc hrow2 y32 hm').mono ?_
      rintro e w3 ⟨rfl, rfl⟩
      go_wp2_with fail
      refine (at_int (i := 12 + j * 44 + 36) z36.out rfl hc hrow2 y36 hm').mono ?_
      rintro e w3 ⟨rfl, rfl⟩
      go_wp2_with fail
      refine (at_int (i := 12 + j * 44 + 40) z40.out rfl hc hrow2 y40 hm').mono ?_
      rintro e w3 ⟨rfl, rfl⟩
      generalize hKK : (l.drop (12 + j * 44)).take 32 = K at *
      have hK32 : K.length = 32 := by rw [← hKK]; simp; omega
      clear hKK
      generalize getL ((l.drop (12 + j * 44 + 32)).take 4) = x at *
      generalize getL ((l.drop (12 + j * 44 + 36)).take 4) = y at *
      generalize getL ((l.drop (12 + j * 44 + 40)).take 4) = z at *
      have q3 := fun (w : World) => r_bdKD (w := w) (x := (x : Int)) (y := (y : Int)) (z := (z : Int)) hK32
      have hel : (entL (K, [(x : Int), (y : Int), (z : Int)])).length = 35 := by simp [entL, hK32]
      have q2 : (entA (K, [(x : Int), (y : Int), (z : Int)])).size = 35 := by simpa [entA] using hel
      have oA := entA_one (K, [(x : Int), (y : Int), (z : Int)])
      have zs := zKD_size
      rw [HE.out] at HT
      go_upto_region 8 with (fail)
      have hbW : Below wr.heap.size wr (w2.alloc (.cells (entA (K, [(x : Int), (y : Int), (z : Int)])) 71)) := hb2.alloc hb2.size _
      have BW : Blk (w2.alloc (.cells (entA (K, [(x : Int), (y : Int), (z : Int)])) 71)) w2.heap.size 71 (entL (K, [(x : Int), (y : Int), (z : Int)])) := Blk.new w2 71 _
      generalize w2.alloc (.cells (entA (K, [(x : Int), (y : Int), (z : Int)])) 71) = W at *
      clear q3 hrow hrow2 hb2
      go_cut [57] (fun s0 wx => s0 = .bool (!risesB kI (l0.take (j + 1))) ∧ Below W.heap.size W wx)
      case first =>
        by_cases hj0 : j = 0
        · subst hj0
          have HL : Hid (risesB kI (l0.take (0 + 1)) = true) := risesB_one _ _
          go_wp2
          go_quiet (fail)
          go_wp2
          go_meet
          exact ⟨by rw [HL.out]; rfl, Below.drewN (Below.refl _ _) _⟩
        · obtain ⟨i, rfl⟩ : ∃ i, j = i + 1 := ⟨j - 1, by omega⟩
          have hil : i < l0.length := Nat.lt_of_succ_lt hjl
          have hent : EntRd 35 wr a2 (l0.take (i + 1)) := ⟨hrow4, hall⟩
          have hk0 : (l0[i]'hil).1.length = 32 := (hfit _ (List.getElem_mem hil)).1
          have hkt : ((l0.take (i + 1))[i]'(by simp; omega)) = l0[i]'hil := by simp
          have q0 := ((hent.below hbW).below (Below.drewN (Below.refl _ _) 1)).key (i := i) (by simp; omega) (by rw [hkt]; exact hk0)
          rw [hkt] at q0
          have q9 := ldOp_blk (P := Try.prog) (o := 0) (n := 32) (ty := 67) (BW.drewN 1) (by rw [hel]; decide) Try.underlying67 rfl sizeID
          rw [show ((entL (K, [(x : Int), (y : Int), (z : Int)])).drop 0).take 32 = K.map b8 by unfold entL; rw [List.drop_zero]; exact List.take_left' (by simpa using hK32)] at q9
          have q9' : (ldOp 67 (.pointer (some ⟨w2.heap.size, 0, none⟩))).run Try.prog (W.drewN 1) = .ok (.agg (kcs K)) (W.drewN 1) := q9
          have HL : Hid (ltB (l0[i]'hil).1 K = risesB kI (l0.take (i + 1 + 1))) := by
            show _ = _
            rw [risesB_take kI l0 i hjl, hri, Bool.true_and, HE.out]
            unfold aheadB
            rw [if_pos (by rfl)]
          generalize (l0[i]'hil).1 = k0 at *
          have i6 : decide ((0 : Int) < (i : Int) + 1) = true := decide_eq_true (by omega)
          have ew : IntKind.i64.wrap (i : Int) = (i : Int) := IntWalk.i64_in _ (by omega)
          have ew1 : IntKind.i64.wrap ((i : Int) + 1 - 1) = (i : Int) := by rw [IntWalk.i64_in _ (by omega)]; omega
          have i0 : (0 : Int) ≤ (i : Int) := by omega
          have i1 : (i : Int) < (i : Int) + 1 := by omega
          have s2 : a2.isSome = true := hent.isSome (by decide) (i := i) (by simp; omega)
          clear q9 hkt
          go_wp2
          refine wp_region_still_tail 11 (by kernel_rfl) (by kernel_rfl) ?_
          simp only [List.take_succ_cons, List.take_zero, List.drop_succ_cons, List.drop_zero]
          change wpStill _ _ (W.drewN 1) _ _ _
          repeat still_step
          try refine wpStill_nil ?_
          change wpList _ _ _ _ _ (W.drewN 1)
          go_wp2_with fail
          refine (rless_any _ hk0 hK32).mono ?_
          rintro e w5 ⟨rfl, hb5⟩
          have hb6 : Below W.heap.size W w5 := Below.drewN' (n := 1) hb5
          clear q0 q9' ew ew1 hb5
          go_wp2
          go_meet
          exact ⟨by rw [← HL.out], hb6⟩
      case rest =>
        obtain ⟨rfl, hbx⟩ := hcut
        have hbr : Below wr.heap.size wr wc := Gr.trans hbW hbx
        have BX := BW.below hbx
        have hbw : Below w.heap.size w wc := hb.trans (hbr.mono hsw)
        have hsx := hbw.size
        clear BW hbW hbx hb hrow4
        rcases Bool.eq_false_or_eq_true (risesB kI (l0.take (j + 1))) with h | h
        · have HRR := Lib.hid h
          rw [h]
          have q1 := ldOp_all (P := Try.prog) (ty := 71) BX Try.underlying71 rfl (by rw [hel]; exact sizeKD)
          have q1' : (ldOp 71 (.pointer (some ⟨w2.heap.size, 0, none⟩))).run Try.prog wc = .ok (.agg (entA (K, [(x : Int), (y : Int), (z : Int)]))) wc := q1
          have hsrc : Src Try.prog 35 22 (.slice (some ⟨wc.heap.size, 0, none⟩) 1 1) 1 (entL (K, [(x : Int), (y : Int), (z : Int)])) (wc.alloc (.cells (entA (K, [(x : Int), (y : Int), (z : Int)])) 71)) :=
            Src.ofRow eKD.ht _ 1 1 _ (by decide) (by rw [hel]) (row_alloc _ _ _ _) (entL_one _)
          obtain ⟨v', w5, hrun, hown2, hg2⟩ := append_src (ty := 22) eKD ((ownsRow_below hv hbr).alloc (.cells (entA (K, [(x : Int), (y : Int), (z : Int)])) 71)) hsrc (by unfold maxLen; omega) (by omega) (by simp; omega)
          have hb5 : Below w.heap.size w w5 := (hbw.alloc hsx _).trans (Below.ofGrown hg2 ((ownsRow_below hv hbr).alloc _) (by simp; omega))
          have HV : Hid (w5.ownsRow w.heap.size 71 35 v' (j + 1) ((l0.take (j + 1)).map entL).flatten) := by
            show World.ownsRow _ _ _ _ _ _ _
            rw [HT.out]; exact hown2
          clear hown2 hg2 hsrc hv hbr hbw q1 BX h hri hall
          go_wp2_with (at_builtin; refine wpList_append_run hrun rfl rfl rfl rfl ?_)
          first
            | exact ⟨⟨j + 1, by omega, (by first | rfl | go_num | (congr 1; omega)), HV.out, HRR.out, hb5⟩, by simp [intOf] <;> omega⟩
            | (refine ⟨?_, by simp [intOf] <;> omega⟩; (repeat apply Exists.intro); exact ⟨⟨j + 1, by omega, (by first | rfl | go_num | (congr 1; omega)), HV.out, HRR.out, hb5⟩, rfl⟩)
        · have HRR := Lib.hid (D2.out (risesB_down h))
          rw [h]
          clear h hv BX
          go_wp2
          go_ret2
          rw [HRR.out]
          exact ⟨_, rfl, EntV.nil _ _, hbw⟩
    · obtain rfl : j = N := by omega
      have hfit := HFIT.out
      obtain ⟨a2, c2, rfl, hjc, hcm, hrow4, _⟩ := owns_atS hv
      have e0 : l0.take j = l0 := List.take_of_length_le (by omega)
      rw [e0] at hrow4 hri
      have HRR := Lib.hid (D1.out hri)
      have j3 : ¬ (j : Int) < (j : Int) := by omega
      clear hv e0 hri hlt
      go_wp2
      go_ret2
      rw [HRR.out]
      exact ⟨_, rfl, ⟨a2, c2, by rw [hl0]; rfl, Nat.le_trans (Nat.le_of_eq hl0) hjc, hcm, hrow4, fun r hr => ent_len_KD (hfit r hr)⟩, hb⟩
theorem rows_CD {l : List UInt8} {N j : Nat} (h : j < (rowsF kC (l.drop 12) N).length) : (rowsF kC (l.drop 12) N)[j] = ((l.drop (12 + j * 40)).take 32, [(getL ((l.drop (12 + j * 40 + 32)).take 4) : Int), (getL ((l.drop (12 + j * 40 + 36)).take 4) : Int)]) := by
  simp only [rowsF, List.getElem_map, List.getElem_range, rowF, List.drop_drop]
  rfl
set_option maxHeartbeats 4000000 in
theorem rrdCD_any {a : Option Addr} {n c : Nat} {l : List UInt8} {w : World} (hn : n = l.length) (hc : n ≤ c) (hl : Row w a (l.map b8)) (hm : l.length ≤ 3000000) :
    Calls Try.prog 24 #[.slice a n c] w fun e w' => ∃ v, e = .returned (.tuple #[v, .int .i64 (readF kC l).2]) ∧ EntV 34 w' v (readF kC l).1 ∧ Below w.heap.size w w' := by
  subst hn
  have D1 := Lib.hid (doc_ok (k := kC) (l := l))
  have D2 := Lib.hid (doc_no (k := kC) (l := l))
  have D3 := Lib.hid (doc_some (k := kC) (l := l))
  have hsz : kC.size = 40 := rfl
  have HROW := Lib.hid (fun N j h => rows_CD (l := l) (N := N) (j := j) h)
  have HLEN := Lib.hid (rowsF_length kC (l.drop 12) (rowsN kC l))
  have HFIT : Hid (∀ r ∈ rowsF kC (l.drop 12) (rowsN kC l), fitR kC r) := by
    show ∀ _, _
    rcases Nat.eq_zero_or_pos (rowsN kC l) with h | h
    · rw [h]; intro r hr; cases hr
    · obtain ⟨_, _, h3⟩ := D3.out h
      exact rowsF_fit (by rw [List.length_drop]; omega)
  have hm' : l.length ≤ 140737488355328 := by omega
  go_enter Try.func24, Try.ntmps24
  go_wp2_with fail
  refine (rrows_any kC kC_good rfl hc hl (by omega)).mono ?_
  rintro e w1 ⟨rfl, hb1⟩
  have HR := Lib.hid (HROW.out (rowsN kC l))
  have HN0 : Hid (rowsN kC l ≤ 65536) := by
    show _ ≤ _
    rcases Nat.eq_zero_or_pos (rowsN kC l) with h | h
    · omega
    · exact (D3.out h).2.1
  clear HROW
  generalize rowsF kC (l.drop 12) (rowsN kC l) = l0 at *
  generalize rowsN kC l = N at *
  generalize rowsE kC l = E at *
  have hl0 : l0.length = N := HLEN.out
  have hN0 := HN0.out
  go_wp2
  go_loopw [6, 7] (fun v i wr => ∃ j : Nat, j ≤ N ∧ i = .int .i64 j ∧ wr.ownsRow w.heap.size 80 34 v j ((l0.take j).map entL).flatten ∧ risesB kC (l0.take j) = true ∧ Below w.heap.size w wr) (fun _ i _ => N - (intOf i).toNat)
  case atStart => exact ⟨0, Nat.zero_le _, rfl, World.ownsRow_nil _ _ _ _, by rw [List.take_zero]; rfl, hb1⟩
  case round =>
    clear hb1
    obtain ⟨j, hj, rfl, hv, hri, hb⟩ := hrel
    by_cases hlt : j < N
    · obtain ⟨hE0, _, hlen⟩ := D3.out (by omega)
      have hjl : j < l0.length := by omega
      have hbb : (j + 1) * 40 ≤ N * 40 := Nat.mul_le_mul (by omega) (Nat.le_refl _)
      rw [hsz] at hlen
      have hrow := hl.below hb
      have hfit := HFIT.out
      have HE := Lib.hid (HR.out j hjl)
      have j0 : (0 : Int) ≤ (j : Int) := by omega
      have j1 : (j : Int) ≤ 65536 := by omega
      have j2 : (j : Int) < (N : Int) := by omega
      have hall : ∀ r ∈ l0.take j, (entL r).length = 34 := fun r hr => ent_len_CD (hfit r (List.mem_of_mem_take hr))
      obtain ⟨a2, c2, rfl, hjc, _, hrow4, _⟩ := owns_atS hv
      have hsw := hb.size
      have HT : Hid (((l0.take (j + 1)).map entL).flatten = ((l0.take j).map entL).flatten ++ entL l0[j]) := by
        show _ = _
        rw [List.take_succ_eq_append_getElem hjl]
        simp only [List.map_append, List.flatten_append, List.map_cons, List.map_nil, List.flatten_cons, List.flatten_nil, List.append_nil]
      have z0 : Hid (12 + 40 * (j : Int) = ((12 + j * 40 : Nat) : Int)) := by show _ = _; omega
      have y0 : 12 + j * 40 + 32 ≤ l.length := by omega
      have z32 : Hid (12 + 40 * (j : Int) + 32 = ((12 + j * 40 + 32 : Nat) : Int)) := by show _ = _; omega
      have y32 : 12 + j * 40 + 32 + 4 ≤ l.length := by omega
      have z36 : Hid (12 + 40 * (j : Int) + 36 = ((12 + j * 40 + 36 : Nat) : Int)) := by show _ = _; omega
      have y36 : 12 + j * 40 + 36 + 4 ≤ l.length := by omega
      clear hlen hbb
      go_wp2_with fail
      refine (key_int (i := 12 + j * 40) z0.out rfl hc hrow y0 hm').mono ?_
      rintro e w2 ⟨rfl, hb2⟩
      have hrow2 := hrow.below hb2
      go_wp2_with fail
      refine (at_int (i := 12 + j * 40 + 32) z32.out rfl hc hrow2 y32 hm').mono ?_
      rintro e w3 ⟨rfl, rfl⟩
      go_wp2_with fail
      refine (at_int (i := 12 + j * 40 + 36) z36.out rfl hc hrow2 y36 hm').mono ?_
      rintro e w3 ⟨rfl, rfl⟩
      generalize hKK : (l.drop (12 + j * 40)).take 32 = K at *
      have hK32 : K.length = 32 := by rw [← hKK]; simp; omega
      clear hKK
      generalize getL ((l.drop (12 + j * 40 + 32)).take 4) = x at *
      generalize getL ((l.drop (12 + j * 40 + 36)).take 4) = y at *
      have q3 := fun (w : World) => r_bdCD (w := w) (x := (x : Int)) (y := (y : Int)) hK32
      have hel : (entL (K, [(x : Int), (y : Int)])).length = 34 := by simp [entL, hK32]
      have q2 : (entA (K, [(x : Int), (y : Int)])).size = 34 := by simpa [entA] using hel
      have oA := entA_one (K, [(x : Int), (y : Int)])
      have zs := zCD_size
      rw [HE.out] at HT
      go_upto_region 8 with (fail)
      have hbW : Below wr.heap.size wr (w2.alloc (.cells (entA (K, [(x : Int), (y : Int)])) 80)) := hb2.alloc hb2.size _
      have BW : Blk (w2.alloc (.cells (entA (K, [(x : Int), (y : Int)])) 80)) w2.heap.size 80 (entL (K, [(x : Int), (y : Int)])) := Blk.new w2 80 _
      generalize w2.alloc (.cells (entA (K, [(x : Int), (y : Int)])) 80) = W at *
      clear q3 hrow hrow2 hb2
      go_cut [53] (fun s0 wx => s0 = .bool (!risesB kC (l0.take (j + 1))) ∧ Below W.heap.size W wx)
      case first =>
        by_cases hj0 : j = 0
        · subst hj0
          have HL : Hid (risesB kC (l0.take (0 + 1)) = true) := risesB_one _ _
          go_wp2
          go_quiet (fail)
          go_wp2
          go_meet
          exact ⟨by rw [HL.out]; rfl, Below.drewN (Below.refl _ _) _⟩
        · obtain ⟨i, rfl⟩ : ∃ i, j = i + 1 := ⟨j - 1, by omega⟩
          have hil : i < l0.length := Nat.lt_of_succ_lt hjl
          have hent : EntRd 34 wr a2 (l0.take (i + 1)) := ⟨hrow4, hall⟩
          have hk0 : (l0[i]'hil).1.length = 32 := (hfit _ (List.getElem_mem hil)).1
          have hkt : ((l0.take (i + 1))[i]'(by simp; omega)) = l0[i]'hil := by simp
          have q0 := ((hent.below hbW).below (Below.drewN (Below.refl _ _) 1)).key (i := i) (by simp; omega) (by rw [hkt]; exact hk0)
          rw [hkt] at q0
          have q9 := ldOp_blk (P := Try.prog) (o := 0) (n := 32) (ty := 67) (BW.drewN 1) (by rw [hel]; decide) Try.underlying67 rfl sizeID
          rw [show ((entL (K, [(x : Int), (y : Int)])).drop 0).take 32 = K.map b8 by unfold entL; rw [List.drop_zero]; exact List.take_left' (by simpa using hK32)] at q9
          have q9' : (ldOp 67 (.pointer (some ⟨w2.heap.size, 0, none⟩))).run Try.prog (W.drewN 1) = .ok (.agg (kcs K)) (W.drewN 1) := q9
          have HL : Hid (ltB (l0[i]'hil).1 K = risesB kC (l0.take (i + 1 + 1))) := by
            show _ = _
            rw [risesB_take kC l0 i hjl, hri, Bool.true_and, HE.out]
            unfold aheadB
            rw [if_pos (by rfl)]
          generalize (l0[i]'hil).1 = k0 at *
          have i6 : decide ((0 : Int) < (i : Int) + 1) = true := decide_eq_true (by omega)
          have ew : IntKind.i64.wrap (i : Int) = (i : Int) := IntWalk.i64_in _ (by omega)
          have ew1 : IntKind.i64.wrap ((i : Int) + 1 - 1) = (i : Int) := by rw [IntWalk.i64_in _ (by omega)]; omega
          have i0 : (0 : Int) ≤ (i : Int) := by omega
          have i1 : (i : Int) < (i : Int) + 1 := by omega
          have s2 : a2.isSome = true := hent.isSome (by decide) (i := i) (by simp; omega)
          clear q9 hkt
          go_wp2
          refine wp_region_still_tail 11 (by kernel_rfl) (by kernel_rfl) ?_
          simp only [List.take_succ_cons, List.take_zero, List.drop_succ_cons, List.drop_zero]
          change wpStill _ _ (W.drewN 1) _ _ _
          repeat still_step
          try refine wpStill_nil ?_
          change wpList _ _ _ _ _ (W.drewN 1)
          go_wp2_with fail
          refine (rless_any _ hk0 hK32).mono ?_
          rintro e w5 ⟨rfl, hb5⟩
          have hb6 : Below W.heap.size W w5 := Below.drewN' (n := 1) hb5
          clear q0 q9' ew ew1 hb5
          go_wp2
          go_meet
          exact ⟨by rw [← HL.out], hb6⟩
      case rest =>
        obtain ⟨rfl, hbx⟩ := hcut
        have hbr : Below wr.heap.size wr wc := Gr.trans hbW hbx
        have BX := BW.below hbx
        have hbw : Below w.heap.size w wc := hb.trans (hbr.mono hsw)
        have hsx := hbw.size
        clear BW hbW hbx hb hrow4
        rcases Bool.eq_false_or_eq_true (risesB kC (l0.take (j + 1))) with h | h
        · have HRR := Lib.hid h
          rw [h]
          have q1 := ldOp_all (P := Try.prog) (ty := 80) BX Try.underlying80 rfl (by rw [hel]; exact sizeCD)
          have q1' : (ldOp 80 (.pointer (some ⟨w2.heap.size, 0, none⟩))).run Try.prog wc = .ok (.agg (entA (K, [(x : Int), (y : Int)]))) wc := q1
          have hsrc : Src Try.prog 34 23 (.slice (some ⟨wc.heap.size, 0, none⟩) 1 1) 1 (entL (K, [(x : Int), (y : Int)])) (wc.alloc (.cells (entA (K, [(x : Int), (y : Int)])) 80)) :=
            Src.ofRow eCD.ht _ 1 1 _ (by decide) (by rw [hel]) (row_alloc _ _ _ _) (entL_one _)
          obtain ⟨v', w5, hrun, hown2, hg2⟩ := append_src (ty := 23) eCD ((ownsRow_below hv hbr).alloc (.cells (entA (K, [(x : Int), (y : Int)])) 80)) hsrc (by unfold maxLen; omega) (by omega) (by simp; omega)
          have hb5 : Below w.heap.size w w5 := (hbw.alloc hsx _).trans (Below.ofGrown hg2 ((ownsRow_below hv hbr).alloc _) (by simp; omega))
          have HV : Hid (w5.ownsRow w.heap.size 80 34 v' (j + 1) ((l0.take (j + 1)).map entL).flatten) := by
            show World.ownsRow _ _ _ _ _ _ _
            rw [HT.out]; exact hown2
          clear hown2 hg2 hsrc hv hbr hbw q1 BX h hri hall
          go_wp2_with (at_builtin; refine wpList_append_run hrun rfl rfl rfl rfl ?_)
          first
            | exact ⟨⟨j + 1, by omega, (by first | rfl | go_num | (congr 1; omega)), HV.out, HRR.out, hb5⟩, by simp [intOf] <;> omega⟩
            | (refine ⟨?_, by simp [intOf] <;> omega⟩; (repeat apply Exists.intro); exact ⟨⟨j + 1, by omega, (by first | rfl | go_num | (congr 1; omega)), HV.out, HRR.out, hb5⟩, rfl⟩)
        · have HRR := Lib.hid (D2.out (risesB_down h))
          rw [h]
          clear h hv BX
          go_wp2
          go_ret2
          rw [HRR.out]
          exact ⟨_, rfl, EntV.nil _ _, hbw⟩
    · obtain rfl : j = N := by omega
      have hfit := HFIT.out
      obtain ⟨a2, c2, rfl, hjc, hcm, hrow4, _⟩ := owns_atS hv
      have e0 : l0.take j = l0 := List.take_of_length_le (by omega)
      rw [e0] at hrow4 hri
      have HRR := Lib.hid (D1.out hri)
      have j3 : ¬ (j : Int) < (j : Int) := by omega
      clear hv e0 hri hlt
      go_wp2
      go_ret2
      rw [HRR.out]
      exact ⟨_, rfl, ⟨a2, c2, by rw [hl0]; rfl, Nat.le_trans (Nat.le_of_eq hl0) hjc, hcm, hrow4, fun r hr => ent_len_CD (hfit r hr)⟩, hb⟩
theorem rows_US {l : List UInt8} {N j : Nat} (h : j < (rowsF kU (l.drop 12) N).length) : (rowsF kU (l.drop 12) N)[j] = ([], [(getL ((l.drop (12 + j * 12)).take 4) : Int), (getL ((l.drop (12 + j * 12 + 4)).take 4) : Int), (getL ((l.drop (12 + j * 12 + 8)).take 4) : Int)]) := by
  simp only [rowsF, List.getElem_map, List.getElem_range, rowF, List.drop_drop]
  rfl
set_option maxHeartbeats 4000000 in
theorem rrdUS_any {a : Option Addr} {n c : Nat} {l : List UInt8} {w : World} (hn : n = l.length) (hc : n ≤ c) (hl : Row w a (l.map b8)) (hm : l.length ≤ 3000000) :
    Calls Try.prog 25 #[.slice a n c] w fun e w' => ∃ v, e = .returned (.tuple #[v, .int .i64 (readF kU l).2]) ∧ EntV 3 w' v (readF kU l).1 ∧ Below w.heap.size w w' := by
  subst hn
  have D1 := Lib.hid (doc_ok (k := kU) (l := l))
  have D2 := Lib.hid (doc_no (k := kU) (l := l))
  have D3 := Lib.hid (doc_some (k := kU) (l := l))
  have hsz : kU.size = 12 := rfl
  have HROW := Lib.hid (fun N j h => rows_US (l := l) (N := N) (j := j) h)
  have HLEN := Lib.hid (rowsF_length kU (l.drop 12) (rowsN kU l))
  have HFIT : Hid (∀ r ∈ rowsF kU (l.drop 12) (rowsN kU l), fitR kU r) := by
    show ∀ _, _
    rcases Nat.eq_zero_or_pos (rowsN kU l) with h | h
    · rw [h]; intro r hr; cases hr
    · obtain ⟨_, _, h3⟩ := D3.out h
      exact rowsF_fit (by rw [List.length_drop]; omega)
  have hm' : l.length ≤ 140737488355328 := by omega
  go_enter Try.func25, Try.ntmps25
  go_wp2_with fail
  refine (rrows_any kU kU_good rfl hc hl (by omega)).mono ?_
  rintro e w1 ⟨rfl, hb1⟩
  have HR := Lib.hid (HROW.out (rowsN kU l))
  have HN0 : Hid (rowsN kU l ≤ 65536) := by
    show _ ≤ _
    rcases Nat.eq_zero_or_pos (rowsN kU l) with h | h
    · omega
    · exact (D3.out h).2.1
  clear HROW
  generalize rowsF kU (l.drop 12) (rowsN kU l) = l0 at *
  generalize rowsN kU l = N at *
  generalize rowsE kU l = E at *
  have hl0 : l0.length = N := HLEN.out
  have hN0 := HN0.out
  go_wp2
  go_loopw [6, 7] (fun v i wr => ∃ j : Nat, j ≤ N ∧ i = .int .i64 j ∧ wr.ownsRow w.heap.size 84 3 v j ((l0.take j).map entL).flatten ∧ risesB kU (l0.take j) = true ∧ Below w.heap.size w wr) (fun _ i _ => N - (intOf i).toNat)
  case atStart => exact ⟨0, Nat.zero_le _, rfl, World.ownsRow_nil _ _ _ _, by rw [List.take_zero]; rfl, hb1⟩
  case round =>
    clear hb1
    obtain ⟨j, hj, rfl, hv, hri, hb⟩ := hrel
    by_cases hlt : j < N
    · obtain ⟨hE0, _, hlen⟩ := D3.out (by omega)
      have hjl : j < l0.length := by omega
      have hbb : (j + 1) * 12 ≤ N * 12 := Nat.mul_le_mul (by omega) (Nat.le_refl _)
      rw [hsz] at hlen
      have hrow := hl.below hb
      have hfit := HFIT.out
      have HE := Lib.hid (HR.out j hjl)
      have j0 : (0 : Int) ≤ (j : Int) := by omega
      have j1 : (j : Int) ≤ 65536 := by omega
      have j2 : (j : Int) < (N : Int) := by omega
      have hall : ∀ r ∈ l0.take j, (entL r).length = 3 := fun r hr => ent_len_US (hfit r (List.mem_of_mem_take hr))
      obtain ⟨a2, c2, rfl, hjc, _, hrow4, _⟩ := owns_atS hv
      have hsw := hb.size
      have HT : Hid (((l0.take (j + 1)).map entL).flatten = ((l0.take j).map entL).flatten ++ entL l0[j]) := by
        show _ = _
        rw [List.take_succ_eq_append_getElem hjl]
        simp only [List.map_append, List.flatten_append, List.map_cons, List.map_nil, List.flatten_cons, List.flatten_nil, List.append_nil]
      have z0 : Hid (12 + 12 * (j : Int) = ((12 + j * 12 : Nat) : Int)) := by show _ = _; omega
      have y0 : 12 + j * 12 + 4 ≤ l.length := by omega
      have z4 : Hid (12 + 12 * (j : Int) + 4 = ((12 + j * 12 + 4 : Nat) : Int)) := by show _ = _; omega
      have y4 : 12 + j * 12 + 4 + 4 ≤ l.length := by omega
      have z8 : Hid (12 + 12 * (j : Int) + 8 = ((12 + j * 12 + 8 : Nat) : Int)) := by show _ = _; omega
      have y8 : 12 + j * 12 + 8 + 4 ≤ l.length := by omega
      clear hlen hbb
      obtain ⟨w2, hw2⟩ : ∃ w2, w2 = wr := ⟨_, rfl⟩
      have hb2 : Below wr.heap.size wr w2 := by rw [hw2]; exact Below.refl _ _
      have hrow2 : Row w2 a (l.map b8) := by rw [hw2]; exact hrow
      rw [← hw2]
      clear hw2
      go_wp2_with fail
      refine (at_int (i := 12 + j * 12) z0.out rfl hc hrow2 y0 hm').mono ?_
      rintro e w3 ⟨rfl, rfl⟩
      go_wp2_with fail
      refine (at_int (i := 12 + j * 12 + 4) z4.out rfl hc hrow2 y4 hm').mono ?_
      rintro e w3 ⟨rfl, rfl⟩
      go_wp2_with fail
      refine (at_int (i := 12 + j * 12 + 8) z8.out rfl hc hrow2 y8 hm').mono ?_
      rintro e w3 ⟨rfl, rfl⟩

      generalize getL ((l.drop (12 + j * 12)).take 4) = x at *
      generalize getL ((l.drop (12 + j * 12 + 4)).take 4) = y at *
      generalize getL ((l.drop (12 + j * 12 + 8)).take 4) = z at *
      have q3 := fun (w : World) => r_bdUS (w := w) (x := (x : Int)) (y := (y : Int)) (z := (z : Int))
      have hel : (entL ([], [(x : Int), (y : Int), (z : Int)])).length = 3 := by simp [entL]
      have q2 : (entA ([], [(x : Int), (y : Int), (z : Int)])).size = 3 := by simpa [entA] using hel
      have oA := entA_one ([], [(x : Int), (y : Int), (z : Int)])
      have zs := zUS_size
      rw [HE.out] at HT
      go_upto_region 8 with (fail)
      have hbW : Below wr.heap.size wr (w2.alloc (.cells (entA ([], [(x : Int), (y : Int), (z : Int)])) 84)) := hb2.alloc hb2.size _
      have BW : Blk (w2.alloc (.cells (entA ([], [(x : Int), (y : Int), (z : Int)])) 84)) w2.heap.size 84 (entL ([], [(x : Int), (y : Int), (z : Int)])) := Blk.new w2 84 _
      generalize w2.alloc (.cells (entA ([], [(x : Int), (y : Int), (z : Int)])) 84) = W at *
      clear q3 hrow hrow2 hb2
      go_cut [51] (fun s0 wx => s0 = .bool (!risesB kU (l0.take (j + 1))) ∧ Below W.heap.size W wx)
      case first =>
        by_cases hj0 : j = 0
        · subst hj0
          have HL : Hid (risesB kU (l0.take (0 + 1)) = true) := risesB_one _ _
          go_wp2
          go_quiet (fail)
          go_wp2
          go_meet
          exact ⟨by rw [HL.out]; rfl, Below.drewN (Below.refl _ _) _⟩
        · obtain ⟨i, rfl⟩ : ∃ i, j = i + 1 := ⟨j - 1, by omega⟩
          have hil : i < l0.length := Nat.lt_of_succ_lt hjl
          have hent : EntRd 3 wr a2 (l0.take (i + 1)) := ⟨hrow4, hall⟩
          obtain ⟨key0, nums0, h0⟩ : ∃ key0 nums0, l0[i]'hil = (key0, nums0) := ⟨_, _, rfl⟩
          have hf0 := hfit _ (List.getElem_mem hil)
          rw [h0] at hf0
          obtain ⟨e1, e2⟩ := hf0
          obtain rfl : key0 = [] := List.eq_nil_of_length_eq_zero e1
          obtain ⟨x0, rest0, rfl⟩ : ∃ x0 rest0, nums0 = x0 :: rest0 := by
            cases nums0 with
            | nil => cases e2
            | cons x0 r0 => exact ⟨x0, r0, rfl⟩
          have hkt : ((l0.take (i + 1))[i]'(by simp; omega)) = l0[i]'hil := by simp
          have q0 := (hent.below hbW).cell0 (i := i) (v := .int .i64 x0) (by simp; omega) (by rw [hkt, h0]; rfl)
          have q9 : W.cell? ⟨w2.heap.size, 0, none⟩ = some (.int .i64 (x : Int)) := BW.cell rfl
          have HL : Hid (decide (x0 < (x : Int)) = risesB kU (l0.take (i + 1 + 1))) := by
            show _ = _
            rw [risesB_take kU l0 i hjl, hri, Bool.true_and, HE.out, h0]
            unfold aheadB
            rw [if_neg (by decide)]
            rfl
          have i6 : decide ((0 : Int) < (i : Int) + 1) = true := decide_eq_true (by omega)
          have ew : IntKind.i64.wrap (i : Int) = (i : Int) := IntWalk.i64_in _ (by omega)
          have ew1 : IntKind.i64.wrap ((i : Int) + 1 - 1) = (i : Int) := by rw [IntWalk.i64_in _ (by omega)]; omega
          have i0 : (0 : Int) ≤ (i : Int) := by omega
          have i1 : (i : Int) < (i : Int) + 1 := by omega
          have s2 : a2.isSome = true := hent.isSome (by decide) (i := i) (by simp; omega)
          clear hkt h0 e1 e2
          go_wp2
          go_quiet (fail)
          go_wp2
          go_meet
          refine ⟨?_, Below.drewN (Below.refl _ _) _⟩
          rw [← HL.out]
          by_cases hx : x0 < (x : Int)
          · simp [hx] <;> omega
          · simp [hx] <;> omega
      case rest =>
        obtain ⟨rfl, hbx⟩ := hcut
        have hbr : Below wr.heap.size wr wc := Gr.trans hbW hbx
        have BX := BW.below hbx
        have hbw : Below w.heap.size w wc := hb.trans (hbr.mono hsw)
        have hsx := hbw.size
        clear BW hbW hbx hb hrow4
        rcases Bool.eq_false_or_eq_true (risesB kU (l0.take (j + 1))) with h | h
        · have HRR := Lib.hid h
          rw [h]
          have q1 := ldOp_all (P := Try.prog) (ty := 84) BX Try.underlying84 rfl (by rw [hel]; exact sizeUS)
          have q1' : (ldOp 84 (.pointer (some ⟨w2.heap.size, 0, none⟩))).run Try.prog wc = .ok (.agg (entA ([], [(x : Int), (y : Int), (z : Int)]))) wc := q1
          have hsrc : Src Try.prog 3 24 (.slice (some ⟨wc.heap.size, 0, none⟩) 1 1) 1 (entL ([], [(x : Int), (y : Int), (z : Int)])) (wc.alloc (.cells (entA ([], [(x : Int), (y : Int), (z : Int)])) 84)) :=
            Src.ofRow eUS.ht _ 1 1 _ (by decide) (by rw [hel]) (row_alloc _ _ _ _) (entL_one _)
          obtain ⟨v', w5, hrun, hown2, hg2⟩ := append_src (ty := 24) eUS ((ownsRow_below hv hbr).alloc (.cells (entA ([], [(x : Int), (y : Int), (z : Int)])) 84)) hsrc (by unfold maxLen; omega) (by omega) (by simp; omega)
          have hb5 : Below w.heap.size w w5 := (hbw.alloc hsx _).trans (Below.ofGrown hg2 ((ownsRow_below hv hbr).alloc _) (by simp; omega))
          have HV : Hid (w5.ownsRow w.heap.size 84 3 v' (j + 1) ((l0.take (j + 1)).map entL).flatten) := by
            show World.ownsRow _ _ _ _ _ _ _
            rw [HT.out]; exact hown2
          clear hown2 hg2 hsrc hv hbr hbw q1 BX h hri hall
          go_wp2_with (at_builtin; refine wpList_append_run hrun rfl rfl rfl rfl ?_)
          first
            | exact ⟨⟨j + 1, by omega, (by first | rfl | go_num | (congr 1; omega)), HV.out, HRR.out, hb5⟩, by simp [intOf] <;> omega⟩
            | (refine ⟨?_, by simp [intOf] <;> omega⟩; (repeat apply Exists.intro); exact ⟨⟨j + 1, by omega, (by first | rfl | go_num | (congr 1; omega)), HV.out, HRR.out, hb5⟩, rfl⟩)
        · have HRR := Lib.hid (D2.out (risesB_down h))
          rw [h]
          clear h hv BX
          go_wp2
          go_ret2
          rw [HRR.out]
          exact ⟨_, rfl, EntV.nil _ _, hbw⟩
    · obtain rfl : j = N := by omega
      have hfit := HFIT.out
      obtain ⟨a2, c2, rfl, hjc, hcm, hrow4, _⟩ := owns_atS hv
      have e0 : l0.take j = l0 := List.take_of_length_le (by omega)
      rw [e0] at hrow4 hri
      have HRR := Lib.hid (D1.out hri)
      have j3 : ¬ (j : Int) < (j : Int) := by omega
      clear hv e0 hri hlt
      go_wp2
      go_ret2
      rw [HRR.out]
      exact ⟨_, rfl, ⟨a2, c2, by rw [hl0]; rfl, Nat.le_trans (Nat.le_of_eq hl0) hjc, hcm, hrow4, fun r hr => ent_len_US (hfit r hr)⟩, hb⟩
end Go.Proofs.Ytcomcljpnjeogaa
