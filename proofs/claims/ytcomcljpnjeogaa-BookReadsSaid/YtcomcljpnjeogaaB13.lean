/- The walk of layer 13's (kind).read; ReadIndex, ReadCounts, ReadUses. -/
import Derived.Test.YtcomcljpnjeogaaB12
import Derived.Test.YtcomcljpnjeogaaB7
set_option maxRecDepth 20000
namespace Go.Proofs.Ytcomcljpnjeogaa
open Go.RowKit Go.Hd

/-- Rows that a call hands back. -/
def RowsV (w : World) (v : Value) (l : List BRow) : Prop := ∃ a c, v = .slice a l.length c ∧ l.length ≤ c ∧ c ≤ maxLen ∧ RowsRd w a l
theorem RowsV.nil (w : World) : RowsV w (.slice none 0 0) [] := ⟨none, 0, rfl, Nat.le_refl _, Nat.zero_le _, [], Row.nil _ _, RowsIs.nil _ _⟩
theorem read_short {k : BKind} {l : List UInt8} (h : l.length < 12) : readF k l = ([], 3) := by
  have e : rowsE k l = 3 := by unfold rowsE; rw [if_pos h]
  unfold readF; rw [e, if_pos (by decide)]
theorem read_form {k : BKind} {l : List UInt8} (h : ¬ l.length < 12) (h2 : l.take 8 ≠ k.magic ∨ 65536 < cntF l) : readF k l = ([], 4) := by
  have e : rowsE k l = 4 := by unfold cntF at h2; unfold rowsE; rw [if_neg h, if_pos h2]
  unfold readF; rw [e, if_pos (by decide)]
theorem read_small {k : BKind} {l : List UInt8} (h : ¬ l.length < 12) (h2 : l.take 8 = k.magic) (h3 : cntF l ≤ 65536) (h4 : l.length < 20 + cntF l * k.size) : readF k l = ([], 3) := by
  have e : rowsE k l = 3 := by unfold cntF at h3 h4; unfold rowsE; rw [if_neg h, if_neg (by simp [h2]; omega), if_pos h4]
  unfold readF; rw [e, if_pos (by decide)]
theorem read_rest {k : BKind} {l : List UInt8} (h : ¬ l.length < 12) (h2 : l.take 8 = k.magic) (h3 : cntF l ≤ 65536) (h4 : 20 + cntF l * k.size < l.length) : readF k l = ([], 6) := by
  have e : rowsE k l = 6 := by
    unfold rowsE
    unfold cntF at h3 h4
    rw [if_neg h, if_neg (by simp [h2]; omega), if_neg (by omega), if_pos h4]
  unfold readF; rw [e, if_pos (by decide)]
theorem read_sum {k : BKind} {l : List UInt8} (h : ¬ l.length < 12) (h2 : l.take 8 = k.magic) (h3 : cntF l ≤ 65536) (h4 : l.length = 20 + cntF l * k.size) :
    readF k l = if getL (l.drop (12 + cntF l * k.size)) ≠ (sumF (l.take (12 + cntF l * k.size)) 0).toNat then ([], 13) else if risesB k (rowsF k (l.drop 12) (cntF l)) = false then ([], 18) else (rowsF k (l.drop 12) (cntF l), 0) := by
  have e : rowsE k l = if getL (l.drop (12 + cntF l * k.size)) ≠ (sumF (l.take (12 + cntF l * k.size)) 0).toNat then 13 else 0 := by
    unfold rowsE
    unfold cntF at *
    rw [if_neg h, if_neg (by simp [h2]; omega), if_neg (by omega), if_neg (by omega)]
  unfold readF
  rw [e]
  by_cases hs : getL (l.drop (12 + cntF l * k.size)) ≠ (sumF (l.take (12 + cntF l * k.size)) 0).toNat
  · rw [if_pos hs, if_pos hs, if_pos (by decide)]
  · rw [if_neg hs, if_neg hs, if_neg (by decide)]
theorem cnt_lt (l : List UInt8) : cntF l < 4294967296 := by
  unfold cntF
  have h1 := getL_lt ((l.drop 8).take 4)
  have h2 : 256 ^ ((l.drop 8).take 4).length ≤ 256 ^ 4 := Nat.pow_le_pow_right (by decide) (by rw [List.length_take]; omega)
  have h3 : (256 ^ 4 : Nat) = 4294967296 := by decide
  omega

set_option maxHeartbeats 4000000 in
theorem read_any (k : BKind) {w : World} (hk : k.good) {a : Option Addr} {n c : Nat} {l : List UInt8} (hn : n = l.length) (hc : n ≤ c) (hl : Row w a (l.map b8)) (hm : l.length ≤ 140737488355328) :
    Calls Try.prog 44 #[.agg #[.string (str k.magic), .bool (keyed k), .int .i64 (k.nums : Int)], .slice a n c] w fun e w' => ∃ v, e = .returned (.tuple #[v, .int .i64 (readF k l).2]) ∧ RowsV w' v (readF k l).1 ∧ Below w.heap.size w w' := by
  subst hn
  have hb0 : Below w.heap.size w (w.alloc (.cells #[.string (str k.magic), .bool (keyed k), .int .i64 (k.nums : Int)] 61)) := (Below.refl _ _).alloc (Nat.le_refl _) _
  have B0 : Blk (w.alloc (.cells #[.string (str k.magic), .bool (keyed k), .int .i64 (k.nums : Int)] 61)) w.heap.size 61 [.string (str k.magic), .bool (keyed k), .int .i64 (k.nums : Int)] := Blk.new _ _ _
  have hgl := B0.lt
  have HK := Lib.hid hk
  clear hk
  by_cases h12 : l.length < 12
  · have HR := Lib.hid (read_short (k := k) h12)
    clear B0
    go_enter Try.func44, Try.ntmps44
    go_wp2
    go_ret2
    rw [HR.out]
    exact ⟨_, rfl, RowsV.nil _, hb0⟩
  · have hl0 := hl.below hb0
    go_enter Try.func44, Try.ntmps44
    go_wp2_with fail
    refine (open_any rfl hl0 hm).mono ?_
    rintro e w1 ⟨g, rfl, hg, hrd, hb1⟩
    have hbw1 := hb0.trans (hb1.mono hb0.size)
    have Bk1 := B0.below hb1
    have hgN : w.heap.size < g := by omega
    clear hb0 B0 hl0
    go_wp2_with fail
    refine (text_n (n := 8) hrd (by omega)).mono ?_
    rintro e w2 ⟨rfl, hrd2, hg2⟩
    have hbw2 := Gr.ofGrown hbw1 hg2 (by omega)
    have Bk2 := Bk1.keptBy hg2 (fun e => by cases e; omega)
    have hs2 := hg2.size
    have hcn : getL ((l.drop 8).take 4) = cntF l := rfl
    go_wp2_with fail
    refine (num_n (n := 4) hrd2 (by decide) (by decide) (by rw [List.length_drop]; omega)).mono ?_
    rintro e w3 ⟨rfl, hrd3, hg3⟩
    rw [hcn, List.drop_drop] at *
    have hbw3 := Gr.ofGrown hbw2 hg3 (by omega)
    have Bk3 := Bk2.keptBy hg3 (fun e => by cases e; omega)
    have hs3 := hg3.size
    clear hcn hrd hrd2 Bk1 Bk2 hbw1 hbw2 hg2 hg3
    have hlt := cnt_lt l
    have hR1 := Lib.hid (fun h => read_form (k := k) h12 h)
    have hR2 := Lib.hid (read_small (k := k) h12)
    have hR3 := Lib.hid (read_rest (k := k) h12)
    have hR4 := Lib.hid (read_sum (k := k) h12)
    generalize hC : cntF l = C at *
    have HCC := Lib.hid hC
    clear hC
    have eC : IntKind.i64.wrap (C : Int) = (C : Int) := IntWalk.i64_in _ (by omega)
    have cm : w3.cell? ⟨w.heap.size, 0, none⟩ = _ := Bk3.cell rfl
    by_cases hmg : l.take 8 = k.magic
    · have t1 : ((str (l.take 8)).toList == (str k.magic).toList) = true := by rw [str_beq, hmg]; simp
      have HM := Lib.hid hmg
      clear hmg
      generalize l.take 8 = M8 at *
      by_cases hcm : 65536 < C
      · have HR := Lib.hid (hR1.out (.inr hcm))
        go_wp2
        go_ret2
        rw [HR.out]
        exact ⟨_, rfl, RowsV.nil _, hbw3⟩
      · have hsz44 : k.size ≤ 44 := by rcases HK.out.2.1 with h | h <;> (have := HK.out.2.2.2; unfold BKind.size; omega)
        have hP : C * k.size ≤ 65536 * 44 := Nat.mul_le_mul (by omega) hsz44
        have c1 : w3.cell? ⟨w.heap.size, 1, none⟩ = _ := Bk3.cell rfl
        have c2 : w3.cell? ⟨w.heap.size, 2, none⟩ = _ := Bk3.cell rfl
        have hcm' : C ≤ 65536 := by omega
        have HX2 := Lib.hid (hR2.out HM.out hcm')
        have HX3 := Lib.hid (hR3.out HM.out hcm')
        have HX4 := Lib.hid (hR4.out HM.out hcm')
        clear hR1 hR2 hR3 hR4
        go_wp2_with fail
        refine (size_any k _ HK.out (str k.magic)).mono ?_
        rintro e w4 ⟨rfl, hb4⟩
        have hbw4 := Gr.trans hbw3 hb4
        have Bk4 := Bk3.below hb4
        have hrd4 := hrd3.keep hb4
        have eP : IntKind.i64.wrap ((C : Int) * (k.size : Int)) = ((C * k.size : Nat) : Int) := by rw [IntWalk.i64_in _ (by rw [← Int.natCast_mul]; omega), Int.natCast_mul]
        have hs4 := hb4.size
        generalize hPe : C * k.size = P at *
        have HP := Lib.hid hPe
        clear hPe cm c1 c2 hrd3 Bk3 hb4
        by_cases hq1 : l.length < 20 + P
        · have HR := Lib.hid (HX2.out hq1)
          go_wp2
          go_ret2
          rw [HR.out]
          exact ⟨_, rfl, RowsV.nil _, hbw4⟩
        · by_cases hq2 : 20 + P < l.length
          · have HR := Lib.hid (HX3.out hq2)
            go_wp2
            go_ret2
            rw [HR.out]
            exact ⟨_, rfl, RowsV.nil _, hbw4⟩
          · have hq : l.length = 20 + P := by omega
            have HR := Lib.hid (HX4.out hq)
            have HQ := Lib.hid hq
            have cm : w4.cell? ⟨w.heap.size, 0, none⟩ = _ := Bk4.cell rfl
            have c1 : w4.cell? ⟨w.heap.size, 1, none⟩ = _ := Bk4.cell rfl
            have c2 : w4.cell? ⟨w.heap.size, 2, none⟩ = _ := Bk4.cell rfl
            clear hq HX2 HX3 HX4
            go_wp2_with fail
            refine (rows_any k HK.out (str k.magic) (n := C) hrd4 (by omega) (by rw [HP.out, List.length_drop]; omega) (by rw [List.length_drop]; omega) hcm').mono ?_
            rintro e w5 ⟨v5, rfl, hrows, hrd5, hkp5⟩
            have hbw5 : Below w.heap.size w w5 := hbw4.trans (hkp5.below hbw4.size (fun q hq => by cases hq; omega))
            have Bk5 := Bk4.kp hkp5 Bk4.lt (by simp; omega)
            rw [HP.out, List.drop_drop] at hrd5
            obtain ⟨a', c', hsl, hc1, hc2, hrow'⟩ := cut_h (P := Try.prog) (t := 27) (e := 5) (s := 1) eB.ht (by kernel_rfl) hl (n := l.length) (k2 := .i64) (j := 12 + (P : Int)) (q := 12 + P) (by omega) (by omega : 12 + P ≤ c)
            rw [Nat.mul_one, ← List.map_take] at hrow'
            have e8 : IntKind.i64.wrap (12 + (P : Int) + 8 - 8) = 12 + (P : Int) := by rw [IntWalk.i64_in _ (by omega)]; omega
            have e9 : IntKind.i64.wrap (12 + (P : Int)) = 12 + (P : Int) := IntWalk.i64_in _ (by omega)
            have hq8 : 8 ≤ (l.drop (12 + P)).length := by rw [List.length_drop]; omega
            have htk : (l.take (12 + P)).length = 12 + P := by rw [List.length_take]; omega
            have hdr : (l.drop (12 + P)).take 8 = l.drop (12 + P) := List.take_of_length_le (by rw [List.length_drop]; omega)
            have hrd5' := hrd5.drewN 1
            have hgl4 : g < w4.heap.size := hrd4.lt
            have hRow := RowsB.of hrows
            have hfits : ∀ r ∈ rowsF k (l.drop 12) C, fitR k r := rowsF_fit (by rw [HP.out, List.length_drop]; omega)
            have hrl : (rowsF k (l.drop 12) C).length ≤ 65536 := by rw [rowsF_length]; omega
            have HRD : Hid (getL ((l.drop (12 + P)).take 8) = getL (l.drop (12 + P))) := by show _ = _; rw [hdr]
            have hlm : (l.take (12 + P)).length ≤ 140737488355328 := by omega
            have hbw5' : Below w.heap.size w (w5.drewN 1) := Below.drewN hbw5 1
            have c0' : w5.cell? ⟨w.heap.size, 0, none⟩ = _ := Bk5.cell rfl
            have c1' : w5.cell? ⟨w.heap.size, 1, none⟩ = _ := Bk5.cell rfl
            have c2' : w5.cell? ⟨w.heap.size, 2, none⟩ = _ := Bk5.cell rfl
            clear eP hdr cm c1 c2 hrd4 Bk4
            go_wp2
            go_region_law ((first
              | (go_simp; go_at_call 61; refine (num_n (n := 8) hrd5' (by decide) (by decide) hq8).mono ?_; rintro e w6 ⟨rfl, hrd6, hg6⟩; have hb6 : Below w.heap.size w w6 := Gr.ofGrown hbw5' hg6 (by omega))
              | (go_simp; go_at_call 56; refine (xsum_any (l := l.take (12 + P)) 0 (by rfl) htk.symm (hrow'.below hb6) hc1 hlm).mono ?_; rintro e w7 ⟨rfl, hb7⟩)))
            all_goals
              have hg6' := grownBy_undrew (n := 1) hg6
              have hRow7 := (hRow.kept hg6' (fun q hq => by cases hq; left; omega)).below hb7
              have hR7 := hRow7.own (Nat.le_trans hg6'.size hb7.size)
              have Bk7 := (Bk5.keptBy hg6' (fun e => by cases e; omega)).below hb7
              have hbw7 := Gr.trans hb6 hb7
              obtain ⟨a5, d5, rfl, hd1, hd2, hrd7⟩ := hR7.rd
              have x0 : w7.cell? ⟨w.heap.size, 0, none⟩ = _ := Bk7.cell rfl
              have x1 : w7.cell? ⟨w.heap.size, 1, none⟩ = _ := Bk7.cell rfl
              have x2 : w7.cell? ⟨w.heap.size, 2, none⟩ = _ := Bk7.cell rfl
              rw [HRD.out]
              clear hRow hRow7 hR7 hg6 hg6' hb6 hrd6 c0' c1' c2' hrows hkp5 hrd5 hrd5' hbw5 hbw5' Bk5 hsl
              generalize rowsF k (l.drop 12) C = RS at *
              by_cases hs : getL (l.drop (12 + P)) = (sumF (l.take (12 + P)) 0).toNat
              · have HS : Hid (readF k l = if risesB k RS = false then ([], 18) else (RS, 0)) := by show _ = _; rw [HR.out, if_neg (by simpa using hs)]
                have t2 : ((getL (l.drop (12 + P)) : Int) != ((sumF (l.take (12 + P)) 0).toNat : Int)) = false := by rw [hs]; simp
                have t3 : ((getL (l.drop (12 + P)) : Int) != ((sumF (l.take (12 + P)) 0#64).toNat : Int)) = false := t2
                clear hs HR
                generalize getL (l.drop (12 + P)) = X at *
                rw [t3]
                go_wp2_with fail
                refine (rises_any k HK.out (str k.magic) rfl hrd7 hfits hrl).mono ?_
                rintro e w8 ⟨rfl, hb8⟩
                have hbw8 := Gr.trans hbw7 hb8
                rcases Bool.eq_false_or_eq_true (risesB k RS) with h | h
                · rw [h] at HS ⊢
                  have hv8 := hrd7.below hb8
                  clear h
                  go_wp2
                  go_ret2
                  rw [HS.out]
                  exact ⟨_, rfl, ⟨a5, d5, rfl, hd1, hd2, hv8⟩, hbw8⟩
                · rw [h] at HS ⊢
                  clear h
                  go_wp2
                  go_ret2
                  rw [HS.out]
                  exact ⟨_, rfl, RowsV.nil _, hbw8⟩
              · have HS : Hid (readF k l = ([], 13)) := by show _ = _; rw [HR.out, if_pos hs]
                have t3 : ((getL (l.drop (12 + P)) : Int) != ((sumF (l.take (12 + P)) 0#64).toNat : Int)) = true := by
                  rw [bne_iff_ne]
                  intro e
                  exact hs (by exact_mod_cast e)
                clear hs HR
                generalize getL (l.drop (12 + P)) = X at *
                rw [t3]
                go_wp2
                go_ret2
                rw [HS.out]
                exact ⟨_, rfl, RowsV.nil _, hbw7⟩
    · have t1 : ((str (l.take 8)).toList == (str k.magic).toList) = false := by rw [str_beq]; simp [hmg]
      have HR := Lib.hid (hR1.out (.inl hmg))
      clear hmg
      go_wp2
      go_ret2
      rw [HR.out]
      exact ⟨_, rfl, RowsV.nil _, hbw3⟩

/-- Entries that a call hands back. -/
def EntV (s : Nat) (w : World) (v : Value) (l : List BRow) : Prop := ∃ a c, v = .slice a l.length c ∧ l.length ≤ c ∧ c ≤ maxLen ∧ EntRd s w a l
theorem EntV.below {s : Nat} {w w' : World} {v : Value} {l : List BRow} (h : EntV s w v l) (hb : Below w.heap.size w w') : EntV s w' v l := by
  obtain ⟨a, c, h1, h2, h3, h4⟩ := h
  exact ⟨a, c, h1, h2, h3, h4.below hb⟩
theorem rdidx_any {a : Option Addr} {n c : Nat} {l : List UInt8} {w : World} (hn : n = l.length) (hc : n ≤ c) (hl : Row w a (l.map b8)) (hm : l.length ≤ 140737488355328) :
    Calls Try.prog 17 #[.slice a n c] w fun e w' => ∃ v, e = .returned (.tuple #[v, .int .i64 (readF kI l).2]) ∧ EntV 35 w' v (readF kI l).1 ∧ Below w.heap.size w w' := by
  subst hn
  have hfit := read_fit (k := kI) (b := l)
  have hmax := read_max (k := kI) (b := l)
  go_enter Try.func17, Try.ntmps17
  go_wp2_with fail
  refine (index_any w).mono ?_
  rintro e w1 ⟨rfl, hb1⟩
  go_wp2_with fail
  refine (read_any kI kI_good rfl hc (hl.below hb1) hm).mono ?_
  rintro e w2 ⟨v, rfl, ⟨a2, c2, rfl, _, _, hrd⟩, hb2⟩
  go_wp2_with fail
  refine (back_KD rfl hrd hfit hmax).mono ?_
  rintro e w3 ⟨v3, rfl, hv3, hb3⟩
  go_wp2
  go_ret2
  exact ⟨_, rfl, hv3.rd, Gr.trans (Gr.trans hb1 hb2) hb3⟩
theorem rdcnt_any {a : Option Addr} {n c : Nat} {l : List UInt8} {w : World} (hn : n = l.length) (hc : n ≤ c) (hl : Row w a (l.map b8)) (hm : l.length ≤ 140737488355328) :
    Calls Try.prog 21 #[.slice a n c] w fun e w' => ∃ v, e = .returned (.tuple #[v, .int .i64 (readF kC l).2]) ∧ EntV 34 w' v (readF kC l).1 ∧ Below w.heap.size w w' := by
  subst hn
  have hfit := read_fit (k := kC) (b := l)
  have hmax := read_max (k := kC) (b := l)
  go_enter Try.func21, Try.ntmps21
  go_wp2_with fail
  refine (counts_any w).mono ?_
  rintro e w1 ⟨rfl, hb1⟩
  go_wp2_with fail
  refine (read_any kC kC_good rfl hc (hl.below hb1) hm).mono ?_
  rintro e w2 ⟨v, rfl, ⟨a2, c2, rfl, _, _, hrd⟩, hb2⟩
  go_wp2_with fail
  refine (back_CD rfl hrd hfit hmax).mono ?_
  rintro e w3 ⟨v3, rfl, hv3, hb3⟩
  go_wp2
  go_ret2
  exact ⟨_, rfl, hv3.rd, Gr.trans (Gr.trans hb1 hb2) hb3⟩
theorem rduse_any {a : Option Addr} {n c : Nat} {l : List UInt8} {w : World} (hn : n = l.length) (hc : n ≤ c) (hl : Row w a (l.map b8)) (hm : l.length ≤ 140737488355328) :
    Calls Try.prog 22 #[.slice a n c] w fun e w' => ∃ v, e = .returned (.tuple #[v, .int .i64 (readF kU l).2]) ∧ EntV 3 w' v (readF kU l).1 ∧ Below w.heap.size w w' := by
  subst hn
  have hfit := read_fit (k := kU) (b := l)
  have hmax := read_max (k := kU) (b := l)
  go_enter Try.func22, Try.ntmps22
  go_wp2_with fail
  refine (uses_any w).mono ?_
  rintro e w1 ⟨rfl, hb1⟩
  go_wp2_with fail
  refine (read_any kU kU_good rfl hc (hl.below hb1) hm).mono ?_
  rintro e w2 ⟨v, rfl, ⟨a2, c2, rfl, _, _, hrd⟩, hb2⟩
  go_wp2_with fail
  refine (back_US rfl hrd hfit hmax).mono ?_
  rintro e w3 ⟨v3, rfl, hv3, hb3⟩
  go_wp2
  go_ret2
  exact ⟨_, rfl, hv3.rd, Gr.trans (Gr.trans hb1 hb2) hb3⟩
end Go.Proofs.Ytcomcljpnjeogaa
