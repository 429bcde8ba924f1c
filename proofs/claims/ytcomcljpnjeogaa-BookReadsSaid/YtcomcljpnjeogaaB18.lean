/- Walks of layer 13: the document's Rows, at, key. -/
import Derived.Test.YtcomcljpnjeogaaB13
set_option maxRecDepth 20000
namespace Go.Proofs.Ytcomcljpnjeogaa
open Go.RowKit Go.Hd

theorem re_short {k : BKind} {l : List UInt8} (h : l.length < 12) : rowsE k l = 3 := by
  unfold rowsE; rw [if_pos h]
theorem re_form {k : BKind} {l : List UInt8} (h : ¬ l.length < 12) (h2 : l.take 8 ≠ k.magic ∨ 65536 < cntF l) : rowsE k l = 4 := by
  unfold cntF at h2; unfold rowsE; rw [if_neg h, if_pos h2]
theorem re_small {k : BKind} {l : List UInt8} (h : ¬ l.length < 12) (h2 : l.take 8 = k.magic) (h3 : cntF l ≤ 65536) (h4 : l.length < 20 + cntF l * k.size) : rowsE k l = 3 := by
  unfold cntF at h3 h4; unfold rowsE; rw [if_neg h, if_neg (by simp [h2]; omega), if_pos h4]
theorem re_rest {k : BKind} {l : List UInt8} (h : ¬ l.length < 12) (h2 : l.take 8 = k.magic) (h3 : cntF l ≤ 65536) (h4 : 20 + cntF l * k.size < l.length) : rowsE k l = 6 := by
  unfold rowsE
  unfold cntF at h3 h4
  rw [if_neg h, if_neg (by simp [h2]; omega), if_neg (by omega), if_pos h4]
theorem re_sum {k : BKind} {l : List UInt8} (h : ¬ l.length < 12) (h2 : l.take 8 = k.magic) (h3 : cntF l ≤ 65536) (h4 : l.length = 20 + cntF l * k.size) :
    rowsE k l = if getL (l.drop (12 + cntF l * k.size)) ≠ (sumF (l.take (12 + cntF l * k.size)) 0).toNat then 13 else 0 := by
  unfold rowsE
  unfold cntF at *
  rw [if_neg h, if_neg (by simp [h2]; omega), if_neg (by omega), if_neg (by omega)]
/-- How many rows, as the document says. -/
def rowsN (k : BKind) (l : List UInt8) : Nat := if rowsE k l = 0 then cntF l else 0
theorem rowsN_no {k : BKind} {l : List UInt8} {e : Int} (h : rowsE k l = e) (he : e ≠ 0) : rowsN k l = 0 ∧ rowsE k l = e := ⟨by unfold rowsN; rw [h, if_neg he], h⟩

set_option maxHeartbeats 2000000 in
theorem rrows_any (k : BKind) {w : World} (hk : k.good) {a : Option Addr} {n c : Nat} {l : List UInt8} (hn : n = l.length) (hc : n ≤ c) (hl : Row w a (l.map b8)) (hm : l.length ≤ 140737488355328) :
    Calls Try.prog 51 #[.string (str k.magic), .int .i64 (k.size : Int), .slice a n c] w fun e w' => e = .returned (.tuple #[.int .i64 (rowsN k l : Int), .int .i64 (rowsE k l)]) ∧ Below w.heap.size w w' := by
  subst hn
  have HK := Lib.hid hk
  clear hk
  by_cases h12 : l.length < 12
  · have HR := Lib.hid (rowsN_no (re_short (k := k) h12) (by decide))
    go_enter Try.func51, Try.ntmps51
    go_wp2
    go_ret2
    rw [HR.out.1, HR.out.2]
    exact ⟨rfl, Below.refl _ _⟩
  · obtain ⟨a1, d1, hs1, hd1, _, hr1⟩ := cut_lh (P := Try.prog) (t := 27) (e := 5) (s := 1) eB.ht (by kernel_rfl) hl (n := l.length) (k1 := .i64) (k2 := .i64) (i := 8) (j := 12) (p := 8) (q := 12) rfl rfl (by omega) (by omega : 12 ≤ c)
    obtain ⟨a2, d2, hs2, hd2, _, hr2⟩ := cut_h (P := Try.prog) (t := 27) (e := 5) (s := 1) eB.ht (by kernel_rfl) hl (n := l.length) (k2 := .i64) (j := 8) (q := 8) rfl (by omega : 8 ≤ c)
    simp only [Nat.mul_one] at hr1 hr2
    rw [← List.map_drop, ← List.map_take] at hr1
    rw [← List.map_take] at hr2
    have l1 : ((l.drop 8).take 4).length = 4 := by simp; omega
    have l2 : (l.take 8).length = 8 := by simp; omega
    have hcv := run_convert_row (P := Try.prog) (src := 27) (e := 5) (dst := 9) (c := d2) eB.ht Try.underlying5 Try.underlying9 (n := 8) l2.symm hr2
    have hcn : getL ((l.drop 8).take 4) = cntF l := rfl
    have hlt := cnt_lt l
    have hR1 := Lib.hid (fun h => rowsN_no (re_form (k := k) h12 h) (by decide))
    have hR2 := Lib.hid (fun a b c => rowsN_no (re_small (k := k) h12 a b c) (by decide))
    have hR3 := Lib.hid (fun a b c => rowsN_no (re_rest (k := k) h12 a b c) (by decide))
    have hR4 := Lib.hid (re_sum (k := k) h12)
    have hRN : Hid (rowsE k l = 0 → rowsN k l = cntF l) := fun h => by unfold rowsN; rw [if_pos h]
    go_enter Try.func51, Try.ntmps51
    go_wp2_with fail
    refine (rget_any a1 4 d1 ((l.drop 8).take 4) w l1.symm hr1 (by omega) (by omega)).mono ?_
    rintro e w1 ⟨rfl, rfl⟩
    rw [hcn]
    generalize hC : cntF l = C at *
    have HCC := Lib.hid hC
    clear hC hcn hs1 hr1 l1
    have eC : IntKind.i64.wrap (C : Int) = (C : Int) := IntWalk.i64_in _ (by omega)
    by_cases hmg : l.take 8 = k.magic
    · have t1 : ((str (l.take 8)).toList == (str k.magic).toList) = true := by rw [str_beq, hmg]; simp
      have HM := Lib.hid hmg
      clear hmg
      generalize l.take 8 = M8 at *
      by_cases hcm : 65536 < C
      · have HR := Lib.hid (hR1.out (.inr hcm))
        go_wp2
        go_ret2
        rw [HR.out.1, HR.out.2]
        exact ⟨rfl, Below.refl _ _⟩
      · have hsz44 : k.size ≤ 44 := by rcases HK.out.2.1 with h | h <;> (have := HK.out.2.2.2; unfold BKind.size; omega)
        have hP : C * k.size ≤ 65536 * 44 := Nat.mul_le_mul (by omega) hsz44
        have hcm' : C ≤ 65536 := by omega
        have HX2 := Lib.hid (hR2.out HM.out hcm')
        have HX3 := Lib.hid (hR3.out HM.out hcm')
        have HX4 := Lib.hid (hR4.out HM.out hcm')
        clear hR1 hR2 hR3 hR4
        have eP : IntKind.i64.wrap ((C : Int) * (k.size : Int)) = ((C * k.size : Nat) : Int) := by rw [IntWalk.i64_in _ (by rw [← Int.natCast_mul]; omega), Int.natCast_mul]
        generalize hPe : C * k.size = P at *
        have HP := Lib.hid hPe
        clear hPe
        by_cases hq1 : l.length < 20 + P
        · have HR := Lib.hid (HX2.out hq1)
          go_wp2
          go_ret2
          rw [HR.out.1, HR.out.2]
          exact ⟨rfl, Below.refl _ _⟩
        · by_cases hq2 : 20 + P < l.length
          · have HR := Lib.hid (HX3.out hq2)
            go_wp2
            go_ret2
            rw [HR.out.1, HR.out.2]
            exact ⟨rfl, Below.refl _ _⟩
          · have hq : l.length = 20 + P := by omega
            have HR := Lib.hid (HX4.out hq)
            have HQ := Lib.hid hq
            obtain ⟨a3, d3, hs3, hd3, _, hr3⟩ := cut_l (P := Try.prog) (t := 27) (e := 5) (s := 1) eB.ht (by kernel_rfl) hl (by simp) hc (k1 := .i64) (i := 12 + (P : Int)) (p := 12 + P) (by omega) (by omega : 12 + P ≤ l.length)
            obtain ⟨a4, d4, hs4, hd4, _, hr4⟩ := cut_h (P := Try.prog) (t := 27) (e := 5) (s := 1) eB.ht (by kernel_rfl) hl (n := l.length) (k2 := .i64) (j := 12 + (P : Int)) (q := 12 + P) (by omega) (by omega : 12 + P ≤ c)
            simp only [Nat.mul_one] at hr3 hr4
            rw [← List.map_drop] at hr3
            rw [← List.map_take] at hr4
            have l3 : (l.drop (12 + P)).length = l.length - (12 + P) := by rw [List.length_drop]
            have l4 : (l.take (12 + P)).length = 12 + P := by rw [List.length_take]; omega
            have e9 : IntKind.i64.wrap (12 + (P : Int)) = 12 + (P : Int) := IntWalk.i64_in _ (by omega)
            have l5 : (l.drop (12 + P)).length = 8 := by omega
            have e5 : l.length - (12 + P) = 8 := by omega
            rw [e5] at hs3 hd3
            clear hq l3
            go_wp2_with fail
            refine (rget_any a3 8 d3 (l.drop (12 + P)) w l5.symm hr3 (by omega) (by omega)).mono ?_
            rintro e w2 ⟨rfl, rfl⟩
            go_wp2_with fail
            refine (rsum_any (l := l.take (12 + P)) 0 (by rfl) l4.symm hr4 hd4 (by omega)).mono ?_
            rintro e w3 ⟨rfl, hb3⟩
            clear hs3 hs4 hr3 hr4 hs2 hr2 hcv
            by_cases hs : getL (l.drop (12 + P)) = (sumF (l.take (12 + P)) 0).toNat
            · have HS : Hid (rowsE k l = 0) := by show _ = _; rw [HR.out, if_neg (by simpa using hs)]
              have t3 : ((getL (l.drop (12 + P)) : Int) != ((sumF (l.take (12 + P)) 0).toNat : Int)) = false := by rw [hs]; simp
              clear hs HR
              generalize getL (l.drop (12 + P)) = X at *
              generalize (sumF (l.take (12 + P)) 0).toNat = SS at *
              go_wp2
              go_ret2
              rw [hRN.out HS.out, HS.out]
              exact ⟨rfl, hb3⟩
            · have HS := Lib.hid (rowsN_no (show rowsE k l = 13 by rw [HR.out, if_pos hs]) (by decide))
              have t3 : ((getL (l.drop (12 + P)) : Int) != ((sumF (l.take (12 + P)) 0).toNat : Int)) = true := by
                rw [bne_iff_ne]
                intro e
                exact hs (by exact_mod_cast e)
              clear hs HR
              generalize getL (l.drop (12 + P)) = X at *
              generalize (sumF (l.take (12 + P)) 0).toNat = SS at *
              go_wp2
              go_ret2
              rw [HS.out.1, HS.out.2]
              exact ⟨rfl, hb3⟩
    · have t1 : ((str (l.take 8)).toList == (str k.magic).toList) = false := by rw [str_beq]; simp [hmg]
      have HR := Lib.hid (hR1.out (.inl hmg))
      clear hmg
      generalize l.take 8 = M8 at *
      go_wp2
      go_ret2
      rw [HR.out.1, HR.out.2]
      exact ⟨rfl, Below.refl _ _⟩

theorem at_any {w : World} {a : Option Addr} {n c i : Nat} {l : List UInt8} (hn : n = l.length) (hc : n ≤ c) (hl : Row w a (l.map b8)) (hi : i + 4 ≤ l.length) (hm : l.length ≤ 140737488355328) :
    Calls Try.prog 53 #[.slice a n c, .int .i64 (i : Int)] w fun e w' => e = .returned (.int .i64 (getL ((l.drop i).take 4) : Int)) ∧ w = w' := by
  subst hn
  obtain ⟨a1, d1, hs1, hd1, _, hr1⟩ := cut_lh (P := Try.prog) (t := 27) (e := 5) (s := 1) eB.ht (by kernel_rfl) hl (n := l.length) (k1 := .i64) (k2 := .i64) (i := (i : Int)) (j := (i : Int) + 4) (p := i) (q := i + 4) rfl (by omega) (by omega) (by omega : i + 4 ≤ c)
  have e4 : i + 4 - i = 4 := by omega
  simp only [Nat.mul_one, e4] at hr1 hs1 hd1
  rw [← List.map_drop, ← List.map_take] at hr1
  have l1 : ((l.drop i).take 4).length = 4 := by simp; omega
  have hlt : getL ((l.drop i).take 4) < 4294967296 := by
    have h1 := getL_lt ((l.drop i).take 4)
    have h3 : (256 ^ 4 : Nat) = 4294967296 := by decide
    rw [l1, h3] at h1
    exact h1
  have e9 : IntKind.i64.wrap ((i : Int) + 4) = (i : Int) + 4 := IntWalk.i64_in _ (by omega)
  clear e4
  go_enter Try.func53, Try.ntmps53
  go_wp2_with fail
  refine (rget_any a1 4 d1 ((l.drop i).take 4) w l1.symm hr1 (by omega) (by omega)).mono ?_
  rintro e w1 ⟨rfl, rfl⟩
  have eX : IntKind.i64.wrap (getL ((l.drop i).take 4) : Int) = (getL ((l.drop i).take 4) : Int) := IntWalk.i64_in _ (by omega)
  generalize hX : getL ((l.drop i).take 4) = X at *
  have HX := Lib.hid hX
  clear hs1 hX
  go_wp2
  go_ret
  rw [HX.out]
  exact ⟨rfl, rfl⟩
end Go.Proofs.Ytcomcljpnjeogaa
