/- Walks of layer 9: Look, and the document's. -/
import Derived.Test.YtpkgcnklpnficaaY1
import Derived.Test.YtpkgcnklpnficaaPl9b
namespace Go.Proofs.Ytpkgcnklpnficaa
open Go.ChangeShapes Go.WideShapes Go.ChangeAt Go.RowKit Go.Hd

theorem look_any {a : Option Addr} {n c : Nat} {l : List UInt8} {w : World} (hn : n = l.length) (hl : Row w a (l.map b8)) (hc : n ≤ c) :
    Calls Try.prog 16 #[.slice a n c] w fun e w' => e = .returned (.tuple #[.int .i64 ((lookF l).1 : Int), .int .i64 ((lookF l).2.1 : Int), .int .i64 (lookF l).2.2]) ∧ w = w' := by
  subst hn
  by_cases h5 : l.length < 5
  · have hI : (l.length : Int) < 5 := by omega
    have HL := Lib.hid (lookF_short h5)
    go_enter Try.func16, Try.ntmps16
    go_wp2
    go_ret3
    rw [HL.out]
    exact ⟨rfl, rfl⟩
  · have hI : ¬ (l.length : Int) < 5 := by omega
    obtain ⟨a', c', hsl, h1, h2, hr⟩ := cut_lh (P := Try.prog) (t := 22) (e := 5) (s := 1) (n := l.length) (c := c) eB.ht (by kernel_rfl) hl (k1 := .i64) (k2 := .i64) (i := 1) (j := 5) (p := 1) (q := 5) rfl rfl (by omega) (by omega)
    simp only [Nat.mul_one] at hr
    have hr : Row w a' (((l.drop 1).take 4).map b8) := by rw [List.map_take, List.map_drop]; exact hr
    simp only [show 5 - 1 = 4 from rfl] at hsl h1
    have hxl : ((l.drop 1).take 4).length = 4 := by simp; omega
    have hx := getL_lt ((l.drop 1).take 4)
    rw [hxl] at hx
    have cb : w.cell? ((hd a).add 0) = some (.int .u8 (l[0].toNat : Int)) := hl.byte (by omega)
    have sb := hl.byteSome (i := 0) (by omega)
    have h0 : 0 < l.length := by omega
    have h0I : (0 : Int) < l.length := by omega
    have cb0 : w.cell? (hd a) = some (.int .u8 (l[0].toNat : Int)) := by simpa [Addr.add] using cb
    have hg0 : l.getD 0 0 = l[0] := by
      rw [List.getD_eq_getElem?_getD, List.getElem?_eq_getElem (by omega)]; rfl
    have HL := Lib.hid (fun k => lookF_form h5 k)
    have HK := Lib.hid (fun k k' => lookF_ok h5 k k')
    rw [hg0] at HL HK
    obtain ⟨t, ht⟩ : ∃ t, t = l[0] := ⟨_, rfl⟩
    rw [← ht] at cb cb0 HL HK
    have htl := t.toNat_lt
    obtain ⟨m, hm⟩ : ∃ m, m = sizeL l := ⟨_, rfl⟩
    rw [← hm] at HL HK
    have HM : Hid (getL ((l.drop 1).take 4) = m) := hm.symm
    have hml : m < 4294967296 := by rw [hm]; exact hx
    have HXL := Lib.hid hxl.symm
    clear hx hm ht hg0 hxl
    go_enter Try.func16, Try.ntmps16
    go_wp2_with fail
    refine (get_any a' 4 c' _ w HXL.out hr (by have := HXL.out; omega) (by have := HXL.out; omega)).mono ?_
    rintro e w1 ⟨rfl, rfl⟩
    rw [HM.out]
    by_cases ht1 : 1 < t.toNat
    · have hI1 : (1 : Int) < t.toNat := by omega
      have HL' := Lib.hid (HL.out (.inl ht1))
      go_wp2
      go_ret3
      rw [HL'.out]
      exact ⟨rfl, rfl⟩
    · have hI1 : ¬ (1 : Int) < t.toNat := by omega
      by_cases hm1 : 16379 < m
      · have hI2 : (16379 : Int) < m := by omega
        have HL' := Lib.hid (HL.out (.inr hm1))
        go_wp2
        go_ret3
        rw [HL'.out]
        exact ⟨rfl, rfl⟩
      · have hI2 : ¬ (16379 : Int) < m := by omega
        have HL' := Lib.hid (HK.out ht1 hm1)
        go_wp2
        go_ret3
        rw [HL'.out]
        exact ⟨rfl, rfl⟩
theorem rlook_any {a : Option Addr} {n c : Nat} {l : List UInt8} {w : World} (hn : n = l.length) (hl : Row w a (l.map b8)) (hc : n ≤ c) :
    Calls Try.prog 17 #[.slice a n c] w fun e w' => e = .returned (.tuple #[.int .i64 ((lookF l).1 : Int), .int .i64 ((lookF l).2.1 : Int), .int .i64 (lookF l).2.2]) ∧ w = w' := by
  subst hn
  by_cases h5 : l.length < 5
  · have hI : (l.length : Int) < 5 := by omega
    have HL := Lib.hid (lookF_short h5)
    go_enter Try.func17, Try.ntmps17
    go_wp2
    go_ret3
    rw [HL.out]
    exact ⟨rfl, rfl⟩
  · have hI : ¬ (l.length : Int) < 5 := by omega
    obtain ⟨a', c', hsl, h1, h2, hr⟩ := cut_lh (P := Try.prog) (t := 22) (e := 5) (s := 1) (n := l.length) (c := c) eB.ht (by kernel_rfl) hl (k1 := .i64) (k2 := .i64) (i := 1) (j := 5) (p := 1) (q := 5) rfl rfl (by omega) (by omega)
    simp only [Nat.mul_one] at hr
    have hr : Row w a' (((l.drop 1).take 4).map b8) := by rw [List.map_take, List.map_drop]; exact hr
    simp only [show 5 - 1 = 4 from rfl] at hsl h1
    have hxl : ((l.drop 1).take 4).length = 4 := by simp; omega
    have hx := getL_lt ((l.drop 1).take 4)
    rw [hxl] at hx
    have cb : w.cell? ((hd a).add 0) = some (.int .u8 (l[0].toNat : Int)) := hl.byte (by omega)
    have sb := hl.byteSome (i := 0) (by omega)
    have h0 : 0 < l.length := by omega
    have h0I : (0 : Int) < l.length := by omega
    have cb0 : w.cell? (hd a) = some (.int .u8 (l[0].toNat : Int)) := by simpa [Addr.add] using cb
    have hg0 : l.getD 0 0 = l[0] := by
      rw [List.getD_eq_getElem?_getD, List.getElem?_eq_getElem (by omega)]; rfl
    have HL := Lib.hid (fun k => lookF_form h5 k)
    have HK := Lib.hid (fun k k' => lookF_ok h5 k k')
    rw [hg0] at HL HK
    obtain ⟨t, ht⟩ : ∃ t, t = l[0] := ⟨_, rfl⟩
    rw [← ht] at cb cb0 HL HK
    have htl := t.toNat_lt
    obtain ⟨m, hm⟩ : ∃ m, m = sizeL l := ⟨_, rfl⟩
    rw [← hm] at HL HK
    have HM : Hid (getL ((l.drop 1).take 4) = m) := hm.symm
    have hml : m < 4294967296 := by rw [hm]; exact hx
    have HXL := Lib.hid hxl.symm
    clear hx hm ht hg0 hxl
    go_enter Try.func17, Try.ntmps17
    go_wp2_with fail
    refine (rget_any a' 4 c' _ w HXL.out hr (by have := HXL.out; omega) (by have := HXL.out; omega)).mono ?_
    rintro e w1 ⟨rfl, rfl⟩
    rw [HM.out]
    by_cases ht1 : 1 < t.toNat
    · have hI1 : (1 : Int) < t.toNat := by omega
      have HL' := Lib.hid (HL.out (.inl ht1))
      go_wp2
      go_ret3
      rw [HL'.out]
      exact ⟨rfl, rfl⟩
    · have hI1 : ¬ (1 : Int) < t.toNat := by omega
      by_cases hm1 : 16379 < m
      · have hI2 : (16379 : Int) < m := by omega
        have HL' := Lib.hid (HL.out (.inr hm1))
        go_wp2
        go_ret3
        rw [HL'.out]
        exact ⟨rfl, rfl⟩
      · have hI2 : ¬ (16379 : Int) < m := by omega
        have HL' := Lib.hid (HK.out ht1 hm1)
        go_wp2
        go_ret3
        rw [HL'.out]
        exact ⟨rfl, rfl⟩
end Go.Proofs.Ytpkgcnklpnficaa
