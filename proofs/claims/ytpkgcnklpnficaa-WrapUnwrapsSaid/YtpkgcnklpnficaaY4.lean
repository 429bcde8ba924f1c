/- Walks of layer 9: loosened, Unwrap. -/
import Derived.Test.YtpkgcnklpnficaaY3
import Derived.Test.YtpkgcnklpnficaaZ13
namespace Go.Proofs.Ytpkgcnklpnficaa
open Go.ChangeShapes Go.WideShapes Go.ChangeAt Go.RowKit Go.Hd

theorem loNil {w w1 : World} {F : List UInt8 × Int} {e : Int} (h : F = ([], e)) (hb : Below w.heap.size w w1) : LoPost w F (.returned (.tuple #[.slice none 0 0, .int .i64 e])) w1 := by
  subst h
  exact ⟨_, rfl, Own.nil _ _ _, hb⟩
set_option maxHeartbeats 1000000 in
theorem loosened_any {a : Option Addr} {n c m : Nat} {k : List UInt8} {w : World} (hn : n = k.length) (hl : Row w a (k.map b8)) (hk : k.length ≤ 100000) (hm : m ≤ 16379) :
    Calls Try.prog 23 #[.slice a n c, .int .i64 m] w (LoPost w (loosF k m)) := by
  subst hn
  have hle := loosenF_le k m
  obtain ⟨G, hG⟩ : ∃ G, G = loosF k m := ⟨_, rfl⟩
  rw [← hG]
  unfold loosF at hG
  have HG := Lib.hid hG
  clear hG
  go_enter Try.func23, Try.ntmps23
  go_wp2_with fail
  refine (loosen_any (l := k) (most := (m : Int)) (by rfl) hl hk).mono ?_
  rintro e w1 ⟨v1, rfl, hF1⟩
  obtain ⟨a1, c1, rfl, hr1, hb1, hm1, hc1⟩ := hF1.open
  have hl1 := hl.below hb1
  have hO1 := hF1.1
  clear hF1
  generalize loosenF k m = F at *
  obtain ⟨d, f⟩ := F
  simp only at *
  by_cases f5 : f = 5
  · subst f5
    have HE := Lib.hid (loNil (HG.out.trans (if_pos rfl)) hb1)
    go_wp2
    go_ret2
    exact HE.out
  · have f5I : (f == 5) = false := beq_eq_false_iff_ne.2 f5
    have g1 := HG.out.trans (if_neg f5)
    by_cases f0 : f = 0
    · subst f0
      rw [if_neg (by simp)] at g1
      have HG1 := Lib.hid g1
      clear g1 HG
      go_wp2_with fail
      refine (squeeze_any (l := d) (by rfl) hr1 hc1 (by omega)).mono ?_
      rintro e w2 ⟨v2, rfl, hF2⟩
      obtain ⟨a2, c2, rfl, hr2, hb2, hm2, hc2⟩ := hF2.open
      have hl2 := hl1.below hb2
      have hb12 := Gr.trans hb1 hb2
      have hO2 := Own.below hO1 hb2
      clear hF2
      generalize squeezeF d = q at *
      by_cases hd : d.length = m
      · subst hd
        go_wp2_with fail
        refine (equal_any (l := q) (m := k) (by rfl) (by rfl) hr2 hl2).mono ?_
        rintro e w3 ⟨rfl, rfl⟩
        by_cases hq : q = k
        · subst hq
          have e1 : (q == q) = true := by simp
          by_cases hlt : d.length ≤ q.length
          · have hI : (d.length : Int) ≤ q.length := by omega
            have HE := Lib.hid (loNil (HG1.out.trans (if_pos (.inr (.inr hlt)))) hb12)
            go_wp2
            go_ret2
            exact HE.out
          · have hI : ¬ (d.length : Int) ≤ q.length := by omega
            have HE := Lib.hid (HG1.out.trans (if_neg (by simpa using hlt)))
            go_wp2
            go_ret2
            rw [HE.out]
            exact ⟨_, rfl, hO2, hb12⟩
        · have e1 : (q == k) = false := beq_eq_false_iff_ne.2 hq
          have HE := Lib.hid (loNil (HG1.out.trans (if_pos (.inr (.inl hq)))) hb12)
          go_wp2
          go_ret2
          exact HE.out
      · have hI : ((d.length : Int) == (m : Int)) = false := beq_eq_false_iff_ne.2 (by omega)
        have hI' : ¬ (d.length : Int) = m := by omega
        have HE := Lib.hid (loNil (HG1.out.trans (if_pos (.inl hd))) hb12)
        go_wp2
        go_ret2
        exact HE.out
    · have f0I : (f == 0) = false := beq_eq_false_iff_ne.2 f0
      have HE := Lib.hid (loNil (g1.trans (if_pos f0)) hb1)
      clear g1
      go_wp2
      go_ret2
      exact HE.out
theorem lookF_facts (l : List UInt8) (h : (lookF l).2.2 = 0) : 5 ≤ l.length ∧ (lookF l).1 = (l.getD 0 0).toNat ∧ (lookF l).1 ≤ 1 ∧ (lookF l).2.1 = sizeL l ∧ sizeL l ≤ 16379 := by
  by_cases h5 : l.length < 5
  · rw [lookF_short h5] at h; cases h
  · by_cases k : 1 < (l.getD 0 0).toNat ∨ 16379 < sizeL l
    · rw [lookF_form h5 k] at h; cases h
    · have k1 : ¬ 1 < (l.getD 0 0).toNat := fun e => k (.inl e)
      have k2 : ¬ 16379 < sizeL l := fun e => k (.inr e)
      rw [lookF_ok h5 k1 k2]
      exact ⟨by omega, rfl, by omega, rfl, by omega⟩
set_option maxHeartbeats 1000000 in
theorem unwrap_any {a : Option Addr} {n c : Nat} {l : List UInt8} {w : World} (hn : n = l.length) (hl : Row w a (l.map b8)) (hc : n ≤ c) (hk : l.length ≤ 100000) :
    Calls Try.prog 14 #[.slice a n c] w (LoPost w (unwrapF l)) := by
  subst hn
  obtain ⟨G, hG⟩ : ∃ G, G = unwrapF l := ⟨_, rfl⟩
  rw [← hG]
  unfold unwrapF at hG
  have hfa := lookF_facts l
  have HG := Lib.hid hG
  clear hG
  go_enter Try.func14, Try.ntmps14
  go_wp2_with fail
  refine (look_any (l := l) (by rfl) hl hc).mono ?_
  rintro e w1 ⟨rfl, rfl⟩
  generalize lookF l = r at *
  obtain ⟨k, m, f⟩ := r
  simp only at *
  by_cases f0 : f = 0
  · subst f0
    obtain ⟨h5, hkk, hk1, hmm, hm1⟩ := hfa rfl
    clear hfa
    have hm2 : m ≤ 16379 := by omega
    obtain ⟨a', c', hsl, hk1', hk2', hrow⟩ := cut_l (P := Try.prog) (t := 22) (e := 5) (s := 1) (n := l.length) (c := c) eB.ht (by kernel_rfl) hl (by simp) hc (k1 := .i64) (i := 5) (p := 5) rfl h5
    rw [Nat.mul_one, ← List.map_drop] at hrow
    have hzl : l.length - 5 = (l.drop 5).length := by simp
    have g1 := HG.out.trans (if_neg (by simp))
    rw [hzl] at hsl g1
    have hzk : (l.drop 5).length ≤ 100000 := by rw [← hzl]; omega
    clear HG hzl hkk hmm
    generalize l.drop 5 = z at *
    have HG1 := Lib.hid g1
    clear g1
    by_cases k1 : k = 1
    · subst k1
      have HG2 := Lib.hid (HG1.out.trans (if_pos rfl))
      go_wp2_with fail
      refine (loosened_any (k := z) (m := m) (by rfl) hrow hzk hm2).mono ?_
      rintro e w2 ⟨v2, rfl, hF2⟩
      rw [← HG2.out] at hF2 ⊢
      go_wp2
      go_ret2
      exact ⟨v2, rfl, hF2⟩
    · obtain rfl : k = 0 := by omega
      have g2 := HG1.out.trans (if_neg (by simp))
      have HG2 := Lib.hid g2
      clear g2
      by_cases hs : z.length < m
      · have hI : (z.length : Int) < m := by omega
        have HE := Lib.hid (loNil (HG2.out.trans (if_pos hs)) (Below.refl w.heap.size w))
        go_wp2
        go_ret2
        exact HE.out
      · have hI : ¬ (z.length : Int) < m := by omega
        have HG3 := Lib.hid (HG2.out.trans (if_neg hs))
        by_cases ht : m < z.length
        · have hI2 : (m : Int) < z.length := by omega
          have HE := Lib.hid (loNil (HG3.out.trans (if_pos ht)) (Below.refl w.heap.size w))
          go_wp2
          go_ret2
          exact HE.out
        · have hI2 : ¬ (m : Int) < z.length := by omega
          have HG4 := Lib.hid (HG3.out.trans (if_neg ht))
          go_wp2_with fail
          refine (clone_any a' _ c' z w (by rfl) hrow (by omega)).mono ?_
          rintro e w2 ⟨v2, rfl, hF2⟩
          go_wp2
          go_ret2
          rw [HG4.out]
          exact ⟨v2, rfl, hF2⟩
  · have f0I : (f == 0) = false := beq_eq_false_iff_ne.2 f0
    have HE := Lib.hid (loNil (HG.out.trans (if_pos f0)) (Below.refl w.heap.size w))
    go_wp2
    go_ret2
    exact HE.out
end Go.Proofs.Ytpkgcnklpnficaa
