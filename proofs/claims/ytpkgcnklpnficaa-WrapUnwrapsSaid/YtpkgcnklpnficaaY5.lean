/- The walk of the document's Unwrap. -/
import Derived.Test.YtpkgcnklpnficaaY4
namespace Go.Proofs.Ytpkgcnklpnficaa
open Go.ChangeShapes Go.WideShapes Go.ChangeAt Go.RowKit Go.Hd

/-- Handed back is a row that holds so many bytes (of its own, or the caller's). -/
def UnPost (w : World) (F : List UInt8 × Int) (r : Ending) (w' : World) : Prop :=
  ∃ a c, r = .returned (.tuple #[.slice a F.1.length c, .int .i64 F.2]) ∧ Row w' a (F.1.map b8) ∧ Below w.heap.size w w'
theorem unNil {w w1 : World} {F : List UInt8 × Int} {e : Int} (h : F = ([], e)) (hb : Below w.heap.size w w1) : UnPost w F (.returned (.tuple #[.slice none 0 0, .int .i64 e])) w1 := by
  subst h
  exact ⟨none, 0, rfl, Row.nil _ _, hb⟩
set_option maxHeartbeats 2000000 in
theorem runwrap_any {a : Option Addr} {n c : Nat} {l : List UInt8} {w : World} (hn : n = l.length) (hl : Row w a (l.map b8)) (hc : n ≤ c) (hk : l.length ≤ 100000) :
    Calls Try.prog 15 #[.slice a n c] w (UnPost w (unwrapF l)) := by
  subst hn
  obtain ⟨G, hG⟩ : ∃ G, G = unwrapF l := ⟨_, rfl⟩
  rw [← hG]
  unfold unwrapF at hG
  have hfa := lookF_facts l
  have HG := Lib.hid hG
  clear hG
  go_enter Try.func15, Try.ntmps15
  go_wp2_with fail
  refine (rlook_any (l := l) (by rfl) hl hc).mono ?_
  rintro e w1 ⟨rfl, rfl⟩
  generalize lookF l = r at *
  obtain ⟨k, m, f⟩ := r
  simp only at *
  by_cases f0 : f = 0
  · subst f0
    obtain ⟨h5, hkk, hk1, hmm, hm1⟩ := hfa rfl
    clear hfa
    have hm2 : m ≤ 16379 := by omega
    obtain ⟨a', c', hsl, hk1', hk2', hrow⟩ := cut_l (P := Try.prog) (t := 22) (e := 5) (s := 1) (n := l.length) (c := c) eB.ht (by kernel_rfl) hl (by simp) hc (k1 := .i64) (i := 5) (p := 5) rfl h5
    rw [Nat.mul_one, ← List.map_drop] at hrow
    have hzl : l.length - 5 = (l.drop 5).length := by simp
    have g1 := HG.out.trans (if_neg (by simp))
    rw [hzl] at hsl g1 hk1'
    have hzk : (l.drop 5).length ≤ 100000 := by rw [← hzl]; omega
    have HWA := Lib.hid (fun (d : List UInt8) (hk : k = 1) (hd : d.length = m) => wrap_again (w := l) (b := d) h5 (hkk.symm.trans hk) hmm hd)
    clear HG hzl hkk hmm
    generalize l.drop 5 = z at *
    have HG1 := Lib.hid g1
    clear g1
    by_cases k1 : k = 1
    · subst k1
      have g2 := HG1.out.trans (if_pos rfl)
      have hle := loosenF_le z m
      unfold loosF at g2
      have HG2 := Lib.hid g2
      clear g2 HG1
      go_wp2_with fail
      refine (rloosen_any (l := z) (most := (m : Int)) (by rfl) hrow hk1' hzk).mono ?_
      rintro e w2 ⟨v2, rfl, hF2⟩
      obtain ⟨a2, c2, rfl, hr2, hb2, hm2', hc2⟩ := hF2.open
      have hl2 := hl.below hb2
      clear hF2
      generalize loosenF z m = F at *
      obtain ⟨d, f⟩ := F
      simp only at *
      by_cases f5 : f = 5
      · subst f5
        have HE := Lib.hid (unNil (HG2.out.trans (if_pos rfl)) hb2)
        go_wp2
        go_ret2
        exact HE.out
      · have f5I : (f == 5) = false := beq_eq_false_iff_ne.2 f5
        have g3 := HG2.out.trans (if_neg f5)
        by_cases f0 : f = 0
        · subst f0
          rw [if_neg (by simp)] at g3
          have HG3 := Lib.hid g3
          clear g3 HG2
          go_wp2_with fail
          refine (rwrap_any (l := d) (st := false) (by rfl) hr2 hc2 (by omega)).mono ?_
          rintro e w3 ⟨v3, rfl, hF3⟩
          obtain ⟨a3, c3, rfl, hr3, hb3, hm3, hc3⟩ := hF3.open
          have hl3 := hl2.below hb3
          have hr23 := hr2.below hb3
          have hb13 := Gr.trans hb2 hb3
          clear hF3
          by_cases hd : d.length = m
          · have HW := Lib.hid (HWA.out d (by simp) hd)
            subst hd
            generalize wrapF d false = q at *
            generalize squeezeF d = s at *
            go_wp2_with fail
            refine (same_any (l := q) (m := l) (by rfl) (by rfl) hr3 hl3 hm3).mono ?_
            rintro e w4 ⟨rfl, n4, rfl⟩
            have hb4 : Below w.heap.size w (w3.drewN n4) := Below.drewN hb13 n4
            have hr4 := hr23.drewN n4
            by_cases hq : q = l
            · have e1 : (q == l) = true := by simp [hq]
              have hs := HW.out.1 hq
              have HE := Lib.hid (HG3.out.trans (if_neg (by
                rintro (h | h | h)
                · exact h rfl
                · exact h hs.1
                · have := hs.2; omega)))
              clear hq hs
              go_wp2
              go_ret2
              rw [HE.out]
              exact ⟨_, _, rfl, hr4, hb4⟩
            · have e1 : (q == l) = false := beq_eq_false_iff_ne.2 hq
              have hs := fun h => hq (HW.out.2 h)
              have HE := Lib.hid (unNil (HG3.out.trans (if_pos (by
                by_cases hsz : s = z
                · right; right
                  rcases Nat.lt_or_ge z.length d.length with h | h
                  · exact absurd ⟨hsz, h⟩ hs
                  · exact h
                · exact .inr (.inl hsz)))) hb4)
              clear hq hs
              go_wp2
              go_ret2
              exact HE.out
          · have hI : ((d.length : Int) == (m : Int)) = false := beq_eq_false_iff_ne.2 (by omega)
            have hI' : ¬ (d.length : Int) = m := by omega
            have HE := Lib.hid (unNil (HG3.out.trans (if_pos (.inl hd))) hb13)
            go_wp2
            go_ret2
            exact HE.out
        · have f0I : (f == 0) = false := beq_eq_false_iff_ne.2 f0
          have HE := Lib.hid (unNil (g3.trans (if_pos f0)) hb2)
          clear g3
          go_wp2
          go_ret2
          exact HE.out
    · obtain rfl : k = 0 := by omega
      have g2 := HG1.out.trans (if_neg (by simp))
      have HG2 := Lib.hid g2
      clear g2 HWA
      by_cases hs : z.length < m
      · have hI : (z.length : Int) < m := by omega
        have HE := Lib.hid (unNil (HG2.out.trans (if_pos hs)) (Below.refl w.heap.size w))
        go_wp2
        go_ret2
        exact HE.out
      · have hI : ¬ (z.length : Int) < m := by omega
        have HG3 := Lib.hid (HG2.out.trans (if_neg hs))
        by_cases ht : m < z.length
        · have hI2 : (m : Int) < z.length := by omega
          have HE := Lib.hid (unNil (HG3.out.trans (if_pos ht)) (Below.refl w.heap.size w))
          go_wp2
          go_ret2
          exact HE.out
        · have hI2 : ¬ (m : Int) < z.length := by omega
          have HG4 := Lib.hid (HG3.out.trans (if_neg ht))
          go_wp2
          go_ret2
          rw [HG4.out]
          exact ⟨_, _, rfl, hrow, Below.refl _ _⟩
  · have f0I : (f == 0) = false := beq_eq_false_iff_ne.2 f0
    have HE := Lib.hid (unNil (HG.out.trans (if_pos f0)) (Below.refl w.heap.size w))
    go_wp2
    go_ret2
    exact HE.out
end Go.Proofs.Ytpkgcnklpnficaa
