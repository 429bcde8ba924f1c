/- The walk of WrapOne. -/
import Derived.Test.YtpkgcnklpnficaaY4
import Derived.Test.YtpkgcnklpnficaaPl9d
namespace Go.Proofs.Ytpkgcnklpnficaa
open Go.ChangeShapes Go.WideShapes Go.ChangeAt Go.RowKit Go.Hd

set_option maxHeartbeats 1000000 in
theorem wone_law (a : Option Addr) (n c : Nat) (l0 : List UInt8) (w : World) (hn : n = l0.length) (hc : n ≤ c) (hl0 : Row w a (l0.map b8)) :
    Calls Try.prog 6 #[.slice a n c] w fun e w' => e = .returned (.bool true) ∧ Below w.heap.size w w' := by
  subst hn
  have hl : Row w a ((l0.take 1500).map b8) := by rw [List.map_take]; exact hl0.take 1500
  have hk : (l0.take 1500).length ≤ 1500 := List.length_take_le _ _
  have hkc : (l0.take 1500).length ≤ c := by simp; omega
  have hml : min l0.length 1500 = (l0.take 1500).length := by simp; omega
  generalize l0.take 1500 = l at *
  have hbad := fun h => unwrapF_bad (l := l) h
  have hgood := fun h => unwrapF_good (l := l) h
  go_enter Try.func6, Try.ntmps6
  go_wp2_with fail
  refine (cut_any a _ c 1500 w (by decide) hc).mono ?_
  rintro e w1 ⟨rfl, rfl⟩
  go_wp2_with fail
  refine (unwrap_any (l := l) (by first | rfl | exact hml) hl (by omega) (by omega)).mono ?_
  rintro e w2 ⟨v2, rfl, hF2⟩
  obtain ⟨a2, c2, rfl, hr2, hb2, hm2, hc2⟩ := hF2.open
  have hl2 := hl.below hb2
  clear hF2
  generalize unwrapF l = F at *
  obtain ⟨d, f⟩ := F
  simp only at *
  by_cases f0 : f = 0
  · subst f0
    obtain ⟨hd, hor⟩ := hgood rfl
    clear hgood hbad
    have HOR := Lib.hid hor
    clear hor
    go_wp2_with fail
    refine (wrap_any (l := d) (st := false) (by rfl) hr2 hc2 hd).mono ?_
    rintro e w3 ⟨v3, rfl, hF3⟩
    obtain ⟨a3, c3, rfl, hr3, hb3, hm3, _⟩ := hF3.open
    have hb03 := Gr.trans hb2 hb3
    have hl3 := hl2.below hb3
    have hr23 := hr2.below hb3
    clear hF3
    go_wp2_with fail
    refine (wrap_any (l := d) (st := true) (by rfl) hr23 hc2 hd).mono ?_
    rintro e w4 ⟨v4, rfl, hF4⟩
    obtain ⟨a4, c4, rfl, hr4, hb4, hm4, _⟩ := hF4.open
    have hb04 := Gr.trans hb03 hb4
    have hl4 := hl3.below hb4
    have hr34 := hr3.below hb4
    clear hF4
    generalize wrapF d false = C at *
    generalize wrapF d true = D at *
    go_wp2_with fail
    refine (same_any (l := l) (m := C) (by first | rfl | exact hml) rfl hl4 hr34 (by unfold maxLen; omega)).mono ?_
    rintro e w5 ⟨rfl, n5, rfl⟩
    by_cases hq : l = C
    · have e1 : (l == C) = true := by simp [hq]
      clear hq
      go_wp2_with fail
      refine (lives9_any _).mono ?_
      rintro e w7 ⟨rfl, hb7⟩
      go_wp2
      go_ret
      exact ⟨rfl, Gr.transN hb04 hb7⟩
    · have e1 : (l == C) = false := beq_eq_false_iff_ne.2 hq
      have e2 : (l == D) = true := by
        rcases HOR.out with h | h
        · exact absurd h hq
        · simp [h]
      clear hq HOR
      go_wp2_with fail
      refine (same_any (l := l) (m := D) (by first | rfl | exact hml) rfl (hl4.drewN n5) (hr4.drewN n5) (by unfold maxLen; omega)).mono ?_
      rintro e w6 ⟨rfl, n6, rfl⟩
      go_wp2_with fail
      refine (lives9_any _).mono ?_
      rintro e w7 ⟨rfl, hb7⟩
      go_wp2
      go_ret
      exact ⟨rfl, Gr.transN hb04 hb7⟩
  · have f0I : (f == 0) = false := beq_eq_false_iff_ne.2 f0
    obtain rfl := hbad f0
    clear hgood hbad
    go_wp2_with fail
    refine (lives9_any _).mono ?_
    rintro e w7 ⟨rfl, hb7⟩
    go_wp2
    go_ret
    exact ⟨rfl, Gr.trans hb2 hb7⟩
section
variable {H : Type} {enc : TypeId × Value → H} {W : World} {base : Nat} {v0 v1 : Value} {d0 d1 : DataW H} {p0 p1 : List MemPlace}
theorem wrapOne_calls (o0 : Value.okWide Try.prog W .any base 22 v0) (h0 : DataW.Trod enc Try.prog W 0 (fun _ => true) true 22 v0 d0 p0) :
    Calls Try.prog 6 #[v0] W fun e W' => e = .returned (.bool true) ∧ Below W.heap.size W W' := by
  obtain ⟨a, n, c, l, rfl, hn, hc, _, hl⟩ := open_byt Try.underlying22 Try.underlying5 (by kernel_rfl) o0 h0
  exact wone_law a n c l W hn hc hl
end
end Go.Proofs.Ytpkgcnklpnficaa
