/- The walk of WrapWraps. -/
import Derived.Test.YtpkgcnklpnficaaY1
namespace Go.Proofs.Ytpkgcnklpnficaa
open Go.ChangeShapes Go.WideShapes Go.ChangeAt Go.RowKit Go.Hd

theorem wraps_law (st : Bool) (a : Option Addr) (n c : Nat) (l0 : List UInt8) (w : World) (hn : n = l0.length) (hc : n ≤ c) (hl0 : Row w a (l0.map b8)) :
    Calls Try.prog 3 #[.slice a n c, .bool st] w fun e w' => e = .returned (.bool true) ∧ Below w.heap.size w w' := by
  subst hn
  have hl : Row w a ((l0.take 1500).map b8) := by rw [List.map_take]; exact hl0.take 1500
  have hk : (l0.take 1500).length ≤ 1500 := List.length_take_le _ _
  have hkc : (l0.take 1500).length ≤ c := by simp; omega
  have hml : min l0.length 1500 = (l0.take 1500).length := by simp; omega
  generalize l0.take 1500 = l at *
  have hwl := wrapF_length l st
  go_enter Try.func3, Try.ntmps3
  go_wp2_with fail
  refine (cut_any a _ c 1500 w (by decide) hc).mono ?_
  rintro e w1 ⟨rfl, rfl⟩
  go_wp2_with fail
  refine (copy_any a _ c l _ (by first | rfl | exact hml) hl (by omega)).mono ?_
  rintro e w1 ⟨v, rfl, hF⟩
  obtain ⟨a1, c1, rfl, hr, hb, _, hc1⟩ := hF.open
  have hl1 := hl.below hb
  go_wp2_with fail
  refine (wrap_any (l := l) rfl hr hc1 (by omega)).mono ?_
  rintro e w2 ⟨v2, rfl, hF2⟩
  obtain ⟨a2, c2, rfl, hr2, hb2, hm2, _⟩ := hF2.open
  have hl2 := hl1.below hb2
  have hrr := hr.below hb2
  go_wp2_with fail
  refine (rwrap_any (l := l) (by first | rfl | exact hml) hl2 (by omega) (by omega)).mono ?_
  rintro e w3 ⟨v3, rfl, hF3⟩
  obtain ⟨a3, c3, rfl, hr3, hb3, _, _⟩ := hF3.open
  have hl3 := hl2.below hb3
  have hrr3 := hrr.below hb3
  have hr23 := hr2.below hb3
  go_wp2_with fail
  refine (same_any rfl rfl hr23 hr3 hm2).mono ?_
  rintro e w4 ⟨rfl, n4, rfl⟩
  have e4 : (wrapF l st == wrapF l st) = true := by simp
  go_wp2_with fail
  refine (same_any rfl (by first | rfl | exact hml) (hrr3.drewN n4) (hl3.drewN n4) (by unfold maxLen; omega)).mono ?_
  rintro e w5 ⟨rfl, n5, rfl⟩
  have e5 : (l == l) = true := by simp
  go_wp2_with fail
  refine (lives9_any _).mono ?_
  rintro e w7 ⟨rfl, hb7⟩
  go_wp2
  go_ret
  exact ⟨rfl, Gr.transN (Gr.trans (Gr.trans hb hb2) hb3) hb7⟩
section
variable {H : Type} {enc : TypeId × Value → H} {W : World} {base : Nat} {v0 v1 : Value} {d0 d1 : DataW H} {p0 p1 : List MemPlace}
theorem wrapWraps_calls (o0 : Value.okWide Try.prog W .any base 22 v0) (h0 : DataW.Trod enc Try.prog W 0 (fun _ => true) true 22 v0 d0 p0)
    (o1 : Value.okWide Try.prog W .any base 4 v1) (h1 : DataW.Trod enc Try.prog W 0 (fun _ => true) true 4 v1 d1 p1) :
    Calls Try.prog 3 #[v0, v1] W fun e W' => e = .returned (.bool true) ∧ Below W.heap.size W W' := by
  obtain ⟨a, n, c, l, rfl, hn, hc, _, hl⟩ := open_byt Try.underlying22 Try.underlying5 (by kernel_rfl) o0 h0
  obtain ⟨st, rfl, _⟩ := open_bool Try.underlying4 o1 h1
  exact wraps_law st a n c l W hn hc hl
end
end Go.Proofs.Ytpkgcnklpnficaa
