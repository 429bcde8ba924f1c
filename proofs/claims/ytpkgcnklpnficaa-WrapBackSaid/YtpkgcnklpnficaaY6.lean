/- The walk of WrapBack. -/
import Derived.Test.YtpkgcnklpnficaaY4
import Derived.Test.YtpkgcnklpnficaaPl9c
namespace Go.Proofs.Ytpkgcnklpnficaa
open Go.ChangeShapes Go.WideShapes Go.ChangeAt Go.RowKit Go.Hd

set_option maxHeartbeats 1000000 in
theorem wback_law (st : Bool) (a : Option Addr) (n c : Nat) (l0 : List UInt8) (w : World) (hn : n = l0.length) (hc : n ≤ c) (hl0 : Row w a (l0.map b8)) :
    Calls Try.prog 5 #[.slice a n c, .bool st] w fun e w' => e = .returned (.bool true) ∧ Below w.heap.size w w' := by
  subst hn
  have hl : Row w a ((l0.take 3000).map b8) := by rw [List.map_take]; exact hl0.take 3000
  have hk : (l0.take 3000).length ≤ 3000 := List.length_take_le _ _
  have hkc : (l0.take 3000).length ≤ c := by simp; omega
  have hml : min l0.length 3000 = (l0.take 3000).length := by simp; omega
  generalize l0.take 3000 = l at *
  have hwl := wrapF_length l st
  have hws : st = true → (wrapF l st).length = 5 + l.length := by rintro rfl; exact wrapF_stl l
  have HU : Hid (unwrapF (wrapF l st) = (l, 0)) := unwrap_wrapF l st (by omega)
  obtain ⟨k, hk1, hlk⟩ := look_wrapF l st (by omega)
  have HK := Lib.hid hlk
  clear hlk
  go_enter Try.func5, Try.ntmps5
  go_wp2_with fail
  refine (cut_any a _ c 3000 w (by decide) hc).mono ?_
  rintro e w1 ⟨rfl, rfl⟩
  go_wp2_with fail
  refine (wrap_any (l := l) (st := st) (by first | rfl | exact hml) hl (by omega) (by omega)).mono ?_
  rintro e w2 ⟨v2, rfl, hF2⟩
  obtain ⟨a2, c2, rfl, hr2, hb2, hm2, hc2⟩ := hF2.open
  generalize wrapF l st = C at *
  clear hF2
  go_wp2_with fail
  refine (unwrap_any (l := C) (by rfl) hr2 hc2 (by omega)).mono ?_
  rintro e w3 ⟨v3, rfl, hF3⟩
  rw [HU.out] at hF3 ⊢
  obtain ⟨a3, c3, rfl, hr3, hb3, hm3, _⟩ := hF3.open
  have hb03 := Gr.trans hb2 hb3
  have hl3 := hl.below hb03
  have hr23 := hr2.below hb3
  have e5 : (l == l) = true := by simp
  clear hF3
  go_wp2_with fail
  refine (look_any (l := C) (by rfl) hr23 hc2).mono ?_
  rintro e w4 ⟨rfl, rfl⟩
  rw [HK.out]
  go_wp2_with fail
  refine (same_any (l := l) (m := l) (by first | rfl | exact hml) rfl hl3 hr3 (by unfold maxLen; omega)).mono ?_
  rintro e w4 ⟨rfl, n4, rfl⟩
  have hI : (C.length : Int) ≤ (l.length : Int) + 5 := by omega
  cases st with
  | true =>
    obtain ⟨q, hq⟩ : ∃ q, q = C.length := ⟨_, rfl⟩
    have hq5 : q = l.length + 5 := by rw [hq, hws rfl]; omega
    rw [← hq]
    subst hq5
    clear hws hwl hI hq
    go_wp2_with fail
    refine (lives9_any _).mono ?_
    rintro e w7 ⟨rfl, hb7⟩
    go_wp2
    go_ret
    exact ⟨rfl, Gr.transN hb03 hb7⟩
  | false =>
    clear hws
    go_wp2_with fail
    refine (lives9_any _).mono ?_
    rintro e w7 ⟨rfl, hb7⟩
    go_wp2
    go_ret
    exact ⟨rfl, Gr.transN hb03 hb7⟩
section
variable {H : Type} {enc : TypeId × Value → H} {W : World} {base : Nat} {v0 v1 : Value} {d0 d1 : DataW H} {p0 p1 : List MemPlace}
theorem wrapBack_calls (o0 : Value.okWide Try.prog W .any base 22 v0) (h0 : DataW.Trod enc Try.prog W 0 (fun _ => true) true 22 v0 d0 p0)
    (o1 : Value.okWide Try.prog W .any base 4 v1) (h1 : DataW.Trod enc Try.prog W 0 (fun _ => true) true 4 v1 d1 p1) :
    Calls Try.prog 5 #[v0, v1] W fun e W' => e = .returned (.bool true) ∧ Below W.heap.size W W' := by
  obtain ⟨a, n, c, l, rfl, hn, hc, _, hl⟩ := open_byt Try.underlying22 Try.underlying5 (by kernel_rfl) o0 h0
  obtain ⟨st, rfl, _⟩ := open_bool Try.underlying4 o1 h1
  exact wback_law st a n c l W hn hc hl
end
end Go.Proofs.Ytpkgcnklpnficaa
