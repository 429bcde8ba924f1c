/- The walks of the laws of layer 1 that make no reader. -/
import Derived.Test.YtchpnhlblhklcaaW1
import Derived.Test.YtchpnhlblhklcaaW3
import Derived.Test.YtchpnhlblhklcaaArg
namespace Go.Proofs.Ytchpnhlblhklcaa
open Go.ChangeShapes Go.WideShapes Go.ChangeAt Go.RowKit Go.Hd

theorem lives_any (w : World) : Calls Try.prog 16 #[] w fun e w' => e = .returned (.bool true) ∧ Below w.heap.size w w' := by
  go_enter Try.func16, Try.ntmps16
  go_wp2_with fail
  refine (put_any 1 1 w (by decide) (by decide) (by decide)).mono ?_
  rintro e w1 ⟨v, rfl, hown, hb⟩
  rcases owns_bytes hown with ⟨_, h0⟩ | ⟨g, c, rest, rfl, hg, hB, hn, hm, hc⟩
  · simp [putL] at h0
  go_wp2_with fail
  refine (put_any 1 1 w1 (by decide) (by decide) (by decide)).mono ?_
  rintro e w2 ⟨v, rfl, hown2, hb2⟩
  rcases owns_bytes hown2 with ⟨_, h0⟩ | ⟨g2, c2, rest2, rfl, hg2, hB2, hn2, hm2, hc2⟩
  · simp [putL] at h0
  have c1 : w2.cell? ⟨g2, 0, none⟩ = some (.int .u8 1) := hB2.byteL (l := putL 1 1) (i := 0) (by decide)
  go_wp2
  go_ret
  exact ⟨rfl, hb.trans (hb2.mono hb.size)⟩

theorem puts_in (x n : Nat) (w : World) (hx : x < 18446744073709551616) (h1 : 1 ≤ n) (h8 : n ≤ 8) :
    Calls Try.prog 3 #[.int .u64 x, .int .i64 n] w fun e w' => e = .returned (.bool true) ∧ Below w.heap.size w w' := by
  go_enter Try.func3, Try.ntmps3
  go_wp2_with fail
  refine (rput_any x n w hx (by omega) (by omega)).mono ?_
  rintro e w1 ⟨v, rfl, hF⟩
  obtain ⟨a, c, rfl, hr, hb, hml, _⟩ := hF.open
  go_wp2_with fail
  refine (put_any x n w1 hx h1 h8).mono ?_
  rintro e w2 ⟨v2, rfl, hF2⟩
  obtain ⟨a2, c2, rfl, hr2, hb2, hml2, _⟩ := hF2.open
  have hr' := hr.below hb2
  go_wp2_with fail
  refine (same_any (by simp) (by simp) hr2 hr' hml2).mono ?_
  rintro e w3 ⟨rfl, nq, rfl⟩
  have ht : (putL x n == putL x (n : Int).toNat) = true := by simp
  go_wp2_with fail
  refine (big_any x n _ hx h1 h8).mono ?_
  rintro e w4 ⟨v4, rfl, hF4⟩
  obtain ⟨a4, c4, rfl, hr4, hb4, hml4, _⟩ := hF4.open
  have hr'' := (hr'.drewN nq).below hb4
  go_wp2_with fail
  refine (back_any _ _ _ _ _ (by simp) hr'' (by simp; omega)).mono ?_
  rintro e w5 ⟨v5, rfl, hF5⟩
  obtain ⟨a5, c5, rfl, hr5, hb5, hml5, _⟩ := hF5.open
  have hr4' := hr4.below hb5
  go_wp2_with fail
  refine (same_any (by simp) (by simp) hr4' hr5 hml4).mono ?_
  rintro e w6 ⟨rfl, nq2, rfl⟩
  have ht2 : ((putL x n).reverse == (putL x (n : Int).toNat).reverse) = true := by simp
  go_wp2_with fail
  refine (lives_any _).mono ?_
  rintro e w7 ⟨rfl, hb7⟩
  go_wp2
  go_ret
  refine ⟨rfl, ?_⟩
  exact Gr.transN (Gr.trans (Gr.transN (Gr.trans hb hb2) hb4) hb5) hb7
theorem puts_out (x n : Int) (w : World) (h : n < 1 ∨ 8 < n) :
    Calls Try.prog 3 #[.int .u64 x, .int .i64 n] w fun e w' => e = .returned (.bool true) ∧ Below w.heap.size w w' := by
  have r0 : ∀ w : World, Row w none (([] : List UInt8).map b8) := fun w => ⟨by simp, by simp⟩
  go_enter Try.func3, Try.ntmps3
  go_wp2_with fail
  refine (rput_none _ _ _ h).mono ?_
  rintro e w1 ⟨rfl, rfl⟩
  go_wp2_with fail
  refine (put_none _ _ _ h).mono ?_
  rintro e w1 ⟨rfl, rfl⟩
  go_wp2_with fail
  refine (same_any (l := []) (m := []) rfl rfl (r0 _) (r0 _) (by simp)).mono ?_
  rintro e w3 ⟨rfl, nq, rfl⟩
  go_wp2_with fail
  refine (big_none _ _ _ h).mono ?_
  rintro e w1 ⟨rfl, rfl⟩
  go_wp2_with fail
  refine (back_any _ _ _ [] _ rfl (r0 _) (by simp)).mono ?_
  rintro e w5 ⟨v5, rfl, hF5⟩
  obtain ⟨a5, c5, rfl, hr5, hb5, hml5, _⟩ := hF5.open
  go_wp2_with fail
  refine (same_any (l := []) (m := []) rfl rfl (r0 _) hr5 (by simp)).mono ?_
  rintro e w6 ⟨rfl, nq2, rfl⟩
  go_wp2_with fail
  refine (lives_any _).mono ?_
  rintro e w7 ⟨rfl, hb7⟩
  go_wp2
  go_ret
  exact ⟨rfl, Gr.transN (Gr.transN (Below.refl _ _) hb5) hb7⟩
theorem puts_law (x n : Int) (w : World) (h0 : 0 ≤ x) (h1 : x ≤ 18446744073709551615) :
    Calls Try.prog 3 #[.int .u64 x, .int .i64 n] w fun e w' => e = .returned (.bool true) ∧ Below w.heap.size w w' := by
  by_cases h : n < 1 ∨ 8 < n
  · exact puts_out x n w h
  · obtain ⟨X, rfl⟩ := Int.eq_ofNat_of_zero_le h0
    obtain ⟨N, rfl⟩ := Int.eq_ofNat_of_zero_le (show 0 ≤ n by omega)
    exact puts_in X N w (by omega) (by omega) (by omega)

section
variable {H : Type} {enc : TypeId × Value → H} {W : World} {base : Nat}
theorem bitsPuts_calls {v0 v1 : Value} {d0 d1 : DataW H} {p0 p1 : List MemPlace} (o0 : Value.okWide Try.prog W .any base 22 v0) (h0 : DataW.Trod enc Try.prog W 0 (fun _ => true) true 22 v0 d0 p0)
    (o1 : Value.okWide Try.prog W .any base 3 v1) (h1 : DataW.Trod enc Try.prog W 0 (fun _ => true) true 3 v1 d1 p1) :
    Calls Try.prog 3 #[v0, v1] W fun e W' => e = .returned (.bool true) ∧ Below W.heap.size W W' := by
  obtain ⟨x, rfl, rfl, rfl, w0⟩ := open_int Try.underlying22 o0 h0
  obtain ⟨n, rfl, rfl, rfl, w1⟩ := open_int Try.underlying3 o1 h1
  exact puts_law x n W (u64_wf w0).1 (u64_wf w0).2
end
end Go.Proofs.Ytchpnhlblhklcaa
