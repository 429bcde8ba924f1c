/- The walks of BitsNobody: a reader that no call made answers ErrNil, noughts and nothing. -/
import Derived.Test.YtchpnhlblhklcaaW7
namespace Go.Proofs.Ytchpnhlblhklcaa
open Go.ChangeShapes Go.WideShapes Go.ChangeAt Go.RowKit Go.Hd

/-- A reader that no call made. -/
def NoRd (w : World) (v : Value) : Prop := v = .pointer none ∨ ∃ g, v = .pointer (some ⟨g, 0, none⟩) ∧ Blk w g 50 [.slice none 0 0, .int .i64 0, .bool false]

theorem nerr_any {w : World} {v : Value} (h : NoRd w v) : Calls Try.prog 34 #[v] w fun r w' => r = .returned (.int .i64 1) ∧ w = w' := by
  rcases h with rfl | ⟨g, rfl, hB⟩
  · go_enter Try.func34, Try.ntmps34
    go_wp2
    go_ret
    exact ⟨rfl, rfl⟩
  · have c2 : w.cell? ⟨g, 2, none⟩ = _ := hB.cell rfl
    go_enter Try.func34, Try.ntmps34
    go_wp2
    go_ret
    exact ⟨rfl, rfl⟩
theorem nleft_any {w : World} {v : Value} (h : NoRd w v) : Calls Try.prog 30 #[v] w fun r w' => r = .returned (.int .i64 0) ∧ w = w' := by
  rcases h with rfl | ⟨g, rfl, hB⟩
  · go_enter Try.func30, Try.ntmps30
    go_wp2
    go_ret
    exact ⟨rfl, rfl⟩
  · have c2 : w.cell? ⟨g, 0, none⟩ = _ := hB.cell rfl
    go_enter Try.func30, Try.ntmps30
    go_wp2
    go_ret
    exact ⟨rfl, rfl⟩
theorem nend_any {w : World} {v : Value} (h : NoRd w v) : Calls Try.prog 31 #[v] w fun r w' => r = .returned (.int .i64 1) ∧ w = w' := by
  go_enter Try.func31, Try.ntmps31
  go_wp2_with (go_at_call 34; refine (nerr_any h).mono ?_; rintro e w' ⟨rfl, rfl⟩)
  go_ret
  exact ⟨rfl, rfl⟩
theorem ntake_any {w : World} {v : Value} {n : Int} (h : NoRd w v) : Calls Try.prog 41 #[v, .int .i64 n] w fun r w' => r = .returned (.tuple #[.slice none 0 0, .bool false]) ∧ w = w' := by
  go_enter Try.func41, Try.ntmps41
  go_wp2_with (go_at_call 34; refine (nerr_any h).mono ?_; rintro e w' ⟨rfl, rfl⟩)
  go_ret2
  exact ⟨rfl, rfl⟩
theorem nnum_any {w : World} {v : Value} {n : Int} (h : NoRd w v) : Calls Try.prog 32 #[v, .int .i64 n] w fun r w' => r = .returned (.int .u64 0) ∧ w = w' := by
  go_enter Try.func32, Try.ntmps32
  go_wp2_with (first | (go_at_call 34; refine (nerr_any h).mono ?_; rintro e w' ⟨rfl, rfl⟩) | (go_at_call 41; refine (ntake_any h).mono ?_; rintro e w' ⟨rfl, rfl⟩) | (go_at_call 24; refine (get_none none 0 0 w (.inl (by decide))).mono ?_; rintro e w' ⟨rfl, rfl⟩))
  go_ret
  exact ⟨rfl, rfl⟩
theorem nbytes_any {w : World} {v : Value} {n : Int} (h : NoRd w v) : Calls Try.prog 29 #[v, .int .i64 n] w fun r w' => ∃ a c, r = .returned (.slice a 0 c) ∧ Below w.heap.size w w' := by
  go_enter Try.func29, Try.ntmps29
  go_wp2_with fail
  refine (ntake_any h).mono ?_
  rintro e w' ⟨rfl, rfl⟩
  go_wp2_with fail
  refine (clone_any none 0 0 [] w rfl (Row.nil _ _) (by simp)).mono ?_
  rintro e w' ⟨v, rfl, hF⟩
  obtain ⟨a, c, rfl, _, hb, _⟩ := hF.open
  go_wp2
  go_ret
  exact ⟨a, c, rfl, hb⟩
theorem ntext_any {w : World} {v : Value} {n : Int} (h : NoRd w v) : Calls Try.prog 33 #[v, .int .i64 n] w fun r w' => r = .returned (.string ⟨#[]⟩) ∧ w = w' := by
  have hcv := run_convert_row (P := Try.prog) (w := w) (src := 23) (e := 5) (dst := 9) (a := none) (n := 0) (c := 0) (l := []) eB.ht Try.underlying5 Try.underlying9 rfl (Row.nil _ _)
  go_enter Try.func33, Try.ntmps33
  go_wp2_with (go_at_call 41; refine (ntake_any h).mono ?_; rintro e w' ⟨rfl, rfl⟩)
  go_ret
  exact ⟨rfl, rfl⟩
theorem NoRd.keep {w w' : World} {v : Value} (h : NoRd w v) (hb : Below w.heap.size w w') : NoRd w' v := by
  rcases h with rfl | ⟨g, rfl, hB⟩
  · exact .inl rfl
  · exact .inr ⟨g, rfl, hB.below hb⟩

theorem nobody_law (n : Int) (w : World) : Calls Try.prog 9 #[.int .i64 n] w fun e w' => e = .returned (.bool true) ∧ Below w.heap.size w w' := by
  have n0 : ∀ w, NoRd w (.pointer none) := fun w => .inl rfl
  have hb0 := (Below.refl w.heap.size w).alloc (Nat.le_refl _) (.cells #[.slice none 0 0, .int .i64 0, .bool false] 50)
  have p0 : NoRd (w.alloc (.cells #[.slice none 0 0, .int .i64 0, .bool false] 50)) (.pointer (some ⟨w.heap.size, 0, none⟩)) := .inr ⟨_, rfl, Blk.new _ _ _⟩
  go_enter Try.func9, Try.ntmps9
  go_wp2_with fail
  refine (nnum_any (n0 _)).mono ?_
  rintro e w3 ⟨rfl, rfl⟩
  go_wp2_with fail
  refine (nnum_any p0).mono ?_
  rintro e w3 ⟨rfl, rfl⟩
  go_wp2_with fail
  refine (nbytes_any (n0 _)).mono ?_
  rintro e w1 ⟨a1, c1, rfl, hb1⟩
  have p1 := p0.keep hb1
  go_wp2_with fail
  refine (nbytes_any p1).mono ?_
  rintro e w2 ⟨a2, c2, rfl, hb2⟩
  have p2 := p1.keep hb2
  go_wp2_with fail
  refine (ntext_any (n0 _)).mono ?_
  rintro e w3 ⟨rfl, rfl⟩
  go_wp2_with fail
  refine (ntext_any p2).mono ?_
  rintro e w3 ⟨rfl, rfl⟩
  go_wp2_with fail
  refine (nleft_any (n0 _)).mono ?_
  rintro e w3 ⟨rfl, rfl⟩
  go_wp2_with fail
  refine (nleft_any p2).mono ?_
  rintro e w3 ⟨rfl, rfl⟩
  go_wp2_with fail
  refine (nerr_any (n0 _)).mono ?_
  rintro e w3 ⟨rfl, rfl⟩
  go_wp2_with fail
  refine (nerr_any p2).mono ?_
  rintro e w3 ⟨rfl, rfl⟩
  go_wp2_with fail
  refine (nend_any (n0 _)).mono ?_
  rintro e w3 ⟨rfl, rfl⟩
  go_wp2_with fail
  refine (nend_any p2).mono ?_
  rintro e w3 ⟨rfl, rfl⟩
  go_wp2_with fail
  refine (lives_any _).mono ?_
  rintro e w3 ⟨rfl, hb3⟩
  go_wp2
  go_ret
  exact ⟨rfl, Gr.trans hb0 (Gr.trans hb1 (Gr.trans hb2 hb3))⟩
section
variable {H : Type} {enc : TypeId × Value → H} {W : World} {base : Nat} {v0 v1 v2 : Value} {d0 d1 d2 : DataW H} {p0 p1 p2 : List MemPlace}
theorem bitsNobody_calls (o0 : Value.okWide Try.prog W .any base 3 v0) (h0 : DataW.Trod enc Try.prog W 0 (fun _ => true) true 3 v0 d0 p0) :
    Calls Try.prog 9 #[v0] W fun e W' => e = .returned (.bool true) ∧ Below W.heap.size W W' := by
  obtain ⟨n, rfl, rfl, rfl, w1⟩ := open_int Try.underlying3 o0 h0
  exact nobody_law n W
end
end Go.Proofs.Ytchpnhlblhklcaa
