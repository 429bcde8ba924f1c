/- The walks of the laws of layer 3 without a loop. -/
import Derived.Test.YtjooojklkihkcaaX5
import Derived.Test.YtjooojklkihkcaaX6
import Derived.Test.YtjooojklkihkcaaW2
import Derived.Test.YtjooojklkihkcaaArg
import Derived.Lib.SlBytesConst
namespace Go.Proofs.Ytjooojklkihkcaa
open Go.ChangeShapes Go.WideShapes Go.ChangeAt Go.RowKit Go.Hd

theorem xsum_any {x : Int} (seed : BitVec 64) {a : Option Addr} {n c : Nat} {l : List UInt8} {w : World} (hx : x = (seed.toNat : Int)) (hn : n = l.length) (hl : Row w a (l.map b8)) (hc : n ≤ c) (hm : l.length ≤ 140737488355328) :
    Calls Try.prog 11 #[.slice a n c, .int .u64 x] w fun e w' => e = .returned (.int .u64 ((sumF l seed).toNat : Int)) ∧ Below w.heap.size w w' := by
  subst hx hn
  go_enter Try.func11, Try.ntmps11
  go_wp2_with fail
  refine (new_any (S := fun _ => True) seed (by rfl)).mono ?_
  rintro e w1 ⟨g, rfl, hg, hH, hb⟩
  go_wp2_with fail
  refine (write_any hH rfl (hl.below hb) hc (by simp; omega)).mono ?_
  rintro e w2 ⟨rfl, hH2, hgr⟩
  go_wp2_with fail
  refine (hsum_any hH2 (by simp; omega)).mono ?_
  rintro e w3 ⟨rfl, hb3⟩
  go_wp2
  go_ret
  exact ⟨rfl, Gr.trans (Gr.ofGrown hb hgr hg) hb3⟩

theorem lives3_any (w : World) : Calls Try.prog 14 #[] w fun e w' => e = .returned (.bool true) ∧ Below w.heap.size w w' := by
  have hs : (((sumF [] 0).toNat : Nat) : Int) = 17241709254077376921 := by rw [sum_nil]; decide
  have ht : ((((sumF [] 0).toNat : Nat) : Int) == 17241709254077376921) = true := by rw [hs]; decide
  have HS := Lib.hid ht
  clear hs ht
  go_enter Try.func14, Try.ntmps14
  go_wp2_with fail
  refine (xsum_any 0 (l := []) (by rfl) (by rfl) (Row.nil _ _) (by decide) (by decide)).mono ?_
  rintro e w1 ⟨rfl, hb⟩
  have ht := HS.out
  go_wp2
  go_ret
  exact ⟨rfl, hb⟩
theorem sums_law (X : BitVec 64) (a : Option Addr) (n c : Nat) (l0 : List UInt8) (w : World) (hn : n = l0.length) (hc : n ≤ c) (hl0 : Row w a (l0.map b8)) :
    Calls Try.prog 3 #[.slice a n c, .int .u64 (X.toNat : Int)] w fun e w' => e = .returned (.bool true) ∧ Below w.heap.size w w' := by
  subst hn
  have hl : Row w a ((l0.take 400).map b8) := by rw [List.map_take]; exact hl0.take 400
  have hk : (l0.take 400).length ≤ 400 := List.length_take_le _ _
  have hkc : (l0.take 400).length ≤ c := by simp; omega
  have hml : min l0.length 400 = (l0.take 400).length := by simp; omega
  generalize l0.take 400 = l at *
  go_enter Try.func3, Try.ntmps3
  go_wp2_with fail
  refine (cut_any a _ c 400 w (by decide) hc).mono ?_
  rintro e w1 ⟨rfl, rfl⟩
  go_wp2_with fail
  refine (copy_any a _ c l _ (by first | rfl | exact hml) hl (by omega)).mono ?_
  rintro e w1 ⟨v, rfl, hF⟩
  obtain ⟨a1, c1, rfl, hr, hb, hm1, hc1⟩ := hF.open
  have hl1 := hl.below hb
  go_wp2_with fail
  refine (xsum_any X rfl rfl hr hc1 (by omega)).mono ?_
  rintro e w2 ⟨rfl, hb2⟩
  have hl2 := hl1.below hb2
  have hr2 := hr.below hb2
  go_wp2_with fail
  refine (rsum_any X rfl (by first | rfl | exact hml) hl2 (by omega) (by omega)).mono ?_
  rintro e w3 ⟨rfl, hb3⟩
  have hl3 := hl2.below hb3
  have hr3 := hr2.below hb3
  have ht : (((sumF l X).toNat : Int) == ((sumF l X).toNat : Int)) = true := by simp
  go_wp2_with fail
  refine (same_any rfl (by first | rfl | exact hml) hr3 hl3 (by unfold maxLen; omega)).mono ?_
  rintro e w4 ⟨rfl, nq, rfl⟩
  have e5 : (l == l) = true := by simp
  go_wp2_with fail
  refine (lives3_any _).mono ?_
  rintro e w7 ⟨rfl, hb7⟩
  go_wp2
  go_ret
  exact ⟨rfl, Gr.transN (Gr.trans (Gr.trans hb hb2) hb3) hb7⟩

theorem known_law (w : World) : Calls Try.prog 7 #[] w fun e w' => e = .returned (.bool true) ∧ Below w.heap.size w w' := by
  have kc := fun (w : World) (C : Array Value) (n c : Nat) => Lib.run_convert_bytes_const (P := Try.prog) w 22 5 C n c Try.underlying22 Try.underlying5
  have h1 : (((sumF [97] 0).toNat : Int) == 15154266338359012955) = true := by rw [sum_a]; decide
  have h2 : (((sumF [97, 98, 99] 0).toNat : Int) == 4952883123889572249) = true := by rw [sum_abc]; decide
  have H1 := Lib.hid h1
  have H2 := Lib.hid h2
  clear h1 h2
  go_enter Try.func7, Try.ntmps7
  go_wp2_with fail
  refine (xsum_any 0 (l := [97]) (by rfl) (by rfl) (row_alloc _ _ _ _) (by decide) (by decide)).mono ?_
  rintro e w1 ⟨rfl, hb⟩
  have hb0 : Below w.heap.size w w1 := ((Below.refl _ _).alloc (Nat.le_refl _) _).trans (hb.mono (by simp))
  clear hb
  have h1 := H1.out
  go_wp2_with fail
  refine (xsum_any 0 (l := [97, 98, 99]) (by rfl) (by rfl) (row_alloc _ _ _ _) (by decide) (by decide)).mono ?_
  rintro e w2 ⟨rfl, hb⟩
  have hb1 : Below w.heap.size w w2 := (hb0.alloc hb0.size _).trans (hb.mono (by have := hb0.size; simp; omega))
  clear hb hb0
  have h2 := H2.out
  go_wp2_with fail
  refine (lives3_any _).mono ?_
  rintro e w7 ⟨rfl, hb7⟩
  go_wp2
  go_ret
  exact ⟨rfl, Gr.trans hb1 hb7⟩

/-- A hasher that no call made. -/
def NoHas (w : World) (v : Value) : Prop := v = .pointer none ∨ ∃ g, v = .pointer (some ⟨g, 0, none⟩) ∧ ∃ xs, Blk w g 42 (.bool false :: xs)
theorem nwrite_any {w : World} {v x : Value} (h : NoHas w v) : Calls Try.prog 17 #[v, x] w fun r w' => r = .returned (.tuple #[]) ∧ w = w' := by
  rcases h with rfl | ⟨g, rfl, xs, hB⟩
  · go_enter Try.func17, Try.ntmps17
    go_wp2
    refine bodyPost_ret (results_none (by rfl) _ _ _) rfl ?_
    exact ⟨rfl, rfl⟩
  · have c0 : w.cell? ⟨g, 0, none⟩ = _ := hB.cell rfl
    go_enter Try.func17, Try.ntmps17
    go_wp2
    refine bodyPost_ret (results_none (by rfl) _ _ _) rfl ?_
    exact ⟨rfl, rfl⟩
theorem nhsum_any {w : World} {v : Value} (h : NoHas w v) : Calls Try.prog 16 #[v] w fun r w' => r = .returned (.int .u64 0) ∧ w = w' := by
  rcases h with rfl | ⟨g, rfl, xs, hB⟩
  · go_enter Try.func16, Try.ntmps16
    go_wp2
    go_ret
    exact ⟨rfl, rfl⟩
  · have c0 : w.cell? ⟨g, 0, none⟩ = _ := hB.cell rfl
    go_enter Try.func16, Try.ntmps16
    go_wp2
    go_ret
    exact ⟨rfl, rfl⟩
theorem xnobody_law (v : Value) (w : World) : Calls Try.prog 8 #[v] w fun e w' => e = .returned (.bool true) ∧ Below w.heap.size w w' := by
  have n0 : ∀ w, NoHas w (.pointer none) := fun w => .inl rfl
  have hb0 := (Below.refl w.heap.size w).alloc (Nat.le_refl _) (.cells #[.bool false, .int .u64 0, .int .u64 0, .int .u64 0, .int .u64 0, .int .u64 0, .slice none 0 0, .int .u64 0] 42)
  have p0 : NoHas (w.alloc (.cells #[.bool false, .int .u64 0, .int .u64 0, .int .u64 0, .int .u64 0, .int .u64 0, .slice none 0 0, .int .u64 0] 42)) (.pointer (some ⟨w.heap.size, 0, none⟩)) := .inr ⟨_, rfl, _, Blk.new _ _ _⟩
  go_enter Try.func8, Try.ntmps8
  go_wp2_with fail
  refine (nwrite_any (n0 _)).mono ?_
  rintro e w3 ⟨rfl, rfl⟩
  go_wp2_with fail
  refine (nwrite_any p0).mono ?_
  rintro e w3 ⟨rfl, rfl⟩
  go_wp2_with fail
  refine (nhsum_any (n0 _)).mono ?_
  rintro e w3 ⟨rfl, rfl⟩
  go_wp2_with fail
  refine (nhsum_any p0).mono ?_
  rintro e w3 ⟨rfl, rfl⟩
  go_wp2_with fail
  refine (lives3_any _).mono ?_
  rintro e w3 ⟨rfl, hb3⟩
  go_wp2
  go_ret
  exact ⟨rfl, Gr.trans hb0 hb3⟩

section
variable {H : Type} {enc : TypeId × Value → H} {W : World} {base : Nat} {v0 v1 v2 v3 v4 : Value} {d0 d1 d2 d3 d4 : DataW H} {p0 p1 p2 p3 p4 : List MemPlace}
theorem xxhKnown_calls : Calls Try.prog 7 #[] W fun e W' => e = .returned (.bool true) ∧ Below W.heap.size W W' := known_law W
theorem xxhNobody_calls (_ : Value.okWide Try.prog W .any base 22 v0) (_ : DataW.Trod enc Try.prog W 0 (fun _ => true) true 22 v0 d0 p0) :
    Calls Try.prog 8 #[v0] W fun e W' => e = .returned (.bool true) ∧ Below W.heap.size W W' := xnobody_law v0 W
theorem xxhSums_calls (o0 : Value.okWide Try.prog W .any base 22 v0) (h0 : DataW.Trod enc Try.prog W 0 (fun _ => true) true 22 v0 d0 p0)
    (o1 : Value.okWide Try.prog W .any base 23 v1) (h1 : DataW.Trod enc Try.prog W 0 (fun _ => true) true 23 v1 d1 p1) :
    Calls Try.prog 3 #[v0, v1] W fun e W' => e = .returned (.bool true) ∧ Below W.heap.size W W' := by
  obtain ⟨a, n, c, l, rfl, hn, hc, _, hl⟩ := open_byt Try.underlying22 Try.underlying5 (by kernel_rfl) o0 h0
  obtain ⟨x, rfl, rfl, rfl, w1⟩ := open_int Try.underlying23 o1 h1
  obtain ⟨X, rfl⟩ := u64_eq (u64_wf w1).1 (u64_wf w1).2
  exact sums_law X a n c l W hn hc hl
end
end Go.Proofs.Ytjooojklkihkcaa
