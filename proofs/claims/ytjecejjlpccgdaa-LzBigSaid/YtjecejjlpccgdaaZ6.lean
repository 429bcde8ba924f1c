/- The walks of LzSqueezes, LzBound, LzRuns. -/
import Derived.Test.YtjecejjlpccgdaaZ5
import Derived.Test.YtjecejjlpccgdaaArg
import Derived.Lib.SlBytesConst
namespace Go.Proofs.Ytjecejjlpccgdaa
open Go.ChangeShapes Go.WideShapes Go.ChangeAt Go.RowKit Go.Hd

theorem squeeze_abc : squeezeF [97, 98, 99] = [48, 97, 98, 99] := by decide
theorem lives8_any (w : World) : Calls Try.prog 16 #[] w fun e w' => e = .returned (.bool true) ∧ Below w.heap.size w w' := by
  have kc := fun (w : World) (C : Array Value) (n c : Nat) => Lib.run_convert_bytes_const (P := Try.prog) w 22 5 C n c Try.underlying22 Try.underlying5
  go_enter Try.func16, Try.ntmps16
  go_wp2_with fail
  refine (squeeze_any (l := [97, 98, 99]) (by rfl) (row_alloc _ _ _ _) (by decide) (by decide)).mono ?_
  rintro e w1 ⟨v, rfl, hF⟩
  rw [squeeze_abc] at hF
  obtain ⟨ho, hb⟩ := hF
  have hb0 : Below w.heap.size w w1 := ((Below.refl _ _).alloc (Nat.le_refl _) _).trans (hb.mono (by simp))
  rcases owns_bytes ho with ⟨_, h0⟩ | ⟨g, c, rest, rfl, hg, hB, _, _, _⟩
  · cases h0
  have c0 : w1.cell? ⟨g, 0, none⟩ = some (.int .u8 48) := hB.byteL (l := [48, 97, 98, 99]) (i := 0) (by decide)
  clear ho hb hB
  go_wp2
  go_ret
  exact ⟨rfl, hb0⟩
theorem squeezes_law (a : Option Addr) (n c : Nat) (l0 : List UInt8) (w : World) (hn : n = l0.length) (hc : n ≤ c) (hl0 : Row w a (l0.map b8)) :
    Calls Try.prog 3 #[.slice a n c] w fun e w' => e = .returned (.bool true) ∧ Below w.heap.size w w' := by
  subst hn
  have hl : Row w a ((l0.take 1500).map b8) := by rw [List.map_take]; exact hl0.take 1500
  have hk : (l0.take 1500).length ≤ 1500 := List.length_take_le _ _
  have hkc : (l0.take 1500).length ≤ c := by simp; omega
  have hml : min l0.length 1500 = (l0.take 1500).length := by simp; omega
  generalize l0.take 1500 = l at *
  go_enter Try.func3, Try.ntmps3
  go_wp2_with fail
  refine (cut_any a _ c 1500 w (by decide) hc).mono ?_
  rintro e w1 ⟨rfl, rfl⟩
  go_wp2_with fail
  refine (copy_any a _ c l _ (by first | rfl | exact hml) hl (by omega)).mono ?_
  rintro e w1 ⟨v, rfl, hF⟩
  obtain ⟨a1, c1, rfl, hr, hb, _, hc1⟩ := hF.open
  have hl1 := hl.below hb
  go_wp2_with fail
  refine (squeeze_any rfl hr hc1 (by omega)).mono ?_
  rintro e w2 ⟨v2, rfl, hF2⟩
  obtain ⟨a2, c2, rfl, hr2, hb2, hm2, _⟩ := hF2.open
  have hl2 := hl1.below hb2
  have hrr := hr.below hb2
  go_wp2_with fail
  refine (rsqueeze_any (by first | rfl | exact hml) hl2 (by omega) (by omega)).mono ?_
  rintro e w3 ⟨v3, rfl, hF3⟩
  obtain ⟨a3, c3, rfl, hr3, hb3, _, _⟩ := hF3.open
  have hl3 := hl2.below hb3
  have hrr3 := hrr.below hb3
  have hr23 := hr2.below hb3
  go_wp2_with fail
  refine (same_any rfl rfl hr23 hr3 hm2).mono ?_
  rintro e w4 ⟨rfl, n4, rfl⟩
  have e4 : (squeezeF l == squeezeF l) = true := by simp
  go_wp2_with fail
  refine (same_any rfl (by first | rfl | exact hml) (hrr3.drewN n4) (hl3.drewN n4) (by unfold maxLen; omega)).mono ?_
  rintro e w5 ⟨rfl, n5, rfl⟩
  have e5 : (l == l) = true := by simp
  go_wp2_with fail
  refine (lives8_any _).mono ?_
  rintro e w7 ⟨rfl, hb7⟩
  go_wp2
  go_ret
  exact ⟨rfl, Gr.transN (Gr.trans (Gr.trans hb hb2) hb3) hb7⟩
theorem bound_law (a : Option Addr) (n c : Nat) (l0 : List UInt8) (w : World) (hn : n = l0.length) (hc : n ≤ c) (hl0 : Row w a (l0.map b8)) :
    Calls Try.prog 4 #[.slice a n c] w fun e w' => e = .returned (.bool true) ∧ Below w.heap.size w w' := by
  subst hn
  have hl : Row w a ((l0.take 4000).map b8) := by rw [List.map_take]; exact hl0.take 4000
  have hk : (l0.take 4000).length ≤ 4000 := List.length_take_le _ _
  have hkc : (l0.take 4000).length ≤ c := by simp; omega
  have hml : min l0.length 4000 = (l0.take 4000).length := by simp; omega
  generalize l0.take 4000 = l at *
  have hbd := enc_bound (squeeze_enc l)
  rw [Nat.sub_zero] at hbd
  have hne : 1 ≤ (squeezeF l).length := by
    have h := squeeze_enc l
    generalize squeezeF l = L at *
    cases h with
    | last => rw [seqL_length]; omega
    | more => rw [List.length_append, seqL_length]; omega
  go_enter Try.func4, Try.ntmps4
  go_wp2_with fail
  refine (cut_any a _ c 4000 w (by decide) hc).mono ?_
  rintro e w1 ⟨rfl, rfl⟩
  go_wp2_with fail
  refine (squeeze_any (by first | rfl | exact hml) hl (by omega) (by omega)).mono ?_
  rintro e w2 ⟨v2, rfl, hF2⟩
  obtain ⟨a2, c2, rfl, hr2, hb2, hm2, _⟩ := hF2.open
  generalize (squeezeF l).length = N at *
  have hN1 : (1 : Int) ≤ N := by omega
  have hN2 : (N : Int) ≤ (l.length : Int) + (l.length : Int) / 255 + 2 := by omega
  go_wp2_with fail
  refine (lives8_any _).mono ?_
  rintro e w7 ⟨rfl, hb7⟩
  go_wp2
  go_ret
  exact ⟨rfl, Gr.trans hb2 hb7⟩
theorem run_any {n : Nat} (c : UInt8) {w : World} (hn : n ≤ 100000) :
    Calls Try.prog 17 #[.int .u8 (c.toNat : Int), .int .i64 n] w fun e w' => ∃ v, e = .returned v ∧ Fresh w w' v (List.replicate n c) := by
  go_enter Try.func17, Try.ntmps17
  go_wp2
  go_loopw [5, 6] (fun out i wr => ∃ k : Nat, k ≤ n ∧ i = .int .i64 k ∧ Own 5 wr w.heap.size out (List.replicate k c) ∧ Below w.heap.size w wr) (fun _ i _ => n - (intOf i).toNat)
  case atStart => exact ⟨0, Nat.zero_le _, rfl, Own.nil _ _ _, Below.refl _ _⟩
  case round =>
    obtain ⟨k, hk, rfl, ho, hb⟩ := hrel
    by_cases hlt : k < n
    · have hI : (k : Int) < n := by omega
      obtain ⟨v', w1, hrun, o1, _, _, hb1⟩ := Own.append1 (ty := 22) ho eB c (by simp; omega) hb.size
      have hb1' := hb.trans hb1
      have HO : Hid (Own 5 w1 w.heap.size v' (List.replicate (k + 1) c)) := by
        show Own _ _ _ _ _
        rw [List.replicate_succ']; exact o1
      clear ho o1 hb hb1
      go_wp2_with (at_builtin; refine wpList_append_run hrun rfl rfl rfl rfl ?_)
      first
        | exact ⟨⟨k + 1, by omega, (by first | rfl | go_num | (congr 1; omega)), HO.out, hb1'⟩, by simp [intOf] <;> omega⟩
        | (refine ⟨?_, by simp [intOf] <;> omega⟩; (repeat apply Exists.intro); exact ⟨⟨k + 1, by omega, (by first | rfl | go_num | (congr 1; omega)), HO.out, hb1'⟩, rfl⟩)
    · obtain rfl : k = n := by omega
      go_wp2
      go_ret
      exact ⟨_, rfl, ho, hb⟩
theorem runs_law (c : UInt8) (x : Int) (w : World) :
    Calls Try.prog 5 #[.int .u8 (c.toNat : Int), .int .i64 x] w fun e w' => e = .returned (.bool true) ∧ Below w.heap.size w w' := by
  have hNb := wN_bd x 0 5000 (by decide)
  go_enter Try.func5, Try.ntmps5
  go_wp2_with fail
  refine (within_nat (x := x) (p := 0) (q := 5000) 0 5000 (by decide) (by decide)).mono ?_
  rintro e w1 ⟨rfl, rfl⟩
  generalize wN x 0 5000 = n at *
  have hrb := runs_bound c n
  go_wp2_with fail
  refine (run_any c (by omega)).mono ?_
  rintro e w1 ⟨v, rfl, hF⟩
  have hLn : (List.replicate n c).length = n := List.length_replicate
  generalize List.replicate n c = L at *
  obtain ⟨a, cc, rfl, hr, hb, _, hc1⟩ := hF.open
  have hL5 : L.length ≤ 5000 := by omega
  have hrb2 : (squeezeF L).length ≤ L.length / 255 + 13 := by rw [hLn]; exact hrb
  clear hLn hrb hF
  go_wp2_with fail
  refine (squeeze_any (l := L) (by rfl) hr hc1 (by omega)).mono ?_
  rintro e w2 ⟨v2, rfl, hF2⟩
  obtain ⟨a2, c2, rfl, hr2, hb2, hm2, _⟩ := hF2.open
  generalize (squeezeF L).length = N at *
  have hn5 : (L.length : Int) ≤ 5000 := by omega
  have hN2 : (N : Int) ≤ (L.length : Int) / 255 + 13 := by omega
  go_wp2_with fail
  refine (lives8_any _).mono ?_
  rintro e w7 ⟨rfl, hb7⟩
  go_wp2
  go_ret
  exact ⟨rfl, Gr.trans (Gr.trans hb hb2) hb7⟩
section
variable {H : Type} {enc : TypeId × Value → H} {W : World} {base : Nat} {v0 v1 v2 v3 v4 : Value} {d0 d1 d2 d3 d4 : DataW H} {p0 p1 p2 p3 p4 : List MemPlace}
theorem lzSqueezes_calls (o0 : Value.okWide Try.prog W .any base 22 v0) (h0 : DataW.Trod enc Try.prog W 0 (fun _ => true) true 22 v0 d0 p0) :
    Calls Try.prog 3 #[v0] W fun e W' => e = .returned (.bool true) ∧ Below W.heap.size W W' := by
  obtain ⟨a, n, c, l, rfl, hn, hc, _, hl⟩ := open_byt Try.underlying22 Try.underlying5 (by kernel_rfl) o0 h0
  exact squeezes_law a n c l W hn hc hl
theorem lzBound_calls (o0 : Value.okWide Try.prog W .any base 22 v0) (h0 : DataW.Trod enc Try.prog W 0 (fun _ => true) true 22 v0 d0 p0) :
    Calls Try.prog 4 #[v0] W fun e W' => e = .returned (.bool true) ∧ Below W.heap.size W W' := by
  obtain ⟨a, n, c, l, rfl, hn, hc, _, hl⟩ := open_byt Try.underlying22 Try.underlying5 (by kernel_rfl) o0 h0
  exact bound_law a n c l W hn hc hl
theorem lzRuns_calls (o0 : Value.okWide Try.prog W .any base 5 v0) (h0 : DataW.Trod enc Try.prog W 0 (fun _ => true) true 5 v0 d0 p0)
    (o1 : Value.okWide Try.prog W .any base 3 v1) (h1 : DataW.Trod enc Try.prog W 0 (fun _ => true) true 3 v1 d1 p1) :
    Calls Try.prog 5 #[v0, v1] W fun e W' => e = .returned (.bool true) ∧ Below W.heap.size W W' := by
  obtain ⟨x, rfl, rfl, rfl, w0⟩ := open_int Try.underlying5 o0 h0
  obtain ⟨y, rfl, rfl, rfl, w1⟩ := open_int Try.underlying3 o1 h1
  obtain ⟨c, rfl⟩ : ∃ c : UInt8, x = (c.toNat : Int) := ⟨UInt8.ofNat x.toNat, by have := u8_wf w0; rw [UInt8.toNat_ofNat']; omega⟩
  exact runs_law c y W
end
end Go.Proofs.Ytjecejjlpccgdaa
