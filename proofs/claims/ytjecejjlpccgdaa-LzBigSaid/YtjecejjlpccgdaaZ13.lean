/- The walks of LzLoosens, LzBack, LzCuts. -/
import Derived.Test.YtjecejjlpccgdaaZ12
import Derived.Test.YtjecejjlpccgdaaArg
namespace Go.Proofs.Ytjecejjlpccgdaa
open Go.ChangeShapes Go.WideShapes Go.ChangeAt Go.RowKit Go.Hd

theorem loosen_any {a : Option Addr} {n c : Nat} {l : List UInt8} {most : Int} {w : World} (hn : n = l.length) (hl : Row w a (l.map b8)) (hm : l.length ≤ 100000) :
    Calls Try.prog 20 #[.slice a n c, .int .i64 most] w (LoPost w (loosenF l most)) := by
  by_cases h : most < 0 ∨ 65536 < most
  · exact loosen_bad h
  · obtain ⟨M, rfl⟩ := Int.eq_ofNat_of_zero_le (show 0 ≤ most by omega)
    exact loosen_good hn hl hm (by omega)
theorem rloosen_any {a : Option Addr} {n c : Nat} {l : List UInt8} {most : Int} {w : World} (hn : n = l.length) (hl : Row w a (l.map b8)) (hc : n ≤ c) (hm : l.length ≤ 100000) :
    Calls Try.prog 21 #[.slice a n c, .int .i64 most] w (LoPost w (loosenF l most)) := by
  by_cases h : most < 0 ∨ 65536 < most
  · exact rloosen_bad h
  · obtain ⟨M, rfl⟩ := Int.eq_ofNat_of_zero_le (show 0 ≤ most by omega)
    exact rloosen_good hn hl hc hm (by omega)
theorem squeeze_pos (l : List UInt8) : 1 ≤ (squeezeF l).length := by
  have h := squeeze_enc l
  generalize squeezeF l = L at *
  cases h with
  | last => rw [seqL_length]; omega
  | more => rw [List.length_append, seqL_length]; omega
theorem squeeze_len (l : List UInt8) : (squeezeF l).length ≤ l.length + l.length / 255 + 2 := by
  have := enc_bound (squeeze_enc l)
  rwa [Nat.sub_zero] at this
theorem loosens_law (a : Option Addr) (n c : Nat) (most : Int) (l0 : List UInt8) (w : World) (hn : n = l0.length) (hc : n ≤ c) (hl0 : Row w a (l0.map b8)) :
    Calls Try.prog 7 #[.slice a n c, .int .i64 most] w fun e w' => e = .returned (.bool true) ∧ Below w.heap.size w w' := by
  subst hn
  have hl : Row w a ((l0.take 1000).map b8) := by rw [List.map_take]; exact hl0.take 1000
  have hk : (l0.take 1000).length ≤ 1000 := List.length_take_le _ _
  have hkc : (l0.take 1000).length ≤ c := by simp; omega
  have hml : min l0.length 1000 = (l0.take 1000).length := by simp; omega
  generalize l0.take 1000 = l at *
  go_enter Try.func7, Try.ntmps7
  go_wp2_with fail
  refine (cut_any a _ c 1000 w (by decide) hc).mono ?_
  rintro e w1 ⟨rfl, rfl⟩
  go_wp2_with fail
  refine (copy_any a _ c l _ (by first | rfl | exact hml) hl (by omega)).mono ?_
  rintro e w1 ⟨v, rfl, hF⟩
  obtain ⟨a1, c1, rfl, hr, hb, _, hc1⟩ := hF.open
  have hl1 := hl.below hb
  go_wp2_with fail
  refine (loosen_any (l := l) (most := most) (by rfl) hr (by omega)).mono ?_
  rintro e w2 ⟨v2, rfl, hF2⟩
  obtain ⟨a2, c2, rfl, hr2, hb2, hm2, _⟩ := hF2.open
  have hl2 := hl1.below hb2
  have hrr := hr.below hb2
  go_wp2_with fail
  refine (rloosen_any (l := l) (most := most) (by first | rfl | exact hml) hl2 (by omega) (by omega)).mono ?_
  rintro e w3 ⟨v3, rfl, hF3⟩
  obtain ⟨a3, c3, rfl, hr3, hb3, _, _⟩ := hF3.open
  have hl3 := hl2.below hb3
  have hrr3 := hrr.below hb3
  have hr23 := hr2.below hb3
  generalize loosenF l most = F at *
  obtain ⟨d, f⟩ := F
  simp only at *
  go_wp2_with fail
  refine (same_any (l := d) (m := d) rfl rfl hr23 hr3 hm2).mono ?_
  rintro e w4 ⟨rfl, n4, rfl⟩
  have e4 : (d == d) = true := by simp
  have e6 : (f == f) = true := by simp
  go_wp2_with fail
  refine (same_any rfl (by first | rfl | exact hml) (hrr3.drewN n4) (hl3.drewN n4) (by unfold maxLen; omega)).mono ?_
  rintro e w5 ⟨rfl, n5, rfl⟩
  have e5 : (l == l) = true := by simp
  go_wp2_with fail
  refine (lives8_any _).mono ?_
  rintro e w7 ⟨rfl, hb7⟩
  go_wp2
  go_ret
  exact ⟨rfl, Gr.transN (Gr.trans (Gr.trans hb hb2) hb3) hb7⟩
theorem lback_law (a : Option Addr) (n c : Nat) (room less : Int) (l0 : List UInt8) (w : World) (hn : n = l0.length) (hc : n ≤ c) (hl0 : Row w a (l0.map b8)) :
    Calls Try.prog 8 #[.slice a n c, .int .i64 room, .int .i64 less] w fun e w' => e = .returned (.bool true) ∧ Below w.heap.size w w' := by
  subst hn
  have hl : Row w a ((l0.take 4000).map b8) := by rw [List.map_take]; exact hl0.take 4000
  have hk : (l0.take 4000).length ≤ 4000 := List.length_take_le _ _
  have hkc : (l0.take 4000).length ≤ c := by simp; omega
  have hml : min l0.length 4000 = (l0.take 4000).length := by simp; omega
  generalize l0.take 4000 = l at *
  have hsl := squeeze_len l
  have hR := wN_bd room l.length 65536 (by omega)
  obtain ⟨R, hRe⟩ : ∃ R, R = wN room l.length 65536 := ⟨_, rfl⟩
  rw [← hRe] at hR
  have HRE := Lib.hid hRe
  have HL : Hid (loosenF (squeezeF l) R = (l, 0)) := by
    show _ = _
    rw [loosen_squeeze l R (by omega) (by omega), if_neg (by omega)]
  have HL2 : Hid (∀ k : Nat, k < l.length → loosenF (squeezeF l) k = ([], 5)) := by
    show ∀ k : Nat, _
    intro k hk2
    rw [loosen_squeeze l k (by omega) (by omega), if_pos (by omega)]
  clear hRe
  go_enter Try.func8, Try.ntmps8
  go_wp2_with fail
  refine (cut_any a _ c 4000 w (by decide) hc).mono ?_
  rintro e w1 ⟨rfl, rfl⟩
  go_wp2_with fail
  refine (squeeze_any (by first | rfl | exact hml) hl (by omega) (by omega)).mono ?_
  rintro e w2 ⟨v2, rfl, hF2⟩
  obtain ⟨a2, c2, rfl, hr2, hb2, hm2, hc2⟩ := hF2.open
  generalize squeezeF l = C at *
  clear hF2
  go_wp2_with fail
  refine (within_nat (x := room) l.length 65536 (by first | rfl | (rw [hml])) (by decide)).mono ?_
  rintro e w3 ⟨rfl, rfl⟩
  rw [← HRE.out]
  go_wp2_with fail
  refine (loosen_any (l := C) (most := (R : Int)) (by rfl) hr2 (by omega)).mono ?_
  rintro e w3 ⟨v3, rfl, hF3⟩
  rw [HL.out] at hF3 ⊢
  obtain ⟨a3, c3, rfl, hr3, hb3, hm3, _⟩ := hF3.open
  have hb03 := Gr.trans hb2 hb3
  have hl3 := hl.below hb03
  have hr23 := hr2.below hb3
  have e5 : (l == l) = true := by simp
  clear hF3
  go_wp2_with fail
  refine (same_any (l := l) (m := l) rfl (by first | rfl | exact hml) hr3 hl3 hm3).mono ?_
  rintro e w4 ⟨rfl, n4, rfl⟩
  have hb04 := Below.drewN hb03 n4
  have hr24 := hr23.drewN n4
  generalize w3.drewN n4 = w4 at *
  by_cases hz : l.length = 0
  · have hzB : ((l.length : Int) == 0) = true := by simp [hz]
    have HZ := Lib.hid hz
    clear hz
    go_wp2_with fail
    refine (lives8_any _).mono ?_
    rintro e w7 ⟨rfl, hb7⟩
    go_wp2
    go_ret
    exact ⟨rfl, Gr.trans hb04 hb7⟩
  · have hzB : ((l.length : Int) == 0) = false := beq_eq_false_iff_ne.2 (by omega)
    have hl1 : (l.length : Int) - 1 = ((l.length - 1 : Nat) : Int) := by omega
    have HL1 := Lib.hid hl1
    have hK := wN_bd less 0 (l.length - 1) (by omega)
    obtain ⟨K, hKe⟩ : ∃ K, K = wN less 0 (l.length - 1) := ⟨_, rfl⟩
    rw [← hKe] at hK
    have HKE := Lib.hid hKe
    have hKl : K < l.length := by omega
    clear hl1 hKe hz
    go_wp2_with fail
    refine (within_nat (x := less) 0 (l.length - 1) (by rfl) (by have := HL1.out; first | exact this | (rw [hml]; exact this))).mono ?_
    rintro e w5 ⟨rfl, rfl⟩
    rw [← HKE.out]
    go_wp2_with fail
    refine (loosen_any (l := C) (most := (K : Int)) (by rfl) hr24 (by omega)).mono ?_
    rintro e w6 ⟨v6, rfl, hF6⟩
    rw [HL2.out K hKl] at hF6 ⊢
    obtain ⟨a6, c6, rfl, hr6, hb6, hm6, _⟩ := hF6.open
    have hb06 := Gr.trans hb04 hb6
    go_wp2_with fail
    refine (lives8_any _).mono ?_
    rintro e w7 ⟨rfl, hb7⟩
    go_wp2
    go_ret
    exact ⟨rfl, Gr.trans hb06 hb7⟩
theorem lcuts_law (a : Option Addr) (n c : Nat) (x : Int) (l0 : List UInt8) (w : World) (hn : n = l0.length) (hc : n ≤ c) (hl0 : Row w a (l0.map b8)) :
    Calls Try.prog 9 #[.slice a n c, .int .i64 x] w fun e w' => e = .returned (.bool true) ∧ Below w.heap.size w w' := by
  subst hn
  have hl : Row w a ((l0.take 2000).map b8) := by rw [List.map_take]; exact hl0.take 2000
  have hk : (l0.take 2000).length ≤ 2000 := List.length_take_le _ _
  have hkc : (l0.take 2000).length ≤ c := by simp; omega
  have hml : min l0.length 2000 = (l0.take 2000).length := by simp; omega
  generalize l0.take 2000 = l at *
  have hsl := squeeze_len l
  have hsp := squeeze_pos l
  have HCUT := Lib.hid (fun j => loosen_cut l j (by omega))
  go_enter Try.func9, Try.ntmps9
  go_wp2_with fail
  refine (cut_any a _ c 2000 w (by decide) hc).mono ?_
  rintro e w1 ⟨rfl, rfl⟩
  go_wp2_with fail
  refine (squeeze_any (by first | rfl | exact hml) hl (by omega) (by omega)).mono ?_
  rintro e w2 ⟨v2, rfl, hF2⟩
  obtain ⟨a2, c2, rfl, hr2, hb2, hm2, hc2⟩ := hF2.open
  generalize squeezeF l = C at *
  clear hF2
  have hzB : ((C.length : Int) == 0) = false := beq_eq_false_iff_ne.2 (by omega)
  have hl1 : (C.length : Int) - 1 = ((C.length - 1 : Nat) : Int) := by omega
  have HL1 := Lib.hid hl1
  have hK := wN_bd x 0 (C.length - 1) (by omega)
  obtain ⟨K, hKe⟩ : ∃ K, K = wN x 0 (C.length - 1) := ⟨_, rfl⟩
  rw [← hKe] at hK
  have HKE := Lib.hid hKe
  have hKl : K < C.length := by omega
  clear hl1 hKe
  go_wp2_with fail
  refine (within_nat (x := x) 0 (C.length - 1) (by rfl) HL1.out).mono ?_
  rintro e w5 ⟨rfl, rfl⟩
  rw [← HKE.out]
  obtain ⟨a3, c3, hsl3, h31, h32, hrow3⟩ := cut_h (P := Try.prog) (t := 22) (e := 5) (s := 1) eB.ht (by kernel_rfl) hr2 (k2 := .i64) (j := (K : Int)) (q := K) (n := C.length) (c := c2) rfl (by omega)
  rw [Nat.mul_one, ← List.map_take] at hrow3
  have hkl : K = (C.take K).length := by rw [List.length_take]; omega
  have hCT := HCUT.out K hKl
  obtain ⟨D, hD⟩ : ∃ D, D = C.take K := ⟨_, rfl⟩
  rw [← hD] at hrow3 hkl hCT
  have HKL := Lib.hid hkl
  have hDl : D.length ≤ 10000 := by omega
  clear hD hkl
  go_wp2_with fail
  refine (loosen_any (l := D) (most := 65536) HKL.out hrow3 (by omega)).mono ?_
  rintro e w6 ⟨v6, rfl, hF6⟩
  rcases hCT with hE | ⟨j, hE⟩
  · rw [hE] at hF6 ⊢
    obtain ⟨a6, c6, rfl, hr6, hb6, hm6, _⟩ := hF6.open
    have hb06 := Gr.trans hb2 hb6
    go_wp2_with fail
    refine (lives8_any _).mono ?_
    rintro e w7 ⟨rfl, hb7⟩
    go_wp2
    go_ret
    exact ⟨rfl, Gr.trans hb06 hb7⟩
  · rw [hE] at hF6 ⊢
    obtain ⟨a6, c6, rfl, hr6, hb6, hm6, _⟩ := hF6.open
    have hb06 := Gr.trans hb2 hb6
    have hl6 := hl.below hb06
    have hjl : (l.take j).length ≤ l.length := by rw [List.length_take]; omega
    have hjt : l.take (l.take j).length = l.take j := by
      rw [List.length_take]
      by_cases h : j ≤ l.length
      · rw [Nat.min_eq_left h]
      · rw [Nat.min_eq_right (by omega), List.take_of_length_le (by omega), List.take_of_length_le (by omega)]
    obtain ⟨a8, c8, hsl8, h81, h82, hrow8⟩ := cut_h (P := Try.prog) (t := 22) (e := 5) (s := 1) eB.ht (by kernel_rfl) hl6 (k2 := .i64) (j := (((l.take j).length : Nat) : Int)) (q := (l.take j).length) (n := l.length) (c := c) rfl (by omega)
    rw [Nat.mul_one, ← List.map_take, hjt] at hrow8
    obtain ⟨G, hG⟩ : ∃ G, G = l.take j := ⟨_, rfl⟩
    rw [← hG] at hr6 hjl hsl8 h81 hrow8 hm6 ⊢
    have hGI : (G.length : Int) ≤ l.length := by omega
    have e5 : (G == G) = true := by simp
    clear hG hjt hF6 hE
    go_wp2_with fail
    refine (same_any (l := G) (m := G) rfl rfl hr6 hrow8 hm6).mono ?_
    rintro e w8 ⟨rfl, n8, rfl⟩
    go_wp2_with fail
    refine (lives8_any _).mono ?_
    rintro e w7 ⟨rfl, hb7⟩
    go_wp2
    go_ret
    exact ⟨rfl, Gr.transN hb06 hb7⟩
section
variable {H : Type} {enc : TypeId × Value → H} {W : World} {base : Nat} {v0 v1 v2 v3 v4 : Value} {d0 d1 d2 d3 d4 : DataW H} {p0 p1 p2 p3 p4 : List MemPlace}
theorem lzLoosens_calls (o0 : Value.okWide Try.prog W .any base 22 v0) (h0 : DataW.Trod enc Try.prog W 0 (fun _ => true) true 22 v0 d0 p0)
    (o1 : Value.okWide Try.prog W .any base 3 v1) (h1 : DataW.Trod enc Try.prog W 0 (fun _ => true) true 3 v1 d1 p1) :
    Calls Try.prog 7 #[v0, v1] W fun e W' => e = .returned (.bool true) ∧ Below W.heap.size W W' := by
  obtain ⟨a, n, c, l, rfl, hn, hc, _, hl⟩ := open_byt Try.underlying22 Try.underlying5 (by kernel_rfl) o0 h0
  obtain ⟨y, rfl, rfl, rfl, w1⟩ := open_int Try.underlying3 o1 h1
  exact loosens_law a n c y l W hn hc hl
theorem lzBack_calls (o0 : Value.okWide Try.prog W .any base 22 v0) (h0 : DataW.Trod enc Try.prog W 0 (fun _ => true) true 22 v0 d0 p0)
    (o1 : Value.okWide Try.prog W .any base 3 v1) (h1 : DataW.Trod enc Try.prog W 0 (fun _ => true) true 3 v1 d1 p1)
    (o2 : Value.okWide Try.prog W .any base 3 v2) (h2 : DataW.Trod enc Try.prog W 0 (fun _ => true) true 3 v2 d2 p2) :
    Calls Try.prog 8 #[v0, v1, v2] W fun e W' => e = .returned (.bool true) ∧ Below W.heap.size W W' := by
  obtain ⟨a, n, c, l, rfl, hn, hc, _, hl⟩ := open_byt Try.underlying22 Try.underlying5 (by kernel_rfl) o0 h0
  obtain ⟨y, rfl, rfl, rfl, w1⟩ := open_int Try.underlying3 o1 h1
  obtain ⟨z, rfl, rfl, rfl, w2⟩ := open_int Try.underlying3 o2 h2
  exact lback_law a n c y z l W hn hc hl
theorem lzCuts_calls (o0 : Value.okWide Try.prog W .any base 22 v0) (h0 : DataW.Trod enc Try.prog W 0 (fun _ => true) true 22 v0 d0 p0)
    (o1 : Value.okWide Try.prog W .any base 3 v1) (h1 : DataW.Trod enc Try.prog W 0 (fun _ => true) true 3 v1 d1 p1) :
    Calls Try.prog 9 #[v0, v1] W fun e W' => e = .returned (.bool true) ∧ Below W.heap.size W W' := by
  obtain ⟨a, n, c, l, rfl, hn, hc, _, hl⟩ := open_byt Try.underlying22 Try.underlying5 (by kernel_rfl) o0 h0
  obtain ⟨y, rfl, rfl, rfl, w1⟩ := open_int Try.underlying3 o1 h1
  exact lcuts_law a n c y l W hn hc hl
end
end Go.Proofs.Ytjecejjlpccgdaa
