/- Layer 05: PackNumbers. -/
import Derived.Test.YtjdkcocfjbjopaaV32
import Derived.Test.YtjdkcocfjbjopaaPlE
set_option maxRecDepth 20000
namespace Go.Proofs.Ytjdkcocfjbjopaa
open Go.RowKit Go.Hd Go.ChangeShapes Go.WideShapes Go.ChangeAt
attribute [local go_sem ↓] h_ldV h_stV h_alV
attribute [local go_sem] r_ldV r_stV r_alV

theorem VAt.kindInt {w : World} {cs : List Value} {v : PV} (h : VAt w cs v) : ∃ u2 u3 u4 u5, cs = [.int .i64 v.kind, .int .i64 v.int, u2, u3, u4, u5] := by
  cases h; exact ⟨_, _, _, _, rfl⟩
theorem num_mono {x y : Int} : (0 ≤ x ∧ x ≤ y) ∨ (x < 0 ∧ y ≤ x) → (intB x).length ≤ (intB y).length := by
  rintro (⟨h1, h2⟩ | ⟨h1, h2⟩)
  · exact intB_nonneg h1 h2
  · exact intB_neg h1 h2
set_option maxHeartbeats 4000000 in
theorem pnum_law {W : World} {x y : Int} (hx : in64 x) (hy : in64 y) :
    Calls Try.prog 7 #[.int .i64 x, .int .i64 y] W fun e W' => e = .returned (.bool true) ∧ Below W.heap.size W W' := by
  have zs := zV_size
  have hM := Lib.hid (num_mono (x := x) (y := y))
  go_enter Try.func7, Try.ntmps7
  go_wp2_with fail
  refine (of_any x W).mono ?_
  rintro e w1 ⟨rfl, hb1⟩
  have he1 := enc_any (VAt.num w1 hx) (Below.refl _ _)
  rw [encF_num] at he1
  go_wp2_with fail
  refine he1.mono ?_
  rintro e w2 ⟨u2, rfl, ⟨a2, c2, rfl, hc2, hm2, hr2⟩, hb2⟩
  have hbw2 := Gr.trans hb1 hb2
  clear he1 hb1 hb2
  go_wp2_with fail
  refine (of_any y w2).mono ?_
  rintro e w3 ⟨rfl, hb3⟩
  have he3 := enc_any (VAt.num w3 hy) (Below.refl _ _)
  rw [encF_num] at he3
  go_wp2_with fail
  refine he3.mono ?_
  rintro e w4 ⟨u4, rfl, ⟨a4, c4, rfl, hc4, hm4, hr4⟩, hb4⟩
  have hr5 := hr2.below (Gr.trans hb3 hb4)
  have hbw4 := hbw2.trans ((Gr.trans hb3 hb4).mono hbw2.size)
  have hdec := dec_any (w := w4) (c := c2) rfl hr5 (by have := (intB_len x).2; unfold maxLen; omega)
  unfold DecP at hdec
  rw [decF_num hx] at hdec
  have l1 := (intB_len x).1
  have l9 := (intB_len x).2
  have i1 : ¬ ((intB x).length : Int) < 1 := by omega
  have i9 : ¬ 9 < ((intB x).length : Int) := by omega
  clear he3 hr2 hr4 hb3 hb4 hbw2 hr5
  go_wp2_with fail
  refine hdec.mono ?_
  rintro e w5 ⟨cs, rfl, hv, hb5⟩
  obtain ⟨v2, v3, v4, v5, rfl⟩ := VAt.kindInt hv.at
  have x6 : (List.toArray (α := Value) [.int .i64 (pNum x).kind, .int .i64 (pNum x).int, v2, v3, v4, v5]).size = 6 := rfl
  have xo : OneC (List.toArray (α := Value) [.int .i64 (pNum x).kind, .int .i64 (pNum x).int, v2, v3, v4, v5]) := all_oneCell_toArray hv.one
  have hb6 : Below w5.heap.size w5 (w5.alloc (.cells (List.toArray (α := Value) [.int .i64 (pNum x).kind, .int .i64 (pNum x).int, v2, v3, v4, v5]) 26)) := (Below.refl _ _).alloc (Nat.le_refl _) _
  have B6 : Blk (w5.alloc (.cells (List.toArray (α := Value) [.int .i64 (pNum x).kind, .int .i64 (pNum x).int, v2, v3, v4, v5]) 26)) w5.heap.size 26 [.int .i64 3, .int .i64 x, v2, v3, v4, v5] := Blk.new _ _ _
  have c0 : (w5.alloc (.cells (List.toArray (α := Value) [.int .i64 (pNum x).kind, .int .i64 (pNum x).int, v2, v3, v4, v5]) 26)).cell? ⟨w5.heap.size, 0, none⟩ = some (.int .i64 3) := B6.cell rfl
  have c1 : (w5.alloc (.cells (List.toArray (α := Value) [.int .i64 (pNum x).kind, .int .i64 (pNum x).int, v2, v3, v4, v5]) 26)).cell? ⟨w5.heap.size, 1, none⟩ = some (.int .i64 x) := B6.cell rfl
  have hbw6 := hbw4.trans ((Gr.trans hb5 hb6).mono hbw4.size)
  clear hdec hv hb5 hb6 B6 hbw4
  have hlv := lives05_any (w5.alloc (.cells (List.toArray (α := Value) [.int .i64 (pNum x).kind, .int .i64 (pNum x).int, v2, v3, v4, v5]) 26))
  have hfin : ∀ w', Below (w5.alloc (.cells (List.toArray (α := Value) [.int .i64 (pNum x).kind, .int .i64 (pNum x).int, v2, v3, v4, v5]) 26)).heap.size (w5.alloc (.cells (List.toArray (α := Value) [.int .i64 (pNum x).kind, .int .i64 (pNum x).int, v2, v3, v4, v5]) 26)) w' → Below W.heap.size W w' := fun w' h => hbw6.trans (h.mono hbw6.size)
  clear hbw6
  by_cases g1 : 0 ≤ x
  · have n1 : ¬ x < 0 := by omega
    by_cases g2 : x ≤ y
    · have hm := hM.out (.inl ⟨g1, g2⟩)
      have i2 : ((intB x).length : Int) ≤ ((intB y).length : Int) := by omega
      clear hm
      go_wp2_with fail
      refine hlv.mono ?_
      rintro e w7 ⟨rfl, hb7⟩
      go_wp2
      go_ret
      exact ⟨rfl, hfin _ hb7⟩
    · go_wp2_with fail
      refine hlv.mono ?_
      rintro e w7 ⟨rfl, hb7⟩
      go_wp2
      go_ret
      exact ⟨rfl, hfin _ hb7⟩
  · have n1 : x < 0 := by omega
    by_cases g2 : y ≤ x
    · have hm := hM.out (.inr ⟨n1, g2⟩)
      have i2 : ((intB x).length : Int) ≤ ((intB y).length : Int) := by omega
      clear hm
      go_wp2_with fail
      refine hlv.mono ?_
      rintro e w7 ⟨rfl, hb7⟩
      go_wp2
      go_ret
      exact ⟨rfl, hfin _ hb7⟩
    · go_wp2_with fail
      refine hlv.mono ?_
      rintro e w7 ⟨rfl, hb7⟩
      go_wp2
      go_ret
      exact ⟨rfl, hfin _ hb7⟩
theorem packNumbers_calls {H : Type} {enc : TypeId × Value → H} {W : World} {base : Nat} {v0 v1 : Value} {d0 d1 : DataW H} {p0 p1 : List MemPlace}
    (o0 : Value.okWide Try.prog W .any base 2 v0) (h0 : DataW.Trod enc Try.prog W 0 (fun _ => true) true 2 v0 d0 p0)
    (o1 : Value.okWide Try.prog W .any base 2 v1) (h1 : DataW.Trod enc Try.prog W 0 (fun _ => true) true 2 v1 d1 p1) :
    Calls Try.prog 7 #[v0, v1] W fun e W' => e = .returned (.bool true) ∧ Below W.heap.size W W' := by
  obtain ⟨x, rfl⟩ := okWide_int Try.underlying2 o0
  obtain ⟨y, rfl⟩ := okWide_int Try.underlying2 o1
  obtain ⟨f0, g0⟩ := h0
  obtain ⟨f1, g1⟩ := h1
  obtain ⟨_, e0, _, k0⟩ := DataW.trod_int Try.underlying2 g0
  obtain ⟨_, e1, _, k1⟩ := DataW.trod_int Try.underlying2 g1
  simp [Value.cells] at e0 e1
  subst e0 e1
  exact pnum_law (i64_wf k0) (i64_wf k1)
end Go.Proofs.Ytjdkcocfjbjopaa
