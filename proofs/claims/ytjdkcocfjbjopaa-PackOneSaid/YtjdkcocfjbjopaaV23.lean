/- Layer 05: lives, PackWrites. -/
import Derived.Test.YtjdkcocfjbjopaaV22
import Derived.Test.YtjdkcocfjbjopaaV20
set_option maxRecDepth 20000
namespace Go.Proofs.Ytjdkcocfjbjopaa
open Go.RowKit Go.Hd Go.ChangeShapes Go.WideShapes Go.ChangeAt
attribute [local go_sem ↓] h_ldV h_stV h_alV
attribute [local go_sem] r_ldV r_stV r_alV

/-- A number, as six cells. -/
def numC (n : Int) : List Value := [.int .i64 3, .int .i64 n, .slice none 0 0, strV [], .slice none 0 0, .slice none 0 0]
theorem of_any (n : Int) (w : World) : Calls Try.prog 23 #[.int .i64 n] w fun e w' => e = .returned (.agg (List.toArray (numC n))) ∧ Below w.heap.size w w' := by
  have zs := zV_size
  have hO6 := oneC6
  have B3 : Blk (w.alloc (.cells (List.toArray (numC n)) 26)) w.heap.size 26 (numC n) := Blk.new _ _ _
  have hb : Below w.heap.size w (w.alloc (.cells (List.toArray (numC n)) 26)) := (Below.refl _ _).alloc (Nat.le_refl _) _
  go_enter Try.func23, Try.ntmps23
  go_wp2
  refine bodyPost_ret (results_cell_row (fn := Try.f23) (by rfl) _ _ w.heap.size 26 _ (0, 0) _ (by rfl) B3 Try.underlying26 rfl sizeV) rfl ⟨rfl, hb⟩
theorem encF_five : encF (.mk 3 5 [] [] [] []) = ([5], 0) := by rw [encF_num]; rfl
theorem lives05_any (w : World) : Calls Try.prog 15 #[] w fun e w' => e = .returned (.bool true) ∧ Below w.heap.size w w' := by
  go_enter Try.func15, Try.ntmps15
  go_wp2_with fail
  refine (of_any 5 w).mono ?_
  rintro e w1 ⟨rfl, hb1⟩
  have he := enc_any (VAt.num w1 (n := 5) (by unfold in64; omega)) (Below.refl _ _)
  rw [encF_five] at he
  go_wp2_with fail
  refine he.mono ?_
  rintro e w2 ⟨u, rfl, ⟨a, c, rfl, hc, hm, hr⟩, hb2⟩
  have c0 : w2.cell? (hd a) = some (.int .u8 5) := by have := hr.byte (i := 0) (by decide); simpa [Addr.add] using this
  have s0 : a.isSome = true := hr.byteSome (i := 0) (by decide)
  have hb := Gr.trans hb1 hb2
  clear he hr
  go_wp2
  go_ret
  exact ⟨rfl, hb⟩

set_option maxHeartbeats 4000000 in
theorem pwrites_law {W : World} {cs : List Value} {v : PV} (h : VAt W cs v) :
    Calls Try.prog 3 #[.agg cs.toArray] W fun e W' => e = .returned (.bool true) ∧ Below W.heap.size W W' := by
  have zs := zV_size
  have x6 : cs.toArray.size = 6 := by simpa using h.len
  have hb0 : Below W.heap.size W (W.alloc (.cells cs.toArray 26)) := (Below.refl _ _).alloc (Nat.le_refl _) _
  have B0 : Blk (W.alloc (.cells cs.toArray 26)) W.heap.size 26 cs := Blk.new _ _ _
  have hs1 := small_any h hb0
  go_enter Try.func3, Try.ntmps3
  go_wp2_with fail
  refine hs1.mono ?_
  rintro e w1 ⟨cs1, rfl, hv1, hb1⟩
  have y6 : (List.toArray cs1).size = 6 := by simpa using hv1.len
  have yo : OneC (List.toArray cs1) := all_oneCell_toArray hv1.one
  have B1 := B0.below hb1
  have HST := st_row B1 (by simpa using h.len) (List.toArray cs1) y6 yo
  have B2 := setRow_blk B1 cs1
  have HG2 := setRow_gr w1 W.heap.size (List.toArray cs1)
  have hV2 : VAt (w1.setRow W.heap.size (List.toArray cs1)) cs1 (smallF v) := (hv1.same (w' := w1.setRow W.heap.size (List.toArray cs1)) (fun z hz hlt => HG2.block z hlt (by have : (W.alloc (.cells cs.toArray 26)).heap.size ≤ z := hz; simp at this ⊢; omega))).at
  have hbw1 : Below W.heap.size W w1 := Gr.trans hb0 hb1
  have hbw2 : Below W.heap.size W (w1.setRow W.heap.size (List.toArray cs1)) := Below.grown hbw1 HG2 hbw1.size (fun k hk => by cases hk; exact Nat.le_refl _)
  have q2 : (ldOp 26 (.pointer (some ⟨W.heap.size, 0, none⟩))).run Try.prog (w1.setRow W.heap.size (List.toArray cs1)) = .ok (.agg cs1.toArray) (w1.setRow W.heap.size (List.toArray cs1)) := ldOp_all (P := Try.prog) (ty := 26) B2 Try.underlying26 rfl (by rw [hv1.len]; exact sizeV)
  have hs2 := small_any hV2 (Below.refl _ _)
  rw [smallF_again] at hs2
  generalize smallF v = v1 at *
  clear hs1 hv1 B0 B1 HG2 hb0 hb1 hbw1
  go_wp2_with fail
  refine hs2.mono ?_
  rintro e w3 ⟨cs2, rfl, hv3, hb3⟩
  have z6 : (List.toArray cs2).size = 6 := by simpa using hv3.len
  have zo : OneC (List.toArray cs2) := all_oneCell_toArray hv3.one
  have hb4 : Below w3.heap.size w3 (w3.alloc (.cells cs2.toArray 26)) := (Below.refl _ _).alloc (Nat.le_refl _) _
  have B4 : Blk (w3.alloc (.cells cs2.toArray 26)) w3.heap.size 26 cs2 := Blk.new _ _ _
  have he1 := enc_any hv3.at hb4
  have hb34 := Gr.trans hb3 hb4
  have hbw4 := hbw2.trans (hb34.mono hbw2.size)
  go_wp2_with fail
  refine he1.mono ?_
  rintro e w5 ⟨u5, rfl, ⟨a5, c5, rfl, hc5, hm5, hr5⟩, hb5⟩
  have hb25 := Gr.trans hb34 hb5
  have B5 := B2.below hb25
  have q5 : (ldOp 26 (.pointer (some ⟨W.heap.size, 0, none⟩))).run Try.prog w5 = .ok (.agg cs1.toArray) w5 := ldOp_all (P := Try.prog) (ty := 26) B5 Try.underlying26 rfl (by rw [hV2.len]; exact sizeV)
  have he2 := renc_any hV2 hb25
  have hbw5 := hbw4.trans (hb5.mono hbw4.size)
  clear he1 hs2 q2 HST
  go_wp2_with fail
  refine he2.mono ?_
  rintro e w6 ⟨u6, rfl, ⟨a6, c6, rfl, hc6, hm6, hr6⟩, hb6⟩
  have hsame := fun w' => same_any (w := w') (a := a5) (b := a6) (c := c5) (d := c6) (l := (encF v1).1) (m := (encF v1).1) rfl rfl
  have hr5' := hr5.below hb6
  have hbw6 := hbw5.trans (hb6.mono hbw5.size)
  generalize encF v1 = E at *
  obtain ⟨L, z⟩ := E
  simp only at hr5' hr6 hsame hc5 hm5
  clear he2 hr5
  go_wp2_with fail
  refine (hsame w6 hr5' hr6 (Nat.le_trans hc5 hm5)).mono ?_
  rintro e w7 ⟨rfl, nd, rfl⟩
  rw [show (L == L) = true by simp]
  have hb7 : Below w5.heap.size w5 (w6.drewN nd) := Below.drewN hb6 nd
  have B7 := B5.below hb7
  have q7 : (ldOp 26 (.pointer (some ⟨W.heap.size, 0, none⟩))).run Try.prog (w6.drewN nd) = .ok (.agg cs1.toArray) (w6.drewN nd) := ldOp_all (P := Try.prog) (ty := 26) B7 Try.underlying26 rfl (by rw [hV2.len]; exact sizeV)
  have C7 := (B4.below hb5).below hb7
  have p7 : (ldOp 26 (.pointer (some ⟨w3.heap.size, 0, none⟩))).run Try.prog (w6.drewN nd) = .ok (.agg cs2.toArray) (w6.drewN nd) := ldOp_all (P := Try.prog) (ty := 26) C7 Try.underlying26 rfl (by rw [hv3.len]; exact sizeV)
  have hV7 := (hv3.at.keep hb4).keep (Gr.trans hb5 hb7)
  have hV7' := hV2.keep (Gr.trans hb25 hb7)
  have hrs := rsame_any hV7 _ _ _ hV7' (Below.refl _ _)
  rw [sameV_refl] at hrs
  have hbw7 : Below W.heap.size W (w6.drewN nd) := Below.drewN hbw6 nd
  clear q5 hsame hV7 hV7' hV2 hr5' hr6 B2 B4 B5 B7 C7 hv3
  generalize w6.drewN nd = w7 at *
  go_wp2_with fail
  refine hrs.mono ?_
  rintro e w8 ⟨rfl, hb8⟩
  go_wp2_with fail
  refine (lives05_any w8).mono ?_
  rintro e w9 ⟨rfl, hb9⟩
  have hbw9 := hbw7.trans ((Gr.trans hb8 hb9).mono hbw7.size)
  clear hrs q7 p7
  go_wp2
  go_ret
  exact ⟨rfl, hbw9⟩
theorem packWrites_calls {H : Type} {enc : TypeId × Value → H} {W : World} {base : Nat} {v0 : Value} {d0 : DataW H} {p0 : List MemPlace}
    (o0 : Value.okWide Try.prog W .any base 26 v0) (h0 : DataW.Trod enc Try.prog W 0 (fun _ => true) true 26 v0 d0 p0) :
    Calls Try.prog 3 #[v0] W fun e W' => e = .returned (.bool true) ∧ Below W.heap.size W W' := by
  obtain ⟨cs, x, rfl, hx⟩ := open_arg o0 h0
  exact pwrites_law hx
end Go.Proofs.Ytjdkcocfjbjopaa
