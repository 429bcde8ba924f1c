/- Joined: what one statement of this layer stands on, part 19 of 19; nothing is assumed. -/
import Derived.Deep.DeepCutAuto
import Derived.Deep.RegionHeld3
import Derived.Deep.Strs
import Derived.Test.YtpchogicdnfggaaDoorKR6
import Derived.Test.YtpchogicdnfggaaDoorKR14
import Derived.Test.YtpchogicdnfggaaDoorKR18
set_option maxRecDepth 20000
namespace Go.Proofs.YtpchogicdnfggaaDoor
open Go.RowKit Go.Hd Go.ChangeShapes Go.WideShapes Go.ChangeAt
theorem fewL_sm {f : PV → Nat → PV × Nat} {P : PV → Prop} {m0 : Nat} (hf : ∀ x m, 0 < m → m ≤ m0 → P (f x m).1) (hle : ∀ x m, (f x m).2 ≤ m) : ∀ (l : List PV) (m : Nat), m ≤ m0 → ∀ x ∈ (fewL f l m).1, P x
  | [], m, _ => by intro x hx; cases hx
  | y :: l, m, h => by
    intro x hx
    unfold fewL at hx
    split at hx
    · rename_i h0
      rcases List.mem_cons.1 hx with rfl | hx
      · exact hf y m h0 h
      · exact fewL_sm hf hle l _ (Nat.le_trans (hle y m) h) x hx
    · cases hx
theorem fewF_sm : ∀ (d m : Nat) (v : PV), m ≤ d → 0 < m → Sm (fewF d v m).1
  | 0, m, v, h, h0 => by omega
  | d + 1, m, .mk k n b t ks l, h, h0 => by
    show Sm (PV.mk k n (b.take 700) (t.take 700) ((ks.take 40).map (·.take 100)) (fewL (fewF d) (l.take 40) (m - 1)).1)
    have hl := (fewL_le (fewF_le d) (l.take 40) (m - 1)).2
    refine .mk (by simp; omega) (by simp; omega) (by simp at hl; omega) ?_ (by simp; omega)
    exact fewL_sm (m0 := m - 1) (fun x q q0 q1 => fewF_sm d q x (by omega) q0) (fewF_le d) _ _ (Nat.le_refl _)
theorem small_sm (v : PV) : Sm (smallF v) := fewF_sm 60 60 v (Nat.le_refl _) (by decide)
theorem ofF_parts (v : PV) : (ofF v).1.parts.length ≤ 64 := by
  unfold ofF
  split
  · rename_i h; exact check_parts h.2.1
  · exact Nat.zero_le _
attribute [local go_sem ↓] h_ldV h_stV h_alV h_ldIT h_stIT h_alIT
attribute [local go_sem] r_ldV r_stV r_alV r_ldIT r_stIT r_alIT
set_option maxHeartbeats 4000000 in
theorem ireads_law {cs : List Value} {v : PV} {W : World} (h : VAt W cs v) : Calls Tryd.prog 5 #[.agg (List.toArray cs)] W fun e W' => e = .returned (.bool true) ∧ Below W.heap.size W W' := by
  have zs := zV_size
  have zi := zIT_size
  have hcl := h.len
  have c6 : (List.toArray cs).size = 6 := by simpa using hcl
  have hb0 : Below W.heap.size W (W.alloc (.cells (List.toArray cs) 30)) := (Below.refl _ _).alloc (Nat.le_refl _) _
  have hB0 : Blk (W.alloc (.cells (List.toArray cs) 30)) W.heap.size 30 cs := Blk.new _ _ _
  have q0 := ldOp_all (P := Tryd.prog) (ty := 30) hB0 Tryd.underlying30 rfl (by rw [hcl]; exact sizeV)
  have hsv := small_any (w0 := W) h hb0
  have hS := Lib.hid (small_sm v)
  have hlv := fun w' => lives21_any w'
  clear h
  go_enter Tryd.func5, Tryd.ntmps5
  go_wp2_with fail
  refine hsv.mono ?_
  rintro e w1 ⟨c1, rfl, hV1, hb1⟩
  have hB1 := hB0.below hb1
  have hbW1 := hb0.trans (hb1.mono (by simp))
  have d6 := hV1.len
  have hst := st_row hB1 hcl (List.toArray c1) (by simpa using d6) (all_oneCell_toArray hV1.one)
  have hB2 := setRow_blk hB1 c1
  have hg2 := setRow_gr w1 W.heap.size (List.toArray c1)
  have hbW2 : Below W.heap.size W (w1.setRow W.heap.size (List.toArray c1)) := Below.grown hbW1 hg2 hbW1.size (fun k hk => by cases hk; exact Nat.le_refl _)
  have hV2 := (hV1.same (w' := w1.setRow W.heap.size (List.toArray c1)) (fun b hb hlt => hg2.block b hlt (by simp at hb ⊢; omega))).at
  generalize hw2 : w1.setRow W.heap.size (List.toArray c1) = w2 at *
  generalize smallF v = s at *
  have q1 := ldOp_all (P := Tryd.prog) (ty := 30) hB2 Tryd.underlying30 rfl (by rw [d6]; exact sizeV)
  have hsW := hbW2.size
  clear hB1 hg2 hB0 hb0 hb1 hsv hV1
  go_wp2_with fail
  refine (iof_any hV2 hS.out w2 (Below.refl _ _)).mono ?_
  rintro e w3 ⟨d, rfl, hD, hb3⟩
  have hD := hD.at
  have e7 : (List.toArray d).size = 7 := by simpa using hD.len
  have eo : OneC (List.toArray d) := all_oneCell_toArray hD.one
  have hbA : Below w3.heap.size w3 (w3.alloc (.cells (List.toArray d) 24)) := (Below.refl _ _).alloc (Nat.le_refl _) _
  have hBA : Blk (w3.alloc (.cells (List.toArray d) 24)) w3.heap.size 24 d := Blk.new _ _ _
  have hb24 := Gr.trans hb3 hbA
  have hB4 := hB2.below hb24
  have hD4 := hD.below hbA
  clear q0 q1 hst hw2 hbA hB2
  go_upto_region 3 with (fail)
  generalize w3.alloc (.cells (List.toArray d) 24) = w4 at *
  have q1 := ldOp_all (P := Tryd.prog) (ty := 30) hB4 Tryd.underlying30 rfl (by rw [d6]; exact sizeV)
  have hpF := Lib.hid (ofF_parts s)
  go_wp2_with fail
  refine (rof_any hV2 hS.out w4 hb24).mono ?_
  rintro e w5 ⟨d2, rfl, hE, hb5⟩
  have hE := hE.at
  have x7 : (List.toArray d2).size = 7 := by simpa using hE.len
  have xo : OneC (List.toArray d2) := all_oneCell_toArray hE.one
  have hbA : Below w5.heap.size w5 (w5.alloc (.cells (List.toArray d2) 24)) := (Below.refl _ _).alloc (Nat.le_refl _) _
  have hBB : Blk (w5.alloc (.cells (List.toArray d2) 24)) w5.heap.size 24 d2 := Blk.new _ _ _
  have hb46 := Gr.trans hb5 hbA
  have hbW6 := (hbW2.trans (hb24.mono hsW)).trans (hb46.mono (hbW2.trans (hb24.mono hsW)).size)
  have hBA6 := hBA.below hb46
  have hD6 := hD4.below hb46
  have hE6 := hE.below hbA
  clear q1 hBA hD4 hE hbA hB4 hb24 hV2 hb46 hb5 hb3 hD hS
  generalize ofF s = F at *
  obtain ⟨FX, FE⟩ := F
  simp only at hD6 hE6 hpF
  have tE : (FE == FE) = true := by simp
  go_upto_region 4 with (fail)
  generalize w5.alloc (.cells (List.toArray d2) 24) = w6 at *
  have l1 := ldOp_all (P := Tryd.prog) (ty := 24) hBA6 Tryd.underlying24 rfl (by rw [show d.length = 7 by simpa using e7]; exact sizeIT)
  have l2 := ldOp_all (P := Tryd.prog) (ty := 24) hBB Tryd.underlying24 rfl (by rw [show d2.length = 7 by simpa using x7]; exact sizeIT)
  have hsi := sameI_any hD6 hE6 (by have := hpF.out; omega)
  clear hBA6 hBB hD6 hE6
  go_wp2_with fail
  refine hsi.mono ?_
  rintro e w7 ⟨rfl, hb7⟩
  have hbW7 := hbW6.trans (hb7.mono hbW6.size)
  clear hb7 hbW6 hsi l1 l2
  go_wp2_with fail
  refine (hlv _).mono ?_
  rintro e w8 ⟨rfl, hb8⟩
  go_wp2
  go_ret
  exact ⟨rfl, hbW7.trans (hb8.mono hbW7.size)⟩
theorem itemReads_calls {H : Type} {enc : TypeId × Value → H} {W : World} {base : Nat} {v0 : Value} {d0 : DataW H} {p0 : List MemPlace}
    (o0 : Value.okWide Tryd.prog W .any base 30 v0) (h0 : DataW.Trod enc Tryd.prog W 0 (fun _ => true) true 30 v0 d0 p0) :
    Calls Tryd.prog 5 #[v0] W fun e W' => e = .returned (.bool true) ∧ Below W.heap.size W W' := by
  obtain ⟨cs, x, rfl, hx⟩ := open_arg o0 h0
  exact ireads_law hx
end Go.Proofs.YtpchogicdnfggaaDoor
