/- Layer 05: PackCuts. -/
import Derived.Test.YtjdkcocfjbjopaaV33
import Derived.Test.YtjdkcocfjbjopaaPlF
set_option maxRecDepth 20000
namespace Go.Proofs.Ytjdkcocfjbjopaa
open Go.RowKit Go.Hd Go.ChangeShapes Go.WideShapes Go.ChangeAt
attribute [local go_sem ↓] h_ldV h_stV h_alV
attribute [local go_sem] r_ldV r_stV r_alV

theorem decF_cut {v : PV} {L : List UInt8} (hok : OkV v) (h : encF v = (L, 0)) {k : Nat} (hk : k < L.length) : decF (L.take k) = (pv0, 3) := by
  obtain ⟨_, _, h3, h4, _⟩ := decF_enc hok h
  obtain ⟨e, he, _, hp⟩ := Pfx.dec 16 L _ [] h4
  rw [List.append_nil] at he
  subst he
  have := hp (L.take k) (L.drop k) (List.take_append_drop k L).symm (by
    intro e
    have := congrArg List.length e
    simp at this
    omega)
  unfold decF
  rw [if_neg (by simp; omega), this]
theorem decF_more {v : PV} {L : List UInt8} (hok : OkV v) (h : encF v = (L, 0)) (hl : L.length ≠ 65536) (c : UInt8) : decF (L ++ [c]) = (pv0, 6) := by
  obtain ⟨_, _, h3, h4, _⟩ := decF_enc hok h
  obtain ⟨e, he, ha, _⟩ := Pfx.dec 16 L _ [] h4
  rw [List.append_nil] at he
  subst he
  unfold decF
  rw [if_neg (by simp; omega), ha [c]]
  rfl
theorem encF_code (v : PV) : (encF v).2 = 0 ∨ (encF v).2 = 4 ∨ (encF v).2 = 5 := by
  unfold encF
  split
  · exact .inr (.inl rfl)
  · split
    · exact .inr (.inr rfl)
    · exact .inl rfl
set_option maxHeartbeats 4000000 in
theorem pcuts_law {W : World} {cs : List Value} {v : PV} {n : Int} {more : Nat} (h : VAt W cs v) (hmore : more < 256) :
    Calls Try.prog 6 #[.agg cs.toArray, .int .i64 n, .int .u8 (more : Int)] W fun e W' => e = .returned (.bool true) ∧ Below W.heap.size W W' := by
  have zs := zV_size
  have x6 : cs.toArray.size = 6 := by simpa using h.len
  have hb0 : Below W.heap.size W (W.alloc (.cells cs.toArray 26)) := (Below.refl _ _).alloc (Nat.le_refl _) _
  have B0 : Blk (W.alloc (.cells cs.toArray 26)) W.heap.size 26 cs := Blk.new _ _ _
  have hs1 := small_any h hb0
  go_enter Try.func6, Try.ntmps6
  go_wp2_with fail
  refine hs1.mono ?_
  rintro e w1 ⟨cs1, rfl, hv1, hb1⟩
  have y6 : (List.toArray cs1).size = 6 := by simpa using hv1.len
  have yo : OneC (List.toArray cs1) := all_oneCell_toArray hv1.one
  have B1 := B0.below hb1
  have HST := st_row B1 (by simpa using h.len) (List.toArray cs1) y6 yo
  have B2 := setRow_blk B1 cs1
  have HG2 := setRow_gr w1 W.heap.size (List.toArray cs1)
  have hV2 : VAt (w1.setRow W.heap.size (List.toArray cs1)) cs1 (smallF v) := (hv1.same (w' := w1.setRow W.heap.size (List.toArray cs1)) (fun z hz hlt => HG2.block z hlt (by have : (W.alloc (.cells cs.toArray 26)).heap.size ≤ z := hz; simp at this ⊢; omega))).at
  have hbw1 : Below W.heap.size W w1 := Gr.trans hb0 hb1
  have hbw2 : Below W.heap.size W (w1.setRow W.heap.size (List.toArray cs1)) := Below.grown hbw1 HG2 hbw1.size (fun k hk => by cases hk; exact Nat.le_refl _)
  have q2 : (ldOp 26 (.pointer (some ⟨W.heap.size, 0, none⟩))).run Try.prog (w1.setRow W.heap.size (List.toArray cs1)) = .ok (.agg cs1.toArray) (w1.setRow W.heap.size (List.toArray cs1)) := ldOp_all (P := Try.prog) (ty := 26) B2 Try.underlying26 rfl (by rw [hv1.len]; exact sizeV)
  have hok := Lib.hid (VAt.okV hV2)
  have he := enc_any hV2 (Below.refl _ _)
  generalize smallF v = v1 at *
  clear hs1 hv1 B0 B1 HG2 hb0 hb1 hbw1 B2
  go_wp2_with fail
  refine he.mono ?_
  rintro e w3 ⟨u3, rfl, ⟨a3, c3, rfl, hc3, hm3, hr3⟩, hb3⟩
  have hbw3 := hbw2.trans (hb3.mono hbw2.size)
  have HC := Lib.hid (encF_code v1)
  clear he hV2 q2 HST hb3
  by_cases hz : (encF v1).2 = 0
  case neg =>
    have tz : ((encF v1).2 != 0) = true := by simpa using hz
    have hlv := lives05_any w3
    generalize encF v1 = E at *
    clear hz
    go_wp2_with fail
    refine hlv.mono ?_
    rintro e w7 ⟨rfl, hb7⟩
    go_wp2
    go_ret
    exact ⟨rfl, hbw3.trans (hb7.mono hbw3.size)⟩
  case pos =>
  obtain ⟨L, hL⟩ : ∃ L, encF v1 = (L, 0) := ⟨(encF v1).1, by rw [← hz]⟩
  obtain ⟨_, hne, hlen, _, _⟩ := decF_enc hok.out hL
  have HCUT := Lib.hid (fun (k : Nat) (hk : k < L.length) => decF_cut hok.out hL hk)
  have HMORE := Lib.hid (fun (hl : L.length ≠ 65536) => decF_more hok.out hL hl (UInt8.ofNat more))
  rw [hL] at hc3 hr3
  rw [hL]
  simp only at hc3 hr3
  clear hz hL hok HC
  by_cases hmax : L.length = 65536
  · have i1 : ((L.length : Int) == 65536) = true := by rw [hmax]; rfl
    have hlv := lives05_any w3
    clear hmax hlen hne
    go_wp2_with fail
    refine hlv.mono ?_
    rintro e w7 ⟨rfl, hb7⟩
    go_wp2
    go_ret
    exact ⟨rfl, hbw3.trans (hb7.mono hbw3.size)⟩
  have i1 : ((L.length : Int) == 65536) = false := beq_eq_false_iff_ne.2 (by omega)
  have i2 : ((L.length : Int) == 0) = false := len1 hne
  have hpos : 0 < L.length := List.length_pos_iff.2 hne
  have hwi := within_nat (x := n) (p := 0) (q := (L.length : Int) - 1) 0 (L.length - 1) (w := w3) rfl (by omega)
  have hbd := wN_bd n 0 (L.length - 1) (Nat.zero_le _)
  have HM := Lib.hid (HMORE.out hmax)
  have ewl : IntKind.i64.wrap ((L.length : Int) - 1) = (L.length : Int) - 1 := IntWalk.i64_in _ (by omega)
  generalize wN n 0 (L.length - 1) = k at *
  have hkL : k < L.length := by omega
  have HK := Lib.hid (HCUT.out k hkL)
  have hkc : (k : Int) ≤ (c3 : Int) := by omega
  have hk0 : (0 : Int) ≤ (k : Int) := by omega
  have hr4 : Row w3 a3 ((L.take k).map b8) := by
    have := hr3.take k
    rwa [← List.map_take] at this
  have htl : (L.take k).length = k := by simp; omega
  have hdec := dec_any (w := w3) (a := a3) (n := k) (c := c3) (l := L.take k) htl.symm hr4 (by unfold maxLen; omega)
  unfold DecP at hdec
  rw [HK.out] at hdec
  clear hmax hne HCUT HMORE HK hr4 htl hbd hkL
  go_wp2_with fail
  refine hwi.mono ?_
  rintro e w4 ⟨rfl, rfl⟩
  go_wp2_with fail
  refine hdec.mono ?_
  rintro e w5 ⟨cs5, rfl, hv5, hb5⟩
  have p6 : (List.toArray cs5).size = 6 := hv5.len
  have po : OneC (List.toArray cs5) := all_oneCell_toArray hv5.one
  have hb6 : Below w5.heap.size w5 (w5.alloc (.cells (List.toArray cs5) 26)) := (Below.refl _ _).alloc (Nat.le_refl _) _
  have hb36 := Gr.trans hb5 hb6
  have hr6 := hr3.below hb36
  have hcp := copy_any a3 L.length c3 L (w5.alloc (.cells (List.toArray cs5) 26)) rfl hr6 (by omega)
  have hbw6 := hbw3.trans (hb36.mono hbw3.size)
  clear hdec hwi hv5 hb5 hb6 hb36 hr3
  go_wp2_with fail
  refine hcp.mono ?_
  rintro e w7 ⟨v7, rfl, ho7, hb7⟩
  obtain ⟨v8, w8, hrun, ho8, hg8, hown8, hb8⟩ := Own.append1 (ty := 22) ho7 eB (UInt8.ofNat more) (by omega) hb7.size
  have hml : (L ++ [UInt8.ofNat more]).length ≤ maxLen := by simp; unfold maxLen; omega
  have HM2 : Hid (decF (L ++ [UInt8.ofNat more]) = (pv0, 6)) := HM.out
  have eb : ((UInt8.ofNat more).toNat : Int) = (more : Int) := by rw [UInt8.toNat_ofNat']; omega
  rw [eb] at hrun
  generalize L ++ [UInt8.ofNat more] = LM at *
  obtain ⟨a8, c8, rfl, hc8, hm8, hr8, _⟩ := Own.at (E := 5) ho8
  have hdec8 := dec_any (w := w8) (c := c8) rfl hr8 hml
  unfold DecP at hdec8
  rw [HM2.out] at hdec8
  have hbw8 : Below W.heap.size W w8 := hbw6.trans ((hb7.trans hb8).mono hbw6.size)
  clear hcp ho7 ho8 hg8 hown8 hr6 HM HM2 eb hr8 hml
  go_wp2_with (at_builtin; refine wpList_append_run hrun rfl rfl rfl rfl ?_)
  refine hdec8.mono ?_
  rintro e w9 ⟨cs9, rfl, hv9, hb9⟩
  have m6 : (List.toArray cs9).size = 6 := hv9.len
  have mo : OneC (List.toArray cs9) := all_oneCell_toArray hv9.one
  have hb10 : Below w9.heap.size w9 (w9.alloc (.cells (List.toArray cs9) 26)) := (Below.refl _ _).alloc (Nat.le_refl _) _
  have hbw10 := hbw8.trans ((Gr.trans hb9 hb10).mono hbw8.size)
  have hlv := lives05_any (w9.alloc (.cells (List.toArray cs9) 26))
  clear hdec8 hv9 hrun
  go_wp2_with fail
  refine hlv.mono ?_
  rintro e w11 ⟨rfl, hb11⟩
  go_wp2
  go_ret
  exact ⟨rfl, hbw10.trans (hb11.mono hbw10.size)⟩
theorem packCuts_calls {H : Type} {enc : TypeId × Value → H} {W : World} {base : Nat} {v0 v1 v2 : Value} {d0 d1 d2 : DataW H} {p0 p1 p2 : List MemPlace}
    (o0 : Value.okWide Try.prog W .any base 26 v0) (h0 : DataW.Trod enc Try.prog W 0 (fun _ => true) true 26 v0 d0 p0)
    (o1 : Value.okWide Try.prog W .any base 3 v1) (_ : DataW.Trod enc Try.prog W 0 (fun _ => true) true 3 v1 d1 p1)
    (o2 : Value.okWide Try.prog W .any base 5 v2) (h2 : DataW.Trod enc Try.prog W 0 (fun _ => true) true 5 v2 d2 p2) :
    Calls Try.prog 6 #[v0, v1, v2] W fun e W' => e = .returned (.bool true) ∧ Below W.heap.size W W' := by
  obtain ⟨cs, x, rfl, hx⟩ := open_arg o0 h0
  obtain ⟨n, rfl⟩ := okWide_int Try.underlying3 o1
  obtain ⟨m, rfl⟩ := okWide_int Try.underlying5 o2
  obtain ⟨f2, g2⟩ := h2
  obtain ⟨_, e2, _, k2⟩ := DataW.trod_int Try.underlying5 g2
  simp [Value.cells] at e2
  subst e2
  obtain ⟨b1, b2⟩ := u8_wf k2
  obtain ⟨M, rfl⟩ := Int.eq_ofNat_of_zero_le b1
  exact pcuts_law hx (by omega)
end Go.Proofs.Ytjdkcocfjbjopaa
