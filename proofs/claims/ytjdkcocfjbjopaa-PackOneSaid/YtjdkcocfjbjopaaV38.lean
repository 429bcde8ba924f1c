/- Layer 05: PackOne. -/
import Derived.Test.YtjdkcocfjbjopaaV36
import Derived.Deep.RegionLaw
import Derived.Deep.RegionHeld3
set_option maxRecDepth 20000
namespace Go.Proofs.Ytjdkcocfjbjopaa
open Go.RowKit Go.Hd Go.ChangeShapes Go.WideShapes Go.ChangeAt
attribute [local go_sem ↓] h_ldV h_stV h_alV
attribute [local go_sem] r_ldV r_stV r_alV

theorem one_bytes {v u : PV} {L M : List UInt8} (hv : OkV v) (hu : OkV u) (h1 : encF v = (L, 0)) (h2 : encF u = (M, 0)) : (L == M) = sameV v u := by
  obtain ⟨_, _, _, a1, a2⟩ := decF_enc hv h1
  obtain ⟨_, _, _, b1, b2⟩ := decF_enc hu h2
  rw [Bool.eq_iff_iff, sameV_norm, beq_iff_eq]
  constructor
  · rintro rfl
    rw [a1] at b1
    simpa using b1
  · intro h
    have e1 := encF_dec a2
    have e2 := encF_dec b2
    rw [h, e2] at e1
    injection e1 with e1 _
    first | exact e1.symm | exact e1
/-- Two small values, in their boxes. -/
structure TwoP (W wx : World) (cs ds : List Value) (v u : PV) : Prop where
  b1 : Blk wx W.heap.size 26 cs
  b2 : Blk wx (W.heap.size + 1) 26 ds
  v1 : VAt wx cs v
  v2 : VAt wx ds u
  bel : Below W.heap.size W wx
theorem TwoP.go {W wx w' : World} {cs ds : List Value} {v u : PV} (h : TwoP W wx cs ds v u) (hb : Below wx.heap.size wx w') : TwoP W w' cs ds v u :=
  ⟨h.b1.below hb, h.b2.below hb, h.v1.keep hb, h.v2.keep hb, h.bel.trans (hb.mono h.bel.size)⟩
theorem TwoP.l1 {W wx : World} {cs ds : List Value} {v u : PV} (h : TwoP W wx cs ds v u) : (ldOp 26 (.pointer (some ⟨W.heap.size, 0, none⟩))).run Try.prog wx = .ok (.agg (List.toArray cs)) wx := ldOp_all (P := Try.prog) (ty := 26) h.b1 Try.underlying26 rfl (by rw [h.v1.len]; exact sizeV)
theorem TwoP.l2 {W wx : World} {cs ds : List Value} {v u : PV} (h : TwoP W wx cs ds v u) : (ldOp 26 (.pointer (some ⟨W.heap.size + 1, 0, none⟩))).run Try.prog wx = .ok (.agg (List.toArray ds)) wx := ldOp_all (P := Try.prog) (ty := 26) h.b2 Try.underlying26 rfl (by rw [h.v2.len]; exact sizeV)
theorem two_end {W W0 w1 w2 : World} {q r : Nat} {cs1 ds1 : List Value} {v u : PV} {Cq Cr : List Value} (hW0 : Below W.heap.size W W0) (hs : W0.heap.size = W.heap.size + 2) (hb1 : Below W0.heap.size W0 w1) (hb2 : Below w1.heap.size w1 w2)
    (hv : VAtP (fun b => W0.heap.size ≤ b) w1 cs1 v) (hu : VAtP (fun b => w1.heap.size ≤ b) w2 ds1 u) (hq : (q = W.heap.size ∧ r = W.heap.size + 1) ∨ (r = W.heap.size ∧ q = W.heap.size + 1)) (hBq : Blk w2 q 26 Cq) (hBr : Blk w2 r 26 Cr) {X Y : List Value}
    (hX : (q = W.heap.size → X = cs1) ∧ (q = W.heap.size + 1 → X = ds1)) (hY : (r = W.heap.size → Y = cs1) ∧ (r = W.heap.size + 1 → Y = ds1)) : TwoP W ((w2.setRow q (List.toArray X)).setRow r (List.toArray Y)) cs1 ds1 v u := by
  have g1 := setRow_gr w2 q (List.toArray X)
  have g2 := setRow_gr (w2.setRow q (List.toArray X)) r (List.toArray Y)
  have hs1 := hb1.size
  have hs2 := hb2.size
  have hqr : q ≠ r := by omega
  have Bq := (setRow_blk hBq X).grown g2 hqr
  have Br := setRow_blk (hBr.grown g1 (Ne.symm hqr)) Y
  have keep : ∀ {d : List Value} {y : PV}, VAtP (fun b => W0.heap.size ≤ b) w2 d y → VAt ((w2.setRow q (List.toArray X)).setRow r (List.toArray Y)) d y := fun hd =>
    ((hd.same (w' := w2.setRow q (List.toArray X)) (fun z hz hlt => g1.block z hlt (by have hz : W0.heap.size ≤ z := hz; simp; omega))).same (w' := (w2.setRow q (List.toArray X)).setRow r (List.toArray Y)) (fun z hz hlt => g2.block z hlt (by have hz : W0.heap.size ≤ z := hz; simp; omega))).at
  have hB : Below W.heap.size W ((w2.setRow q (List.toArray X)).setRow r (List.toArray Y)) := by
    have h1 : Below W.heap.size W w2 := (hW0.trans (hb1.mono hW0.size)).trans (hb2.mono (hW0.trans (hb1.mono hW0.size)).size)
    have h2 : Below W.heap.size W (w2.setRow q (List.toArray X)) := Below.grown h1 g1 h1.size (fun k hk => by cases hk; omega)
    exact Below.grown h2 g2 h2.size (fun k hk => by cases hk; omega)
  have k1 := keep (hv.grow hb2)
  have k2 := keep (hu.mono (fun z hz _ => by omega))
  rcases hq with ⟨rfl, rfl⟩ | ⟨rfl, rfl⟩
  · rw [hX.1 rfl, hY.2 rfl] at *
    exact ⟨Bq, Br, k1, k2, hB⟩
  · rw [hX.2 rfl, hY.1 rfl] at *
    exact ⟨Br, Bq, k1, k2, hB⟩
set_option maxHeartbeats 8000000 in
theorem pone_law {W : World} {cs ds : List Value} {v u : PV} (h : VAt W cs v) (h2 : VAt W ds u) :
    Calls Try.prog 4 #[.agg cs.toArray, .agg ds.toArray] W fun e W' => e = .returned (.bool true) ∧ Below W.heap.size W W' := by
  have zs := zV_size
  have x6 : cs.toArray.size = 6 := by simpa using h.len
  have d6 : ds.toArray.size = 6 := by simpa using h2.len
  have hb0 : Below W.heap.size W ((W.alloc (.cells cs.toArray 26)).alloc (.cells ds.toArray 26)) := ((Below.refl _ _).alloc (Nat.le_refl _) _).alloc (by simp) _
  have B0 : Blk ((W.alloc (.cells cs.toArray 26)).alloc (.cells ds.toArray 26)) W.heap.size 26 cs := by simpa using (Blk.new W 26 cs.toArray).alloc (.cells ds.toArray 26)
  have D0 : Blk ((W.alloc (.cells cs.toArray 26)).alloc (.cells ds.toArray 26)) (W.heap.size + 1) 26 ds := by
    have := Blk.new (W.alloc (.cells cs.toArray 26)) 26 ds.toArray
    simpa using this
  have hs0 : ((W.alloc (.cells cs.toArray 26)).alloc (.cells ds.toArray 26)).heap.size = W.heap.size + 2 := by simp
  go_enter Try.func4, Try.ntmps4
  go_upto_region 1 with (fail)
  generalize (W.alloc (.cells cs.toArray 26)).alloc (.cells ds.toArray 26) = W0 at *
  have HS0 := Lib.hid hs0
  have p1 : (ldOp 26 (.pointer (some ⟨W.heap.size, 0, none⟩))).run Try.prog W0.drew = .ok (.agg (List.toArray cs)) W0.drew := ldOp_all (P := Try.prog) (ty := 26) (B0.drewN 1) Try.underlying26 rfl (by rw [h.len]; exact sizeV)
  have p2 : (ldOp 26 (.pointer (some ⟨W.heap.size + 1, 0, none⟩))).run Try.prog W0.drew = .ok (.agg (List.toArray ds)) W0.drew := ldOp_all (P := Try.prog) (ty := 26) (D0.drewN 1) Try.underlying26 rfl (by rw [h2.len]; exact sizeV)
  have hs1 := small_any (w := W0.drew) h (Below.drewN hb0 1)
  have hs2 := fun (w1 : World) (hb : Below W.heap.size W w1) => small_any (w := w1) h2 hb
  have hl1 := h.len
  have hl2 := h2.len
  go_cut [] (fun wx => ∃ cs1 ds1, TwoP W wx cs1 ds1 (smallF v) (smallF u))
  case first =>
    clear hs0
    go_region_law ((first
      | (go_simp; go_at_call_of 10 (Value.agg cs.toArray); refine hs1.mono ?_; rintro e1 w1 ⟨cs1, rfl, hv1, hb1⟩; have hbw1 := hb0.trans ((Below.drewN' (n := 1) hb1).mono hb0.size); have B1 := B0.below (Below.drewN' (n := 1) hb1); have D1 := D0.below (Below.drewN' (n := 1) hb1); have p2' : (ldOp 26 (.pointer (some ⟨W.heap.size + 1, 0, none⟩))).run Try.prog w1 = .ok (.agg (List.toArray ds)) w1 := ldOp_all (P := Try.prog) (ty := 26) D1 Try.underlying26 rfl (by rw [hl2]; exact sizeV))
      | (go_simp; go_at_call_of 10 (Value.agg ds.toArray); refine (hs2 _ hbw1).mono ?_; rintro e2 w2 ⟨ds1, rfl, hv2, hb2⟩; have B2 := B1.below hb2; have D2 := D1.below hb2; have g1 := setRow_gr w2 W.heap.size (List.toArray cs1); have g2 := setRow_gr w2 (W.heap.size + 1) (List.toArray ds1); have HSTa := st_row B2 hl1 (List.toArray cs1) hv1.len (all_oneCell_toArray hv1.one); have HSTb := st_row D2 hl2 (List.toArray ds1) hv2.len (all_oneCell_toArray hv2.one); have HSTc := st_row (D2.grown g1 (by omega)) hl2 (List.toArray ds1) hv2.len (all_oneCell_toArray hv2.one); have HSTd := st_row (B2.grown g2 (by omega)) hl1 (List.toArray cs1) hv1.len (all_oneCell_toArray hv1.one))))
    all_goals
      clear HSTa HSTb HSTc HSTd p1 p2 p2' hs1 hs2
      go_wp2
      go_meet
    all_goals first
      | exact ⟨cs1, ds1, two_end hb0 HS0.out (Below.drewN' (n := 1) hb1) hb2 hv1 hv2 (.inl ⟨rfl, rfl⟩) B2 D2 ⟨fun _ => rfl, fun h => by omega⟩ ⟨fun h => by omega, fun _ => rfl⟩⟩
      | exact ⟨cs1, ds1, two_end hb0 HS0.out (Below.drewN' (n := 1) hb1) hb2 hv1 hv2 (.inr ⟨rfl, rfl⟩) D2 B2 ⟨fun h => by omega, fun _ => rfl⟩ ⟨fun _ => rfl, fun h => by omega⟩⟩
  case rest =>
    clear B0 D0 hb0 hs0 HS0 p1 p2 hs1 hs2 hl1 hl2 x6 d6
    obtain ⟨cs1, ds1, hT⟩ := hcut
    generalize smallF v = v1 at *
    generalize smallF u = u1 at *
    have q1 := hT.l1
    have he1 := enc_any hT.v1 (Below.refl _ _)
    go_wp2_with fail
    refine he1.mono ?_
    rintro e w3 ⟨u3, rfl, ⟨a3, c3, rfl, hc3, hm3, hr3⟩, hb3⟩
    have hT3 := hT.go hb3
    have q2 := hT3.l2
    have he2 := enc_any hT3.v2 (Below.refl _ _)
    clear he1 q1 hT hb3
    go_wp2_with fail
    refine he2.mono ?_
    rintro e w4 ⟨u4, rfl, ⟨a4, c4, rfl, hc4, hm4, hr4⟩, hb4⟩
    have hT4 := hT3.go hb4
    have hr3' := hr3.below hb4
    have HOK := Lib.hid (And.intro (VAt.okV hT4.v1) (VAt.okV hT4.v2))
    clear he2 q2 hT3 hb4 hr3
    have hlv := fun w' => lives05_any w'
    by_cases hz1 : (encF v1).2 = 0
    case neg =>
      have tz : ((encF v1).2 != 0) = true := by simpa using hz1
      generalize encF v1 = E1 at *
      generalize encF u1 = E2 at *
      clear hz1
      go_wp2_with fail
      refine (hlv _).mono ?_
      rintro e w7 ⟨rfl, hb7⟩
      go_wp2
      go_ret
      exact ⟨rfl, (hT4.go hb7).bel⟩
    case pos =>
    by_cases hz2 : (encF u1).2 = 0
    case neg =>
      have tz1 : ((encF v1).2 != 0) = false := by rw [hz1]; rfl
      have tz : ((encF u1).2 != 0) = true := by simpa using hz2
      generalize encF v1 = E1 at *
      generalize encF u1 = E2 at *
      clear hz1 hz2
      go_wp2_with fail
      refine (hlv _).mono ?_
      rintro e w7 ⟨rfl, hb7⟩
      go_wp2
      go_ret
      exact ⟨rfl, (hT4.go hb7).bel⟩
    case pos =>
    obtain ⟨L, hL⟩ : ∃ L, encF v1 = (L, 0) := ⟨(encF v1).1, by rw [← hz1]⟩
    obtain ⟨M, hM⟩ : ∃ M, encF u1 = (M, 0) := ⟨(encF u1).1, by rw [← hz2]⟩
    have hone := one_bytes HOK.out.1 HOK.out.2 hL hM
    rw [hL] at hc3 hr3'
    rw [hM] at hc4 hr4
    rw [hL, hM]
    simp only at hc3 hr3' hc4 hr4
    have hLm : L.length ≤ maxLen := Nat.le_trans hc3 hm3
    have hsm := fun w' (hb : Below w4.heap.size w4 w') => same_any (w := w') (c := c3) (d := c4) rfl rfl (hr3'.below hb) (hr4.below hb) hLm
    have ps1 := fun w' (hb : Below w4.heap.size w4 w') => psame_any (hT4.go hb).v1 _ _ w' (hT4.go hb).v2 (Below.refl _ _)
    have ps2 := fun w' (hb : Below w4.heap.size w4 w') => psame_any (hT4.go hb).v2 _ _ w' (hT4.go hb).v1 (Below.refl _ _)
    rw [sameV_symm u1 v1] at ps2
    rw [hone] at hsm
    have hl1 := fun w' (hb : Below w4.heap.size w4 w') => (hT4.go hb).l1
    have hl2 := fun w' (hb : Below w4.heap.size w4 w') => (hT4.go hb).l2
    have hbel := fun w' (hb : Below w4.heap.size w4 w') => (hT4.go hb).bel
    have hcur : Below w4.heap.size w4 w4.drew := Gr.drewN w4 1
    have s1 := hl1 _ hcur
    have s2 := hl2 _ hcur
    generalize sameV v1 u1 = S at *
    have HB := Lib.hid hbel
    clear hz1 hz2 hL hM hone hT4 hr3' hr4 HOK hbel
    go_upto_region 6 with (fail)
    cases S
    all_goals
      go_region_held3 (fun w' => (ldOp 26 (.pointer (some ⟨W.heap.size, 0, none⟩))).run Try.prog w' = .ok (.agg (List.toArray cs1)) w' ∧ (ldOp 26 (.pointer (some ⟨W.heap.size + 1, 0, none⟩))).run Try.prog w' = .ok (.agg (List.toArray ds1)) w') (first | exact ⟨by assumption, by assumption⟩ | go_keep) (first
        | (go_at_call 13; refine (hsm _ hcur).mono ?_; rintro e ws ⟨rfl, nd, hws⟩; have hcur : Below w4.heap.size w4 ws := (by rw [hws]; exact Below.drewN hcur nd); clear hws; have s1 := hl1 _ hcur; have s2 := hl2 _ hcur)
        | (go_at_call 16; with_reducible (show Calls Try.prog 16 #[Value.agg cs1.toArray, Value.agg ds1.toArray] _ _); refine (ps1 _ hcur).mono ?_; rintro e ws ⟨rfl, hbs⟩; have hcur := hcur.trans (hbs.mono hcur.size); have s1 := hl1 _ hcur; have s2 := hl2 _ hcur)
        | (go_at_call 16; with_reducible (show Calls Try.prog 16 #[Value.agg ds1.toArray, Value.agg cs1.toArray] _ _); refine (ps2 _ hcur).mono ?_; rintro e ws ⟨rfl, hbs⟩; have hcur := hcur.trans (hbs.mono hcur.size); have s1 := hl1 _ hcur; have s2 := hl2 _ hcur)
        | (go_at_call 15; refine (hlv _).mono ?_; rintro e ws ⟨rfl, hbs⟩; have hcur := hcur.trans (hbs.mono hcur.size); have s1 := hl1 _ hcur; have s2 := hl2 _ hcur))
    all_goals
      go_wp2
      go_ret
      exact ⟨rfl, HB.out _ hcur⟩
theorem packOne_calls {H : Type} {enc : TypeId × Value → H} {W : World} {base : Nat} {v0 v1 : Value} {d0 d1 : DataW H} {p0 p1 : List MemPlace}
    (o0 : Value.okWide Try.prog W .any base 26 v0) (h0 : DataW.Trod enc Try.prog W 0 (fun _ => true) true 26 v0 d0 p0)
    (o1 : Value.okWide Try.prog W .any base 26 v1) (h1 : DataW.Trod enc Try.prog W 0 (fun _ => true) true 26 v1 d1 p1) :
    Calls Try.prog 4 #[v0, v1] W fun e W' => e = .returned (.bool true) ∧ Below W.heap.size W W' := by
  obtain ⟨cs, x, rfl, hx⟩ := open_arg o0 h0
  obtain ⟨ds, y, rfl, hy⟩ := open_arg o1 h1
  exact pone_law hx hy
end Go.Proofs.Ytjdkcocfjbjopaa
