/- Layer 05: PackBack. -/
import Derived.Test.YtjdkcocfjbjopaaV34
import Derived.Test.YtjdkcocfjbjopaaV35
import Derived.Test.YtjdkcocfjbjopaaPlG
set_option maxRecDepth 20000
namespace Go.Proofs.Ytjdkcocfjbjopaa
open Go.RowKit Go.Hd Go.ChangeShapes Go.WideShapes Go.ChangeAt
attribute [local go_sem ↓] h_ldV h_stV h_alV
attribute [local go_sem] r_ldV r_stV r_alV

mutual
theorem normV_idem : ∀ v : PV, normV (normV v) = normV v
  | .mk k n b t ks l => by
    have hl := normL_idem l
    rw [normV_mk]
    unfold pNum pByt pTxt pList pKind
    repeat' split
    · rw [normV_mk]; rfl
    · rw [normV_mk]; rfl
    · rw [normV_mk]; rfl
    · rw [normV_mk]
      show PV.mk 6 0 [] [] [] (normL (normL l)) = _
      rw [hl]
    · rw [normV_mk]
      show PV.mk 7 0 [] [] ks (normL (normL l)) = _
      rw [hl]
    · rename_i h3 h4 h5 h6 h7
      rw [normV_mk, if_neg h3, if_neg h4, if_neg h5, if_neg h6, if_neg h7]; rfl
theorem normL_idem : ∀ l : List PV, normL (normL l) = normL l
  | [] => by simp [normL]
  | x :: l => by
    have h1 := normV_idem x
    have h2 := normL_idem l
    simp only [normL, h1, h2]
end
theorem sameV_of_norm (v : PV) : sameV v (normV v) = true := (sameV_norm _ _).2 (normV_idem v).symm
theorem decF_bad {l : List UInt8} (h : (decF l).2 ≠ 0) : (decF l).1 = pv0 := by
  unfold decF at *
  by_cases hb : 65536 < l.length
  · rw [if_pos hb]
  · rw [if_neg hb] at h ⊢
    cases hd : decV 16 l with
    | no c => rfl
    | ok v r =>
      rw [hd] at h
      by_cases hr : r = []
      · exact absurd (by show (if r = [] then (v, (0 : Int)) else (pv0, 6)).2 = 0; rw [if_pos hr]) h
      · show (if r = [] then (v, (0 : Int)) else (pv0, 6)).1 = pv0
        rw [if_neg hr]
set_option maxHeartbeats 4000000 in
theorem pback_law {W : World} {cs : List Value} {v : PV} {a0 : Option Addr} {c0 : Nat} {l : List UInt8} (h : VAt W cs v) (hl : Row W a0 (l.map b8)) (hc0 : l.length ≤ c0) (hm0 : c0 ≤ maxLen) :
    Calls Try.prog 8 #[.agg cs.toArray, .slice a0 l.length c0] W fun e W' => e = .returned (.bool true) ∧ Below W.heap.size W W' := by
  have zs := zV_size
  have x6 : cs.toArray.size = 6 := by simpa using h.len
  have hb0 : Below W.heap.size W (W.alloc (.cells cs.toArray 26)) := (Below.refl _ _).alloc (Nat.le_refl _) _
  have B0 : Blk (W.alloc (.cells cs.toArray 26)) W.heap.size 26 cs := Blk.new _ _ _
  have hs1 := small_any h hb0
  obtain ⟨L, hL⟩ : ∃ L, L = l.take 2000 := ⟨_, rfl⟩
  have hLl : min l.length (2000 : Int).toNat = L.length := by rw [hL, List.length_take]; exact Nat.min_comm _ _
  have hcut := fun w' => cut_any a0 l.length c0 2000 w' (by decide) hc0
  rw [hLl] at hcut
  have hLr : Row W a0 (L.map b8) := by
    have := hl.take 2000
    rw [← List.map_take, ← hL] at this
    exact this
  have hLm : L.length ≤ maxLen := by rw [hL]; simp; unfold maxLen; omega
  clear hL hLl hl
  go_enter Try.func8, Try.ntmps8
  go_wp2_with fail
  refine hs1.mono ?_
  rintro e w1 ⟨cs1, rfl, hv1, hb1⟩
  have y6 : (List.toArray cs1).size = 6 := by simpa using hv1.len
  have yo : OneC (List.toArray cs1) := all_oneCell_toArray hv1.one
  have B1 := B0.below hb1
  have HST := st_row B1 (by simpa using h.len) (List.toArray cs1) y6 yo
  have B2 := setRow_blk B1 cs1
  have HG2 := setRow_gr w1 W.heap.size (List.toArray cs1)
  have hV2 : VAt (w1.setRow W.heap.size (List.toArray cs1)) cs1 (smallF v) := (hv1.same (w' := w1.setRow W.heap.size (List.toArray cs1)) (fun z hz hlt => HG2.block z hlt (by have : (W.alloc (.cells cs.toArray 26)).heap.size ≤ z := hz; simp at this ⊢; omega))).at
  have hbw1 : Below W.heap.size W w1 := Gr.trans hb0 hb1
  have hbw2 : Below W.heap.size W (w1.setRow W.heap.size (List.toArray cs1)) := Below.grown hbw1 HG2 hbw1.size (fun k hk => by cases hk; exact Nat.le_refl _)
  have q2 : (ldOp 26 (.pointer (some ⟨W.heap.size, 0, none⟩))).run Try.prog (w1.setRow W.heap.size (List.toArray cs1)) = .ok (.agg cs1.toArray) (w1.setRow W.heap.size (List.toArray cs1)) := ldOp_all (P := Try.prog) (ty := 26) B2 Try.underlying26 rfl (by rw [hv1.len]; exact sizeV)
  have hok := Lib.hid (VAt.okV hV2)
  have he := enc_any hV2 (Below.refl _ _)
  have hc1 := hcut w1
  generalize smallF v = v1 at *
  clear hs1 B0 B1 HG2 hb0 hb1 hbw1 hcut
  go_wp2_with fail
  refine hc1.mono ?_
  rintro e w2 ⟨rfl, rfl⟩
  clear hc1
  go_wp2_with fail
  refine he.mono ?_
  rintro e w3 ⟨u3, rfl, ⟨a3, c3, rfl, hc3, hm3, hr3⟩, hb3⟩
  have hbw3 := hbw2.trans (hb3.mono hbw2.size)
  have B3 := B2.below hb3
  have hV3 := hV2.keep hb3
  clear he hV2 q2 HST B2
  go_upto_if 23 with (fail)
  go_cut [5, 6] (fun _ _ wx => Below W.heap.size W wx)
  case first =>
    by_cases hz : (encF v1).2 = 0
    case neg =>
      have tz : ((encF v1).2 == 0) = false := by simpa using hz
      clear hz
      go_wp2
      go_meet
      exact hbw3
    case pos =>
    obtain ⟨E, hE⟩ : ∃ E, encF v1 = (E, 0) := ⟨(encF v1).1, by rw [← hz]⟩
    obtain ⟨_, _, hlen, _, hdf⟩ := decF_enc hok.out hE
    rw [hE] at hc3 hr3
    rw [hE]
    try simp only at hc3 hr3
    have hdec := dec_any (w := w3) (c := c3) rfl hr3 (by unfold maxLen; omega)
    unfold DecP at hdec
    rw [hdf] at hdec
    clear hz hE hdf hlen
    go_wp2_with fail
    refine hdec.mono ?_
    rintro e w5 ⟨cs5, rfl, hv5, hb5⟩
    have p6 : (List.toArray cs5).size = 6 := hv5.len
    have po : OneC (List.toArray cs5) := all_oneCell_toArray hv5.one
    have hb6 : Below w5.heap.size w5 (w5.alloc (.cells (List.toArray cs5) 26)) := (Below.refl _ _).alloc (Nat.le_refl _) _
    have B5 : Blk (w5.alloc (.cells (List.toArray cs5) 26)) w5.heap.size 26 cs5 := by simpa using Blk.new w5 26 (List.toArray cs5)
    have hb36 := Gr.trans hb5 hb6
    have B6 := B3.below hb36
    have q6 : (ldOp 26 (.pointer (some ⟨W.heap.size, 0, none⟩))).run Try.prog (w5.alloc (.cells (List.toArray cs5) 26)) = .ok (.agg cs1.toArray) (w5.alloc (.cells (List.toArray cs5) 26)) := ldOp_all (P := Try.prog) (ty := 26) B6 Try.underlying26 rfl (by rw [hv1.len]; exact sizeV)
    have q5 : (ldOp 26 (.pointer (some ⟨w5.heap.size, 0, none⟩))).run Try.prog (w5.alloc (.cells (List.toArray cs5) 26)) = .ok (.agg cs5.toArray) (w5.alloc (.cells (List.toArray cs5) 26)) := ldOp_all (P := Try.prog) (ty := 26) B5 Try.underlying26 rfl (by rw [hv5.len]; exact sizeV)
    have hps := psame_any (hV3.keep hb36) _ _ _ (hv5.at.keep hb6) (Below.refl _ _)
    rw [sameV_of_norm] at hps
    have hbw6 := hbw3.trans (hb36.mono hbw3.size)
    clear hdec hv5 hb5 hb6 B5 B6 hb36 hV3 hv1
    go_wp2_with fail
    refine hps.mono ?_
    rintro e w7 ⟨rfl, hb7⟩
    have hbw7 := hbw6.trans (hb7.mono hbw6.size)
    clear hps
    go_wp2
    go_meet
    exact hbw7
  case rest =>
    clear hbw3 B3 hV3 hv1 hr3 hc3 hm3 hb3 hbw2
    have hLc := hLr.below hcut
    have hdec := dec_any (w := wc) (c := c0) rfl hLc hLm
    unfold DecP at hdec
    have HBAD := Lib.hid (fun h => decF_bad (l := L) h)
    have HGOOD := Lib.hid (fun (v : PV) (h : decF L = (v, 0)) => encF_dec h)
    go_wp2_with fail
    refine hdec.mono ?_
    rintro e w5 ⟨cs5, rfl, hv5, hb5⟩
    have p6 : (List.toArray cs5).size = 6 := hv5.len
    have po : OneC (List.toArray cs5) := all_oneCell_toArray hv5.one
    have hb6 : Below w5.heap.size w5 (w5.alloc (.cells (List.toArray cs5) 26)) := (Below.refl _ _).alloc (Nat.le_refl _) _
    have B5 : Blk (w5.alloc (.cells (List.toArray cs5) 26)) w5.heap.size 26 cs5 := by simpa using Blk.new w5 26 (List.toArray cs5)
    have hb36 := Gr.trans hb5 hb6
    have hbw6 := hcut.trans (hb36.mono hcut.size)
    have q5 : (ldOp 26 (.pointer (some ⟨w5.heap.size, 0, none⟩))).run Try.prog (w5.alloc (.cells (List.toArray cs5) 26)) = .ok (.agg cs5.toArray) (w5.alloc (.cells (List.toArray cs5) 26)) := ldOp_all (P := Try.prog) (ty := 26) B5 Try.underlying26 rfl (by rw [hv5.len]; exact sizeV)
    by_cases hz : (decF L).2 = 0
    case neg =>
      have tz : ((decF L).2 != 0) = true := by simpa using hz
      have hk0 : ∃ u1 u2 u3 u4 u5, cs5 = [.int .i64 0, u1, u2, u3, u4, u5] := by
        have h1 := hv5.at
        rw [HBAD.out hz] at h1
        obtain ⟨u2, u3, u4, u5, e⟩ := VAt.kindInt h1
        exact ⟨_, u2, u3, u4, u5, e⟩
      obtain ⟨u1, u2, u3, u4, u5, rfl⟩ := hk0
      have k0 : (w5.alloc (.cells (List.toArray [.int .i64 0, u1, u2, u3, u4, u5]) 26)).cell? ⟨w5.heap.size, 0, none⟩ = some (.int .i64 0) := B5.cell rfl
      have hlv := lives05_any (w5.alloc (.cells (List.toArray [.int .i64 0, u1, u2, u3, u4, u5]) 26))
      generalize (decF L).2 = z at *
      clear hz hv5 B5 q5 hdec hLc HBAD HGOOD
      go_wp2_with fail
      refine hlv.mono ?_
      rintro e w7 ⟨rfl, hb7⟩
      go_wp2
      go_ret
      exact ⟨rfl, hbw6.trans (hb7.mono hbw6.size)⟩
    case pos =>
      obtain ⟨x, hx⟩ : ∃ x, decF L = (x, 0) := ⟨(decF L).1, by rw [← hz]⟩
      have hg := HGOOD.out x hx
      rw [hx] at hv5
      rw [hx]
      have he := enc_any hv5.at hb6
      have he2 := he
      first | rw [hg] at he2 | (simp only at he2; rw [hg] at he2)
      clear he
      have he := he2
      have hL6 := hLc.below hb36
      clear hz hx hg HBAD HGOOD hdec B5 hv5 hb5 hLc
      go_wp2_with fail
      refine he.mono ?_
      rintro e w7 ⟨u7, rfl, ⟨a7, c7, rfl, hc7, hm7, hr7⟩, hb7⟩
      try simp only at hr7 hc7
      have hL7 := hL6.below hb7
      have hsm := same_any (w := w7) (c := c7) (d := c0) rfl rfl hr7 hL7 hLm
      rw [show (L == L) = true by simp] at hsm
      have hbw7 := hbw6.trans (hb7.mono hbw6.size)
      clear he hr7 hL7 hL6 hb6 hb36
      go_wp2_with fail
      refine hsm.mono ?_
      rintro e w8 ⟨rfl, nd, rfl⟩
      have hlv := lives05_any (w7.drewN nd)
      have hbw8 : Below W.heap.size W (w7.drewN nd) := Below.drewN hbw7 nd
      generalize w7.drewN nd = w8 at *
      go_wp2_with fail
      refine hlv.mono ?_
      rintro e w9 ⟨rfl, hb9⟩
      go_wp2
      go_ret
      exact ⟨rfl, hbw8.trans (hb9.mono hbw8.size)⟩
theorem packBack_calls {H : Type} {enc : TypeId × Value → H} {W : World} {base : Nat} {v0 v1 : Value} {d0 d1 : DataW H} {p0 p1 : List MemPlace}
    (o0 : Value.okWide Try.prog W .any base 26 v0) (h0 : DataW.Trod enc Try.prog W 0 (fun _ => true) true 26 v0 d0 p0)
    (o1 : Value.okWide Try.prog W .any base 22 v1) (h1 : DataW.Trod enc Try.prog W 0 (fun _ => true) true 22 v1 d1 p1) :
    Calls Try.prog 8 #[v0, v1] W fun e W' => e = .returned (.bool true) ∧ Below W.heap.size W W' := by
  obtain ⟨cs, x, rfl, hx⟩ := open_arg o0 h0
  obtain ⟨a, n, c, l, rfl, rfl, hc, hm, hr⟩ := open_byt Try.underlying22 Try.underlying5 (by kernel_rfl) o1 h1
  exact pback_law hx hr hc hm
end Go.Proofs.Ytjdkcocfjbjopaa
