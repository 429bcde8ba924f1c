/- Joined: what one statement of this layer stands on, part 26 of 26; nothing is assumed. -/
import Derived.Deep.RegionLaw
import Derived.StillTailTactics
import Derived.Test.YtpchogicdnfggaaGreatDoorKI5
import Derived.Test.YtpchogicdnfggaaGreatDoorKI14
import Derived.Test.YtpchogicdnfggaaGreatDoorKI15
import Derived.Test.YtpchogicdnfggaaGreatDoorKI22
import Derived.Test.YtpchogicdnfggaaGreatDoorKI25
set_option maxRecDepth 20000
namespace Go.Proofs.YtpchogicdnfggaaGreatDoor
open Go.RowKit Go.Hd
attribute [local go_sem ↓] h_ldV h_stV h_alV
attribute [local go_sem] r_ldV r_stV r_alV

/-- Fields that play no part are zero. -/
inductive Pln : PV → Prop
  | mk {k n : Int} {b t : List UInt8} {ks : List (List UInt8)} {l : List PV} (h3 : k ≠ 3 → n = 0) (h4 : k ≠ 4 → b = []) (h5 : k ≠ 5 → t = []) (h7 : k ≠ 7 → ks = []) (h6 : k < 6 → l = []) (hl : ∀ v ∈ l, Pln v) : Pln (.mk k n b t ks l)
set_option maxHeartbeats 2000000 in
theorem rdec_any {a : Option Addr} {n c : Nat} {l : List UInt8} {w : World} (hn : n = l.length) (hl : Row w a (l.map b8)) (hc : l.length ≤ c) (hm : c ≤ maxLen) :
    Calls Tryz.prog 17 #[.slice a n c] w (DecP w l) := by
  subst hn
  have zs := zV_size
  have hO6 := oneC6
  have hb0 : Below w.heap.size w (w.alloc (.cells zV 50)) := (Below.refl _ _).alloc (Nat.le_refl _) _
  have R0 : Blk (w.alloc (.cells zV 50)) w.heap.size 50 zV.toList := Blk.new _ _ _
  by_cases hbig : 65536 < l.length
  · have i1 : 65536 < (l.length : Int) := by omega
    obtain ⟨HST, HB2, HV⟩ := dec_zero (l := l) (c := 5) R0 (by rfl) hb0 (by unfold decF; rw [if_pos hbig])
    clear R0 hb0
    go_enter Tryz.func17, Tryz.ntmps17
    go_wp2
    exact bodyPost_ret (results_cell_tmp (fn := Tryz.f17) (p := 2) (t := 3) (by rfl) _ _ w.heap.size 50 _ (0, 0) _ (by rfl) HB2 Tryz.underlying50 rfl sizeV) rfl HV
  · have i1 : ¬ 65536 < (l.length : Int) := by omega
    have HDF : Hid (decF l = match decV 16 l with | .no c => (pv0, c) | .ok v r => if r = [] then (v, 0) else (pv0, 6)) := by show _ = _; unfold decF; rw [if_neg hbig]; cases decV 16 l <;> rfl
    have hsm : l.length ≤ 65536 := by omega
    have hb2 : Below (w.alloc (.cells zV 50)).heap.size (w.alloc (.cells zV 50)) ((w.alloc (.cells zV 50)).alloc (.cells #[.slice a l.length c, .int .i64 0, .int .i64 0] 71)) := (Below.refl _ _).alloc (Nat.le_refl _) _
    have hbw2 : Below w.heap.size w ((w.alloc (.cells zV 50)).alloc (.cells #[.slice a l.length c, .int .i64 0, .int .i64 0] 71)) := Gr.trans hb0 hb2
    have hRD : RRs (w.heap.size + 1) ((w.alloc (.cells zV 50)).alloc (.cells #[.slice a l.length c, .int .i64 0, .int .i64 0] 71)) (w.heap.size + 1) l (.ok () l) := by
      refine ⟨a, c, 0, 0, ?_, hl.below hbw2, ⟨hc, hm⟩, fun h0 => ?_, Nat.le_refl _, Nat.zero_le _, hsm, by simp, rfl⟩
      · have := Blk.new (w.alloc (.cells zV 50)) 71 #[.slice a l.length c, .int .i64 0, .int .i64 0]
        simpa using this
      · have := hl.block_lt (by simpa using h0); omega
    have hval := rvalue_any 16 (by decide) _ _ _ _ _ 1 rfl hRD (by simp)
    rw [Rs.bind_ok] at hval
    have R2 := R0.below hb2
    have hg1 := hRD.lt
    have hWs : ((w.alloc (.cells zV 50)).alloc (.cells #[.slice a l.length c, .int .i64 0, .int .i64 0] 71)).heap.size = w.heap.size + 2 := by simp
    obtain ⟨W, hW⟩ : ∃ W, W = (w.alloc (.cells zV 50)).alloc (.cells #[.slice a l.length c, .int .i64 0, .int .i64 0] 71) := ⟨_, rfl⟩
    rw [← hW] at hval hbw2 R2 hg1 hWs
    generalize decV 16 l = R at *
    clear hRD R0 hb0 hb2 hbig
    go_enter Tryz.func17, Tryz.ntmps17
    go_upto_region 4 with (fail)
    rw [← hW]
    clear hW
    go_wp2_with fail
    refine hval.mono ?_
    rintro ee w3 ⟨cs, v, rfl, hv, hv0, hP, hk⟩
    have x6 : (List.toArray cs).size = 6 := hv.len
    have xo : OneC (List.toArray cs) := all_oneCell_toArray hv.one
    have hb4 : Below w3.heap.size w3 (w3.alloc (.cells (List.toArray cs) 50)) := (Below.refl _ _).alloc (Nat.le_refl _) _
    have R3 := hk.blk R2 (by omega) (by omega)
    have R4 := R3.below hb4
    have hbw3 : Below w.heap.size w w3 := hbw2.trans (hk.below hbw2.size (by omega) (by omega))
    have hbw4 : Below w.heap.size w (w3.alloc (.cells (List.toArray cs) 50)) := hbw3.trans (hb4.mono hbw3.size)
    have B5 : Blk (w3.alloc (.cells (List.toArray cs) 50)) w3.heap.size 50 cs := by simpa using Blk.new w3 50 (List.toArray cs)
    have hP4 := hP.keep hb4
    have hv4 := (hv.grow hb4).mono (ok' := fun b => w.heap.size + 2 ≤ b) (fun b hb _ => by omega)
    have q5 : (ldOp 50 (.pointer (some ⟨w3.heap.size, 0, none⟩))).run Tryz.prog (w3.alloc (.cells (List.toArray cs) 50)) = .ok (.agg (List.toArray cs)) (w3.alloc (.cells (List.toArray cs) 50)) := ldOp_all (P := Tryz.prog) (ty := 50) B5 Tryz.underlying50 rfl (by rw [hv.len]; exact sizeV)
    have hq5 : w.heap.size + 2 ≤ w3.heap.size := by have := hk.size; omega
    clear hP hk R2 R3 hbw2 hbw3 hval hv hb4 B5
    go_upto_region 5 with (fail)
    generalize w3.alloc (.cells (List.toArray cs) 50) = w4 at *
    cases R with
    | no c5 =>
      obtain ⟨q1, q2⟩ := hP4.noC
      have e1 : (c5 == 0) = false := by simpa using q2
      have e2 : (c5 != 0) = true := by simpa using q2
      obtain ⟨a4, c4, p, e, k1, k2, k3, k4, k5, k6, k7, ⟨rfl, k9⟩⟩ := hP4
      have q9 : (w4.drew.setRow w.heap.size (List.toArray (α := Value) [.int .i64 0, .int .i64 0, .slice none 0 0, .string { data := #[] }, .slice none 0 0, .slice none 0 0])).cell? ⟨w.heap.size + 1, 2, none⟩ = some (.int .i64 e) := ((show Blk w4.drew (w.heap.size + 1) 71 _ from k1).grown (setRow_gr w4.drew w.heap.size (List.toArray (α := Value) [.int .i64 0, .int .i64 0, .slice none 0 0, .string { data := #[] }, .slice none 0 0, .slice none 0 0])) (by omega)).cell rfl
      clear k1 k2 k3 k4 k5 k6 k7
      obtain ⟨HST, HB2, HV⟩ := dec_zero (w2 := w4.drew) (l := l) (c := e) R4 (by rfl) (Below.drewN hbw4 1) HDF.out
      clear R4 hbw4 hv4 hv0 HDF q5 k9
      go_wp2
      go_region_law (fail)
      all_goals
        go_wp2
        exact bodyPost_ret (results_cell_tmp (fn := Tryz.f17) (p := 2) (t := 3) (by rfl) _ _ w.heap.size 50 _ (0, 0) _ (by rfl) HB2 Tryz.underlying50 rfl sizeV) rfl HV
    | ok v0 r =>
      obtain rfl := hv0 v0 r rfl
      have q1 := hP4.ok0
      obtain ⟨a4, c4, p, e, k1, k2, k3, k4, k5, k6, k7, ⟨k8, rfl⟩⟩ := hP4
      have c1 : w4.cell? ⟨w.heap.size + 1, 1, none⟩ = some (.int .i64 (p : Int)) := k1.cell rfl
      by_cases hr : r = []
      · have hpl : l.length ≤ p := by
          have := congrArg List.length k8
          rw [hr, List.length_drop] at this
          simp at this; omega
        have i2 : ¬ (p : Int) < (l.length : Int) := by omega
        have HD2 : Hid (decF l = (v, 0)) := by show _ = _; rw [HDF.out]; exact if_pos hr
        have HST := st_row R4 (by rfl) (List.toArray cs) x6 xo
        have HB2 := setRow_blk R4 cs
        have HG2 := setRow_gr w4 w.heap.size (List.toArray cs)
        have HV : Hid (DecP w l (.returned (.tuple #[.agg (List.toArray cs), .int .i64 0])) (w4.setRow w.heap.size (List.toArray cs))) := by
          refine ⟨cs, by rw [HD2.out], ?_, Below.grown hbw4 HG2 hbw4.size (fun k hk => by cases hk; exact Nat.le_refl _)⟩
          rw [HD2.out]
          exact (hv4.same (w' := w4.setRow w.heap.size _) (fun z hz hlt => HG2.block z hlt (by have hz : w.heap.size + 2 ≤ z := hz; simp; omega))).mono (fun z hz _ => by have hz : w.heap.size + 2 ≤ z := hz; omega)
        clear R4 hbw4 hv4 hv0 hr HG2 HDF HD2 k1 k2 k4 k8 hpl
        go_wp2
        exact bodyPost_ret (results_cell_tmp (fn := Tryz.f17) (p := 2) (t := 3) (by rfl) _ _ w.heap.size 50 _ (0, 0) _ (by rfl) HB2 Tryz.underlying50 rfl (by rw [x6]; exact sizeV)) rfl HV.out
      · have hpl : p < l.length := by
          have h1 := congrArg List.length k8
          rw [List.length_drop] at h1
          have h2 := List.length_pos_iff.2 hr
          omega
        have i2 : (p : Int) < (l.length : Int) := by omega
        have hP4 : RRs (w.heap.size + 1) w4 (w.heap.size + 1) l (.ok v r) := ⟨a4, c4, p, 0, k1, k2, k3, k4, k5, k6, k7, k8, rfl⟩
        obtain ⟨hP5, hg5, f2, z, c2⟩ := RRs.fail (β := PV) hP4 6 (by decide)
        have q6 := hP5.noC.1
        obtain ⟨a6, c6, p6, e6, m1, _, _, _, _, _, _, ⟨m2, _⟩⟩ := hP5
        subst m2
        have q9 : ((w4.setCell ⟨w.heap.size + 1, 2, none⟩ (.int .i64 6)).drew.setRow w.heap.size (List.toArray (α := Value) [.int .i64 0, .int .i64 0, .slice none 0 0, .string { data := #[] }, .slice none 0 0, .slice none 0 0])).cell? ⟨w.heap.size + 1, 2, none⟩ = some (.int .i64 6) := ((show Blk (w4.setCell ⟨w.heap.size + 1, 2, none⟩ (.int .i64 6)).drew (w.heap.size + 1) 71 _ from m1).grown (setRow_gr (w4.setCell ⟨w.heap.size + 1, 2, none⟩ (.int .i64 6)).drew w.heap.size (List.toArray (α := Value) [.int .i64 0, .int .i64 0, .slice none 0 0, .string { data := #[] }, .slice none 0 0, .slice none 0 0])) (by omega)).cell rfl
        clear m1
        have hbw5 : Below w.heap.size w (w4.setCell ⟨w.heap.size + 1, 2, none⟩ (.int .i64 6)) := Below.grown hbw4 hg5 hbw4.size (fun k hk => by cases hk; omega)
        obtain ⟨HST, HB2, HV⟩ := dec_zero (w2 := (w4.setCell ⟨w.heap.size + 1, 2, none⟩ (.int .i64 6)).drew) (l := l) (c := 6) ((Dk.one hg5).blk R4 (by omega) (by omega)) (by rfl) (Below.drewN hbw5 1) (by rw [HDF.out]; exact if_neg hr)
        clear R4 hbw4 hv4 hv0 HDF hr k1 k2 k4 k8 hpl hP4 hg5 hbw5 q5
        go_wp2
        go_region_law (fail)
        all_goals
          go_wp2
          exact bodyPost_ret (results_cell_tmp (fn := Tryz.f17) (p := 2) (t := 3) (by rfl) _ _ w.heap.size 50 _ (0, 0) _ (by rfl) HB2 Tryz.underlying50 rfl sizeV) rfl HV
end Go.Proofs.YtpchogicdnfggaaGreatDoor
set_option maxRecDepth 20000
namespace Go.Proofs.YtpchogicdnfggaaGreatDoor
open Go.RowKit Go.Hd
theorem lessL_drop {X Y : List (List UInt8)} {j : Nat} (h1 : j < X.length) (h2 : j < Y.length) : lessL (X.drop j) (Y.drop j) = if X[j] = Y[j] then lessL (X.drop (j + 1)) (Y.drop (j + 1)) else Op.bytesLess X[j] Y[j] := by
  rw [List.drop_eq_getElem_cons h1, List.drop_eq_getElem_cons h2, lessL_cons]
theorem lessL_end {X Y : List (List UInt8)} {j : Nat} (h : X.length ≤ j ∨ Y.length ≤ j) (h1 : j ≤ X.length) (h2 : j ≤ Y.length) : lessL (X.drop j) (Y.drop j) = decide (X.length < Y.length) := by
  rcases Nat.lt_or_ge j Y.length with h3 | h3
  · have h4 : X.length ≤ j := by omega
    rw [List.drop_eq_nil_of_le h4, decide_eq_true (by omega)]
    exact lessL_pos (fun e => by have := congrArg List.length e; simp at this; omega)
  · rw [List.drop_eq_nil_of_le h3, lessL_nil, decide_eq_false (by omega)]
set_option maxHeartbeats 2000000 in
theorem rless_any (a b : List UInt8) (w : World) (ha : a.length ≤ 1000000) (hb : b.length ≤ 1000000) :
    Calls Tryz.prog 19 #[.string (str a), .string (str b)] w fun e w' => e = .returned (.bool (lessF a b)) ∧ Below w.heap.size w w' := by
  have hp1 := rpieces_any a w ha
  have hp2 := fun w' => rpieces_any b w' hb
  have hL0 : Hid (lessF a b = lessL ((cutP a).drop 0) ((cutP b).drop 0)) := rfl
  have hc1 : (cutP a).length ≤ 1000001 := Nat.le_trans (cutP_len a) (by omega)
  have hc2 : (cutP b).length ≤ 1000001 := Nat.le_trans (cutP_len b) (by omega)
  generalize lessF a b = R at *
  generalize cutP a = X at *
  generalize cutP b = Y at *
  have HC := Lib.hid (And.intro hc1 hc2)
  clear hc1 hc2 ha hb
  go_enter Tryz.func19, Tryz.ntmps19
  go_wp2_with fail
  refine hp1.mono ?_
  rintro e w1 ⟨⟨u, rfl, hk1⟩, hb1⟩
  obtain ⟨ax, cx, rfl, _, _, hr1, _⟩ := owns_rowN hk1 (by decide)
  clear hp1 hk1
  go_wp2_with fail
  refine (hp2 _).mono ?_
  rintro e w2 ⟨⟨v, rfl, hk2⟩, hb2⟩
  obtain ⟨ay, cy, rfl, _, _, hr2, _⟩ := owns_rowN hk2 (by decide)
  have hr1' := hr1.below hb2
  have hb12 := Gr.trans hb1 hb2
  clear hp2 hk2 hr1 hb1 hb2
  go_wp2
  go_loopw [7] (fun i wr => ∃ (j m : Nat), i = .int .i64 j ∧ j ≤ X.length ∧ j ≤ Y.length ∧ Hid (R = lessL (X.drop j) (Y.drop j)) ∧ Hid (wr = w2.drewN m)) (fun i _ => X.length - (intOf i).toNat)
  case atStart => exact ⟨0, 0, rfl, Nat.zero_le _, Nat.zero_le _, hL0, Lib.hid rfl⟩
  case round =>
    obtain ⟨j, m, rfl, hjx, hjy, hL, hwr⟩ := hrel
    have HX : Hid (Row wr ax (X.map strV) ∧ Row wr ay (Y.map strV)) := by
      show _ ∧ _
      rw [hwr.out]; exact ⟨hr1'.drewN m, hr2.drewN m⟩
    have hbw : Hid (Below w.heap.size w wr) := by show Below _ _ _; rw [hwr.out]; exact Below.drewN hb12 m
    have j0 : (0 : Int) ≤ (j : Int) := by omega
    have jb : IntKind.i64.wrap ((j : Int) + 1) = (j : Int) + 1 := IntWalk.i64_in _ (by have := HC.out.1; omega)
    by_cases h1 : j < X.length
    · have i1 : (j : Int) < (X.length : Int) := by omega
      by_cases h2 : j < Y.length
      · have i2 : (j : Int) < (Y.length : Int) := by omega
        have q1 : wr.cell? ((hd ax).add j) = some (strV X[j]) := HX.out.1.cell (by simp [h1])
        have s1 : ax.isSome = true := HX.out.1.isSome (i := j) (by simp; omega)
        have q2 : wr.cell? ((hd ay).add j) = some (strV Y[j]) := HX.out.2.cell (by simp [h2])
        have s2 : ay.isSome = true := HX.out.2.isSome (i := j) (by simp; omega)
        unfold strV at q1 q2
        have hS : Hid (R = if X[j] = Y[j] then lessL (X.drop (j + 1)) (Y.drop (j + 1)) else Op.bytesLess X[j] Y[j]) := by show _ = _; rw [hL.out, lessL_drop h1 h2]
        have hE : Hid (((str X[j]).toList = (str Y[j]).toList) ↔ X[j] = Y[j]) := by show _ ↔ _; rw [str_toList, str_toList]
        have hBL : Hid (Op.bytesLess (str X[j]).toList (str Y[j]).toList = Op.bytesLess X[j] Y[j]) := by show _ = _; rw [str_toList, str_toList]
        generalize X[j] = x at *
        generalize Y[j] = y at *
        by_cases hxy : x = y
        · have t1 : ((str x).toList == (str y).toList) = true := by rw [beq_iff_eq]; exact hE.out.2 hxy
          have hS2 : Hid (R = lessL (X.drop (j + 1)) (Y.drop (j + 1))) := by show _ = _; rw [hS.out, if_pos hxy]
          have hN : Hid (∀ k, wr.drewN k = w2.drewN (m + k)) := fun k => by rw [hwr.out, drewN_two]
          clear hxy hE hBL hS hL
          go_wp2
          go_quiet (fail)
          go_wp2
          first
            | exact ⟨⟨j + 1, _, (by first | rfl | go_num | (congr 1; omega)), by omega, by omega, hS2, Lib.hid (hN.out _)⟩, by simp [intOf] <;> omega⟩
            | (refine ⟨?_, by simp [intOf] <;> omega⟩; (repeat apply Exists.intro); exact ⟨⟨j + 1, _, (by first | rfl | go_num | (congr 1; omega)), by omega, by omega, hS2, Lib.hid (hN.out _)⟩, rfl⟩)
        · have t1 : ((str x).toList == (str y).toList) = false := by rw [beq_eq_false_iff_ne]; exact fun e => hxy (hE.out.1 e)
          have hS2 : Hid (R = Op.bytesLess (str x).toList (str y).toList) := by show _ = _; rw [hS.out, if_neg hxy, hBL.out]
          clear hxy hE hBL hS hL
          go_wp2
          go_quiet (fail)
          go_wp2
          go_quiet (fail)
          go_wp2
          go_ret
          refine ⟨?_, by first | exact Below.drewN hbw.out _ | exact Below.drewN (Below.drewN hbw.out _) _⟩
          rw [hS2.out]; rfl
      · have i2 : ¬ (j : Int) < (Y.length : Int) := by omega
        have hS : Hid (R = decide (X.length < Y.length)) := by show _ = _; rw [hL.out]; exact lessL_end (.inr (by omega)) hjx hjy
        have i3 : ¬ (X.length : Int) < (Y.length : Int) := by omega
        have hS2 : Hid (R = false) := by show _ = _; rw [hS.out, decide_eq_false (by omega)]
        clear hS h1 h2 hL
        go_wp2
        go_ret
        exact ⟨by rw [hS2.out]; rfl, hbw.out⟩
    · have i1 : ¬ (j : Int) < (X.length : Int) := by omega
      have hS : Hid (R = decide (X.length < Y.length)) := by show _ = _; rw [hL.out]; exact lessL_end (.inl (by omega)) hjx hjy
      by_cases h3 : X.length < Y.length
      · have i3 : (X.length : Int) < (Y.length : Int) := by omega
        have hS2 : Hid (R = true) := by show _ = _; rw [hS.out, decide_eq_true h3]
        clear hS h1 h3 hL
        go_wp2
        go_ret
        exact ⟨by rw [hS2.out]; rfl, hbw.out⟩
      · have i3 : ¬ (X.length : Int) < (Y.length : Int) := by omega
        have hS2 : Hid (R = false) := by show _ = _; rw [hS.out, decide_eq_false h3]
        clear hS h1 h3 hL
        go_wp2
        go_ret
        exact ⟨by rw [hS2.out]; rfl, hbw.out⟩
end Go.Proofs.YtpchogicdnfggaaGreatDoor
set_option maxRecDepth 20000
namespace Go.Proofs.YtpchogicdnfggaaGreatDoor
open Go.RowKit Go.Hd
theorem nxt_long {r : List UInt8} (h4 : 4 ≤ r.length) (h5 : sz4 r ≤ r.length - 4) : nxt r = if (decF (chunkF r)).2 ≠ 0 then (itZ, (decF (chunkF r)).2) else ofF (decF (chunkF r)).1 := by
  unfold nxt; rw [if_neg (by omega)]
theorem its_bad {out : List Itm} {r : List UInt8} (h0 : r ≠ []) (h1 : out.length ≠ 100) {E : Int} (hE : E ≠ 0) (h2 : nxt r = (itZ, E)) : itsF (r.length + 1) out r = ([], E) := by
  show (if r = [] then _ else _) = _
  rw [if_neg h0, if_neg h1, h2, if_pos hE]
theorem sz4_lt (r : List UInt8) : sz4 r < 4294967296 := by
  have := getL_lt (r.take 4).reverse
  have h2 : (256 : Nat) ^ (r.take 4).reverse.length ≤ 256 ^ 4 := Nat.pow_le_pow_right (by decide) (by simp; omega)
  have h3 : (256 : Nat) ^ 4 = 4294967296 := by decide
  unfold sz4; omega
attribute [local go_sem ↓] h_ldV h_stV h_alV h_ldIT h_stIT h_alIT h_bsIT
attribute [local go_sem] r_ldV r_stV r_alV r_ldIT r_stIT r_alIT r_bsIT
set_option maxHeartbeats 4000000 in
theorem ritems_any {a : Option Addr} {n c : Nat} {l : List UInt8} {w : World} (hn : n = l.length) (hr : Row w a (l.map b8)) (hcc : l.length ≤ c) (hcm : c ≤ maxLen) (hl : l.length ≤ 100000000) :
    Calls Tryz.prog 7 #[.slice a n c] w fun e w' => ∃ u, e = .returned (.tuple #[u, .int .i64 (itemsF l).2]) ∧ ItsO w.heap.size w' u (itemsF l).1 ∧ Below w.heap.size w w' := by
  subst hn
  have zt := zIT_size
  have zv := zV_size
  have hF : Hid (itemsF l = itsF (l.length + 1) [] l) := rfl
  generalize itemsF l = F at *
  have HR := Lib.hid hr
  have HC := Lib.hid (And.intro hcc hcm)
  have HL0 : Hid (l.length ≤ 100000000) := hl
  clear hr hcc hcm hl
  go_enter Tryz.func7, Tryz.ntmps7
  go_wp2
  go_loopw [4, 5] (fun u i wr => ∃ (out : List Itm) (p : Nat), p ≤ l.length ∧ i = .int .i64 p ∧ Hid (itsF ((l.drop p).length + 1) out (l.drop p) = F) ∧ out.length ≤ 100 ∧ Hid (ItsO w.heap.size wr u out) ∧ Hid (Below w.heap.size w wr) ∧ Hid (∀ x ∈ out, x.path.length ≤ 65536)) (fun u i wr => l.length - (intOf i).toNat)
  case atStart => exact ⟨[], 0, Nat.zero_le _, rfl, Lib.hid (by rw [List.drop_zero]; exact hF.out.symm), Nat.zero_le _, Lib.hid (ItsO.nil _ _), Lib.hid (Below.refl _ _), Lib.hid (by intro x hx; cases hx)⟩
  case round =>
    obtain ⟨out, p, hpl, rfl, hI, hout, hO, hb, hp⟩ := hrel
    obtain ⟨ao, co, rfl, hco1, hco2, hat⟩ := hO.out.at
    clear hF
    by_cases h0 : p < l.length
    case neg =>
      obtain rfl : p = l.length := by omega
      have t0 : ¬ (l.length : Int) < (l.length : Int) := by omega
      have hF2 : Hid (F = (out, 0)) := by show _ = _; rw [← hI.out, List.drop_length]; rfl
      clear hI hp
      go_wp2
      go_ret2
      exact ⟨_, by rw [hF2.out] <;> rfl, by rw [hF2.out]; exact hO.out, hb.out⟩
    case pos =>
    have t0 : (p : Int) < (l.length : Int) := by omega
    have hq : (l.drop p).length = l.length - p := List.length_drop
    have hne : l.drop p ≠ [] := fun h => by have := congrArg List.length h; rw [hq] at this; simp at this; omega
    by_cases h100 : out.length = 100
    case pos =>
      have t1 : ((out.length : Int) == 100) = true := by rw [h100]; rfl
      have hF2 : Hid (F = ([], 16)) := by
        show _ = _
        rw [← hI.out]
        show (if l.drop p = [] then _ else _) = _
        rw [if_neg hne, if_pos h100]
      clear hI hO hp h100
      go_wp2
      go_ret2
      exact ⟨.slice none 0 0, by rw [hF2.out] <;> rfl, by rw [hF2.out]; exact ItsO.nil _ _, hb.out⟩
    case neg =>
    have t1 : ((out.length : Int) == 100) = false := by rw [beq_eq_false_iff_ne]; omega
    have hrw := HR.out.below hb.out
    obtain ⟨q, hqd⟩ : ∃ q, q = l.length - p := ⟨_, rfl⟩
    have hw1 : IntKind.i64.wrap ((l.length : Int) - (p : Int)) = (q : Int) := by rw [IntWalk.i64_in _ (by have := HL0.out; omega)]; omega
    have hrl : (l.drop p).length = q := by omega
    have hqb : q ≤ 100000000 := by have := HL0.out; omega
    by_cases h4 : q < 4
    case pos =>
      have t2 : (q : Int) < 4 := by omega
      have hF2 : Hid (F = ([], 3)) := by
        show _ = _
        rw [← hI.out]
        exact its_bad hne h100 (by decide) (by unfold nxt; rw [if_pos (.inl (by omega))])
      clear hI hO hp h100 hne hq hrl hqd
      go_wp2
      go_ret2
      exact ⟨.slice none 0 0, by rw [hF2.out] <;> rfl, by rw [hF2.out]; exact ItsO.nil _ _, hb.out⟩
    case neg =>
    have t2 : ¬ (q : Int) < 4 := by omega
    have hw2 : IntKind.i64.wrap ((p : Int) + 4) = (p : Int) + 4 := IntWalk.i64_in _ (by have := HL0.out; omega)
    have HD : Hid (nxtR (l.drop p) = l.drop (p + 4 + sz4 (l.drop p))) := by show _ = _; unfold nxtR; rw [List.drop_drop, List.drop_drop, Nat.add_assoc]
    have hcut1 : Hid (∃ (a' : Option Addr) (c' : Nat), (∀ w', (Instr.slice 22 (.slice a l.length c) (some (.int .i64 (p : Int))) (some (.int .i64 ((p : Int) + 4))) none).run Tryz.prog w' = .ok (.slice a' 4 c') w') ∧ Row wr a' (((l.drop p).take 4).map b8)) := by
      obtain ⟨a', c', hcut, k1, k2, k3⟩ := cut_lh (P := Tryz.prog) (t := 22) (e := 5) (s := 1) (by rfl) (by kernel_rfl) hrw (n := l.length) (c := c) (k1 := .i64) (k2 := .i64) (i := (p : Int)) (j := (p : Int) + 4) (p := p) (q := p + 4) rfl (by omega) (by omega) (by have := HC.out.1; omega)
      rw [show p + 4 - p = 4 by omega] at hcut k3
      refine ⟨a', c', hcut, ?_⟩
      simpa [List.map_drop, List.map_take] using k3
    obtain ⟨a4, c4, hs4, hr4⟩ := hcut1.out
    have hl4 : 4 = ((l.drop p).take 4).length := by rw [List.length_take]; omega
    have hbk := back_any a4 4 c4 _ wr hl4 hr4 (by omega)
    have hsz := sz4_lt (l.drop p)
    have hgv : gV ((l.drop p).take 4).reverse = sz4 (l.drop p) := by unfold gV sz4; rw [if_pos (by rw [List.length_reverse, ← hl4]; omega)]
    have hbl : ((l.drop p).take 4).reverse.length = 4 := by rw [List.length_reverse]; omega
    have HBL := Lib.hid hbl
    have HL4 := Lib.hid hl4
    have HGV := Lib.hid hgv
    have HRL := Lib.hid hrl
    have HQD := Lib.hid hqd
    clear hcut1 hr4 hl4 hgv hbl hrl hq hqd
    go_wp2_with fail
    refine hbk.mono ?_
    rintro e w2 ⟨pv, rfl, hFr⟩
    obtain ⟨a5, c5, rfl, hr5, hb5, _, _⟩ := hFr.open
    have hget := rget_all (c := c5) rfl hr5
    rw [HGV.out, HBL.out] at hget
    rw [HBL.out]
    clear hbk hFr hs4
    go_wp2_with fail
    refine hget.mono ?_
    rintro e w2' ⟨rfl, rfl⟩
    have hbW2 := Lib.hid (hb.out.trans (hb5.mono hb.out.size))
    have hO2 := Lib.hid (hO.out.below hb5)
    have hlo := hO.out.lo
    have hrw2 := hrw.below hb5
    have hsz2 := hb5.size
    clear hget hr5 hb5 hrw hO hb hat
    obtain ⟨n, hn⟩ : ∃ n, n = sz4 (l.drop p) := ⟨_, rfl⟩
    rw [← hn] at hsz HD ⊢
    have HN := Lib.hid hn
    clear hn
    have hw3 : IntKind.i64.wrap ((q : Int) - 4) = ((q - 4 : Nat) : Int) := by rw [IntWalk.i64_in _ (by have := HL0.out; omega)]; omega
    have hw4 : IntKind.u64.wrap ((q - 4 : Nat) : Int) = ((q - 4 : Nat) : Int) := by rw [IntKind.wrap_u64]; have := HL0.out; omega
    have hwn : IntKind.i64.wrap (n : Int) = (n : Int) := IntWalk.i64_in _ (by omega)
    by_cases h5 : q - 4 < n
    case pos =>
      have t3 : ((q - 4 : Nat) : Int) < (n : Int) := by omega
      have hF2 : Hid (F = ([], 3)) := by
        show _ = _
        rw [← hI.out]
        have hn := HN.out
        have hrl := HRL.out
        exact its_bad hne h100 (by decide) (by unfold nxt; rw [if_pos (.inr (by omega))])
      clear hI hO2 hp h100 hne HD hlo hrw2
      go_wp2
      go_ret2
      exact ⟨.slice none 0 0, by rw [hF2.out] <;> rfl, by rw [hF2.out]; exact ItsO.nil _ _, hbW2.out⟩
    case neg =>
    have t3 : ¬ ((q - 4 : Nat) : Int) < (n : Int) := by omega
    have hnx := Lib.hid (nxt_long (r := l.drop p) (by have := HRL.out; omega) (by have := HRL.out; have := HN.out; omega))
    have hw5 : IntKind.i64.wrap ((p : Int) + 4 + (n : Int)) = (p : Int) + 4 + (n : Int) := IntWalk.i64_in _ (by have := HL0.out; omega)
    have hCn : (chunkF (l.drop p)).length = n := by
      have hn := HN.out
      have hrl := HRL.out
      unfold chunkF; rw [List.length_take, List.length_drop, ← hn]; omega
    have hcut2 : Hid (∃ (a' : Option Addr) (c' : Nat), (∀ w', (Instr.slice 22 (.slice a l.length c) (some (.int .i64 ((p : Int) + 4))) (some (.int .i64 ((p : Int) + 4 + (n : Int)))) none).run Tryz.prog w' = .ok (.slice a' (chunkF (l.drop p)).length c') w') ∧ Row w2 a' ((chunkF (l.drop p)).map b8) ∧ (chunkF (l.drop p)).length ≤ c' ∧ c' ≤ maxLen) := by
      have hn := HN.out
      have hqd := HQD.out
      obtain ⟨a', c', hcut, k1, k2, k3⟩ := cut_lh (P := Tryz.prog) (t := 22) (e := 5) (s := 1) (by rfl) (by kernel_rfl) hrw2 (n := l.length) (c := c) (k1 := .i64) (k2 := .i64) (i := (p : Int) + 4) (j := (p : Int) + 4 + (n : Int)) (p := p + 4) (q := p + 4 + n) (by omega) (by omega) (by omega) (by have := HC.out.1; omega)
      rw [Nat.add_sub_cancel_left] at hcut k1 k3
      refine ⟨a', c', by rw [hCn]; exact hcut, ?_, by rw [hCn]; exact k1, by have := HC.out.2; omega⟩
      have e : (chunkF (l.drop p)).map b8 = ((l.map b8).drop ((p + 4) * 1)).take (n * 1) := by
        unfold chunkF
        rw [List.drop_drop, ← hn, Nat.mul_one, Nat.mul_one, List.map_take, List.map_drop]
      rw [e]; exact k3
    obtain ⟨a6, c6, hs6, hr6, hc6, hm6⟩ := hcut2.out
    have hrd := rdec_any (c := c6) rfl hr6 hc6 hm6
    unfold DecP at hrd
    have hSm0 := Lib.hid (decF_sm (chunkF (l.drop p)))
    have HCN := Lib.hid hCn
    clear hcut2 hr6 hrw2 hCn
    generalize hDV : decF (chunkF (l.drop p)) = D at *
    obtain ⟨u, DE⟩ := D
    simp only at hrd hnx hSm0
    clear hDV
    generalize (chunkF (l.drop p)).length = cn at *
    go_wp2_with fail
    refine hrd.mono ?_
    rintro e w3 ⟨dv, rfl, hV, hb3⟩
    have hV := hV.at
    have d6 : (List.toArray dv).size = 6 := by simpa using hV.len
    have do6 : OneC (List.toArray dv) := all_oneCell_toArray hV.one
    have hbA : Below w3.heap.size w3 (w3.alloc (.cells (List.toArray dv) 50)) := (Below.refl _ _).alloc (Nat.le_refl _) _
    have hVB : Blk (w3.alloc (.cells (List.toArray dv) 50)) w3.heap.size 50 dv := Blk.new _ _ _
    have hb24 := Gr.trans hb3 hbA
    have hV4 := hV.keep hbA
    have hO4 := Lib.hid (hO2.out.below hb24)
    have hbW4 := Lib.hid (hbW2.out.trans (hb24.mono hbW2.out.size))
    have hsz4 : w2.heap.size ≤ (w3.alloc (.cells (List.toArray dv) 50)).heap.size := hb24.size
    clear hbA hb3 hV hb24 hO2 hbW2 hrd hs6
    go_upto_region 13 with (fail)
    generalize w3.alloc (.cells (List.toArray dv) 50) = w4 at *
    generalize w3.heap.size = qv at *
    by_cases hd : DE = 0
    case neg =>
      have t4 : (DE != 0) = true := by simpa using hd
      have hF2 : Hid (F = ([], DE)) := by
        show _ = _
        rw [← hI.out]
        exact its_bad hne h100 hd (by rw [hnx.out, if_pos hd])
      clear hI hO4 hp h100 hne HD hlo hnx hd hSm0 hV4 hVB
      go_wp2
      go_ret2
      exact ⟨.slice none 0 0, by rw [hF2.out] <;> rfl, by rw [hF2.out]; exact ItsO.nil _ _, hbW4.out⟩
    case pos =>
    subst hd
    have hN : Hid (nxt (l.drop p) = ofF u) := by show _ = _; rw [hnx.out, if_neg (by simp)]
    have hSm := hSm0
    have lV := ldOp_all (P := Tryz.prog) (ty := 50) hVB Tryz.underlying50 rfl (by rw [show dv.length = 6 by simpa using d6]; exact sizeV)
    clear hnx
    go_wp2_with fail
    refine (rof_any hV4 hSm.out w4 (Below.refl _ _)).mono ?_
    rintro e w5 ⟨ds, rfl, hD, hb5⟩
    have s7 := hD.at.len
    have e7 : (List.toArray ds).size = 7 := by simpa using s7
    have eo : OneC (List.toArray ds) := all_oneCell_toArray hD.at.one
    have hbA : Below w5.heap.size w5 (w5.alloc (.cells (List.toArray ds) 40)) := (Below.refl _ _).alloc (Nat.le_refl _) _
    have hXB := Lib.hid (Blk.new w5 40 (List.toArray ds))
    have hb46 := Gr.trans hb5 hbA
    have hD6 := Lib.hid (hD.below hbA)
    have hO6 := Lib.hid (hO4.out.below hb46)
    have hbW6 := Lib.hid (hbW4.out.trans (hb46.mono hbW4.out.size))
    have hok : Hid (∀ b, w4.heap.size ≤ b → w.heap.size ≤ b ∧ (Value.slice ao out.length co).ownBlock ≠ some b) := fun b hb => ⟨Nat.le_trans hbW4.out.size hb, fun e => by have := (hlo b e).2; omega⟩
    have d0 := hD.cell0
    clear hbA hb5 hb46 hD hO4 hbW4 lV hV4 hVB hlo hsz2 hsz4
    go_upto_region 16 with (fail)
    generalize w5.alloc (.cells (List.toArray ds) 40) = w6 at *
    generalize w5.heap.size = qx at *
    by_cases ho : (ofF u).2 = 0
    case neg =>
      have t4 : ((ofF u).2 != 0) = true := by simpa using ho
      have hF2 : Hid (F = ([], (ofF u).2)) := by
        show _ = _
        rw [← hI.out]
        exact its_bad hne h100 ho (by rw [hN.out]; have := ofF_bad ho; rw [this])
      clear hI hO6 hp h100 hne HD hN ho hSm hSm0 hXB hD6 hok d0
      generalize (ofF u).2 = OE at *
      go_wp2
      go_ret2
      exact ⟨.slice none 0 0, by rw [hF2.out] <;> rfl, by rw [hF2.out]; exact ItsO.nil _ _, hbW6.out⟩
    case pos =>
      have x0 : w6.cell? ⟨qx, 0, none⟩ = some (.string (str (ofF u).1.path)) := hXB.out.cell (by simpa using d0)
      rw [ho]
      have hnE : (nxt (l.drop p)).2 = 0 := by rw [hN.out]; exact ho
      have hwa : IntKind.i64.wrap ((p : Int) + 4 + (n : Int)) = ((p + 4 + n : Nat) : Int) := by rw [hw5]; omega
      by_cases hpos : 0 < out.length
      case neg =>
        have t5 : decide (0 < out.length) = false := decide_eq_false hpos
        have hI2 : Hid (itsF ((l.drop (p + 4 + n)).length + 1) (out ++ [(ofF u).1]) (l.drop (p + 4 + n)) = F) := by
          show _ = _
          have h9 := its_next hne h100 hnE (fun h => hpos h.1)
          rw [HD.out, hN.out] at h9
          rw [← h9]; exact hI.out
        clear hI hpos hN hnE
        go_wp2
        go_quiet (fail)
        have hX8 := Lib.hid (hXB.out.drewN nq)
        have hO8 := Lib.hid (hO6.out.below (Below.drewN (Below.refl _ _) nq))
        have hD8 := Lib.hid (hD6.out.below (Below.drewN (Below.refl _ _) nq))
        have hb8 := Lib.hid (Below.drewN hbW6.out nq)
        have hs8 : Hid (w.heap.size ≤ (w6.drewN nq).heap.size) := hb8.out.size
        clear hXB hO6 hD6 hbW6
        obtain ⟨a', c', w9, happ, hO9, hG9⟩ := hO8.out.app (hD8.out.mono (fun b hk _ => hok.out b hk)) (by omega) hs8.out
        have lX := ldOp_all (P := Tryz.prog) (ty := 40) hX8.out Tryz.underlying40 rfl (by rw [s7]; exact sizeIT)
        have hb9 : Hid (Below w.heap.size w w9) := hb8.out.trans (hG9.below (fun k hk => (hO8.out.lo k hk).1) (Nat.le_refl _) hs8.out)
        have hO10 : Hid (ItsO w.heap.size w9 (.slice a' (out.length + 1) c') (out ++ [(ofF u).1])) := hO9
        have hp9 : Hid (∀ x ∈ out ++ [(ofF u).1], x.path.length ≤ 65536) := by
          intro x hx
          rcases List.mem_append.1 hx with hx | hx
          · exact hp.out x hx
          · simp at hx; subst hx; exact ofF_path hSm.out
        clear hO8 hO9 hG9 hD8 hX8 hok hs8 hb8 hp hSm
        go_wp2_with (at_builtin; refine wpList_append_run happ rfl rfl rfl rfl ?_)
        first
          | exact ⟨⟨out ++ [(ofF u).1], p + 4 + n, by (have := HQD.out; omega), (by first | rfl | go_num | (congr 1; omega)), hI2, by simp; omega, hO10, hb9, hp9⟩, by simp [intOf] <;> omega⟩
          | (refine ⟨?_, by simp [intOf] <;> omega⟩; (repeat apply Exists.intro); exact ⟨⟨out ++ [(ofF u).1], p + 4 + n, by (have := HQD.out; omega), (by first | rfl | go_num | (congr 1; omega)), hI2, by simp; omega, hO10, hb9, hp9⟩, rfl⟩)
      case pos =>
        obtain ⟨k, hk⟩ : ∃ k, k = out.length - 1 := ⟨_, rfl⟩
        have hkl : k < out.length := by omega
        have t5 : decide (0 < out.length) = true := decide_eq_true hpos
        have t6 : decide ((0 : Int) < (out.length : Int)) = true := decide_eq_true (by omega)
        have im : IntKind.i64.wrap ((out.length : Int) - 1) = (k : Int) := by rw [IntWalk.i64_in _ (by omega)]; omega
        have k0 : (0 : Int) ≤ (k : Int) := by omega
        have k1 : (k : Int) < (out.length : Int) := by omega
        obtain ⟨a9, c9, e9, _, _, hat3⟩ := (hO6.out.below (Below.drewN (Below.refl _ _) 1)).at
        simp only [Value.slice.injEq] at e9
        obtain ⟨rfl, _, rfl⟩ := e9
        obtain ⟨q1, s1⟩ := hat3.path hkl
        have hLP : Hid (lastP out = out[k].path) := by
          show _ = _
          unfold lastP
          rw [← hk, List.getElem?_eq_getElem hkl]; rfl
        have hle := rless_any out[k].path (ofF u).1.path (w6.drewN 1) (by have := hp.out _ (List.getElem_mem hkl); omega) (by have := ofF_path hSm.out; omega)
        generalize out[k].path = zp at *
        clear hat3 hk hkl
        go_wp2
        refine wp_region_still_tail 13 (by kernel_rfl) (by kernel_rfl) ?_
        simp only [List.take_succ_cons, List.take_zero, List.drop_succ_cons, List.drop_zero]
        change wpStill _ _ (w6.drewN 1) _ _ _
        repeat still_step
        try refine wpStill_nil ?_
        change wpList _ _ _ _ _ (w6.drewN 1)
        go_wp2_with fail
        refine hle.mono ?_
        rintro e w8 ⟨rfl, hb78⟩
        have hb8 := Lib.hid ((Below.drewN hbW6.out 1).trans (hb78.mono (Below.drewN hbW6.out 1).size))
        generalize hLF : lessF zp (ofF u).1.path = LF at *
        cases LF with
        | false =>
          have hF2 : Hid (F = ([], 18)) := by
            show _ = _
            rw [← hI.out]
            show (if l.drop p = [] then _ else _) = _
            rw [if_neg hne, if_neg h100, if_neg (fun h => h hnE), if_pos ⟨hpos, by rw [hLP.out, hN.out]; exact hLF⟩]
          clear hI hLF hLP hp hXB hO6 hD6 hok hpos hN hnE hb78 hbW6
          go_wp2
          go_ret2
          exact ⟨.slice none 0 0, by rw [hF2.out] <;> rfl, by rw [hF2.out]; exact ItsO.nil _ _, hb8.out⟩
        | true =>
          have hI2 : Hid (itsF ((l.drop (p + 4 + n)).length + 1) (out ++ [(ofF u).1]) (l.drop (p + 4 + n)) = F) := by
            show _ = _
            have h9 := its_next hne h100 hnE (fun h => by rw [hLP.out, hN.out, hLF] at h; cases h.2)
            rw [HD.out, hN.out] at h9
            rw [← h9]; exact hI.out
          have hX8 := Lib.hid ((hXB.out.drewN 1).below hb78)
          have hO8 := Lib.hid ((hO6.out.below (Below.drewN (Below.refl _ _) 1)).below hb78)
          have hD8 := Lib.hid ((hD6.out.below (Below.drewN (Below.refl _ _) 1)).below hb78)
          have hs8 : Hid (w.heap.size ≤ w8.heap.size) := hb8.out.size
          clear hI hpos hN hnE hLF hLP hXB hO6 hD6 hbW6 hb78 hle q1 s1
          obtain ⟨a', c', w9, happ, hO9, hG9⟩ := hO8.out.app (hD8.out.mono (fun b hk _ => hok.out b hk)) (by omega) hs8.out
          have lX := ldOp_all (P := Tryz.prog) (ty := 40) hX8.out Tryz.underlying40 rfl (by rw [s7]; exact sizeIT)
          have hb9 : Hid (Below w.heap.size w w9) := hb8.out.trans (hG9.below (fun k hk => (hO8.out.lo k hk).1) (Nat.le_refl _) hs8.out)
          have hO10 : Hid (ItsO w.heap.size w9 (.slice a' (out.length + 1) c') (out ++ [(ofF u).1])) := hO9
          have hp9 : Hid (∀ x ∈ out ++ [(ofF u).1], x.path.length ≤ 65536) := by
            intro x hx
            rcases List.mem_append.1 hx with hx | hx
            · exact hp.out x hx
            · simp at hx; subst hx; exact ofF_path hSm.out
          clear hO8 hO9 hG9 hD8 hX8 hok hs8 hb8 hp hSm
          go_wp2_with (at_builtin; refine wpList_append_run happ rfl rfl rfl rfl ?_)
          first
            | exact ⟨⟨out ++ [(ofF u).1], p + 4 + n, by (have := HQD.out; omega), (by first | rfl | go_num | (congr 1; omega)), hI2, by simp; omega, hO10, hb9, hp9⟩, by simp [intOf] <;> omega⟩
            | (refine ⟨?_, by simp [intOf] <;> omega⟩; (repeat apply Exists.intro); exact ⟨⟨out ++ [(ofF u).1], p + 4 + n, by (have := HQD.out; omega), (by first | rfl | go_num | (congr 1; omega)), hI2, by simp; omega, hO10, hb9, hp9⟩, rfl⟩)
end Go.Proofs.YtpchogicdnfggaaGreatDoor
set_option maxRecDepth 20000
namespace Go.Proofs.YtpchogicdnfggaaGreatDoor
open Go.RowKit Go.Hd Go.ChangeShapes Go.WideShapes Go.ChangeAt
theorem inc8i (c : UInt8) : IntKind.u8.wrap ((c.toNat : Int) + 1) = ((c + 1).toNat : Int) := by
  have h := c.toNat_lt
  rw [IntKind.wrap_u8, UInt8.toNat_add]
  simp
set_option maxHeartbeats 8000000 in
theorem iitems_law {W : World} {a0 : Option Addr} {c0 : Nat} {l : List UInt8} (hl : Row W a0 (l.map b8)) (hc0 : l.length ≤ c0) (hm0 : c0 ≤ maxLen) :
    Calls Tryz.prog 3 #[.slice a0 l.length c0] W fun e W' => e = .returned (.bool true) ∧ Below W.heap.size W W' := by
  obtain ⟨L, hL⟩ : ∃ L, L = l.take 1500 := ⟨_, rfl⟩
  have hLl : min l.length (1500 : Int).toNat = L.length := by rw [hL, List.length_take]; exact Nat.min_comm _ _
  have hcut := cut_any a0 l.length c0 1500 W (by decide) hc0
  rw [hLl] at hcut
  have hLr : Row W a0 (L.map b8) := by
    have := hl.take 1500
    rw [← List.map_take, ← hL] at this
    exact this
  have hLm : L.length ≤ 1500 := by rw [hL]; simp; omega
  have hLc : L.length ≤ c0 := by rw [hL]; simp; omega
  have HLM := Lib.hid hLm
  have hcp := copy_any a0 L.length c0 L W rfl hLr (by omega)
  have hit := fun (a : Option Addr) (c : Nat) (w : World) (h : Row w a (L.map b8)) => items_any (c := c) rfl h (by omega)
  have hrit := fun (w : World) (h : Row w a0 (L.map b8)) => ritems_any (c := c0) rfl h hLc hm0 (by omega)
  have hall := Lib.hid (itemsF_all L)
  have hlen := Lib.hid (itemsF_len L)
  have hsb := fun (a : Option Addr) (c : Nat) (w : World) (h1 : Row w a (L.map b8)) (h2 : Row w a0 (L.map b8)) => same_any (c := c) (d := c0) rfl rfl h1 h2 (by unfold maxLen; omega)
  rw [show (L == L) = true by simp] at hsb
  have hlv := fun w' => lives21_any w'
  clear hL hLl hl hLm hLc hm0 hc0
  generalize (itemsF L).1 = M at *
  generalize (itemsF L).2 = E at *
  have hsi := fun (a b : Option Addr) (c d : Nat) (w : World) (h1 : ItsAt w a M) (h2 : ItsAt w b M) => sameIs_any (c := c) (d := d) rfl rfl h1 h2 (fun x hx => by have := hall.out x hx; omega) (by have := hlen.out; omega)
  have tE : (E != E) = false := by simp
  go_enter Tryz.func3, Tryz.ntmps3
  go_wp2_with fail
  refine hcut.mono ?_
  rintro e w0 ⟨rfl, rfl⟩
  clear hcut
  go_wp2_with fail
  refine hcp.mono ?_
  rintro e w1 ⟨u1, rfl, ⟨hown, hb1⟩⟩
  obtain ⟨a1, c1, rfl, hc1, hm1, hr1, hat1⟩ := owns_at hown
  clear hcp hat1
  have hLr1 := hLr.below hb1
  have HB1 : Hid (∀ b, (Value.slice a1 L.length c1).ownBlock = some b → W.heap.size ≤ b ∧ b < w1.heap.size) := fun b hb => World.ownsRow.lt hown b hb
  go_wp2_with fail
  refine (hit _ _ _ hr1).mono ?_
  rintro e w2 ⟨u2, rfl, hO2, hb2⟩
  obtain ⟨a2, c2, rfl, _, _, _⟩ := hO2.at
  have hLr2 := hLr1.below hb2
  have hown2 := ownsRow_below hown hb2
  have hbW2 := hb1.trans (hb2.mono hb1.size)
  clear hit hr1 hown hLr1
  go_wp2_with fail
  refine (hrit _ hLr2).mono ?_
  rintro e w3 ⟨u3, rfl, hO3, hb3⟩
  obtain ⟨a3, c3, rfl, _, _, hI3⟩ := hO3.at
  have hLr3 := hLr2.below hb3
  have hown3 := ownsRow_below hown2 hb3
  have hO23 := hO2.below hb3
  have hbW3 := hbW2.trans (hb3.mono hbW2.size)
  have hs12 := hb2.size
  clear hrit hLr2 hown2 hO2 hbW2 hb2 hb3
  have hI2 : ItsAt w3 a2 M := by
    obtain ⟨a9, c9, e9, _, _, h9⟩ := hO23.at
    simp only [Value.slice.injEq] at e9
    obtain ⟨rfl, _, rfl⟩ := e9
    exact h9
  have hs1 := hsi _ _ c2 c3 _ hI2 hI3
  clear hI2 hI3
  go_wp2_with fail
  refine hs1.mono ?_
  rintro e w4 ⟨rfl, hb4⟩
  have hLr4 := hLr3.below hb4
  have hown4 := ownsRow_below hown3 hb4
  have hO24 := hO23.below hb4
  have hO34 := hO3.below hb4
  have hbW4 := hbW3.trans (hb4.mono hbW3.size)
  clear hs1 hLr3 hown3 hO23 hO3 hbW3 hb4
  have hr4 : Row w4 a1 (L.map b8) := by
    obtain ⟨a9, c9, e9, _, _, h9, _⟩ := owns_at hown4
    simp only [Value.slice.injEq] at e9
    obtain ⟨rfl, _, rfl⟩ := e9
    exact h9
  have hsm := hsb _ c1 _ hr4 hLr4
  clear hsb hr4 hLr4
  go_wp2_with fail
  refine hsm.mono ?_
  rintro e w5 ⟨rfl, n5, rfl⟩
  have hown5 := Lib.hid (ownsRow_below hown4 (Below.drewN (Below.refl _ _) n5))
  have hO25 := Lib.hid (hO24.below (Below.drewN (Below.refl _ _) n5))
  have hO35 := Lib.hid (hO34.below (Below.drewN (Below.refl _ _) n5))
  have hbW5 := Lib.hid (Below.drewN hbW4 n5)
  have HS12 := Lib.hid hs12
  clear hsm hown4 hO24 hO34 hbW4 hs12
  generalize w4.drewN n5 = w5 at *
  go_wp2
  go_loopw [8] (fun i wr => ∃ (j : Nat) (m : List UInt8), j ≤ L.length ∧ i = .int .i64 j ∧ m.length = L.length ∧ wr.ownsRow W.heap.size 5 1 (.slice a1 L.length c1) L.length (m.map b8) ∧ Hid (ItsO w1.heap.size wr (.slice a2 M.length c2) M) ∧ Hid (ItsO w2.heap.size wr (.slice a3 M.length c3) M) ∧ Hid (Below W.heap.size W wr)) (fun i _ => L.length - (intOf i).toNat)
  case atStart => exact ⟨0, L, Nat.zero_le _, rfl, rfl, hown5.out, hO25, hO35, hbW5⟩
  case round =>
    clear hown5 hO25 hO35 hbW5
    obtain ⟨j, m, hj, rfl, hml, hO, hP2, hP3, hb⟩ := hrel
    by_cases hlt : j < L.length
    · rw [← hml] at hO
      rcases owns_bytes hO with ⟨_, h0⟩ | ⟨g, c, rest, hv, hg, hB, k1, k2, k3⟩
      · subst h0
        simp at hml; omega
      · simp only [Value.slice.injEq] at hv
        obtain ⟨rfl, _, rfl⟩ := hv
        have hjm : j < m.length := by omega
        have hgp : W.heap.size ≤ g ∧ g < w1.heap.size := HB1.out g rfl
        have d1 : wr.cell? ⟨g, j, none⟩ = some (.int .u8 (m[j].toNat : Int)) := hB.byteL hjm
        have f1 := hB.free j
        have ew := inc8i m[j]
        have hS := hB.setL hjm (m[j] + 1)
        have hgs := grown_set (World.grownBy.refl wr (some g)) j (b8 (m[j] + 1))
        have hQ2 := hP2.out.kept hgs hgp.2
        have hQ3 := hP3.out.kept hgs (by have := HS12.out; omega)
        have hbQ := Below.grown hb.out hgs hb.out.size (fun k hk => by cases hk; exact hgp.1)
        have hsl : (m.set j (m[j] + 1)).length = L.length := by rw [List.length_set]; exact hml
        have hO2 : (wr.setCell ⟨g, j, none⟩ (b8 (m[j] + 1))).ownsRow W.heap.size 5 1 (.slice (some ⟨g, 0, none⟩) L.length c1) L.length ((m.set j (m[j] + 1)).map b8) := by
          have := Blk.ownsB (base := W.heap.size) hS hg (by rw [hsl]; omega) k2 (by rw [hsl]; omega)
          rw [hsl] at this; exact this
        have j0 : (0 : Int) ≤ (j : Int) := by omega
        have j1 : (j : Int) < (L.length : Int) := by omega
        have jb : IntKind.i64.wrap ((j : Int) + 1) = (j : Int) + 1 := IntWalk.i64_in _ (by have := HLM.out; omega)
        have HF := Lib.hid (And.intro hsl (And.intro hO2 (And.intro (Lib.hid hQ2) (And.intro (Lib.hid hQ3) (Lib.hid hbQ)))))
        clear hsl hO2 hQ2 hQ3 hbQ hgs hS hO hB k1 k2 k3 hml hg hP2 hP3 hb
        unfold b8 at HF
        generalize m.set j (m[j] + 1) = m2 at *
        generalize ((m[j] + 1).toNat : Int) = y at *
        generalize (m[j].toNat : Int) = x at *
        clear hjm
        go_wp2
        first
          | exact ⟨⟨j + 1, m2, by omega, (by first | rfl | go_num | (congr 1; omega)), HF.out.1, HF.out.2.1, HF.out.2.2.1, HF.out.2.2.2.1, HF.out.2.2.2.2⟩, by simp [intOf] <;> omega⟩
          | (refine ⟨?_, by simp [intOf] <;> omega⟩; (repeat apply Exists.intro); exact ⟨⟨j + 1, m2, by omega, (by first | rfl | go_num | (congr 1; omega)), HF.out.1, HF.out.2.1, HF.out.2.2.1, HF.out.2.2.2.1, HF.out.2.2.2.2⟩, rfl⟩)
    · obtain rfl : j = L.length := by omega
      have hI2 : ItsAt wr a2 M := by
        obtain ⟨a9, c9, e9, _, _, h9⟩ := hP2.out.at
        simp only [Value.slice.injEq] at e9
        obtain ⟨rfl, _, rfl⟩ := e9
        exact h9
      have hI3 : ItsAt wr a3 M := by
        obtain ⟨a9, c9, e9, _, _, h9⟩ := hP3.out.at
        simp only [Value.slice.injEq] at e9
        obtain ⟨rfl, _, rfl⟩ := e9
        exact h9
      have hs9 := hsi _ _ c2 c3 _ hI2 hI3
      clear hO hml hI2 hI3 hP2 hP3
      go_wp2_with fail
      refine hs9.mono ?_
      rintro e w9 ⟨rfl, hb9⟩
      have hbW9 := hb.out.trans (hb9.mono hb.out.size)
      clear hs9 hb9
      go_wp2_with fail
      refine (hlv _).mono ?_
      rintro e w10 ⟨rfl, hb10⟩
      go_wp2
      go_ret
      exact ⟨rfl, hbW9.trans (hb10.mono hbW9.size)⟩
theorem itemItems_calls {H : Type} {enc : TypeId × Value → H} {W : World} {base : Nat} {v0 : Value} {d0 : DataW H} {p0 : List MemPlace}
    (o0 : Value.okWide Tryz.prog W .any base 22 v0) (h0 : DataW.Trod enc Tryz.prog W 0 (fun _ => true) true 22 v0 d0 p0) :
    Calls Tryz.prog 3 #[v0] W fun e W' => e = .returned (.bool true) ∧ Below W.heap.size W W' := by
  obtain ⟨a, n, c, l, rfl, rfl, hc, hm, hr⟩ := open_byt Tryz.underlying22 Tryz.underlying5 (by kernel_rfl) o0 h0
  exact iitems_law hr hc hm
end Go.Proofs.YtpchogicdnfggaaGreatDoor
