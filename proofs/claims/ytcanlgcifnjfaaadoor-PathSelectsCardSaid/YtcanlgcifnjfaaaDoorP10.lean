/- Layer 20: the document's Clean, Less; rows of texts compared; Parts, Parent. -/
import Derived.Test.YtcanlgcifnjfaaaDoorP9
set_option maxRecDepth 20000
namespace Go.Proofs.YtcanlgcifnjfaaaDoor
open Go.RowKit Go.Hd

set_option maxHeartbeats 2000000 in
theorem rclean_any (s : List UInt8) (w : World) (hs : s.length ≤ 1000000) :
    Calls Tryd.prog 19 #[.string (str s)] w fun e w' => e = .returned (.tuple #[.string (str (cleanF s).1), .bool ((cleanF s).2 == 0)]) ∧ Below w.heap.size w w' := by
  have hpc := rpieces_any s w hs
  have hcl : (cutP s).length ≤ 1000001 := Nat.le_trans (cutP_len s) (by omega)
  have hC : Hid (cleanT s = joinP ((cutP s).filter fun p => p != [] && p != [46])) := rfl
  have hF : Hid (cleanF s = if checkF (cleanT s) = 0 then (cleanT s, 0) else ([], 8)) := rfl
  have hTl : Hid ((cleanT s).length ≤ 1000000) := Nat.le_trans (cleanT_len s) hs
  generalize cleanT s = T at *
  generalize cleanF s = R at *
  generalize cutP s = ps at *
  have HCL := Lib.hid hcl
  clear hcl
  go_enter Tryd.func19, Tryd.ntmps19
  go_wp2_with fail
  refine hpc.mono ?_
  rintro e w1 ⟨⟨u, rfl, hk0⟩, hb⟩
  obtain ⟨ap, cp, rfl, _, _, hrow, hat⟩ := owns_rowN hk0 (by decide)
  have HAT := Lib.hid hat
  have HB0 := Lib.hid hb.size
  clear hpc hk0 hat
  go_upto_block 0 with (fail)
  go_cut [5] (fun u wx => KsAt w1.heap.size wx u (ps.filter fun p => p != [] && p != [46]) ∧ Below w.heap.size w wx)
  case first =>
    go_wp2
    go_loopw [5, 6] (fun u i wr => ∃ j : Nat, j ≤ ps.length ∧ i = .int .i64 j ∧ KsAt w1.heap.size wr u ((ps.take j).filter fun p => p != [] && p != [46]) ∧ Row wr ap (ps.map strV) ∧ Below w.heap.size w wr ∧ w1.heap.size ≤ wr.heap.size) (fun _ i _ => ps.length - (intOf i).toNat)
    case atStart => exact ⟨0, Nat.zero_le _, rfl, World.ownsRow_nil _ _ _ _, hrow, hb, Nat.le_refl _⟩
    case round =>
      clear hrow hb
      obtain ⟨j, hj, rfl, hk, hrow, hb, hgs⟩ := hrel
      by_cases hlt : j < ps.length
      · have q1 : wr.cell? ((hd ap).add j) = some (strV ps[j]) := hrow.cell (by simp [hlt])
        have s1 : ap.isSome = true := hrow.isSome (i := j) (by simp; omega)
        unfold strV at q1
        have hT : Hid ((ps.take (j + 1)).filter (fun p => p != [] && p != [46]) = if (ps[j] != [] && ps[j] != [46]) = true then (ps.take j).filter (fun p => p != [] && p != [46]) ++ [ps[j]] else (ps.take j).filter (fun p => p != [] && p != [46])) := by
          show _ = _
          rw [List.take_succ_eq_append_getElem hlt, List.filter_append]
          by_cases h : (ps[j] != [] && ps[j] != [46]) = true
          · rw [if_pos h, List.filter_cons_of_pos (p := fun p => p != [] && p != [46]) h]; rfl
          · rw [if_neg h, List.filter_cons_of_neg (p := fun p => p != [] && p != [46]) h]; simp
        have hkl : ((ps.take j).filter fun p => p != [] && p != [46]).length ≤ 1000001 := Nat.le_trans (List.length_filter_le _ _) (by have := HCL.out; simp; omega)
        have hpos : 0 < (ps.map strV).length := by simp; omega
        have hap := (HAT.out hpos).2.2
        generalize (ps.take j).filter (fun p => p != [] && p != [46]) = ks at *
        have j0 : (0 : Int) ≤ (j : Int) := by omega
        have j1 : (j : Int) < (ps.length : Int) := by omega
        have jb : IntKind.i64.wrap ((j : Int) + 1) = (j : Int) + 1 := IntWalk.i64_in _ (by have := HCL.out; omega)
        generalize ps[j] = p at *
        have ht := str_toList p
        have HT2 := Lib.hid ht
        obtain ⟨a', c', w', hrun, ho', hG⟩ := own_app1 (ty := 31) eS hk (.string (str p)) rfl (by unfold maxLen; omega) (by omega) hgs
        have hown := World.ownsRow.lt hk
        by_cases h1 : p = []
        · have t1 : (str p).toList = [] := by rw [ht, h1]
          have t1b : (str p).toList.isEmpty = true := by rw [t1]; rfl
          have hK : Hid (KsAt w1.heap.size wr u5 ((ps.take (j + 1)).filter fun p => p != [] && p != [46])) := by show KsAt _ _ _ _; rw [hT.out, if_neg (by rw [h1]; decide)]; exact hk
          clear h1 ht hrun ho' hG hk hT hkl hpos
          go_wp2
          first
            | exact ⟨⟨j + 1, by omega, (by first | rfl | go_num | (congr 1; omega)), hK.out, hrow, hb, hgs⟩, by simp [intOf] <;> omega⟩
            | (refine ⟨?_, by simp [intOf] <;> omega⟩; (repeat apply Exists.intro); exact ⟨⟨j + 1, by omega, (by first | rfl | go_num | (congr 1; omega)), hK.out, hrow, hb, hgs⟩, rfl⟩)
        · by_cases h2 : p = [46]
          · have t1 : ¬ (str p).toList = [] := by rw [ht]; exact h1
            have t1b : (str p).toList.isEmpty = false := by rw [ht]; simpa using h1
            have t2 : ((str p).toList == [46]) = true := by rw [ht, h2]; rfl
            have hK : Hid (KsAt w1.heap.size wr u5 ((ps.take (j + 1)).filter fun p => p != [] && p != [46])) := by show KsAt _ _ _ _; rw [hT.out, if_neg (by rw [h2]; decide)]; exact hk
            clear h1 h2 ht hrun ho' hG hk hT hkl hpos
            go_wp2
            first
              | exact ⟨⟨j + 1, by omega, (by first | rfl | go_num | (congr 1; omega)), hK.out, hrow, hb, hgs⟩, by simp [intOf] <;> omega⟩
              | (refine ⟨?_, by simp [intOf] <;> omega⟩; (repeat apply Exists.intro); exact ⟨⟨j + 1, by omega, (by first | rfl | go_num | (congr 1; omega)), hK.out, hrow, hb, hgs⟩, rfl⟩)
          · have t1 : ¬ (str p).toList = [] := by rw [ht]; exact h1
            have t2 : ((str p).toList == [46]) = false := by rw [ht]; simpa using h2
            have t3 : (str p).toList.isEmpty = false := by rw [ht]; simpa using h1
            obtain ⟨ak, ck, rfl, _⟩ := owns_rowN hk (by decide)
            have hK : Hid (KsAt w1.heap.size w' (.slice a' (ks.length + 1) c') ((ps.take (j + 1)).filter fun p => p != [] && p != [46])) := by
              show KsAt _ _ _ _
              rw [hT.out, if_pos (by simp [h1, h2])]
              have := ho'
              show World.ownsRow _ _ _ _ _ _ _
              simpa [strV] using this
            have hrow' := Row.keptFar hrow hG.gr (fun _ e => by have := (hown _ e).1; omega)
            have hb' : Below w.heap.size w w' := hG.below (base := w1.heap.size) (fun k hk => (hown k hk).1) HB0.out hb.size |> fun h => hb.trans h
            have hgs' := Nat.le_trans hgs hG.size
            clear h1 h2 ht ho' hG hk hT hown hpos
            go_wp2_with (at_builtin; refine wpList_append_run hrun rfl rfl rfl rfl ?_)
            first
              | exact ⟨⟨j + 1, by omega, (by first | rfl | go_num | (congr 1; omega)), hK.out, hrow', hb', hgs'⟩, by simp [intOf] <;> omega⟩
              | (refine ⟨?_, by simp [intOf] <;> omega⟩; (repeat apply Exists.intro); exact ⟨⟨j + 1, by omega, (by first | rfl | go_num | (congr 1; omega)), hK.out, hrow', hb', hgs'⟩, rfl⟩)
      · obtain rfl : j = ps.length := by omega
        rw [List.take_length] at hk
        go_wp2
        go_meet
        exact ⟨hk, hb⟩
  case rest =>
    obtain ⟨hk, hb2⟩ := hcut
    have hks : (ps.filter fun p => p != [] && p != [46]).length ≤ 1000001 := Nat.le_trans (List.length_filter_le _ _) HCL.out
    obtain ⟨ak, ck, rfl, _, _, hr5, _⟩ := owns_rowN hk (by decide)
    have hjn := rjoined_any (c := ck) rfl hr5 (by rw [← hC.out]; have := hTl.out; omega) hks
    rw [← hC.out] at hjn
    have hck := fun w' => ris_any T w' hTl.out
    clear hrow hb hk hks hr5
    go_wp2_with fail
    refine hjn.mono ?_
    rintro e w3 ⟨rfl, rfl⟩
    go_wp2_with fail
    refine (hck _).mono ?_
    rintro e w4 ⟨rfl, hb4⟩
    have hb4' := hb2.trans (hb4.mono hb2.size)
    clear hjn hck hb4 hb2
    rcases checkF_cases T with h | h
    · have hR : Hid (R = (T, 0)) := by show _ = _; rw [hF.out, if_pos h]
      rw [h]
      clear h
      go_wp2
      go_ret2
      exact ⟨by rw [hR.out]; rfl, hb4'⟩
    · have hR : Hid (R = ([], 8)) := by show _ = _; rw [hF.out, if_neg (by rw [h]; decide)]
      rw [h]
      clear h
      go_wp2
      go_ret2
      exact ⟨by rw [hR.out]; rfl, hb4'⟩
theorem lessL_drop {X Y : List (List UInt8)} {j : Nat} (h1 : j < X.length) (h2 : j < Y.length) : lessL (X.drop j) (Y.drop j) = if X[j] = Y[j] then lessL (X.drop (j + 1)) (Y.drop (j + 1)) else Op.bytesLess X[j] Y[j] := by
  rw [List.drop_eq_getElem_cons h1, List.drop_eq_getElem_cons h2, lessL_cons]
theorem lessL_end {X Y : List (List UInt8)} {j : Nat} (h : X.length ≤ j ∨ Y.length ≤ j) (h1 : j ≤ X.length) (h2 : j ≤ Y.length) : lessL (X.drop j) (Y.drop j) = decide (X.length < Y.length) := by
  rcases Nat.lt_or_ge j Y.length with h3 | h3
  · have h4 : X.length ≤ j := by omega
    rw [List.drop_eq_nil_of_le h4, decide_eq_true (by omega)]
    exact lessL_pos (fun e => by have := congrArg List.length e; simp at this; omega)
  · rw [List.drop_eq_nil_of_le h3, lessL_nil, decide_eq_false (by omega)]
set_option maxHeartbeats 2000000 in
theorem rless_any (a b : List UInt8) (w : World) (ha : a.length ≤ 1000000) (hb : b.length ≤ 1000000) :
    Calls Tryd.prog 25 #[.string (str a), .string (str b)] w fun e w' => e = .returned (.bool (lessF a b)) ∧ Below w.heap.size w w' := by
  have hp1 := rpieces_any a w ha
  have hp2 := fun w' => rpieces_any b w' hb
  have hL0 : Hid (lessF a b = lessL ((cutP a).drop 0) ((cutP b).drop 0)) := rfl
  have hc1 : (cutP a).length ≤ 1000001 := Nat.le_trans (cutP_len a) (by omega)
  have hc2 : (cutP b).length ≤ 1000001 := Nat.le_trans (cutP_len b) (by omega)
  generalize lessF a b = R at *
  generalize cutP a = X at *
  generalize cutP b = Y at *
  have HC := Lib.hid (And.intro hc1 hc2)
  clear hc1 hc2 ha hb
  go_enter Tryd.func25, Tryd.ntmps25
  go_wp2_with fail
  refine hp1.mono ?_
  rintro e w1 ⟨⟨u, rfl, hk1⟩, hb1⟩
  obtain ⟨ax, cx, rfl, _, _, hr1, _⟩ := owns_rowN hk1 (by decide)
  clear hp1 hk1
  go_wp2_with fail
  refine (hp2 _).mono ?_
  rintro e w2 ⟨⟨v, rfl, hk2⟩, hb2⟩
  obtain ⟨ay, cy, rfl, _, _, hr2, _⟩ := owns_rowN hk2 (by decide)
  have hr1' := hr1.below hb2
  have hb12 := Gr.trans hb1 hb2
  clear hp2 hk2 hr1 hb1 hb2
  go_wp2
  go_loopw [7] (fun i wr => ∃ (j m : Nat), i = .int .i64 j ∧ j ≤ X.length ∧ j ≤ Y.length ∧ Hid (R = lessL (X.drop j) (Y.drop j)) ∧ Hid (wr = w2.drewN m)) (fun i _ => X.length - (intOf i).toNat)
  case atStart => exact ⟨0, 0, rfl, Nat.zero_le _, Nat.zero_le _, hL0, Lib.hid rfl⟩
  case round =>
    obtain ⟨j, m, rfl, hjx, hjy, hL, hwr⟩ := hrel
    have HX : Hid (Row wr ax (X.map strV) ∧ Row wr ay (Y.map strV)) := by
      show _ ∧ _
      rw [hwr.out]; exact ⟨hr1'.drewN m, hr2.drewN m⟩
    have hbw : Hid (Below w.heap.size w wr) := by show Below _ _ _; rw [hwr.out]; exact Below.drewN hb12 m
    have j0 : (0 : Int) ≤ (j : Int) := by omega
    have jb : IntKind.i64.wrap ((j : Int) + 1) = (j : Int) + 1 := IntWalk.i64_in _ (by have := HC.out.1; omega)
    by_cases h1 : j < X.length
    · have i1 : (j : Int) < (X.length : Int) := by omega
      by_cases h2 : j < Y.length
      · have i2 : (j : Int) < (Y.length : Int) := by omega
        have q1 : wr.cell? ((hd ax).add j) = some (strV X[j]) := HX.out.1.cell (by simp [h1])
        have s1 : ax.isSome = true := HX.out.1.isSome (i := j) (by simp; omega)
        have q2 : wr.cell? ((hd ay).add j) = some (strV Y[j]) := HX.out.2.cell (by simp [h2])
        have s2 : ay.isSome = true := HX.out.2.isSome (i := j) (by simp; omega)
        unfold strV at q1 q2
        have hS : Hid (R = if X[j] = Y[j] then lessL (X.drop (j + 1)) (Y.drop (j + 1)) else Op.bytesLess X[j] Y[j]) := by show _ = _; rw [hL.out, lessL_drop h1 h2]
        have hE : Hid (((str X[j]).toList = (str Y[j]).toList) ↔ X[j] = Y[j]) := by show _ ↔ _; rw [str_toList, str_toList]
        have hBL : Hid (Op.bytesLess (str X[j]).toList (str Y[j]).toList = Op.bytesLess X[j] Y[j]) := by show _ = _; rw [str_toList, str_toList]
        generalize X[j] = x at *
        generalize Y[j] = y at *
        by_cases hxy : x = y
        · have t1 : ((str x).toList == (str y).toList) = true := by rw [beq_iff_eq]; exact hE.out.2 hxy
          have hS2 : Hid (R = lessL (X.drop (j + 1)) (Y.drop (j + 1))) := by show _ = _; rw [hS.out, if_pos hxy]
          have hN : Hid (∀ k, wr.drewN k = w2.drewN (m + k)) := fun k => by rw [hwr.out, drewN_two]
          clear hxy hE hBL hS hL
          go_wp2
          go_quiet (fail)
          go_wp2
          first
            | exact ⟨⟨j + 1, _, (by first | rfl | go_num | (congr 1; omega)), by omega, by omega, hS2, Lib.hid (hN.out _)⟩, by simp [intOf] <;> omega⟩
            | (refine ⟨?_, by simp [intOf] <;> omega⟩; (repeat apply Exists.intro); exact ⟨⟨j + 1, _, (by first | rfl | go_num | (congr 1; omega)), by omega, by omega, hS2, Lib.hid (hN.out _)⟩, rfl⟩)
        · have t1 : ((str x).toList == (str y).toList) = false := by rw [beq_eq_false_iff_ne]; exact fun e => hxy (hE.out.1 e)
          have hS2 : Hid (R = Op.bytesLess (str x).toList (str y).toList) := by show _ = _; rw [hS.out, if_neg hxy, hBL.out]
          clear hxy hE hBL hS hL
          go_wp2
          go_quiet (fail)
          go_wp2
          go_quiet (fail)
          go_wp2
          go_ret
          refine ⟨?_, by first | exact Below.drewN hbw.out _ | exact Below.drewN (Below.drewN hbw.out _) _⟩
          rw [hS2.out]; rfl
      · have i2 : ¬ (j : Int) < (Y.length : Int) := by omega
        have hS : Hid (R = decide (X.length < Y.length)) := by show _ = _; rw [hL.out]; exact lessL_end (.inr (by omega)) hjx hjy
        have i3 : ¬ (X.length : Int) < (Y.length : Int) := by omega
        have hS2 : Hid (R = false) := by show _ = _; rw [hS.out, decide_eq_false (by omega)]
        clear hS h1 h2 hL
        go_wp2
        go_ret
        exact ⟨by rw [hS2.out]; rfl, hbw.out⟩
    · have i1 : ¬ (j : Int) < (X.length : Int) := by omega
      have hS : Hid (R = decide (X.length < Y.length)) := by show _ = _; rw [hL.out]; exact lessL_end (.inl (by omega)) hjx hjy
      by_cases h3 : X.length < Y.length
      · have i3 : (X.length : Int) < (Y.length : Int) := by omega
        have hS2 : Hid (R = true) := by show _ = _; rw [hS.out, decide_eq_true h3]
        clear hS h1 h3 hL
        go_wp2
        go_ret
        exact ⟨by rw [hS2.out]; rfl, hbw.out⟩
      · have i3 : ¬ (X.length : Int) < (Y.length : Int) := by omega
        have hS2 : Hid (R = false) := by show _ = _; rw [hS.out, decide_eq_false h3]
        clear hS h1 h3 hL
        go_wp2
        go_ret
        exact ⟨by rw [hS2.out]; rfl, hbw.out⟩
end Go.Proofs.YtcanlgcifnjfaaaDoor
