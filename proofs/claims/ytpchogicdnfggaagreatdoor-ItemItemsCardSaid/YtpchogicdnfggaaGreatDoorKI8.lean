/- Joined: what one statement of this layer stands on, part 8 of 26; nothing is assumed. -/
import Derived.Test.YtpchogicdnfggaaGreatDoorKI7
set_option maxRecDepth 20000
namespace Go.Proofs.YtpchogicdnfggaaGreatDoor
open Go.RowKit Go.Hd
attribute [local go_sem ↓] h_ldV h_stV h_alV h_bsV
attribute [local go_sem] r_ldV r_stV r_alV r_bsV

/-- The last key is behind in the row of keys. -/
theorem lastK_get {ps : PsL} {i : Nat} (h : (ps.map (·.1)).length = i + 1) : lastK ps = some ((ps.map (·.1))[i]'(by omega)) := by
  unfold lastK
  have h1 : ps.length = i + 1 := by simpa using h
  rw [List.getLast?_eq_getElem?, h1, Nat.add_sub_cancel, List.getElem?_eq_getElem (by omega)]
  simp
theorem lastK_nil : lastK [] = none := rfl
set_option maxHeartbeats 4000000 in
theorem rddict_any {d : Nat} (HV : ValH d) {B gr g n : Nat} {w : World} {s : Rs Unit} (h : PRs B w gr g s) (hB : B ≤ w.heap.size) (hn : n ≤ 65536) :
    Calls Tryz.prog 74 #[.pointer (some ⟨gr, 0, none⟩), .int .i64 (n : Int), .int .i64 (d : Int)] w (ValP B gr g w (s.bind fun _ r => (dictR (decV d) n none r).bind fun ps r2 => .ok (pDict ps) r2)) := by
  obtain ⟨hg1, hg2⟩ := h.lt
  have zs := zV_size
  have hO6 := oneC6
  have HR : Hid ((s.bind fun _ r => (dictR (decV d) n none r).bind fun ps r2 => .ok (pDict ps) r2) = (restD (decV d) n (s.bind fun _ r => .ok [] r)).bind fun ps r2 => .ok (pDict ps) r2) := by
    show _ = _
    unfold restD
    cases s with
    | no c => rfl
    | ok x r =>
      simp only [Rs.bind_ok, List.nil_append, lastK_nil]
      cases dictR (decV d) n none r <;> rfl
  obtain ⟨W, hW⟩ : ∃ W, W = (w.alloc (.cells zV 50)).alloc (.cells (List.toArray (α := Value) [.int .i64 7, .int .i64 0, .slice none 0 0, .string { data := #[] }, .slice none 0 0, .slice none 0 0]) 50) := ⟨_, rfl⟩
  have hbW : Below w.heap.size w W := by rw [hW]; exact ((Below.refl _ _).alloc (Nat.le_refl _) _).alloc (by simp) _
  have R0 : Blk W w.heap.size 50 zV.toList := by rw [hW]; exact (Blk.new w 50 zV).alloc _
  have B0 : Blk W (w.heap.size + 1) 50 [.int .i64 7, .int .i64 0, .slice none 0 0, strV [], .slice none 0 0, .slice none 0 0] := by
    have := Blk.new (w.alloc (.cells zV 50)) 50 (List.toArray (α := Value) [.int .i64 7, .int .i64 0, .slice none 0 0, .string { data := #[] }, .slice none 0 0, .slice none 0 0])
    rw [drew_alloc_size, ← hW] at this
    exact this
  have hWs : W.heap.size = w.heap.size + 2 := by rw [hW]; simp
  have hI0 : DictJ B gr g w W (.slice none 0 0) (.slice none 0 0) [] [] (s.bind fun _ r => .ok ([] : PsL) r) :=
    ⟨R0, VB.new (b := []) (t := []) B0 (Nat.le_refl _) (by omega) (by unfold in64; omega) (by unfold in64; omega) (Nat.zero_le _) ⟨Nat.le_refl _, Nat.zero_le _⟩ (Row.nil _ _) (by simp), (h.keep hbW).cast (fun _ _ _ hh => by cases s <;> exact hh), Dk.ofBelow hbW⟩
  have hgot0 : ∀ ps r, (s.bind fun _ r => .ok ([] : PsL) r) = .ok ps r → ([] : List (List UInt8)) = ps.map (·.1) ∧ ([] : List PV) = ps.map (·.2) := fun ps r hv => by cases s <;> cases hv; exact ⟨rfl, rfl⟩
  generalize (s.bind fun _ r => (dictR (decV d) n none r).bind fun ps r2 => .ok (pDict ps) r2) = R at *
  generalize (s.bind fun _ r => (.ok [] r : Rs PsL)) = T0 at *
  have HVd := Lib.hid HV
  have HW := Lib.hid hWs
  clear HV hWs h R0 B0 hbW
  go_enter Tryz.func74, Tryz.ntmps74
  go_upto_region 2 with (fail)
  rw [← hW]
  clear hW
  go_upto_block 0 with (fail)
  go_cut [8] (fun _ wx => ∃ (ks : List (List UInt8)) (vs : List PV) (uK uL : Value) (T : Rs PsL), DictJ B gr g w wx uK uL ks vs T ∧ (∀ ps r, T = .ok ps r → ks = ps.map (·.1) ∧ vs = ps.map (·.2)) ∧ R = T.bind fun ps r2 => .ok (pDict ps) r2)
  case first =>
    go_wp2
    go_loopw [8] (fun i wr => ∃ (j : Nat) (ks : List (List UInt8)) (vs : List PV) (uK uL : Value) (T : Rs PsL), j ≤ n ∧ i = .int .i64 j ∧ ks.length = j ∧ vs.length = j ∧ DictJ B gr g w wr uK uL ks vs T ∧ (∀ ps r, T = .ok ps r → ks = ps.map (·.1) ∧ vs = ps.map (·.2)) ∧ R = (restD (decV d) (n - j) T).bind fun ps r2 => .ok (pDict ps) r2) (fun i _ => n - (intOf i).toNat)
    case atStart => exact ⟨0, [], [], _, _, T0, Nat.zero_le _, rfl, rfl, rfl, hI0, hgot0, HR.out⟩
    case round =>
      clear hI0 HR hgot0
      obtain ⟨j, ks, vs, uK, uL, T, hj, rfl, hkl, hvl, hI, hgot, hR⟩ := hrel
      have HKL := Lib.hid (And.intro hkl hvl)
      have HGOT := Lib.hid hgot
      have HR := Lib.hid hR
      clear hR hkl hvl hgot
      have hf := failed_any hI.st
      by_cases hlt : j < n
      · have j1 : (j : Int) < (n : Int) := by omega
        cases T with
        | no cc =>
          rw [Rs.isNo_no] at hf
          go_wp2_with fail
          refine hf.mono ?_
          rintro ee w2 ⟨rfl, rfl⟩
          go_wp2
          go_meet
          exact ⟨ks, vs, uK, uL, _, hI, HGOT.out, by rw [HR.out, restD_no]⟩
        | ok ps r =>
          rw [Rs.isNo_ok] at hf
          obtain ⟨hks, hvs⟩ := HGOT.out ps r rfl
          have hnum := rdnum_any hI.st
          have HSTEP : Hid (R = (restD (decV d) (n - (j + 1)) (stepD (decV d) (.ok ps r))).bind fun ps r2 => .ok (pDict ps) r2) := by
            show _ = _
            rw [HR.out, show n - j = (n - (j + 1)) + 1 by omega, restD_succ]
          have HKS := Lib.hid (And.intro hks hvs)
          have c0 := hI.st.ptr
          clear hks hvs HR
          go_wp2_with fail
          refine hf.mono ?_
          rintro ee w2 ⟨rfl, rfl⟩
          clear hf
          go_wp2_with fail
          refine hnum.mono ?_
          rintro ee w3 ⟨x, rfl, hx, hx0, hxn, hP, hk⟩
          have hI3 := hI.call hg1 hg2 hP hk
          have hf := failed_any hI3.st
          have ex : IntKind.u8.wrap (x : Int) = (x : Int) := by rw [IntKind.wrap_u8]; omega
          rw [Rs.bind_ok] at hf hI3 hx0
          have HK1 := Lib.hid (keyR_byte (lastK ps) r)
          cases hb : byteR r with
          | no c1 =>
            rw [hb, Rs.isNo_no] at hf
            have HT : Hid (stepD (decV d) (.ok ps r) = .no c1) := by
              show _ = _
              unfold stepD
              rw [Rs.bind_ok, HK1.out, hb]; rfl
            rw [hb] at hI3
            have HF : Hid (∃ (ks : List (List UInt8)) (vs : List PV) (uK uL : Value) (T : Rs PsL), DictJ B gr g w w3 uK uL ks vs T ∧ (∀ ps r, T = .ok ps r → ks = ps.map (·.1) ∧ vs = ps.map (·.2)) ∧ R = T.bind fun ps r2 => .ok (pDict ps) r2) :=
              ⟨ks, vs, uK, uL, .no c1, hI3.cast (fun _ _ _ hh => hh), (fun _ _ h => by cases h), by rw [HSTEP.out, HT.out, restD_no]⟩
            clear hP hI hI3 hx0 hxn hb
            go_wp2_with fail
            refine hf.mono ?_
            rintro ee w4 ⟨rfl, rfl⟩
            go_wp2
            go_meet
            exact HF.out
          | ok c r1 =>
            rw [hb, Rs.isNo_ok] at hf
            rw [hb] at hI3
            obtain rfl := hx0 c r1 hb
            rw [hb, Rs.bind_ok] at HK1
            clear hP hI hx0 hxn hnum
            have hst3 := hI3.st
            cases ht : isText x with
            | false =>
              have htx := rdtext_no hst3 ht
              obtain ⟨hP2, hk2, f1, zz, c1⟩ := PRs.bad (β := PsL) hst3
              have hI4 := hI3.call hg1 hg2 hP2 hk2
              have HT : Hid (stepD (decV d) (.ok ps r) = .no 4) := by
                show _ = _
                unfold stepD
                rw [Rs.bind_ok, HK1.out, if_pos ht]; rfl
              have HF : Hid (∃ (ks : List (List UInt8)) (vs : List PV) (uK uL : Value) (T : Rs PsL), DictJ B gr g w (w3.setCell ⟨gr, 1, none⟩ (.bool true)) uK uL ks vs T ∧ (∀ ps r, T = .ok ps r → ks = ps.map (·.1) ∧ vs = ps.map (·.2)) ∧ R = T.bind fun ps r2 => .ok (pDict ps) r2) :=
                ⟨ks, vs, uK, uL, .no 4, hI4, (fun _ _ h => by cases h), by rw [HSTEP.out, HT.out, restD_no]⟩
              clear hI3 hI4 hst3 hP2 hk2 ht hb
              go_wp2_with fail
              refine hf.mono ?_
              rintro ee w4 ⟨rfl, rfl⟩
              go_wp2_with fail
              refine htx.mono ?_
              rintro ee w5 ⟨rfl, rfl⟩
              go_wp2
              go_meet
              exact HF.out
            | true =>
              have htx := rdtext_yes hst3 hx ht
              rw [Rs.bind_ok] at htx
              rw [if_neg (by rw [ht]; decide)] at HK1
              have HI3 := Lib.hid hI3
              clear hst3 hI3 hb ht
              go_wp2_with fail
              refine hf.mono ?_
              rintro ee w4 ⟨rfl, rfl⟩
              clear hf
              go_wp2_with fail
              refine htx.mono ?_
              rintro ee w5 ⟨key, rfl, hkl, hk0, hP5, hk5⟩
              have hI5 := HI3.out.call hg1 hg2 hP5 hk5
              have hf := failed_any hP5
              clear HI3 hP5 hk5 htx hk
              have hst5 := Lib.hid hI5.st
              obtain ⟨ak, ck, rfl, hkc, hkm, hkrow, _⟩ := owns_rowN hI5.vb.keys (by decide)
              have q4 : w5.cell? ⟨w.heap.size + 1, 4, none⟩ = some (.slice ak (PV.keys (.mk 7 0 [] [] ks vs)).length ck) := hI5.vb.blk.cell rfl
              have hkl2 : (PV.keys (.mk 7 0 [] [] ks vs)).length = j := HKL.out.1
              have hkrow' : Row w5 ak (ks.map strV) := hkrow
              have HI5 := Lib.hid hI5
              clear hkrow hI5 hkc hkm
              go_upto_region 8 with (fail)
              go_cut [57] (fun u wx => (∃ bad : Bool, u = .bool bad ∧ (bad = true → keyR (lastK ps) r = .no 4) ∧ (bad = false → (∀ l e b, PRst (textR x r1) l e b → PRst (keyR (lastK ps) r) l e b) ∧ ∀ k r2, keyR (lastK ps) r = .ok k r2 → key = k)) ∧ wx = w5)
              case first =>
                cases hK : textR x r1 with
                | no ck' =>
                  have HKh := Lib.hid hK
                  rw [hK, Rs.isNo_no] at hf
                  rw [hK] at HK1
                  have HB : Hid (keyR (lastK ps) r = .no ck') := HK1
                  clear hkrow' q4 hkl2 hst5 hK HK1
                  go_wp2_with fail
                  refine hf.mono ?_
                  rintro ee w6 ⟨rfl, rfl⟩
                  go_wp2
                  go_meet
                  exact ⟨⟨false, rfl, (by simp), fun _ => ⟨fun l e b hh => by rw [HB.out]; rw [HKh.out] at hh; exact hh, fun k r2 h => by rw [HB.out] at h; cases h⟩⟩, rfl⟩
                | ok k r2 =>
                  have HKh := Lib.hid hK
                  rw [hK, Rs.isNo_ok] at hf
                  rw [hK, Rs.bind_ok] at HK1
                  obtain rfl := hk0 k r2 hK
                  by_cases hj0 : j = 0
                  · have hps : ps = [] := by
                      have h1 := HKL.out.1
                      rw [HKS.out.1, List.length_map] at h1
                      exact List.eq_nil_of_length_eq_zero (by omega)
                    have HB : Hid (keyR (lastK ps) r = .ok key r2) := by
                      show _ = _
                      rw [HK1.out, hps]; rfl
                    subst hj0
                    clear hkrow' q4 hkl2 hst5 hK HK1 hps
                    go_wp2_with fail
                    refine hf.mono ?_
                    rintro ee w6 ⟨rfl, rfl⟩
                    go_wp2
                    go_meet
                    exact ⟨⟨false, rfl, (by simp), fun _ => ⟨fun l e b hh => by rw [HB.out]; rw [HKh.out] at hh; exact hh, fun k r2 h => by rw [HB.out] at h; cases h; rfl⟩⟩, rfl⟩
                  · obtain ⟨i, rfl⟩ : ∃ i, j = i + 1 := ⟨j - 1, by omega⟩
                    have hkl9 := HKL.out.1
                    have hil : i < ks.length := by omega
                    have q0 : w5.cell? ((hd ak).add i) = some (strV ks[i]) := hkrow'.cell (by simp [hil])
                    have s1 : ak.isSome = true := hkrow'.isSome (i := i) (by simp; omega)
                    unfold strV at q0
                    have HLK : Hid (lastK ps = some ks[i]) := by
                      show _ = _
                      have h1 := HKS.out.1
                      subst h1
                      exact lastK_get hkl9
                    have ew1 : IntKind.i64.wrap ((i : Int) + 1 - 1) = (i : Int) := by rw [IntWalk.i64_in _ (by omega)]; omega
                    have ew : IntKind.i64.wrap (i : Int) = (i : Int) := IntWalk.i64_in _ (by omega)
                    have i0 : (0 : Int) ≤ (i : Int) := by omega
                    have i1 : (i : Int) < (i : Int) + 1 := by omega
                    have i5 : (0 : Int) < (i : Int) + 1 := by omega
                    have HK2 : Hid (keyR (lastK ps) r = if leT key ks[i] = true then .no 4 else .ok key r2) := by
                      show _ = _
                      rw [HK1.out, HLK.out]
                    generalize ks[i] = y at *
                    rw [hkl2] at q4
                    clear hkrow' hkl2 hst5 hK HK1 hkl9 hil HLK
                    have HLE : Hid (leT key y = (Op.bytesLess (str key).toList (str y).toList || (str key).toList == (str y).toList)) := rfl
                    rcases Bool.eq_false_or_eq_true (Op.bytesLess (str key).toList (str y).toList) with hA | hA
                    · have HB : Hid (keyR (lastK ps) r = .no 4) := by show _ = _; rw [HK2.out, HLE.out, hA]; rfl
                      go_wp2_with fail
                      refine hf.mono ?_
                      rintro ee w6 ⟨rfl, rfl⟩
                      go_wp2
                      go_meet
                      exact ⟨⟨true, rfl, fun _ => HB.out, (by simp)⟩, rfl⟩
                    · rcases Bool.eq_false_or_eq_true ((str key).toList == (str y).toList) with hB2 | hB2
                      · have HB : Hid (keyR (lastK ps) r = .no 4) := by show _ = _; rw [HK2.out, HLE.out, hA, hB2]; rfl
                        go_wp2_with fail
                        refine hf.mono ?_
                        rintro ee w6 ⟨rfl, rfl⟩
                        go_wp2
                        go_meet
                        exact ⟨⟨true, rfl, fun _ => HB.out, (by simp)⟩, rfl⟩
                      · have HB : Hid (keyR (lastK ps) r = .ok key r2) := by show _ = _; rw [HK2.out, HLE.out, hA, hB2]; rfl
                        go_wp2_with fail
                        refine hf.mono ?_
                        rintro ee w6 ⟨rfl, rfl⟩
                        go_wp2
                        go_meet
                        exact ⟨⟨false, rfl, (by simp), fun _ => ⟨fun l e b hh => by rw [HB.out]; rw [HKh.out] at hh; exact hh, fun k r2 h => by rw [HB.out] at h; cases h; rfl⟩⟩, rfl⟩
              case rest =>
                obtain ⟨⟨bad, rfl, hbad, hgood⟩, hwc⟩ := hcut
                subst hwc
                clear hf hkrow'
                cases bad with
                | true =>
                  have hno := hbad rfl
                  obtain ⟨hP2, hk2, f1, zz, c1⟩ := PRs.bad (β := PsL) hst5.out
                  have hI6 := HI5.out.call hg1 hg2 hP2 hk2
                  have HT : Hid (stepD (decV d) (.ok ps r) = .no 4) := by
                    show _ = _
                    unfold stepD
                    rw [Rs.bind_ok, hno]; rfl
                  have HF : Hid (∃ (ks : List (List UInt8)) (vs : List PV) (uK uL : Value) (T : Rs PsL), DictJ B gr g w (wc.setCell ⟨gr, 1, none⟩ (.bool true)) uK uL ks vs T ∧ (∀ ps r, T = .ok ps r → ks = ps.map (·.1) ∧ vs = ps.map (·.2)) ∧ R = T.bind fun ps r2 => .ok (pDict ps) r2) :=
                    ⟨ks, vs, _, uL, .no 4, hI6, (fun _ _ h => by cases h), by rw [HSTEP.out, HT.out, restD_no]⟩
                  clear hI6 hP2 hk2 hno hbad hgood
                  go_wp2
                  go_meet
                  exact HF.out
                | false =>
                  obtain ⟨hst, hkey⟩ := hgood rfl
                  have hIK := (HI5.out.cast hst)
                  have HKEY := Lib.hid hkey
                  have HK1 := HK1
                  generalize hKK : keyR (lastK ps) r = KK at *
                  have HKK := Lib.hid hKK
                  have hkeym : key.length ≤ maxLen := by unfold maxLen; omega
                  have hk9 := HKL.out.1
                  have hv9 := HKL.out.2
                  obtain ⟨a', c', w', hrun, d4, f4, hVB, hG, hGs⟩ := VB.stepK (ty := 47) hIK.vb hkeym (by omega)
                  simp only [hk9] at hrun hVB hG
                  have hI6 := DictJ.after hIK hB hg1 hg2 (.inl hG) hVB
                  have hI6d := hI6.drew
                  have hval := HVd.out B gr g _ _ hI6d.st.unit (Nat.le_trans hB hI6d.dk.size)
                  have q5 : (w'.setCell ⟨w.heap.size + 1, 4, none⟩ (.slice a' (j + 1) c')).cell? ⟨w.heap.size + 1, 5, none⟩ = some uL := hI6.vb.blk.cell rfl
                  rw [hkl2] at q4
                  have e4 : (Value.slice ak (PV.keys (.mk 7 0 [] [] ks vs)).length ck) = .slice ak j ck := by rw [hkl2]
                  rw [e4] at hrun d4
                  have HIK := Lib.hid hI6d
                  clear hbad hgood hst hkey hIK hVB hG hGs hI6 hKK HK1 hkl2 e4 hI6d HI5 hst5 hk9 hv9
                  go_upto_region 11 with (at_builtin; refine wpList_append_run hrun rfl rfl rfl rfl ?_)
                  generalize w'.setCell ⟨w.heap.size + 1, 4, none⟩ (.slice a' (j + 1) c') = w6 at *
                  clear hrun d4 f4 q4 w'
                  go_region_law ((first
                    | (go_simp; go_at_call 46; refine hval.mono ?_; rintro e7 w7 ⟨cs7, v7, rfl, hv7, hv70, hP7, hk7⟩; have hI7 := DictJ.call HIK.out hg1 hg2 hP7 hk7; obtain ⟨a8, c8, w8, hrun8, d8, f8, hVB8, hG8, hGs8⟩ := VB.stepL (ty := 48) hI7.vb (hv7.mono (fun z hz _ => fresh_okB HIK.out.vb hz)) (by have := HKL.out.2; omega); have q7 : w7.cell? ⟨w.heap.size + 1, 5, none⟩ = some uL := hI7.vb.blk.cell rfl; have hql7 := hI7.vb.blk.lt; have q7b : (w7.alloc (.cells (List.toArray cs7) 50)).cell? ⟨w.heap.size + 1, 5, none⟩ = some uL := Eq.trans (((Below.refl w7.heap.size w7).alloc (Nat.le_refl _) (.cells (List.toArray cs7) 50)).cell hql7) q7; have x6 : (List.toArray cs7).size = 6 := hv7.len)
                    | (refine step_append_run hrun8 rfl rfl rfl rfl ?_)))
                  all_goals
                    have hI9 := DictJ.after hI7 hB hg1 hg2 (.inr hG8) hVB8
                    have hI10 : DictJ B gr g w (w8.setCell ⟨w.heap.size + 1, 5, none⟩ (.slice a8 (vs.length + 1) c8)) (.slice a' (j + 1) c') (.slice a8 (vs.length + 1) c8) (ks ++ [key]) (vs ++ [v7]) (stepD (decV d) (.ok ps r)) := hI9.cast (fun l e b hh => by
                      unfold stepD
                      rw [Rs.bind_ok, HKK.out]
                      cases KK with
                      | no c => exact hh
                      | ok k r2 =>
                        have hh : PRst (decV d r2) l e b := hh
                        rw [Rs.bind_ok]
                        cases hd : decV d r2 with
                        | no c => rw [hd] at hh; exact hh
                        | ok v r3 => rw [hd] at hh; exact hh)
                    have hgot : ∀ ps2 r2, stepD (decV d) (.ok ps r) = .ok ps2 r2 → ks ++ [key] = ps2.map (·.1) ∧ vs ++ [v7] = ps2.map (·.2) := fun ps2 r2 h => by
                      unfold stepD at h
                      rw [Rs.bind_ok, HKK.out] at h
                      cases KK with
                      | no c => cases h
                      | ok k r3 =>
                        rw [Rs.bind_ok] at h
                        cases hd : decV d r3 with
                        | no c => rw [hd] at h; cases h
                        | ok v r4 =>
                          rw [hd] at h
                          cases h
                          have e1 := HKEY.out k r3 rfl
                          have e2 := hv70 v r2 (by show decV d r3 = _; exact hd)
                          rw [HKS.out.1, HKS.out.2, e1, e2]
                          simp
                    have hl1 : (ks ++ [key]).length = j + 1 := by have := HKL.out.1; simp; omega
                    have hl2 : (vs ++ [v7]).length = j + 1 := by have := HKL.out.2; simp; omega
                    have HL12 := Lib.hid (And.intro hl1 hl2)
                    have HGG := Lib.hid hgot
                    have jb : IntKind.i64.wrap ((j : Int) + 1) = (j : Int) + 1 := IntWalk.i64_in _ (by omega)
                    clear hl1 hl2 hgot hI9 hI7 hrun8 d8 f8 hVB8 hG8 hGs8 q7 q7b hql7 hP7 hk7 hv7 hv70 hval q5 x6
                    go_wp2
                    first
                      | exact ⟨⟨j + 1, ks ++ [key], vs ++ [v7], _, _, _, by omega, (by first | rfl | go_num | (congr 1; omega)), HL12.out.1, HL12.out.2, hI10, HGG.out, HSTEP.out⟩, by simp [intOf] <;> omega⟩
                      | (refine ⟨?_, by simp [intOf] <;> omega⟩; (repeat apply Exists.intro); exact ⟨⟨j + 1, ks ++ [key], vs ++ [v7], _, _, _, by omega, (by first | rfl | go_num | (congr 1; omega)), HL12.out.1, HL12.out.2, hI10, HGG.out, HSTEP.out⟩, rfl⟩)
      · obtain rfl : j = n := by omega
        go_wp2
        go_meet
        refine ⟨ks, vs, uK, uL, T, hI, HGOT.out, ?_⟩
        have hr := HR.out
        rw [Nat.sub_self, restD_zero] at hr
        exact hr
  case rest =>
    clear hI0 hgot0 HR
    obtain ⟨ks, vs, uK, uL, T, hI, hgot, hR⟩ := hcut
    have HP := hI.vb.done
    have q1 : (ldOp 50 (.pointer (some ⟨w.heap.size + 1, 0, none⟩))).run Tryz.prog wc = .ok (.agg (List.toArray (α := Value) [.int .i64 7, .int .i64 0, .slice none 0 0, strV [], uK, uL])) wc := ldOp_all (P := Tryz.prog) (ty := 50) hI.vb.blk Tryz.underlying50 rfl sizeV
    obtain ⟨a1, a2, a3, a4, a5⟩ := cell_end (cs := [.int .i64 7, .int .i64 0, .slice none 0 0, strV [], uK, uL]) hI.res (by rfl) hI.st hI.dk (HP.mono (fun z hz _ => ⟨by omega, by omega⟩)) hB (Nat.le_refl _) (by omega) (by omega)
    have HV : Hid (ValP B gr g w R (.returned (.agg (List.toArray (α := Value) [.int .i64 7, .int .i64 0, .slice none 0 0, strV [], uK, uL]))) (wc.setRow w.heap.size (List.toArray [.int .i64 7, .int .i64 0, .slice none 0 0, strV [], uK, uL]))) := by
      refine ⟨_, _, rfl, a3, fun v0 r hv => ?_, ?_, a5⟩
      · rw [hR] at hv
        cases T with
        | no c => cases hv
        | ok ps r' =>
          cases hv
          obtain ⟨e1, e2⟩ := hgot _ _ rfl
          rw [e1, e2]; rfl
      · rw [hR]
        refine a4.cast (fun _ _ _ hh => ?_)
        cases T <;> exact hh
    clear a3 a4 a5 HP hI hgot hR
    generalize strV [] = sT at *
    go_wp2
    exact bodyPost_ret (results_cell_row (fn := Tryz.f74) (by rfl) _ _ w.heap.size 50 _ (0, 0) _ (by rfl) a2 Tryz.underlying50 rfl sizeV) rfl HV
end Go.Proofs.YtpchogicdnfggaaGreatDoor
set_option maxRecDepth 20000
namespace Go.Proofs.YtpchogicdnfggaaGreatDoor
open Go.RowKit Go.Hd
attribute [local go_sem ↓] h_ldV h_stV h_alV
attribute [local go_sem] r_ldV r_stV r_alV

def txtC (t : List UInt8) : List Value := [.int .i64 5, .int .i64 0, .slice none 0 0, .string (str t), .slice none 0 0, .slice none 0 0]
theorem text_of (t : List UInt8) (w : World) : Calls Tryz.prog 42 #[.string (str t)] w fun e w' => e = .returned (.agg (List.toArray (txtC t))) ∧ Below w.heap.size w w' := by
  have zs := zV_size
  have hO6 := oneC6
  have B3 : Blk (w.alloc (.cells (List.toArray (txtC t)) 50)) w.heap.size 50 (txtC t) := Blk.new _ _ _
  have hb : Below w.heap.size w (w.alloc (.cells (List.toArray (txtC t)) 50)) := (Below.refl _ _).alloc (Nat.le_refl _) _
  go_enter Tryz.func42, Tryz.ntmps42
  go_wp2
  refine bodyPost_ret (results_cell_row (fn := Tryz.f42) (by rfl) _ _ w.heap.size 50 _ (0, 0) _ (by rfl) B3 Tryz.underlying50 rfl sizeV) rfl ⟨rfl, hb⟩
theorem VAtP.plain {ok : Nat → Prop} (w : World) {k n : Int} {t : List UInt8} (hk : in64 k) (h : in64 n) (ht : t.length ≤ maxLen) : VAtP ok w [.int .i64 k, .int .i64 n, .slice none 0 0, .string (str t), .slice none 0 0, .slice none 0 0] (.mk k n [] t [] []) :=
  .mk (b := []) (t := t) (ks := []) (l := []) [] hk h (Row.nil _ _) ⟨Nat.le_refl _, Nat.zero_le _⟩ ht (Row.nil _ _) ⟨Nat.le_refl _, Nat.zero_le _⟩ (by simp) (Row.nil _ _) ⟨Nat.le_refl _, Nat.zero_le _⟩ rfl (by simp) (by simp) (by simp) (by simp) (by simp)
theorem VAtP.byt {ok : Nat → Prop} {w : World} {a : Option Addr} {c : Nat} {b : List UInt8} (hc : b.length ≤ c ∧ c ≤ maxLen) (hr : Row w a (b.map b8)) (ho : 0 < b.length → ok (hd a).block) : VAtP ok w [.int .i64 4, .int .i64 0, .slice a b.length c, .string (str []), .slice none 0 0, .slice none 0 0] (pByt b) :=
  .mk (t := []) (ks := []) (l := []) [] (by unfold in64; omega) (by unfold in64; omega) hr hc (Nat.zero_le _) (Row.nil _ _) ⟨Nat.le_refl _, Nat.zero_le _⟩ (by simp) (Row.nil _ _) ⟨Nat.le_refl _, Nat.zero_le _⟩ rfl (by simp) ho (by simp) (by simp) (by simp)
theorem VAtP.list {ok ok0 : Nat → Prop} {w : World} {base : Nat} {a : Option Addr} {c : Nat} {vs : List PV} (h : VsAt ok0 base w (.slice a vs.length c) vs) (hb : ∀ b, base ≤ b → ok b) (h0 : ∀ b, ok0 b → ok b) : VAtP ok w [.int .i64 6, .int .i64 0, .slice none 0 0, .string (str []), .slice none 0 0, .slice a vs.length c] (pList vs) := by
  obtain ⟨css, h1, h2, h3, h4⟩ := h
  obtain ⟨a', c', he, e1, e2, e3, e4⟩ := owns_rowN h3 (by decide)
  simp only [Value.slice.injEq] at he
  obtain ⟨rfl, _, rfl⟩ := he
  refine .mk (b := []) (t := []) (ks := []) css (by unfold in64; omega) (by unfold in64; omega) (Row.nil _ _) ⟨Nat.le_refl _, Nat.zero_le _⟩ (Nat.zero_le _) (Row.nil _ _) ⟨Nat.le_refl _, Nat.zero_le _⟩ (by simp) e3 ⟨e1, e2⟩ h1 h2 (by simp) (by simp) (fun hp => ?_) (fun i c v hc hv => (h4 i c v hc hv).mono (fun b hb _ => h0 b hb))
  have hf : 0 < css.flatten.length := by
    rw [flatten_len h2, h1]
    exact Nat.mul_pos hp (by decide)
  exact hb _ (e4 hf).2.1
theorem val_end {α : Type} {B gr g : Nat} {w w2 : World} {cs old : List Value} {v : PV} {S : Rs α} {R : Rs PV} (hres : Blk w2 w.heap.size 50 old) (ho : old.length = 6) (hP : PRs B w2 gr g S) (hk : Dk gr g w w2) (hv : VAtP (fun b => w.heap.size + 1 ≤ b) w2 cs v) (hB : B ≤ w.heap.size) (h1 : gr < w.heap.size) (h2 : g < w.heap.size)
    (hc : ∀ l e bad, PRst S l e bad → PRst R l e bad) (hg : ∀ v0 r, R = .ok v0 r → v = v0) :
    (stoOp 50 (.pointer (some ⟨w.heap.size, 0, none⟩)) (.agg (List.toArray cs))).run Tryz.prog w2 = .ok () (w2.setRow w.heap.size (List.toArray cs)) ∧ Blk (w2.setRow w.heap.size (List.toArray cs)) w.heap.size 50 cs ∧ ValP B gr g w R (.returned (.agg (List.toArray cs))) (w2.setRow w.heap.size (List.toArray cs)) := by
  obtain ⟨a1, a2, a3, a4, a5⟩ := cell_end (q := w.heap.size) hres ho hP hk (hv.mono (fun b hb _ => ⟨by omega, by omega⟩)) hB (Nat.le_refl _) (by omega) (by omega)
  exact ⟨a1, a2, _, _, rfl, a3, hg, a4.cast hc, a5⟩
theorem rdbytes_any {α : Type} {B gr g n : Nat} {w : World} {s : Rs α} (h : PRs B w gr g s) (hn : n ≤ 65536) :
    Calls Tryz.prog 25 #[.pointer (some ⟨g, 0, none⟩), .int .i64 (n : Int)] w fun e w' => ∃ (a : Option Addr) (c : Nat) (t : List UInt8), e = .returned (.slice a t.length c) ∧ (t.length ≤ c ∧ c ≤ maxLen) ∧ Row w' a (t.map b8) ∧ (0 < t.length → w.heap.size ≤ (hd a).block) ∧ (∀ t0 r, (s.bind fun _ r => takeR n r) = .ok t0 r → t = t0) ∧ PRs B w' gr g (s.bind fun _ r => takeR n r) ∧ Dk gr g w w' := by
  obtain ⟨l, e, bad, h1, h2, h3, h4, h5⟩ := h
  obtain ⟨t1, t2, t3, t4, _⟩ := took_st n h3
  refine (bytes_any (n := (n : Int)) h2 (by omega)).mono ?_
  rintro ee w1 ⟨v, rfl, ho, hrd, hg⟩
  obtain ⟨a, c, rfl, k1, k2, k3, k4⟩ := Own.at (E := 5) ho
  exact ⟨a, c, _, rfl, ⟨k1, k2⟩, k3, fun h0 => (k4 h0).1, t2, ⟨_, _, _, h1.grown hg h5, hrd, t1, by omega, h5⟩, Dk.ofGrown hg (.inr rfl)⟩
/-- What stands behind a lead. -/
def bodyR (d : Nat) (c : Nat) (r : List UInt8) : Rs PV := match d with | 0 => .no 4 | d + 1 => leadR (decV d) c r
theorem decV_byte (d : Nat) (l : List UInt8) : decV d l = (byteR l).bind fun c r => bodyR d c r := by
  cases d with
  | zero =>
    unfold decV
    cases l with
    | nil => rfl
    | cons c r => rw [if_neg (by simp)]; rfl
  | succ d => cases l <;> rfl
theorem int8_wrap (x : Nat) (h : x < 256) : IntKind.i8.wrap (x : Int) = int8 x := by
  have h2 : ∀ k : Fin 256, IntKind.i8.wrap (k.val : Int) = int8 k.val := by decide
  exact h2 ⟨x, h⟩
theorem int8_in (x : Nat) (h : x < 256) : in64 (int8 x) := by unfold in64 int8; split <;> omega
theorem text32 {x : Nat} (h : isText x = false) : x / 32 ≠ 5 ∧ x ≠ 217 ∧ x ≠ 218 := by
  unfold isText at h
  simp only [Bool.or_eq_false_iff, beq_eq_false_iff_ne] at h
  exact ⟨h.1.1, h.1.2, h.2⟩

set_option maxHeartbeats 8000000 in
theorem val_any : ∀ d : Nat, d ≤ 1000 → ValH d := by
  intro d
  induction d with
  | zero =>
    intro _ B gr g w s h hB
    obtain ⟨hg1, hg2⟩ := h.lt
    have zs := zV_size
    have hO6 := oneC6
    have hb0 : Below w.heap.size w (w.alloc (.cells zV 50)) := (Below.refl _ _).alloc (Nat.le_refl _) _
    have R0 : Blk (w.alloc (.cells zV 50)) w.heap.size 50 zV.toList := Blk.new _ _ _
    have h0 := h.keep hb0
    have c0 := h0.ptr
    have hnum := rdnum_any h0
    have HR : Hid ((s.bind fun _ r => decV 0 r) = (s.bind fun _ r => byteR r).bind fun c r => bodyR 0 c r) := by
      show _ = _
      cases s with
      | no c => rfl
      | ok x r => exact decV_byte 0 r
    generalize (s.bind fun _ r => decV 0 r) = R at *
    generalize (s.bind fun _ r => byteR r) = T at *
    go_enter Tryz.func46, Tryz.ntmps46
    go_wp2_with fail
    refine hnum.mono ?_
    rintro ee w1 ⟨x, rfl, hx, hx0, hxn, hP, hk⟩
    have hf := failed_any hP
    have R1 := hk.blk R0 (by omega) (by omega)
    have hk1 := (Dk.ofBelow (gr := gr) (g := g) hb0).trans hk
    have ex : IntKind.u8.wrap (x : Int) = (x : Int) := by rw [IntKind.wrap_u8]; omega
    clear hnum hx0 hxn hk h0 R0
    cases T with
    | no c =>
      rw [Rs.isNo_no] at hf
      obtain ⟨HST, HB2, HV⟩ := val_end (cs := [.int .i64 0, .int .i64 0, .slice none 0 0, .string { data := #[] }, .slice none 0 0, .slice none 0 0]) (R := R) R1 (by rfl) hP hk1 (VAtP.plain (k := 0) (n := 0) (t := []) w1 (by unfold in64; omega) (by unfold in64; omega) (Nat.zero_le _)) hB hg1 hg2 (fun _ _ _ hh => by rw [HR.out]; exact hh) (fun v0 r hv => by rw [HR.out] at hv; cases hv)
      clear R1 hP hk1
      go_wp2_with fail
      refine hf.mono ?_
      rintro ee w2 ⟨rfl, rfl⟩
      go_wp2
      exact bodyPost_ret (results_cell_row (fn := Tryz.f46) (by rfl) _ _ w.heap.size 50 _ (0, 0) _ (by rfl) HB2 Tryz.underlying50 rfl sizeV) rfl HV
    | ok c r =>
      rw [Rs.isNo_ok] at hf
      obtain ⟨hP2, hk2, f1, zz, c1⟩ := PRs.bad (β := PV) hP
      have R2 := hk2.blk R1 (by omega) (by omega)
      obtain ⟨HST, HB2, HV⟩ := val_end (cs := [.int .i64 0, .int .i64 0, .slice none 0 0, .string { data := #[] }, .slice none 0 0, .slice none 0 0]) (R := R) R2 (by rfl) hP2 (hk1.trans hk2) (VAtP.plain (k := 0) (n := 0) (t := []) _ (by unfold in64; omega) (by unfold in64; omega) (Nat.zero_le _)) hB hg1 hg2 (fun _ _ _ hh => by rw [HR.out]; exact hh) (fun v0 r hv => by rw [HR.out] at hv; cases hv)
      clear R1 R2 hP hk1 hP2 hk2
      go_wp2_with fail
      refine hf.mono ?_
      rintro ee w2 ⟨rfl, rfl⟩
      go_wp2
      exact bodyPost_ret (results_cell_row (fn := Tryz.f46) (by rfl) _ _ w.heap.size 50 _ (0, 0) _ (by rfl) HB2 Tryz.underlying50 rfl sizeV) rfl HV
  | succ d ih =>
    intro hd B gr g w s h hB
    have HVd := ih (by omega)
    obtain ⟨hg1, hg2⟩ := h.lt
    have zs := zV_size
    have hO6 := oneC6
    have hb0 : Below w.heap.size w (w.alloc (.cells zV 50)) := (Below.refl _ _).alloc (Nat.le_refl _) _
    have R0 : Blk (w.alloc (.cells zV 50)) w.heap.size 50 zV.toList := Blk.new _ _ _
    have h0 := h.keep hb0
    have c0 := h0.ptr
    have hnum := rdnum_any h0
    have HR : Hid ((s.bind fun _ r => decV (d + 1) r) = (s.bind fun _ r => byteR r).bind fun c r => bodyR (d + 1) c r) := by
      show _ = _
      cases s with
      | no c => rfl
      | ok x r => exact decV_byte (d + 1) r
    generalize (s.bind fun _ r => decV (d + 1) r) = R at *
    generalize (s.bind fun _ r => byteR r) = T at *
    have ed : ((d + 1 : Nat) : Int) = (d : Int) + 1 := by omega
    have ed0 : ((d : Int) + 1 == 0) = false := beq_eq_false_iff_ne.2 (by omega)
    have ed1 : IntKind.i64.wrap ((d : Int) + 1 - 1) = (d : Int) := by rw [IntWalk.i64_in _ (by omega)]; omega
    have ed2 : IntKind.i64.wrap (d : Int) = (d : Int) := IntWalk.i64_in _ (by omega)
    rw [ed]
    clear ed
    go_enter Tryz.func46, Tryz.ntmps46
    go_wp2_with fail
    refine hnum.mono ?_
    rintro ee w1 ⟨x, rfl, hx, hx0, hxn, hP, hk⟩
    have hf := failed_any hP
    have R1 := hk.blk R0 (by omega) (by omega)
    have hk1 := (Dk.ofBelow (gr := gr) (g := g) hb0).trans hk
    have hs1 : w.heap.size + 1 ≤ w1.heap.size := by have := hk.size; simpa using this
    have ex : IntKind.u8.wrap (x : Int) = (x : Int) := by rw [IntKind.wrap_u8]; omega
    have HEX := Lib.hid ex
    clear hnum hxn hk h0 R0
    cases T with
    | no c =>
      rw [Rs.isNo_no] at hf
      obtain ⟨HST, HB2, HV⟩ := val_end (cs := [.int .i64 0, .int .i64 0, .slice none 0 0, .string { data := #[] }, .slice none 0 0, .slice none 0 0]) (R := R) R1 (by rfl) hP hk1 (VAtP.plain (k := 0) (n := 0) (t := []) w1 (by unfold in64; omega) (by unfold in64; omega) (Nat.zero_le _)) hB hg1 hg2 (fun _ _ _ hh => by rw [HR.out]; exact hh) (fun v0 r hv => by rw [HR.out] at hv; cases hv)
      clear R1 hP hk1
      go_wp2_with fail
      refine hf.mono ?_
      rintro ee w2 ⟨rfl, rfl⟩
      go_wp2
      exact bodyPost_ret (results_cell_row (fn := Tryz.f46) (by rfl) _ _ w.heap.size 50 _ (0, 0) _ (by rfl) HB2 Tryz.underlying50 rfl sizeV) rfl HV
    | ok c r =>
    rw [Rs.isNo_ok] at hf
    obtain rfl := hx0 c r rfl
    have HR1 : Hid (R = leadR (decV d) x r) := HR.out
    clear HR hx0
    go_wp2_with fail
    refine hf.mono ?_
    rintro ee w2 ⟨rfl, rfl⟩
    clear hf
    cases ht : isText x with
    | true =>
      have htx := rdtext_yes hP hx ht
      rw [Rs.bind_ok] at htx
      have HR2 : Hid (R = (textR x r).bind fun t r2 => .ok (pTxt t) r2) := by show _ = _; rw [HR1.out]; unfold leadR; rw [if_pos ht]
      generalize textR x r = K at *
      clear hP ht HR1
      go_wp2_with fail
      refine htx.mono ?_
      rintro ee w3 ⟨t, rfl, htl, ht0, hP3, hk3⟩
      have hto := text_of t w3
      go_wp2_with fail
      refine hto.mono ?_
      rintro ee w4 ⟨rfl, hb4⟩
      have R2 := (hk3.trans (Dk.ofBelow hb4)).blk R1 (by omega) (by omega)
      obtain ⟨HST, HB2, HV⟩ := val_end (cs := txtC t) (R := R) R2 (by rfl) (hP3.keep hb4) ((hk1.trans hk3).trans (Dk.ofBelow hb4)) (VAtP.plain (k := 5) (n := 0) (t := t) w4 (by unfold in64; omega) (by unfold in64; omega) (by unfold maxLen; omega)) hB hg1 hg2 (fun _ _ _ hh => by rw [HR2.out]; cases K <;> exact hh) (fun v0 r hv => by
        rw [HR2.out] at hv
        cases K with
        | no c => cases hv
        | ok t0 r0 => cases hv; rw [ht0 _ _ rfl]; rfl)
      clear R1 R2 hP3 hk1 hk3 htx hto ht0 htl
      go_wp2
      exact bodyPost_ret (results_cell_row (fn := Tryz.f46) (by rfl) _ _ w.heap.size 50 _ (0, 0) _ (by rfl) HB2 Tryz.underlying50 rfl sizeV) rfl HV
    | false =>
    have htx := rdtext_no hP ht
    obtain ⟨n32, n217, n218⟩ := text32 ht
    have HT0 := Lib.hid ht
    have HX := Lib.hid hx
    clear ht
    go_wp2_with fail
    refine htx.mono ?_
    rintro ee w2 ⟨rfl, rfl⟩
    clear htx
    by_cases hnum : x ≤ 0x7f ∨ 0xe0 ≤ x
    · by_cases h127 : x ≤ 127
      · have i1 : (x : Int) ≤ 127 := by omega
        have HR2 : Hid (R = .ok (pNum (int8 x)) r) := by show _ = _; rw [HR1.out]; unfold leadR; rw [if_neg (by rw [HT0.out]; decide), if_pos hnum]
        have e8 := int8_wrap x HX.out
        have HI := Lib.hid (int8_in x HX.out)
        have ew8 : wrap64 (int8 x) = int8 x := IntWalk.wrap64_in _ HI.out
        have hof := of_any (int8 x) w1
        clear hnum HR1
        generalize int8 x = z at *
        go_wp2_with fail
        refine hof.mono ?_
        rintro ee w3 ⟨rfl, hb3⟩
        have R2 := R1.below hb3
        obtain ⟨HST, HB2, HV⟩ := val_end (cs := numC z) (R := R) R2 (by rfl) (hP.keep hb3) (hk1.trans (Dk.ofBelow hb3)) (VAtP.num w3 HI.out) hB hg1 hg2 (fun _ _ _ hh => by rw [HR2.out]; exact hh) (fun v0 r hv => by rw [HR2.out] at hv; cases hv; rfl)
        clear R1 R2 hP hk1 hof
        go_wp2
        exact bodyPost_ret (results_cell_row (fn := Tryz.f46) (by rfl) _ _ w.heap.size 50 _ (0, 0) _ (by rfl) HB2 Tryz.underlying50 rfl sizeV) rfl HV
      · have i1 : ¬ (x : Int) ≤ 127 := by omega
        have i2 : 224 ≤ (x : Int) := by omega
        have HR2 : Hid (R = .ok (pNum (int8 x)) r) := by show _ = _; rw [HR1.out]; unfold leadR; rw [if_neg (by rw [HT0.out]; decide), if_pos hnum]
        have e8 := int8_wrap x HX.out
        have HI := Lib.hid (int8_in x HX.out)
        have ew8 : wrap64 (int8 x) = int8 x := IntWalk.wrap64_in _ HI.out
        have hof := of_any (int8 x) w1
        clear hnum HR1
        generalize int8 x = z at *
        go_wp2_with fail
        refine hof.mono ?_
        rintro ee w3 ⟨rfl, hb3⟩
        have R2 := R1.below hb3
        obtain ⟨HST, HB2, HV⟩ := val_end (cs := numC z) (R := R) R2 (by rfl) (hP.keep hb3) (hk1.trans (Dk.ofBelow hb3)) (VAtP.num w3 HI.out) hB hg1 hg2 (fun _ _ _ hh => by rw [HR2.out]; exact hh) (fun v0 r hv => by rw [HR2.out] at hv; cases hv; rfl)
        clear R1 R2 hP hk1 hof
        go_wp2
        exact bodyPost_ret (results_cell_row (fn := Tryz.f46) (by rfl) _ _ w.heap.size 50 _ (0, 0) _ (by rfl) HB2 Tryz.underlying50 rfl sizeV) rfl HV
    have i1 : ¬ (x : Int) ≤ 127 := by omega
    have i2 : ¬ 224 ≤ (x : Int) := by omega
    by_cases h9 : x / 16 = 9
    · have HR2 : Hid (R = (listR (decV d) (x % 16) r).bind fun l r2 => .ok (pList l) r2) := by show _ = _; rw [HR1.out]; unfold leadR; rw [if_neg (by rw [HT0.out]; decide), if_neg hnum, if_pos h9]
      have i9 : (x : Int) / 16 = 9 := by omega
      have ha := and15 x HX.out
      have hls := rdlist_any HVd (n := x % 16) hP.unit (by omega) (by omega)
      have ec : ((x % 16 : Nat) : Int) = (x : Int) % 16 := by omega
      rw [ec] at hls
      have hR3 : ((Rs.ok x r).unit.bind fun _ r => listR (decV d) (x % 16) r) = listR (decV d) (x % 16) r := rfl
      rw [hR3] at hls
      generalize listR (decV d) (x % 16) r = K at *
      clear hnum HR1 h9 hP ec hR3
      go_wp2_with fail
      refine hls.mono ?_
      rintro ee w3 ⟨a3, c3, vs, rfl, hvs, hv0, hP3, hk3, _⟩
      have R2 := hk3.blk R1 (by omega) (by omega)
      obtain ⟨HST, HB2, HV⟩ := val_end (cs := [.int .i64 6, .int .i64 0, .slice none 0 0, .string { data := #[] }, .slice none 0 0, .slice a3 (List.length vs) c3]) (R := R) R2 (by rfl) hP3 (hk1.trans hk3) (VAtP.list hvs (fun b hb => by omega) (fun b hb => by have := hb.1; omega)) hB hg1 hg2 (fun _ _ _ hh => by rw [HR2.out]; cases K <;> exact hh) (fun v0 r hv => by
        rw [HR2.out] at hv
        cases K with
        | no c => cases hv
        | ok t0 r0 => cases hv; rw [hv0 _ _ rfl])
      clear R1 R2 hP3 hk1 hk3 hls hvs hv0
      go_wp2
      exact bodyPost_ret (results_cell_row (fn := Tryz.f46) (by rfl) _ _ w.heap.size 50 _ (0, 0) _ (by rfl) HB2 Tryz.underlying50 rfl sizeV) rfl HV
    have j9 : ((x : Int) / 16 == 9) = false := by simp; omega
    by_cases h8 : x / 16 = 8
    · have HR2 : Hid (R = (dictR (decV d) (x % 16) none r).bind fun l r2 => .ok (pDict l) r2) := by show _ = _; rw [HR1.out]; unfold leadR; rw [if_neg (by rw [HT0.out]; decide), if_neg hnum, if_neg h9, if_pos h8]
      have i8 : (x : Int) / 16 = 8 := by omega
      have ha := and15 x HX.out
      have hls := rddict_any HVd (n := x % 16) hP.unit (by omega) (by omega)
      have ec : ((x % 16 : Nat) : Int) = (x : Int) % 16 := by omega
      rw [ec] at hls
      have hR3 : ((Rs.ok x r).unit.bind fun _ r => (dictR (decV d) (x % 16) none r).bind fun ps r2 => .ok (pDict ps) r2) = (dictR (decV d) (x % 16) none r).bind fun ps r2 => .ok (pDict ps) r2 := rfl
      rw [hR3, ← HR2.out] at hls
      clear hnum HR1 h9 h8 hP ec hR3
      go_wp2_with fail
      refine hls.mono ?_
      rintro ee w3 ⟨cs, v, rfl, hv, hv0, hP3, hk3⟩
      have R2 := hk3.blk R1 (by omega) (by omega)
      have x6 : cs.length = 6 := hv.len
      have hcell := hv.len
      obtain ⟨HST, HB2, HV⟩ := val_end (cs := cs) (R := R) R2 (by rfl) hP3 (hk1.trans hk3) (hv.mono (fun b hb _ => by omega)) hB hg1 hg2 (fun _ _ _ hh => hh) hv0
      have xs : (List.toArray cs).size = 6 := hv.len
      clear R1 R2 hP3 hk1 hk3 hls hv hv0 hcell
      go_wp2
      exact bodyPost_ret (results_cell_row (fn := Tryz.f46) (by rfl) _ _ w.heap.size 50 _ (0, 0) _ (by rfl) HB2 Tryz.underlying50 rfl (by rw [xs]; exact sizeV)) rfl HV
    have j8 : ((x : Int) / 16 == 8) = false := by simp; omega
    by_cases hint : 0xcc ≤ x ∧ x ≤ 0xd3
    · have HR2 : Hid (R = (intR x r).bind fun n r2 => .ok (pNum n) r2) := by show _ = _; rw [HR1.out]; unfold leadR; rw [if_neg (by rw [HT0.out]; decide), if_neg hnum, if_neg h9, if_neg h8, if_pos hint]
      have i204 : 204 ≤ (x : Int) := by omega
      have i211 : (x : Int) ≤ 211 := by omega
      have hls := rdinteger_any hP hint (by omega)
      rw [Rs.bind_ok, ← HR2.out] at hls
      clear hnum HR1 h9 h8 hint hP
      go_wp2_with fail
      refine hls.mono ?_
      rintro ee w3 ⟨cs, v, rfl, hv, hv0, hP3, hk3⟩
      have R2 := hk3.blk R1 (by omega) (by omega)
      obtain ⟨HST, HB2, HV⟩ := val_end (cs := cs) (R := R) R2 (by rfl) hP3 (hk1.trans hk3) (hv.mono (fun b hb _ => by omega)) hB hg1 hg2 (fun _ _ _ hh => hh) hv0
      have xs : (List.toArray cs).size = 6 := hv.len
      clear R1 R2 hP3 hk1 hk3 hls hv hv0
      go_wp2
      exact bodyPost_ret (results_cell_row (fn := Tryz.f46) (by rfl) _ _ w.heap.size 50 _ (0, 0) _ (by rfl) HB2 Tryz.underlying50 rfl (by rw [xs]; exact sizeV)) rfl HV
    have HL : Hid (R = if x = 0xc0 then .ok (pKind 0) r else if x = 0xc2 then .ok (pKind 1) r else if x = 0xc3 then .ok (pKind 2) r else
        if x = 0xc4 then ((bigR 1 r).bind takeR).bind fun b r2 => .ok (pByt b) r2 else
        if x = 0xc5 then ((leastR 2 256 r).bind takeR).bind fun b r2 => .ok (pByt b) r2 else
        if x = 0xdc then (leastR 2 16 r).bind fun n r2 => (listR (decV d) n r2).bind fun l r3 => .ok (pList l) r3 else
        if x = 0xde then (leastR 2 16 r).bind fun n r2 => (dictR (decV d) n none r2).bind fun l r3 => .ok (pDict l) r3 else .no 4) := by
      show _ = _
      rw [HR1.out]; unfold leadR; rw [if_neg (by rw [HT0.out]; decide), if_neg hnum, if_neg h9, if_neg h8, if_neg hint]
    have j204 : (204 : Int) ≤ (x : Int) → ¬ (x : Int) ≤ 211 := by omega
    clear HR1
    by_cases h192 : x = 192
    · subst h192
      have HR2 : Hid (R = .ok (pKind 0) r) := by show _ = _; rw [HL.out]; rfl
      obtain ⟨HST, HB2, HV⟩ := val_end (cs := [.int .i64 0, .int .i64 0, .slice none 0 0, .string { data := #[] }, .slice none 0 0, .slice none 0 0]) (R := R) R1 (by rfl) hP hk1 (VAtP.plain (k := 0) (n := 0) (t := []) w1 (by unfold in64; omega) (by unfold in64; omega) (Nat.zero_le _)) hB hg1 hg2 (fun _ _ _ hh => by rw [HR2.out]; exact hh) (fun v0 r hv => by rw [HR2.out] at hv; cases hv; rfl)
      clear R1 hP hk1 j204 hint h8 h9 hnum n32 n217 n218 i1 i2 j9 j8 HL ex hx
      go_wp2
      exact bodyPost_ret (results_cell_row (fn := Tryz.f46) (by rfl) _ _ w.heap.size 50 _ (0, 0) _ (by rfl) HB2 Tryz.underlying50 rfl sizeV) rfl HV
    by_cases h194 : x = 194
    · subst h194
      have HR2 : Hid (R = .ok (pKind 1) r) := by show _ = _; rw [HL.out]; rfl
      obtain ⟨HST, HB2, HV⟩ := val_end (cs := [.int .i64 1, .int .i64 0, .slice none 0 0, .string { data := #[] }, .slice none 0 0, .slice none 0 0]) (R := R) R1 (by rfl) hP hk1 (VAtP.plain (k := 1) (n := 0) (t := []) w1 (by unfold in64; omega) (by unfold in64; omega) (Nat.zero_le _)) hB hg1 hg2 (fun _ _ _ hh => by rw [HR2.out]; exact hh) (fun v0 r hv => by rw [HR2.out] at hv; cases hv; rfl)
      clear R1 hP hk1 j204 hint h8 h9 hnum n32 n217 n218 i1 i2 j9 j8 HL ex hx
      go_wp2
      exact bodyPost_ret (results_cell_row (fn := Tryz.f46) (by rfl) _ _ w.heap.size 50 _ (0, 0) _ (by rfl) HB2 Tryz.underlying50 rfl sizeV) rfl HV
    by_cases h195 : x = 195
    · subst h195
      have HR2 : Hid (R = .ok (pKind 2) r) := by show _ = _; rw [HL.out]; rfl
      obtain ⟨HST, HB2, HV⟩ := val_end (cs := [.int .i64 2, .int .i64 0, .slice none 0 0, .string { data := #[] }, .slice none 0 0, .slice none 0 0]) (R := R) R1 (by rfl) hP hk1 (VAtP.plain (k := 2) (n := 0) (t := []) w1 (by unfold in64; omega) (by unfold in64; omega) (Nat.zero_le _)) hB hg1 hg2 (fun _ _ _ hh => by rw [HR2.out]; exact hh) (fun v0 r hv => by rw [HR2.out] at hv; cases hv; rfl)
      clear R1 hP hk1 j204 hint h8 h9 hnum n32 n217 n218 i1 i2 j9 j8 HL ex hx
      go_wp2
      exact bodyPost_ret (results_cell_row (fn := Tryz.f46) (by rfl) _ _ w.heap.size 50 _ (0, 0) _ (by rfl) HB2 Tryz.underlying50 rfl sizeV) rfl HV
    by_cases h196 : x = 196
    · subst h196
      have HR2 : Hid (R = ((bigR 1 r).bind takeR).bind fun b r2 => .ok (pByt b) r2) := by show _ = _; rw [HL.out]; rfl
      have hPd := hP.keep (Gr.drewN w1 1)
      have R1d := R1.drewN 1
      have hk1d : Dk gr g w w1.drew := hk1.trans (Dk.ofBelow (Gr.drewN w1 1))
      have hrd := rdbig_any (n := 1) hPd (by decide) (by decide)
      rw [Rs.bind_ok] at hrd
      generalize bigR 1 r = K at *
      have c1 := hP.ptr
      clear j204 hint h8 h9 hnum n32 n217 n218 i1 i2 j9 j8 HL ex hP R1 hk1 hPd hx
      go_wp2
      go_region_held3 (fun w' => w'.cell? ⟨gr, 0, none⟩ = some (.pointer (some ⟨g, 0, none⟩))) (first | go_keep | assumption | exact c5 _) (first
        | (go_at_call 76; refine hrd.mono ?_; rintro e3 w3 ⟨y, rfl, hy, hy0, hyn, hP3, hk3⟩; have c3 := hP3.ptr; have ey : IntKind.i64.wrap (y : Int) = (y : Int) := IntWalk.i64_in _ (by have : y < 256 := hy; omega); have hby := rdbytes_any (n := y) hP3 (by have : y < 256 := hy; omega))
        | (go_at_call 25; refine hby.mono ?_; rintro e4 w4 ⟨a4, k4, t, rfl, hc4, hr4, ho4, ht0, hP4, hk4⟩; have c4 := hP4.ptr; have R4 := (hk3.trans hk4).blk R1d (by omega) (by omega); have hsz4 := hk3.size; obtain ⟨HST, HB2, HV⟩ := val_end (cs := [.int .i64 4, .int .i64 0, .slice a4 (List.length t) k4, .string { data := #[] }, .slice none 0 0, .slice none 0 0]) (R := R) R4 (by rfl) hP4 ((hk1d.trans hk3).trans hk4) (VAtP.byt hc4 hr4 (fun h0 => by have := ho4 h0; have : w1.heap.size ≤ w3.heap.size := hsz4; omega)) hB hg1 hg2 (fun _ _ _ hh => by rw [HR2.out]; cases K with | no c => exact hh | ok y0 r0 => (rw [hy0 _ _ rfl] at hh; rw [Rs.bind_ok] at hh ⊢; cases hT : takeR y0 r0 with | no c => (rw [hT] at hh; exact hh) | ok b0 r1 => (rw [hT] at hh; exact hh))) (fun v0 r hv => by rw [HR2.out] at hv; cases K with | no c => cases hv | ok y0 r0 => (rw [Rs.bind_ok] at hv; cases hT : takeR y0 r0 with | no c => (rw [hT] at hv; cases hv) | ok b0 r1 => (rw [hT] at hv; cases hv; rw [ht0 b0 _ (by rw [Rs.bind_ok, hy0 _ _ rfl]; exact hT)]))); have c5 : ∀ cs, (w4.setRow w.heap.size cs).cell? ⟨gr, 0, none⟩ = some (.pointer (some ⟨g, 0, none⟩)) := fun cs => by (rw [World.cell?_of_block (w := w4) (setRow_other w4 w.heap.size gr cs (by omega))]; exact c4)))
      clear hP4 hk4 hk3 hP3 hr4 R4 R1d
      go_wp2
      exact bodyPost_ret (results_cell_row (fn := Tryz.f46) (by rfl) _ _ w.heap.size 50 _ (0, 0) _ (by rfl) HB2 Tryz.underlying50 rfl sizeV) rfl HV
    by_cases h197 : x = 197
    · subst h197
      have HR2 : Hid (R = ((leastR 2 256 r).bind takeR).bind fun b r2 => .ok (pByt b) r2) := by show _ = _; rw [HL.out]; rfl
      have hPd := hP.keep (Gr.drewN w1 1)
      have R1d := R1.drewN 1
      have hk1d : Dk gr g w w1.drew := hk1.trans (Dk.ofBelow (Gr.drewN w1 1))
      have hrd := rdleast_any (n := 2) (lo := 256) hPd (by decide) (by decide) (by decide)
      rw [Rs.bind_ok] at hrd
      generalize leastR 2 256 r = K at *
      have c1 := hP.ptr
      clear j204 hint h8 h9 hnum n32 n217 n218 i1 i2 j9 j8 HL ex hP R1 hk1 hPd hx
      go_wp2
      go_region_held3 (fun w' => w'.cell? ⟨gr, 0, none⟩ = some (.pointer (some ⟨g, 0, none⟩))) (first | go_keep | assumption | exact c5 _) (first
        | (go_at_call 77; refine hrd.mono ?_; rintro e3 w3 ⟨y, rfl, hy, hy0, hyn, hP3, hk3⟩; have c3 := hP3.ptr; have ey : IntKind.i64.wrap (y : Int) = (y : Int) := IntWalk.i64_in _ (by have : y < 65536 := hy; omega); have hby := rdbytes_any (n := y) hP3 (by have : y < 65536 := hy; omega))
        | (go_at_call 25; refine hby.mono ?_; rintro e4 w4 ⟨a4, k4, t, rfl, hc4, hr4, ho4, ht0, hP4, hk4⟩; have c4 := hP4.ptr; have R4 := (hk3.trans hk4).blk R1d (by omega) (by omega); have hsz4 := hk3.size; obtain ⟨HST, HB2, HV⟩ := val_end (cs := [.int .i64 4, .int .i64 0, .slice a4 (List.length t) k4, .string { data := #[] }, .slice none 0 0, .slice none 0 0]) (R := R) R4 (by rfl) hP4 ((hk1d.trans hk3).trans hk4) (VAtP.byt hc4 hr4 (fun h0 => by have := ho4 h0; have : w1.heap.size ≤ w3.heap.size := hsz4; omega)) hB hg1 hg2 (fun _ _ _ hh => by rw [HR2.out]; cases K with | no c => exact hh | ok y0 r0 => (rw [hy0 _ _ rfl] at hh; rw [Rs.bind_ok] at hh ⊢; cases hT : takeR y0 r0 with | no c => (rw [hT] at hh; exact hh) | ok b0 r1 => (rw [hT] at hh; exact hh))) (fun v0 r hv => by rw [HR2.out] at hv; cases K with | no c => cases hv | ok y0 r0 => (rw [Rs.bind_ok] at hv; cases hT : takeR y0 r0 with | no c => (rw [hT] at hv; cases hv) | ok b0 r1 => (rw [hT] at hv; cases hv; rw [ht0 b0 _ (by rw [Rs.bind_ok, hy0 _ _ rfl]; exact hT)]))); have c5 : ∀ cs, (w4.setRow w.heap.size cs).cell? ⟨gr, 0, none⟩ = some (.pointer (some ⟨g, 0, none⟩)) := fun cs => by (rw [World.cell?_of_block (w := w4) (setRow_other w4 w.heap.size gr cs (by omega))]; exact c4)))
      clear hP4 hk4 hk3 hP3 hr4 R4 R1d
      go_wp2
      exact bodyPost_ret (results_cell_row (fn := Tryz.f46) (by rfl) _ _ w.heap.size 50 _ (0, 0) _ (by rfl) HB2 Tryz.underlying50 rfl sizeV) rfl HV
    by_cases h220 : x = 220
    · subst h220
      have HR2 : Hid (R = (leastR 2 16 r).bind fun n r2 => (listR (decV d) n r2).bind fun l r3 => .ok (pList l) r3) := by show _ = _; rw [HL.out]; rfl
      have hrd := rdleast_any (n := 2) (lo := 16) hP (by decide) (by decide) (by decide)
      rw [Rs.bind_ok] at hrd
      generalize leastR 2 16 r = K at *
      clear j204 hint h8 h9 hnum n32 n217 n218 i1 i2 j9 j8 HL ex hx hP
      go_wp2_with fail
      refine hrd.mono ?_
      rintro ee w3 ⟨y, rfl, hy, hy0, hyn, hP3, hk3⟩
      have hsz3 := hk3.size
      have hy' : y < 65536 := hy
      have ey : IntKind.i64.wrap (y : Int) = (y : Int) := IntWalk.i64_in _ (by omega)
      have hls := rdlist_any HVd (n := y) hP3.unit (by omega) (by omega)
      go_wp2_with fail
      refine hls.mono ?_
      rintro ee w4 ⟨a4, c4, vs, rfl, hvs, hv0, hP4, hk4, _⟩
      have R4 := (hk3.trans hk4).blk R1 (by omega) (by omega)
      obtain ⟨HST, HB2, HV⟩ := val_end (cs := [.int .i64 6, .int .i64 0, .slice none 0 0, .string { data := #[] }, .slice none 0 0, .slice a4 (List.length vs) c4]) (R := R) R4 (by rfl) hP4 ((hk1.trans hk3).trans hk4) (VAtP.list hvs (fun b hb => by omega) (fun b hb => by have := hb.1; omega)) hB hg1 hg2 (fun l e bad hh => by
        rw [HR2.out]
        cases K with
        | no c => exact hh
        | ok y0 r0 =>
          rw [hy0 _ _ rfl] at hh
          have hh : PRst (listR (decV d) y0 r0) l e bad := hh
          rw [Rs.bind_ok]
          cases hT : listR (decV d) y0 r0 with
          | no c => rw [hT] at hh; exact hh
          | ok b0 r1 => rw [hT] at hh; exact hh) (fun v0 r hv => by
        rw [HR2.out] at hv
        cases K with
        | no c => cases hv
        | ok y0 r0 =>
          rw [Rs.bind_ok] at hv
          cases hT : listR (decV d) y0 r0 with
          | no c => rw [hT] at hv; cases hv
          | ok b0 r1 => rw [hT] at hv; cases hv; rw [hv0 b0 _ (by rw [hy0 _ _ rfl]; exact hT)])
      clear hP4 hk4 hk3 hP3 R4 R1 hls hvs hv0
      go_wp2
      exact bodyPost_ret (results_cell_row (fn := Tryz.f46) (by rfl) _ _ w.heap.size 50 _ (0, 0) _ (by rfl) HB2 Tryz.underlying50 rfl sizeV) rfl HV
    by_cases h222 : x = 222
    · subst h222
      have HR2 : Hid (R = (leastR 2 16 r).bind fun n r2 => (dictR (decV d) n none r2).bind fun l r3 => .ok (pDict l) r3) := by show _ = _; rw [HL.out]; rfl
      have hrd := rdleast_any (n := 2) (lo := 16) hP (by decide) (by decide) (by decide)
      rw [Rs.bind_ok] at hrd
      generalize leastR 2 16 r = K at *
      clear j204 hint h8 h9 hnum n32 n217 n218 i1 i2 j9 j8 HL ex hx hP
      go_wp2_with fail
      refine hrd.mono ?_
      rintro ee w3 ⟨y, rfl, hy, hy0, hyn, hP3, hk3⟩
      have hsz3 := hk3.size
      have hy' : y < 65536 := hy
      have ey : IntKind.i64.wrap (y : Int) = (y : Int) := IntWalk.i64_in _ (by omega)
      have hls := rddict_any HVd (n := y) hP3.unit (by omega) (by omega)
      go_wp2_with fail
      refine hls.mono ?_
      rintro ee w4 ⟨cs, v, rfl, hv, hv0, hP4, hk4⟩
      have R4 := (hk3.trans hk4).blk R1 (by omega) (by omega)
      have xs : (List.toArray cs).size = 6 := hv.len
      obtain ⟨HST, HB2, HV⟩ := val_end (cs := cs) (R := R) R4 (by rfl) hP4 ((hk1.trans hk3).trans hk4) (hv.mono (fun b hb _ => by omega)) hB hg1 hg2 (fun l e bad hh => by
        rw [HR2.out]
        cases K with
        | no c => exact hh
        | ok y0 r0 => rw [hy0 _ _ rfl] at hh; exact hh) (fun v0 r hv => by
        rw [HR2.out] at hv
        cases K with
        | no c => cases hv
        | ok y0 r0 => rw [hv0 v0 r (by rw [hy0 _ _ rfl]; exact hv)])
      clear hP4 hk4 hk3 hP3 R4 R1 hls hv hv0
      go_wp2
      exact bodyPost_ret (results_cell_row (fn := Tryz.f46) (by rfl) _ _ w.heap.size 50 _ (0, 0) _ (by rfl) HB2 Tryz.underlying50 rfl (by rw [xs]; exact sizeV)) rfl HV
    have HR2 : Hid (R = .no 4) := by show _ = _; rw [HL.out, if_neg h192, if_neg h194, if_neg h195, if_neg h196, if_neg h197, if_neg h220, if_neg h222]
    have k192 : ((x : Int) == 192) = false := by simp; omega
    have k194 : ((x : Int) == 194) = false := by simp; omega
    have k195 : ((x : Int) == 195) = false := by simp; omega
    have k196 : ((x : Int) == 196) = false := by simp; omega
    have k197 : ((x : Int) == 197) = false := by simp; omega
    have k220 : ((x : Int) == 220) = false := by simp; omega
    have k222 : ((x : Int) == 222) = false := by simp; omega
    obtain ⟨hP2, hk2, f1, zz, c1⟩ := PRs.bad (β := PV) hP
    have R2 := hk2.blk R1 (by omega) (by omega)
    obtain ⟨HST, HB2, HV⟩ := val_end (cs := [.int .i64 0, .int .i64 0, .slice none 0 0, .string { data := #[] }, .slice none 0 0, .slice none 0 0]) (R := R) R2 (by rfl) hP2 (hk1.trans hk2) (VAtP.plain (k := 0) (n := 0) (t := []) _ (by unfold in64; omega) (by unfold in64; omega) (Nat.zero_le _)) hB hg1 hg2 (fun _ _ _ hh => by rw [HR2.out]; exact hh) (fun v0 r hv => by rw [HR2.out] at hv; cases hv)
    have h204 : ((204 : Int) ≤ (x : Int) ∧ ¬ (x : Int) ≤ 211) ∨ ¬ (204 : Int) ≤ (x : Int) := by omega
    clear R1 R2 hP hk1 hP2 hk2 j204 hint h8 h9 hnum n32 n217 n218 HL h192 h194 h195 h196 h197 h220 h222 hx
    rcases h204 with ⟨g1, g2⟩ | g1
    · skip
      go_wp2
      exact bodyPost_ret (results_cell_row (fn := Tryz.f46) (by rfl) _ _ w.heap.size 50 _ (0, 0) _ (by rfl) HB2 Tryz.underlying50 rfl sizeV) rfl HV
    · skip
      go_wp2
      exact bodyPost_ret (results_cell_row (fn := Tryz.f46) (by rfl) _ _ w.heap.size 50 _ (0, 0) _ (by rfl) HB2 Tryz.underlying50 rfl sizeV) rfl HV
end Go.Proofs.YtpchogicdnfggaaGreatDoor
