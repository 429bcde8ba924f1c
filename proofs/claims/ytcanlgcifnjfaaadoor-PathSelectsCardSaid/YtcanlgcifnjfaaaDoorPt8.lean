/- Layer 20: tokens, the walk. -/
import Derived.Test.YtcanlgcifnjfaaaDoorPt7
set_option maxRecDepth 20000
namespace Go.Proofs.YtcanlgcifnjfaaaDoor
open Go.RowKit Go.Hd
attribute [local go_sem ↓] h_ldTK h_stTK h_alTK h_bdTK h_bsTK
attribute [local go_sem] r_alTK r_stTK r_ldTK r_bsTK r_bdS r_bdA r_bdD r_bdC

def deepB (sh : Bool) (s : List UInt8) (j : Nat) : Bool := sh && beginsB (s.drop j) [42, 42, 47] && (j == 0 || s[j - 1]? == some 47)
theorem byte_eq {s : List UInt8} {j : Nat} (hsz : j < (str s).size) (hlt : j < s.length) (x : UInt8) : ((((str s)[j]'hsz).toNat : Int) == (x.toNat : Int)) = (s[j]'hlt == x) := by
  refine (congrArg (fun c : UInt8 => ((c.toNat : Int) == (x.toNat : Int))) (str_at s j hsz hlt)).trans ?_
  rw [Bool.eq_iff_iff, beq_iff_eq, beq_iff_eq]
  exact ⟨fun h => UInt8.toNat_inj.1 (by omega), fun h => by rw [h]⟩
set_option maxHeartbeats 1600000 in
theorem tokens_any (sh : Bool) (s : List UInt8) (w : World) (hs : s.length ≤ 100000) :
    Calls Tryd.prog 49 #[.string (str s), .bool sh] w (ToksP w sh s) := by
  have hz : (str s).size = s.length := str_size s
  have zs := zTK_size
  have HTS := Lib.hid hs
  clear hs
  go_enter Tryd.func49, Tryd.ntmps49
  go_wp2
  go_loopw [6, 7] (fun v i wr => ∃ (L : List Tok) (j : Nat), i = .int .i64 j ∧ j ≤ s.length ∧ Hid (TokI sh s L j) ∧ Hid (wr.ownsRow w.heap.size 85 258 v L.length (L.map tokC).flatten) ∧ Hid (Below w.heap.size w wr)) (fun _ i _ => s.length - (intOf i).toNat)
  case atStart => exact ⟨[], 0, rfl, Nat.zero_le _, TokI.start sh s, World.ownsRow_nil _ _ _ _, Below.refl _ _⟩
  case round =>
    obtain ⟨L, j, rfl, hj, hI, hv, hb⟩ := hrel
    have hLl := hI.out.2.1
    have j0 : (0 : Int) ≤ (j : Int) := by omega
    have j1 : IntKind.i64.wrap ((j : Int) + 1) = (j : Int) + 1 := IntWalk.i64_in _ (by have := HTS.out; omega)
    have j3 : IntKind.i64.wrap ((j : Int) + 3) = (j : Int) + 3 := IntWalk.i64_in _ (by have := HTS.out; omega)
    by_cases hlt : j < s.length
    · have i1 : (j : Int) < (s.length : Int) := by omega
      have i2 : (j : Int) ≤ (s.length : Int) := by omega
      have hsz : j < (str s).size := by rw [hz]; exact hlt
      have e1 := str_drop s j s.length (Nat.le_refl _)
      have hpf := fun w' => prefix_any (s.drop j) [42, 42, 47] w'
      have hDB : Hid (deepB sh s j = (sh && beginsB (s.drop j) [42, 42, 47] && (j == 0 || s[j - 1]? == some 47))) := rfl
      go_upto_region 6 with (fail)
      go_cut [24] (fun u wx => u = .bool (deepB sh s j) ∧ wx = wr)
      case first =>
        generalize deepB sh s j = D at *
        clear hI hv
        cases sh
        · have hD : Hid (D = false) := hDB.out
          clear hDB hpf
          go_wp2
          go_meet
          exact ⟨by rw [hD.out] <;> rfl, rfl⟩
        · go_wp2_with fail
          refine (hpf _).mono ?_
          rintro e w1 ⟨rfl, hw⟩
          subst hw
          generalize beginsB (s.drop j) [42, 42, 47] = P at *
          cases P
          · have hD : Hid (D = false) := by show _ = _; rw [hDB.out]; rfl
            clear hDB hpf
            go_wp2
            go_meet
            exact ⟨by rw [hD.out] <;> rfl, rfl⟩
          · by_cases hj0 : j = 0
            · subst hj0
              have hD : Hid (D = true) := by show _ = _; rw [hDB.out]; rfl
              clear hDB hpf
              go_wp2
              go_meet
              exact ⟨by rw [hD.out] <;> rfl, rfl⟩
            · obtain ⟨i, rfl⟩ : ∃ i, j = i + 1 := ⟨j - 1, by omega⟩
              have hsi : i < (str s).size := by rw [hz]; omega
              have t1 := byte_eq hsi (by omega : i < s.length) 47
              rw [show (((47 : UInt8).toNat : Nat) : Int) = 47 from rfl] at t1
              have hD : Hid (D = (s[i]'(by omega : i < s.length) == 47)) := by
                show _ = _
                rw [hDB.out, show i + 1 - 1 = i by omega, List.getElem?_eq_getElem (by omega : i < s.length)]
                simp
              generalize (s[i]'(by omega : i < s.length) == 47) = Q at *
              have ew : IntKind.i64.wrap (i : Int) = (i : Int) := IntWalk.i64_in _ (by have := HTS.out; omega)
              have i3 : (0 : Int) ≤ (i : Int) := by omega
              have i4 : ¬ (i : Int) + 1 = 0 := by omega
              have i5 : (((i : Int) + 1) == 0) = false := by simpa using i4
              clear hDB hpf
              go_wp2
              go_meet
              exact ⟨by rw [hD.out] <;> rfl, rfl⟩
      case rest =>
        obtain ⟨rfl, hwc⟩ := hcut
        subst hwc
        clear hpf
        cases hDD : deepB sh s j with
        | true =>
          rw [hDD] at hDB
          have hall : sh = true ∧ beginsB (s.drop j) [42, 42, 47] = true ∧ (j = 0 ∨ s[j - 1]? = some 47) := by
            have h := hDB.out.symm
            simp only [Bool.and_eq_true, Bool.or_eq_true, beq_iff_eq] at h
            exact ⟨h.1.1, h.1.2, h.2⟩
          obtain ⟨rfl, hbg, hpr⟩ := hall
          obtain ⟨bl, ba⟩ := begins_len hbg
          have b2 := ba 2 (by decide)
          rw [List.getElem?_drop] at b2
          have hl3 : j + 3 ≤ s.length := by rw [List.length_drop] at bl; simp at bl; omega
          have hI2 := Lib.hid (hI.out.deep hl3 hpr hbg b2)
          obtain ⟨a', c', w', hrun, hown', hb'⟩ := app_tok .deep hv.out (by have := HTS.out; omega) hb.out.size
          have hbN := Lib.hid (hb.out.trans hb')
          replace hown' := Lib.hid hown'
          have t2 := tokA_size .deep
          clear hDB hDD hbg hpr bl ba b2 hI hv hb hb'
          go_wp2_with (at_builtin; refine wpList_append_run hrun rfl rfl rfl rfl ?_)
          first
            | exact ⟨⟨L ++ [.deep], j + 3, (by first | rfl | go_num | (congr 1; omega)), hl3, hI2, hown', hbN⟩, by simp [intOf] <;> omega⟩
            | (refine ⟨?_, by simp [intOf] <;> omega⟩; (repeat apply Exists.intro); exact ⟨⟨L ++ [.deep], j + 3, (by first | rfl | go_num | (congr 1; omega)), hl3, hI2, hown', hbN⟩, rfl⟩)
        | false =>
          rw [hDD] at hDB
          have hnd : ¬ (sh = true ∧ (j = 0 ∨ s[j - 1]? = some 47) ∧ beginsB (s.drop j) [42, 42, 47] = true) := fun h => by
            have h2 := hDB.out
            rw [h.1, h.2.2] at h2
            rcases h.2.1 with h3 | h3
            · rw [h3] at h2; simp at h2
            · rw [h3] at h2; simp at h2
          obtain ⟨n1, n2, n3, n4⟩ := hI.out.next hlt hnd
          have t1 := byte_eq hsz hlt 42
          rw [show (((42 : UInt8).toNat : Nat) : Int) = 42 from rfl] at t1
          have t2 := byte_eq hsz hlt 63
          rw [show (((63 : UInt8).toNat : Nat) : Int) = 63 from rfl] at t2
          have t3 := byte_eq hsz hlt 91
          rw [show (((91 : UInt8).toNat : Nat) : Int) = 91 from rfl] at t3
          have hat := str_at s j hsz hlt
          clear hDB hDD hnd hI
          by_cases h42 : s[j]'hlt = 42
          · rw [show (s[j]'hlt == 42) = true from beq_iff_eq.2 h42] at t1
            have hI2 := Lib.hid (n1 h42)
            obtain ⟨a', c', w', hrun, hown', hb'⟩ := app_tok .star hv.out (by have := HTS.out; omega) hb.out.size
            have hbN := Lib.hid (hb.out.trans hb')
            replace hown' := Lib.hid hown'
            have t9 := tokA_size .star
            clear n1 n2 n3 n4 hv hb hb' t2 t3 hat h42
            go_wp2_with (at_builtin; refine wpList_append_run hrun rfl rfl rfl rfl ?_)
            first
              | exact ⟨⟨L ++ [.star], j + 1, (by first | rfl | go_num | (congr 1; omega)), by omega, hI2, hown', hbN⟩, by simp [intOf] <;> omega⟩
              | (refine ⟨?_, by simp [intOf] <;> omega⟩; (repeat apply Exists.intro); exact ⟨⟨L ++ [.star], j + 1, (by first | rfl | go_num | (congr 1; omega)), by omega, hI2, hown', hbN⟩, rfl⟩)
          rw [show (s[j]'hlt == 42) = false from beq_eq_false_iff_ne.2 h42] at t1
          by_cases h63 : s[j]'hlt = 63
          · rw [show (s[j]'hlt == 63) = true from beq_iff_eq.2 h63] at t2
            have hI2 := Lib.hid (n2 h63)
            obtain ⟨a', c', w', hrun, hown', hb'⟩ := app_tok .any1 hv.out (by have := HTS.out; omega) hb.out.size
            have hbN := Lib.hid (hb.out.trans hb')
            replace hown' := Lib.hid hown'
            have t9 := tokA_size .any1
            clear n1 n2 n3 n4 hv hb hb' t3 hat h42 h63
            go_wp2_with (at_builtin; refine wpList_append_run hrun rfl rfl rfl rfl ?_)
            first
              | exact ⟨⟨L ++ [.any1], j + 1, (by first | rfl | go_num | (congr 1; omega)), by omega, hI2, hown', hbN⟩, by simp [intOf] <;> omega⟩
              | (refine ⟨?_, by simp [intOf] <;> omega⟩; (repeat apply Exists.intro); exact ⟨⟨L ++ [.any1], j + 1, (by first | rfl | go_num | (congr 1; omega)), by omega, hI2, hown', hbN⟩, rfl⟩)
          rw [show (s[j]'hlt == 63) = false from beq_eq_false_iff_ne.2 h63] at t2
          by_cases h91 : s[j]'hlt = 91
          · rw [show (s[j]'hlt == 91) = true from beq_iff_eq.2 h91] at t3
            have e2 := str_drop s (j + 1) s.length (Nat.le_refl _)
            have hrs := fun w' => readSet_any (s.drop (j + 1)) w' (by have := HTS.out; simp; omega)
            obtain ⟨n31, n32⟩ := n3 h91
            clear n1 n2 n3 n4 hat h42 h63 h91
            have i6 : (j : Int) + 1 ≤ (s.length : Int) := by omega
            have i7 : (0 : Int) ≤ (j : Int) + 1 := by omega
            go_wp2_with fail
            refine (hrs _).mono ?_
            rintro e w1 hse
            unfold SetP at hse
            obtain ⟨hse, hb1⟩ := hse
            have hv1 := ownsRow_below hv.out (hb1.mono (Nat.le_refl _))
            have hbw := hb.out.trans (hb1.mono hb.out.size)
            cases hsf : setF (s.drop (j + 1)) with
            | none =>
              rw [hsf] at hse
              subst hse
              have hR : Hid (toksF sh (s.length + 1) true s = none) := n31 hsf
              have t9 := tokA_size (.set fun _ => false)
              have t8 : OneC (tokA (.set fun _ => false)) := all_oneCell_toArray (tokC_one _)
              have hbF : Hid (Below w.heap.size w (w1.alloc (.cells (tokA (.set fun _ => false)) 85))) := hbw.alloc hbw.size _
              generalize tokA (.set fun _ => false) = AR at *
              clear n31 n32 hsf hv hb hb1 hv1 hbw hrs
              go_wp2
              go_ret2
              unfold ToksP
              rw [hR.out]
              exact ⟨rfl, hbF.out⟩
            | some fk =>
              obtain ⟨f, k⟩ := fk
              rw [hsf] at hse
              simp only at hse
              subst hse
              have hI2 := Lib.hid (n32 f k hsf)
              have t9 := tokA_size (.set f)
              have t8 : OneC (tokA (.set f)) := all_oneCell_toArray (tokC_one _)
              have hbF := hbw.alloc hbw.size (.cells (tokA (.set f)) 85)
              obtain ⟨a', c', w', hrun, hown', hb'⟩ := app_tok (.set f) (World.ownsRow.alloc hv1 (.cells (tokA (.set f)) 85)) (by have := HTS.out; omega) hbF.size
              have hbN := Lib.hid (hbF.trans hb')
              replace hown' := Lib.hid hown'
              rw [show (w1.alloc (.cells (tokA (.set f)) 85)).heap.size = w1.heap.size + 1 by simp] at hrun
              have hkl : j + 1 + k ≤ s.length := hI2.out.1
              have k1 : IntKind.i64.wrap ((k : Int) + 1) = (k : Int) + 1 := IntWalk.i64_in _ (by have := HTS.out; omega)
              have k2 : IntKind.i64.wrap ((j : Int) + ((k : Int) + 1)) = ((j + 1 + k : Nat) : Int) := by rw [IntWalk.i64_in _ (by have := HTS.out; omega)]; omega
              clear n31 n32 hsf hv hb hb1 hv1 hbw hrs hbF hb'
              go_wp2_with (at_builtin; refine wpList_append_run hrun rfl rfl rfl rfl ?_)
              first
                | exact ⟨⟨L ++ [.set f], j + 1 + k, (by first | rfl | go_num | (congr 1; omega)), hkl, hI2, hown', hbN⟩, by simp [intOf] <;> omega⟩
                | (refine ⟨?_, by simp [intOf] <;> omega⟩; (repeat apply Exists.intro); exact ⟨⟨L ++ [.set f], j + 1 + k, (by first | rfl | go_num | (congr 1; omega)), hkl, hI2, hown', hbN⟩, rfl⟩)
          · rw [show (s[j]'hlt == 91) = false from beq_eq_false_iff_ne.2 h91] at t3
            have hI1 := n4 h42 h63 h91
            have hI2 : Hid (TokI sh s (L ++ [.one ((str s)[j]'hsz)]) (j + 1)) := by
              show TokI sh s (L ++ [Tok.one ((str s)[j]'hsz)]) (j + 1)
              exact (congrArg (fun c : UInt8 => TokI sh s (L ++ [Tok.one c]) (j + 1)) hat).mpr hI1
            obtain ⟨a', c', w', hrun, hown', hb'⟩ := app_tok (.one ((str s)[j]'hsz)) hv.out (by have := HTS.out; omega) hb.out.size
            have hbN := Lib.hid (hb.out.trans hb')
            replace hown' := Lib.hid hown'
            have t9 := tokA_size (.one ((str s)[j]'hsz))
            clear n1 n2 n3 n4 hv hb hb' hat h42 h63 h91 hI1
            go_wp2_with (at_builtin; refine wpList_append_run hrun rfl rfl rfl rfl ?_)
            first
              | exact ⟨⟨L ++ [.one ((str s)[j]'hsz)], j + 1, (by first | rfl | go_num | (congr 1; omega)), by omega, hI2, hown', hbN⟩, by simp [intOf] <;> omega⟩
              | (refine ⟨?_, by simp [intOf] <;> omega⟩; (repeat apply Exists.intro); exact ⟨⟨L ++ [.one ((str s)[j]'hsz)], j + 1, (by first | rfl | go_num | (congr 1; omega)), by omega, hI2, hown', hbN⟩, rfl⟩)
    · obtain rfl : j = s.length := by omega
      have hR : Hid (toksF sh (s.length + 1) true s = some L) := hI.out.done
      obtain ⟨a, c, rfl, _, _, hrow, hown⟩ := owns_rowN hv.out (by decide)
      have hbk : 0 < L.length → w.heap.size ≤ (hd a).block := fun h => (hown (by rw [flatten_len (tokC_all L)]; simp; omega)).2.1
      clear hown
      go_wp2
      go_ret2
      unfold ToksP
      rw [hR.out]
      exact ⟨⟨a, c, rfl, hrow, hbk⟩, hb.out⟩
end Go.Proofs.YtcanlgcifnjfaaaDoor
