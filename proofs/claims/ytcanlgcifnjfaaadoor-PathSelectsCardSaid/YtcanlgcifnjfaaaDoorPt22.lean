/- Layer 20: the document's Style and Match. -/
import Derived.Test.YtcanlgcifnjfaaaDoorPt21
set_option maxRecDepth 20000
namespace Go.Proofs.YtcanlgcifnjfaaaDoor
open Go.RowKit Go.Hd

set_option maxHeartbeats 2000000 in
theorem rstyle_any (s : List UInt8) (w : World) (hs : s.length ≤ 1000000) :
    Calls Tryd.prog 51 #[.string (str s)] w fun e w' => e = .returned (.tuple #[.int .i64 ((styF s).1 : Int), .string (str (styF s).2)]) ∧ Below w.heap.size w w' := by
  have hz : (str s).size = s.length := str_size s
  have HS := Lib.hid hs
  clear hs
  go_enter Tryd.func51, Tryd.ntmps51
  go_upto_region 2 with (fail)
  have hall : Hid (∀ W, W = w.alloc (.cells #[.string { data := #[112, 102, 58] }, .string { data := #[112, 112, 58] }, .string { data := #[102, 109, 58] }, .string { data := #[115, 104, 58] }] 9) →
      Blk W w.heap.size 9 [.string (str (styB 0)), .string (str (styB 1)), .string (str (styB 2)), .string (str (styB 3))] ∧ Below w.heap.size w W) := by
    rintro W rfl
    exact ⟨Blk.new w 9 _, (Below.refl _ _).alloc (Nat.le_refl _) _⟩
  generalize hW : w.alloc (.cells #[.string { data := #[112, 102, 58] }, .string { data := #[112, 112, 58] }, .string { data := #[102, 109, 58] }, .string { data := #[115, 104, 58] }] 9) = W at *
  obtain ⟨g3, g4⟩ := hall.out W rfl
  clear hall hW
  go_wp2
  go_loopw [5] (fun i wr => ∃ j : Nat, j ≤ 4 ∧ i = .int .i64 j ∧ Hid (wr = W) ∧ Hid (∀ q, q < j → beginsB s (styB q) = false)) (fun i _ => 4 - (intOf i).toNat)
  case atStart => exact ⟨0, by omega, rfl, Lib.hid rfl, Lib.hid (fun q hq => by omega)⟩
  case round =>
    obtain ⟨j, hj, rfl, hwr, hno⟩ := hrel
    have hwr := hwr.out
    subst hwr
    rcases (by omega : j = 0 ∨ j = 1 ∨ j = 2 ∨ j = 3 ∨ j = 4) with rfl | rfl | rfl | rfl | rfl
    · have q1 : wr.cell? ⟨w.heap.size, 0, none⟩ = some (.string (str (styB 0))) := g3.cell rfl
      have hbg := rbegins_any s (styB 0) wr
      cases hP : beginsB s (styB 0)
      · rw [hP] at hbg
        have hno2 : Hid (∀ q, q < 1 → beginsB s (styB q) = false) := fun q hq => by
          rcases Nat.lt_or_ge q 0 with h | h
          · exact hno.out q h
          · obtain rfl : q = 0 := by omega
            exact hP
        clear hno hP
        generalize styB 0 = sty at *
        go_wp2_with fail
        refine hbg.mono ?_
        rintro e w1 ⟨rfl, hw⟩
        subst hw
        go_wp2
        first
          | exact ⟨⟨1, by omega, (by first | rfl | go_num | (congr 1; omega)), (by first | exact Lib.hid rfl | exact Lib.hid trivial), hno2⟩, by simp [intOf] <;> omega⟩
          | (refine ⟨?_, by simp [intOf] <;> omega⟩; (repeat apply Exists.intro); exact ⟨⟨1, by omega, (by first | rfl | go_num | (congr 1; omega)), (by first | exact Lib.hid rfl | exact Lib.hid trivial), hno2⟩, rfl⟩)
      · have hS : Hid (styF s = (0, s.drop 3)) := by
          show _ = _
          unfold styF
          rw [if_pos hP]
        have h3 : 3 ≤ s.length := (begins_len hP).1
        have e2 : (str s).extract 3 s.length = str (s.drop 3) := str_drop s 3 s.length (Nat.le_refl _)
        have h3' : (3 : Int) ≤ (s.length : Int) := by omega
        rw [hP] at hbg
        clear hno hP
        generalize s.drop 3 = rest at *
        generalize styB 0 = sty at *
        go_wp2_with fail
        refine hbg.mono ?_
        rintro e w1 ⟨rfl, hw⟩
        subst hw
        go_wp2
        go_quiet (fail)
        go_wp2
        go_ret2
        show _ ∧ _
        exact ⟨by rw [hS.out] <;> rfl, Below.drewN g4 nq⟩
    · have q1 : wr.cell? ⟨w.heap.size, 1, none⟩ = some (.string (str (styB 1))) := g3.cell rfl
      have hbg := rbegins_any s (styB 1) wr
      cases hP : beginsB s (styB 1)
      · rw [hP] at hbg
        have hno2 : Hid (∀ q, q < 2 → beginsB s (styB q) = false) := fun q hq => by
          rcases Nat.lt_or_ge q 1 with h | h
          · exact hno.out q h
          · obtain rfl : q = 1 := by omega
            exact hP
        clear hno hP
        generalize styB 1 = sty at *
        go_wp2_with fail
        refine hbg.mono ?_
        rintro e w1 ⟨rfl, hw⟩
        subst hw
        go_wp2
        first
          | exact ⟨⟨2, by omega, (by first | rfl | go_num | (congr 1; omega)), (by first | exact Lib.hid rfl | exact Lib.hid trivial), hno2⟩, by simp [intOf] <;> omega⟩
          | (refine ⟨?_, by simp [intOf] <;> omega⟩; (repeat apply Exists.intro); exact ⟨⟨2, by omega, (by first | rfl | go_num | (congr 1; omega)), (by first | exact Lib.hid rfl | exact Lib.hid trivial), hno2⟩, rfl⟩)
      · have hS : Hid (styF s = (1, s.drop 3)) := by
          show _ = _
          unfold styF
          rw [if_neg (by rw [hno.out 0 (by omega)]; decide), if_pos hP]
        have h3 : 3 ≤ s.length := (begins_len hP).1
        have e2 : (str s).extract 3 s.length = str (s.drop 3) := str_drop s 3 s.length (Nat.le_refl _)
        have h3' : (3 : Int) ≤ (s.length : Int) := by omega
        rw [hP] at hbg
        clear hno hP
        generalize s.drop 3 = rest at *
        generalize styB 1 = sty at *
        go_wp2_with fail
        refine hbg.mono ?_
        rintro e w1 ⟨rfl, hw⟩
        subst hw
        go_wp2
        go_quiet (fail)
        go_wp2
        go_ret2
        show _ ∧ _
        exact ⟨by rw [hS.out] <;> rfl, Below.drewN g4 nq⟩
    · have q1 : wr.cell? ⟨w.heap.size, 2, none⟩ = some (.string (str (styB 2))) := g3.cell rfl
      have hbg := rbegins_any s (styB 2) wr
      cases hP : beginsB s (styB 2)
      · rw [hP] at hbg
        have hno2 : Hid (∀ q, q < 3 → beginsB s (styB q) = false) := fun q hq => by
          rcases Nat.lt_or_ge q 2 with h | h
          · exact hno.out q h
          · obtain rfl : q = 2 := by omega
            exact hP
        clear hno hP
        generalize styB 2 = sty at *
        go_wp2_with fail
        refine hbg.mono ?_
        rintro e w1 ⟨rfl, hw⟩
        subst hw
        go_wp2
        first
          | exact ⟨⟨3, by omega, (by first | rfl | go_num | (congr 1; omega)), (by first | exact Lib.hid rfl | exact Lib.hid trivial), hno2⟩, by simp [intOf] <;> omega⟩
          | (refine ⟨?_, by simp [intOf] <;> omega⟩; (repeat apply Exists.intro); exact ⟨⟨3, by omega, (by first | rfl | go_num | (congr 1; omega)), (by first | exact Lib.hid rfl | exact Lib.hid trivial), hno2⟩, rfl⟩)
      · have hS : Hid (styF s = (2, s.drop 3)) := by
          show _ = _
          unfold styF
          rw [if_neg (by rw [hno.out 0 (by omega)]; decide), if_neg (by rw [hno.out 1 (by omega)]; decide), if_pos hP]
        have h3 : 3 ≤ s.length := (begins_len hP).1
        have e2 : (str s).extract 3 s.length = str (s.drop 3) := str_drop s 3 s.length (Nat.le_refl _)
        have h3' : (3 : Int) ≤ (s.length : Int) := by omega
        rw [hP] at hbg
        clear hno hP
        generalize s.drop 3 = rest at *
        generalize styB 2 = sty at *
        go_wp2_with fail
        refine hbg.mono ?_
        rintro e w1 ⟨rfl, hw⟩
        subst hw
        go_wp2
        go_quiet (fail)
        go_wp2
        go_ret2
        show _ ∧ _
        exact ⟨by rw [hS.out] <;> rfl, Below.drewN g4 nq⟩
    · have q1 : wr.cell? ⟨w.heap.size, 3, none⟩ = some (.string (str (styB 3))) := g3.cell rfl
      have hbg := rbegins_any s (styB 3) wr
      cases hP : beginsB s (styB 3)
      · rw [hP] at hbg
        have hno2 : Hid (∀ q, q < 4 → beginsB s (styB q) = false) := fun q hq => by
          rcases Nat.lt_or_ge q 3 with h | h
          · exact hno.out q h
          · obtain rfl : q = 3 := by omega
            exact hP
        clear hno hP
        generalize styB 3 = sty at *
        go_wp2_with fail
        refine hbg.mono ?_
        rintro e w1 ⟨rfl, hw⟩
        subst hw
        go_wp2
        first
          | exact ⟨⟨4, by omega, (by first | rfl | go_num | (congr 1; omega)), (by first | exact Lib.hid rfl | exact Lib.hid trivial), hno2⟩, by simp [intOf] <;> omega⟩
          | (refine ⟨?_, by simp [intOf] <;> omega⟩; (repeat apply Exists.intro); exact ⟨⟨4, by omega, (by first | rfl | go_num | (congr 1; omega)), (by first | exact Lib.hid rfl | exact Lib.hid trivial), hno2⟩, rfl⟩)
      · have hS : Hid (styF s = (3, s.drop 3)) := by
          show _ = _
          unfold styF
          rw [if_neg (by rw [hno.out 0 (by omega)]; decide), if_neg (by rw [hno.out 1 (by omega)]; decide), if_neg (by rw [hno.out 2 (by omega)]; decide), if_pos hP]
        have h3 : 3 ≤ s.length := (begins_len hP).1
        have e2 : (str s).extract 3 s.length = str (s.drop 3) := str_drop s 3 s.length (Nat.le_refl _)
        have h3' : (3 : Int) ≤ (s.length : Int) := by omega
        rw [hP] at hbg
        clear hno hP
        generalize s.drop 3 = rest at *
        generalize styB 3 = sty at *
        go_wp2_with fail
        refine hbg.mono ?_
        rintro e w1 ⟨rfl, hw⟩
        subst hw
        go_wp2
        go_quiet (fail)
        go_wp2
        go_ret2
        show _ ∧ _
        exact ⟨by rw [hS.out] <;> rfl, Below.drewN g4 nq⟩
    · have hS : Hid (styF s = (1, s)) := by
        show _ = _
        unfold styF
        rw [if_neg (by rw [hno.out 0 (by omega)]; decide), if_neg (by rw [hno.out 1 (by omega)]; decide), if_neg (by rw [hno.out 2 (by omega)]; decide), if_neg (by rw [hno.out 3 (by omega)]; decide)]
      clear hno
      go_wp2
      go_ret2
      show _ ∧ _
      exact ⟨by rw [hS.out] <;> rfl, g4⟩
theorem eI20 : Elem Tryd.prog 74 3 (.int .i64 0) 1 8 := ⟨by kernel_rfl, by kernel_rfl, rfl, by decide⟩
theorem seen_zero {sh : Bool} {P S : List UInt8} {L : List Value} (h : L.take ((P.length + 1) * (S.length + 1)) = List.replicate ((P.length + 1) * (S.length + 1)) (.int .i64 0)) : SeenOK sh P S L 0 := by
  intro i k hi hk _ _
  have hlt := iX_lt (P := P) (S := S) hi hk
  refine ⟨0, ?_, .inl rfl⟩
  have h2 : (L.take ((P.length + 1) * (S.length + 1)))[iX S i k]? = some (.int .i64 0) := by
    rw [h, List.getElem?_replicate_of_lt hlt]
  rw [List.getElem?_take_of_lt hlt] at h2
  exact h2
theorem okA_zero {sh : Bool} {P : List UInt8} : tkA sh P 0 = toksF sh (P.length + 1) true P := rfl
set_option maxHeartbeats 2000000 in
theorem rmatch_any (p s : List UInt8) (w : World) (hp : p.length ≤ 100000) (hs : s.length ≤ 100000) :
    Calls Tryd.prog 38 #[.string (str p), .string (str s)] w fun e w' => e = .returned (.tuple #[.bool (matchF p s).1, .int .i64 (matchF p s).2]) ∧ Below w.heap.size w w' := by
  by_cases h100 : 100 < p.length
  · have hR : Hid (matchF p s = (false, 5)) := by show _ = _; unfold matchF readF; rw [if_pos h100]
    have i1 : (100 : Int) < (p.length : Int) := by omega
    clear h100
    go_enter Tryd.func38, Tryd.ntmps38
    go_wp2
    go_ret2
    show _ ∧ _
    exact ⟨by rw [hR.out] <;> rfl, Below.refl _ _⟩
  have i1 : ¬ (100 : Int) < (p.length : Int) := by omega
  have hst := rstyle_any p w (by omega)
  obtain ⟨hk3, hrl⟩ := styF_le p
  have hF : Hid (matchF p s = match (if (styF p).2 = [] then .error 4 else if (styF p).1 < 2 then .ok ((styF p).1, (styF p).2, []) else match toksF ((styF p).1 == 3) ((styF p).2.length + 1) true (styF p).2 with
    | none => .error 4
    | some T => .ok ((styF p).1, (styF p).2, T) : Except Int (Nat × List UInt8 × List Tok)) with
    | .error c => (false, c)
    | .ok (k, rest, T) => (matchK k rest T s, (0 : Int))) := by show _ = _; unfold matchF readF; rw [if_neg h100]; rfl
  have HW : Hid (∀ k rest T, styF p = (k, rest) → 2 ≤ k → rest ≠ [] → toksF (k == 3) (rest.length + 1) true rest = some T → matchF p s = (Hd.mt (k == 3) T s, 0)) := fun k rest T h1 h2 h3 h4 => by
    refine match_mt (rest := rest) ?_ h2
    unfold readF
    rw [if_neg h100, h1, if_neg h3, if_neg (by simp only; omega)]
    simp only
    rw [h4]
  have hrl2 : (styF p).2.length ≤ 100 := by omega
  obtain ⟨⟨k, rest⟩, hkr⟩ : ∃ kr, kr = styF p := ⟨_, rfl⟩
  rw [← hkr] at hst hk3 hrl2 hF HW
  simp only at hst hk3 hrl2 hF
  clear hkr hrl h100
  have HP := Lib.hid (And.intro hp hs)
  have t1 : (str rest).toList = rest := str_toList rest
  by_cases hne : rest = []
  · have hR : Hid (matchF p s = (false, 4)) := by show _ = _; rw [hF.out, if_pos hne]
    have t3 : (str rest).toList.isEmpty = true := by rw [t1, hne]; rfl
    have t4 : (str rest).toList = [] := by rw [t1, hne]
    clear hF HW hne t1
    go_enter Tryd.func38, Tryd.ntmps38
    go_wp2_with fail
    refine hst.mono ?_
    rintro e w1 ⟨rfl, hb1⟩
    go_wp2
    go_ret2
    show _ ∧ _
    exact ⟨by rw [hR.out] <;> rfl, hb1⟩
  have t3 : (str rest).toList.isEmpty = false := by rw [t1]; simpa using hne
  have t4 : ¬ (str rest).toList = [] := by rw [t1]; exact hne
  have k0 : (0 : Int) ≤ (k : Int) := by omega
  by_cases hk2 : k < 2
  · have hR : Hid (matchF p s = (matchK k rest [] s, 0)) := by show _ = _; rw [hF.out, if_neg hne, if_pos hk2]
    have u1 : ((str s).toList == (str rest).toList) = (s == rest) := by rw [str_toList, str_toList]
    clear hF HW hne t1
    rcases (by omega : k = 0 ∨ k = 1) with rfl | rfl
    · have hR2 : Hid (matchF p s = (s == rest, 0)) := hR
      clear hR
      generalize (s == rest) = E at *
      go_enter Tryd.func38, Tryd.ntmps38
      go_wp2_with fail
      refine hst.mono ?_
      rintro e w1 ⟨rfl, hb1⟩
      go_wp2
      go_ret2
      show _ ∧ _
      exact ⟨by rw [hR2.out] <;> rfl, hb1⟩
    · have hR2 : Hid (matchF p s = (s == rest || beginsB s (rest ++ [47]), 0)) := hR
      have h47 := str_slash rest (by omega)
      have hbg := fun w' => rbegins_any s (rest ++ [47]) w'
      clear hR
      generalize (s == rest) = E at *
      generalize beginsB s (rest ++ [47]) = B at *
      cases E
      · go_enter Tryd.func38, Tryd.ntmps38
        go_wp2_with fail
        refine hst.mono ?_
        rintro e w1 ⟨rfl, hb1⟩
        go_wp2_with fail
        refine (hbg _).mono ?_
        rintro e w2 ⟨rfl, hw2⟩
        subst hw2
        go_wp2
        go_ret2
        show _ ∧ _
        exact ⟨by rw [hR2.out] <;> rfl, hb1⟩
      · go_enter Tryd.func38, Tryd.ntmps38
        go_wp2_with fail
        refine hst.mono ?_
        rintro e w1 ⟨rfl, hb1⟩
        go_wp2
        go_ret2
        show _ ∧ _
        exact ⟨by rw [hR2.out] <;> rfl, hb1⟩
  have hcan := fun w' => rcan_path rest w' (by omega)
  have HC : Hid ((toksF (k == 3) (rest.length + 1) true rest).isSome = canN (rest.length + 1) rest) := toks_can _ _ _ (by omega)
  have hkn0 : ((k : Int) == 0) = false := by rw [beq_eq_false_iff_ne]; omega
  have hkn1 : ((k : Int) == 1) = false := by rw [beq_eq_false_iff_ne]; omega
  have hk1 : (1 : Int) < (k : Int) := by omega
  cases hcv : canN (rest.length + 1) rest
  · have hR : Hid (matchF p s = (false, 4)) := by
      show _ = _
      rw [hF.out, if_neg hne, if_neg hk2]
      have h1 := HC.out
      rw [hcv] at h1
      rw [Option.isSome_eq_false_iff] at h1
      rw [Option.isNone_iff_eq_none.1 h1]
    rw [hcv] at hcan
    clear hF HW hne t1 HC hcv
    go_enter Tryd.func38, Tryd.ntmps38
    go_wp2_with fail
    refine hst.mono ?_
    rintro e w1 ⟨rfl, hb1⟩
    go_wp2_with fail
    refine (hcan _).mono ?_
    rintro e w2 ⟨rfl, hw2⟩
    subst hw2
    go_wp2
    go_ret2
    show _ ∧ _
    exact ⟨by rw [hR.out] <;> rfl, hb1⟩
  · rw [hcv] at hcan
    have hok : okA (k == 3) rest 0 := by
      unfold okA
      rw [okA_zero, HC.out, hcv]
    obtain ⟨T, hT⟩ : ∃ T, toksF (k == 3) (rest.length + 1) true rest = some T := Option.isSome_iff_exists.1 (by rw [HC.out, hcv])
    have hR : Hid (matchF p s = (mtA (k == 3) rest s 0 0, 0)) := by
      show _ = _
      rw [HW.out k rest T rfl (by omega) hne hT]
      unfold mtA
      rw [okA_zero, hT]
      rfl
    have e3 : ((k : Int) == 3) = (k == 3) := by
      rw [Bool.eq_iff_iff, beq_iff_eq, beq_iff_eq]; omega
    have hgm := fun (gb sb N c : Nat) (w' : World) (L : List Value) (h1 : GlobAt w' gb sb N c (k == 3) rest s L) (h2 : SeenOK (k == 3) rest s L 0) => gmatch_any (by omega) (by omega) _ 0 0 w' L (Nat.zero_le _) (Nat.zero_le _) rfl hok h1 h2
    have HGM := Lib.hid hgm
    generalize (k == 3) = sh at *
    generalize mtA sh rest s 0 0 = R at *
    clear hF HW hne t1 HC hcv hok hT hgm
    have b1 : IntKind.i64.wrap ((rest.length : Int) + 1) = (rest.length : Int) + 1 := IntWalk.i64_in _ (by omega)
    have b2 : IntKind.i64.wrap ((s.length : Int) + 1) = (s.length : Int) + 1 := IntWalk.i64_in _ (by omega)
    have hN2 : (rest.length + 1) * (s.length + 1) ≤ 101 * 100001 := Nat.mul_le_mul (by omega) (by omega)
    obtain ⟨N, hN⟩ : ∃ N, N = (rest.length + 1) * (s.length + 1) := ⟨_, rfl⟩
    have hN1 : 1 ≤ N := by rw [hN]; exact Nat.mul_pos (by omega) (by omega)
    have b3 : IntKind.i64.wrap (((rest.length : Int) + 1) * ((s.length : Int) + 1)) = (N : Int) := by
      have e : ((rest.length : Int) + 1) * ((s.length : Int) + 1) = (((rest.length + 1) * (s.length + 1) : Nat) : Int) := by simp
      rw [e, IntWalk.i64_in _ (by omega), hN]
    have HN := Lib.hid hN
    have HN2 : Hid (N ≤ 101 * 100001) := by show _ ≤ _; omega
    clear hN hN2
    go_enter Tryd.func38, Tryd.ntmps38
    go_wp2_with fail
    refine hst.mono ?_
    rintro e w1 ⟨rfl, hb1⟩
    go_wp2_with fail
    refine (hcan _).mono ?_
    rintro e w2 ⟨rfl, hw2⟩
    subst hw2
    clear hst hcan
    go_upto_region 11 with (fail)
    have hG0 : Hid (∀ W, W = w1.alloc (.cells #[.string (str rest), .string (str s), .bool sh, .slice none 0 0] 76) → Blk W w1.heap.size 76 [.string (str rest), .string (str s), .bool sh, .slice none 0 0] ∧ Below w1.heap.size w1 W) := by
      rintro W rfl
      exact ⟨Blk.new w1 76 _, (Below.refl _ _).alloc (Nat.le_refl _) _⟩
    generalize hW : w1.alloc (.cells #[.string (str rest), .string (str s), .bool sh, .slice none 0 0] 76) = W at *
    obtain ⟨g1, g2⟩ := hG0.out W rfl
    clear hG0 hW
    have G1 := Lib.hid g1
    have G2 := Lib.hid g2
    clear g1 g2
    go_wp2
    go_loopw [9] (fun i wr => ∃ j : Nat, j ≤ N ∧ i = .int .i64 j ∧ Hid (∃ u, Blk wr w1.heap.size 76 [.string (str rest), .string (str s), .bool sh, u] ∧ wr.ownsRow w1.heap.size 3 1 u j (List.replicate j (.int .i64 0)) ∧ u.ownBlock ≠ some w1.heap.size ∧ Below w1.heap.size w1 wr)) (fun i _ => N - (intOf i).toNat)
    case atStart => exact ⟨0, Nat.zero_le _, rfl, Lib.hid ⟨.slice none 0 0, G1.out, World.ownsRow_nil _ _ _ _, by simp [Value.ownBlock], G2.out⟩⟩
    case round =>
      obtain ⟨j, hj, rfl, hinv⟩ := hrel
      obtain ⟨u, hB, ho, hu, hb⟩ := hinv.out
      obtain ⟨au, cu, rfl, _⟩ := owns_rowN ho (by decide)
      have j0 : (0 : Int) ≤ (j : Int) := by omega
      have jb : IntKind.i64.wrap ((j : Int) + 1) = (j : Int) + 1 := IntWalk.i64_in _ (by have := HN2.out; omega)
      clear G1 G2 hinv
      by_cases hlt : j < N
      · have j1 : (j : Int) < (N : Int) := by omega
        obtain ⟨a', c', w', hrun, ho', hG⟩ := own_app1 (ty := 74) eI20 ho (.int .i64 0) rfl (by unfold maxLen; have := HN2.out; omega) (by have := HN2.out; omega) hb.size
        have c3 : wr.cell? ⟨w1.heap.size, 3, none⟩ = some (.slice au j cu) := hB.cell rfl
        obtain ⟨hB', hu'⟩ := hG.blk hB hu
        have hlt' := World.ownsRow.lt ho
        have hb' : Below w1.heap.size w1 w' := hb.trans (hG.below (base := w1.heap.size) (fun k hk => (hlt' k hk).1) (Nat.le_refl _) hb.size)
        have c3' : w'.cell? ⟨w1.heap.size, 3, none⟩ = some (.slice au j cu) := hB'.cell rfl
        have f3 : w'.frozen? ⟨w1.heap.size, 3, none⟩ = false := hB'.free 3
        have hF : Hid (∃ u, Blk (w'.setCell ⟨w1.heap.size, 3, none⟩ (.slice a' (j + 1) c')) w1.heap.size 76 [.string (str rest), .string (str s), .bool sh, u] ∧ (w'.setCell ⟨w1.heap.size, 3, none⟩ (.slice a' (j + 1) c')).ownsRow w1.heap.size 3 1 u (j + 1) (List.replicate (j + 1) (.int .i64 0)) ∧ u.ownBlock ≠ some w1.heap.size ∧ Below w1.heap.size w1 (w'.setCell ⟨w1.heap.size, 3, none⟩ (.slice a' (j + 1) c'))) := by
          refine ⟨.slice a' (j + 1) c', hB'.set 3 _, ?_, hu', ?_⟩
          · rw [List.replicate_succ']
            obtain ⟨l1, l2⟩ := ho'
            refine ⟨l1, ?_⟩
            rcases l2 with l2 | ⟨g, cap, cur, hv, hg, hh, r⟩
            · exact .inl l2
            · refine .inr ⟨g, cap, cur, hv, hg, ?_, r⟩
              rw [Below.heap_setCell w' _ _ g (fun e => hu' (by rw [hv]; show some g = _; rw [e]))]
              exact hh
          · exact hb'.trans ⟨rfl, rfl, rfl, by simp, fun k hk => Below.heap_setCell w' _ _ k (by show k ≠ w1.heap.size; omega)⟩
        clear hB ho hu hb ho' hG hB' hu' hlt' hb' hlt
        go_wp2_with (at_builtin; refine wpList_append_run hrun rfl rfl rfl rfl ?_)
        first
          | exact ⟨⟨j + 1, by omega, (by first | rfl | go_num | (congr 1; omega)), hF⟩, by simp [intOf] <;> omega⟩
          | (refine ⟨?_, by simp [intOf] <;> omega⟩; (repeat apply Exists.intro); exact ⟨⟨j + 1, by omega, (by first | rfl | go_num | (congr 1; omega)), hF⟩, rfl⟩)
      · have j1 : ¬ (j : Int) < (N : Int) := by omega
        obtain rfl : j = N := by omega
        obtain ⟨_, ⟨_, h0⟩ | ⟨sb, c, ys, hv, hg, hbs, hn, hmx, hy, ht⟩⟩ := owns_open ho
        · omega
        cases hv
        have hAt : GlobAt wr w1.heap.size sb j _ sh rest s ys := ⟨hB, hbs, fun e => hu (by show some sb = _; rw [e]), HN.out, by omega⟩
        have hS0 : SeenOK sh rest s ys 0 := seen_zero (by rw [← HN.out]; exact ht)
        have hgm := HGM.out _ _ _ _ wr ys hAt hS0
        have HB := Lib.hid (And.intro hb hg)
        clear hB ho hu hAt hS0 hb hg hn hmx hy ht hbs HGM HN
        go_wp2_with fail
        refine hgm.mono ?_
        rintro e w3 ⟨rfl, hI⟩
        go_wp2
        go_ret2
        show _ ∧ _
        refine ⟨by rw [hR.out] <;> rfl, ?_⟩
        obtain ⟨L', _, _, _, hgr⟩ := hI
        have h1 : Below w1.heap.size wr w3 := ⟨hgr.os, hgr.tape, hgr.output, hgr.size, fun k hk => hgr.block k (Nat.lt_of_lt_of_le hk HB.out.1.size) (fun e => by injection e with e; have := HB.out.2; omega)⟩
        exact Gr.trans hb1 (HB.out.1.trans h1)
end Go.Proofs.YtcanlgcifnjfaaaDoor
