/- Layer 20: PathChecks. -/
import Derived.Test.YtcanlgcifnjfaaaDoorP6
import Derived.Test.YtcanlgcifnjfaaaDoorP11
set_option maxRecDepth 20000
namespace Go.Proofs.YtcanlgcifnjfaaaDoor
open Go.RowKit Go.Hd Go.ChangeShapes Go.WideShapes Go.ChangeAt

set_option maxHeartbeats 4000000 in
theorem pchecks_law {W : World} (ls lt : List UInt8) :
    Calls Tryd.prog 5 #[.string (str ls), .string (str lt)] W fun e W' => e = .returned (.bool true) ∧ Below W.heap.size W W' := by
  have hss := fun w' => short_any ls 300 w' (by decide)
  have hst := fun w' => short_any lt 300 w' (by decide)
  have hsl : (ls.take 300).length ≤ 300 := by simp; omega
  have htl : (lt.take 300).length ≤ 300 := by simp; omega
  generalize ls.take 300 = s at *
  generalize lt.take 300 = t at *
  have hsl' : s.length ≤ 1000000 := by omega
  have htl' : t.length ≤ 1000000 := by omega
  have his := fun w' => ris_any s w' hsl'
  have hit := fun w' => ris_any t w' htl'
  have hparts := fun w' => parts_any s w' hsl'
  have hparent := fun w' => parent_any s w' hsl'
  have hclean := fun w' => clean_any s w' hsl'
  have hrclean := fun w' => rclean_any s w' hsl'
  have hpc := fun w' => rpieces_any s w' hsl'
  have hck := fun w' => check_any s w' hsl'
  have hin := fun w' => inside_any s t w' hsl' htl'
  have hless := fun w' => less_any s t w' hsl' htl'
  have hrless := fun w' => rless_any s t w' hsl' htl'
  have hlv := fun w' => lives20_any w'
  have hbeg := fun w' => rbegins_any t (s ++ [47]) w'
  have h47 := str_slash s hsl'
  have HIN : Hid (insideF s t = (checkF s == 0 && (checkF t == 0) && (s == t || beginsB t (s ++ [47])))) := rfl
  have HP : Hid (parentF s = if checkF s = 0 ∧ 1 < (cutP s).length then (joinP (cutP s).dropLast, true) else ([], false)) := rfl
  have HE : Hid (((str s).toList = (str t).toList) ↔ s = t) := by show _ ↔ _; rw [str_toList, str_toList]
  have hcl : (cutP s).length ≤ 301 := Nat.le_trans (cutP_len s) (by omega)
  have hjl : (joinP (cutP s).dropLast).length ≤ 2000000 := by
    have := joinP_take (cutP s) ((cutP s).length - 1)
    rw [← List.dropLast_eq_take, joinP_cutP] at this
    omega
  have HL := Lib.hid (And.intro hcl hjl)
  clear hsl htl hsl' htl' hcl hjl
  have hk : Hid ((checkF s = 0 ∧ (checkF s == 0) = true) ∨ (checkF s = 8 ∧ (checkF s == 0) = false)) := by
    rcases checkF_cases s with h | h
    · exact .inl ⟨h, by rw [h]; rfl⟩
    · exact .inr ⟨h, by rw [h]; rfl⟩
  have he : Hid (((cleanF s).2 = 0 ∧ ((cleanF s).2 == 0) = true) ∨ ((cleanF s).2 = 8 ∧ ((cleanF s).2 == 0) = false)) := by
    show _ ∨ _
    unfold cleanF
    split
    · exact .inl ⟨rfl, rfl⟩
    · exact .inr ⟨rfl, rfl⟩
  generalize hc1 : (cleanF s).1 = c at *
  generalize hc2 : ((cleanF s).2 == 0) = E at *
  generalize hc3 : (cleanF s).2 = ev at *
  clear hc1 hc2 hc3
  generalize hc4 : (checkF s == 0) = R at *
  generalize hc6 : (checkF t == 0) = R2 at *
  clear hc6 hc4
  have hks : Hid ((R = true → (if checkF s = 0 then cutP s else []) = cutP s) ∧ (R = false → (if checkF s = 0 then cutP s else ([] : List (List UInt8))) = [])) := by
    show _ ∧ _
    rcases hk.out with ⟨h1, h2⟩ | ⟨h1, h2⟩
    · exact ⟨fun _ => if_pos h1, fun h => absurd (h2.symm.trans h) (by decide)⟩
    · exact ⟨fun h => absurd (h2.symm.trans h) (by decide), fun _ => if_neg (by rw [h1]; decide)⟩
  have hparts2 := fun w' => (hparts w').mono (fun e w2 (h : PartsP w' s e w2) => h)
  unfold PartsP at hparts2
  clear hparts
  have hPP : Hid ((R = true ∧ 1 < (cutP s).length ∧ parentF s = (joinP (cutP s).dropLast, true)) ∨ (R = true ∧ ¬ 1 < (cutP s).length ∧ parentF s = ([], false)) ∨ (R = false ∧ parentF s = ([], false))) := by
    show _ ∨ _ ∨ _
    rcases hk.out with ⟨h1, h2⟩ | ⟨h1, h2⟩
    · by_cases hl : 1 < (cutP s).length
      · exact .inl ⟨h2, hl, by rw [HP.out, if_pos ⟨h1, hl⟩]⟩
      · exact .inr (.inl ⟨h2, hl, by rw [HP.out, if_neg (fun h => hl h.2)]⟩)
    · exact .inr (.inr ⟨h2, by rw [HP.out, if_neg (fun h => absurd (h1 ▸ h.1) (by decide))]⟩)
  clear HP
  generalize parentF s = pf at *
  obtain ⟨p1, p2⟩ := pf
  generalize hc7 : (if checkF s = 0 then cutP s else []) = KS at *
  clear hc7
  generalize checkF s = k at *
  generalize cutP s = ps at *
  generalize insideF s t = IN at *
  generalize lessF s t = LE at *
  go_enter Tryd.func5, Tryd.ntmps5
  go_wp2_with fail
  refine (hss _).mono ?_
  rintro ee w0 ⟨rfl, rfl⟩
  go_wp2_with fail
  refine (hst _).mono ?_
  rintro ee w0 ⟨rfl, rfl⟩
  clear hss hst
  go_wp2_with fail
  refine (his _).mono ?_
  rintro ee w1 ⟨rfl, hb1⟩
  go_wp2_with fail
  refine (hparts2 _).mono ?_
  rintro ee w2 ⟨⟨a, ca, ks, rfl, hrow, hkk⟩, hb⟩
  subst hkk
  have hb2 := Gr.trans hb1 hb
  clear hb1 hb hparts2 his
  go_wp2_with fail
  refine (hparent _).mono ?_
  rintro ee w3 ⟨rfl, hb⟩
  have hrow3 := hrow.below hb
  have hb3 := Gr.trans hb2 hb
  clear hb2 hb hrow hparent
  go_wp2_with fail
  refine (hclean _).mono ?_
  rintro ee w4 ⟨rfl, hb⟩
  have hrow4 := hrow3.below hb
  have hb4 := Gr.trans hb3 hb
  clear hb3 hb hrow3 hclean
  go_wp2_with fail
  refine (hrclean _).mono ?_
  rintro ee w5 ⟨rfl, hb⟩
  have hrow5 := hrow4.below hb
  have hb5 := Gr.trans hb4 hb
  clear hb4 hb hrow4 hrclean
  go_wp2_with fail
  refine (hpc _).mono ?_
  rintro ee w6 ⟨⟨u, rfl, hka⟩, hb⟩
  obtain ⟨ak, ck, rfl, hck1, _, hrow2, _⟩ := owns_rowN hka (by decide)
  have hrow6 := hrow5.below hb
  have hb6 := Gr.trans hb5 hb
  clear hb5 hb hrow5 hpc hka
  go_upto_region 8 with (fail)
  go_cut [73] (fun u wx => u = .bool false ∧ Below W.heap.size W wx ∧ Hid (Row wx ak (ps.map strV)))
  case first =>
    clear hit hin hless hrless hlv hbeg h47 HIN HE hPP
    have hks := hks.out
    rcases hk.out with ⟨rfl, rfl⟩ | ⟨rfl, rfl⟩
    · obtain rfl := hks.1 rfl
      clear hks hk
      have hsm := fun w' (h1 : Row w' a (ks.map strV)) (h2 : Row w' ak (ks.map strV)) => rsame6_any (c := ca) (d := ck) rfl rfl h1 h2 (Nat.le_trans HL.out.1 (by decide))
      rcases he.out with ⟨rfl, rfl⟩ | ⟨rfl, rfl⟩
      all_goals
        go_wp2_with fail
        refine (hck _).mono ?_
        rintro ee w7 ⟨rfl, hb⟩
        have hr1 := hrow6.below hb
        have hr2 := hrow2.below hb
        have hb7 := Gr.trans hb6 hb
        clear hck hb hrow6 hrow2 hb6
        go_wp2_with fail
        refine (errno_any _ _).mono ?_
        rintro ee w8 ⟨rfl, rfl⟩
        go_wp2_with fail
        refine (errno_any _ _).mono ?_
        rintro ee w8 ⟨rfl, rfl⟩
        go_wp2_with fail
        refine (hsm _ hr1 hr2).mono ?_
        rintro ee w8 ⟨rfl, n8, rfl⟩
        rw [beq_self_eq_true]
        go_wp2
        go_meet
        exact ⟨rfl, Below.drewN hb7 _, Row.drewN hr2 _⟩
    · obtain rfl := hks.2 rfl
      clear hks hk
      rcases he.out with ⟨rfl, rfl⟩ | ⟨rfl, rfl⟩
      all_goals
        go_wp2_with fail
        refine (hck _).mono ?_
        rintro ee w7 ⟨rfl, hb⟩
        have hr1 := hrow6.below hb
        have hr2 := hrow2.below hb
        have hb7 := Gr.trans hb6 hb
        clear hck hb hrow6 hrow2 hb6
        go_wp2_with fail
        refine (errno_any _ _).mono ?_
        rintro ee w8 ⟨rfl, rfl⟩
        go_wp2_with fail
        refine (errno_any _ _).mono ?_
        rintro ee w8 ⟨rfl, rfl⟩
        go_wp2
        go_meet
        exact ⟨rfl, hb7, hr2⟩
  case rest =>
    obtain ⟨rfl, hb7, hrw⟩ := hcut
    clear hks hrow6 he hck hrow2
    go_upto_region 10 with (fail)
    go_cut [102] (fun u wx => u = .bool false ∧ Below W.heap.size W wx)
    case first =>
      clear hit hin hless hrless hlv hbeg h47 HIN HE hk
      rcases hPP.out with ⟨rfl, hl, hq⟩ | ⟨rfl, hl, hq⟩ | ⟨rfl, hq⟩
      · injection hq with hq1 hq2
        subst hq1 hq2
        have hjj := HL.out.2
        have hl2 : ps.dropLast.length ≤ 1000001 := by have := HL.out.1; simp; omega
        have hl3 : ps.length - 1 = ps.dropLast.length := by simp
        have hrd := hrw.out.take (ps.length - 1)
        rw [← List.map_take, ← List.dropLast_eq_take] at hrd
        have hjo := fun (c' : Nat) w' (h1 : Row w' ak (ps.dropLast.map strV)) => rjoined_any (c := c') hl3 h1 hjj hl2
        have i0 : (1 : Int) < (ps.length : Int) := by omega
        have i1 : IntKind.i64.wrap ((ps.length : Int) - 1) = ((ps.length - 1 : Nat) : Int) := by rw [IntWalk.i64_in _ (by have := HL.out.1; omega)]; omega
        have i2 : ps.length - 1 ≤ ck := by omega
        generalize joinP ps.dropLast = J at *
        generalize ps.length - 1 = m at *
        clear hPP hl3
        go_wp2_with fail
        refine (hjo _ _ hrd).mono ?_
        rintro ee wj ⟨rfl, rfl⟩
        go_wp2
        go_meet
        exact ⟨rfl, hb7⟩
      · injection hq with hq1 hq2
        subst hq1 hq2
        have i0 : ¬ (1 : Int) < (ps.length : Int) := by omega
        have e0 : (str ([] : List UInt8)).toList = [] := str_toList []
        have e1 : (str ([] : List UInt8)).toList.isEmpty = true := by rw [e0]; rfl
        clear hPP
        go_wp2
        go_meet
        exact ⟨rfl, hb7⟩
      · injection hq with hq1 hq2
        subst hq1 hq2
        have e0 : (str ([] : List UInt8)).toList = [] := str_toList []
        have e1 : (str ([] : List UInt8)).toList.isEmpty = true := by rw [e0]; rfl
        clear hPP
        go_wp2
        go_meet
        exact ⟨rfl, hb7⟩
    case rest =>
      obtain ⟨rfl, hb8⟩ := hcut
      clear hb6 hb7 hrw hPP
      go_upto_region 12 with (fail)
      go_cut [14] (fun u wx => u = .bool IN ∧ Below W.heap.size W wx)
      case first =>
        clear hin hless hrless hlv hk
        rcases Bool.eq_false_or_eq_true R with rfl | rfl
        · go_wp2_with fail
          refine (hit _).mono ?_
          rintro ee w9 ⟨rfl, hb⟩
          have hb9 := Gr.trans hb8 hb
          clear hit hb hb8
          rcases Bool.eq_false_or_eq_true R2 with rfl | rfl
          · by_cases hst : s = t
            · have t1 : ((str s).toList == (str t).toList) = true := by rw [beq_iff_eq]; exact HE.out.2 hst
              have hI : Hid (IN = true) := by show _ = _; rw [HIN.out, beq_iff_eq.2 hst] <;> rfl
              clear hst HIN HE
              go_wp2
              go_meet
              exact ⟨by rw [hI.out] <;> rfl, hb9⟩
            · have t1 : ((str s).toList == (str t).toList) = false := by rw [beq_eq_false_iff_ne]; exact fun e => hst (HE.out.1 e)
              have hI : Hid (IN = beginsB t (s ++ [47])) := by show _ = _; rw [HIN.out, beq_eq_false_iff_ne.2 hst] <;> rfl
              clear hst HIN HE
              go_wp2_with fail
              refine (hbeg _).mono ?_
              rintro ee wa ⟨rfl, rfl⟩
              go_wp2
              go_meet
              exact ⟨by rw [hI.out] <;> rfl, hb9⟩
          · have hI : Hid (IN = false) := by show _ = _; rw [HIN.out] <;> rfl
            clear HIN HE
            go_wp2
            go_meet
            exact ⟨by rw [hI.out] <;> rfl, hb9⟩
        · have hI : Hid (IN = false) := by show _ = _; rw [HIN.out] <;> rfl
          clear HIN HE
          go_wp2
          go_meet
          exact ⟨by rw [hI.out] <;> rfl, hb8⟩
      case rest =>
        obtain ⟨rfl, hb9⟩ := hcut
        clear hb8 hit hbeg h47 HIN HE hk
        go_wp2_with fail
        refine (hin _).mono ?_
        rintro ee wa ⟨rfl, hb⟩
        have hba := Gr.trans hb9 hb
        clear hin hb hb9
        go_wp2_with fail
        refine (hless _).mono ?_
        rintro ee wb ⟨rfl, nb, rfl⟩
        have hbb := Below.drewN hba nb
        clear hless hba
        go_wp2_with fail
        refine (hrless _).mono ?_
        rintro ee wc ⟨rfl, hb⟩
        have hbc := Gr.trans hbb hb
        clear hrless hb hbb
        go_wp2_with fail
        refine (hlv _).mono ?_
        rintro ee wd ⟨rfl, hb⟩
        have hbd := Gr.trans hbc hb
        go_wp2
        go_ret
        exact ⟨rfl, hbd⟩
theorem pathChecks_calls {H : Type} {enc : TypeId × Value → H} {W : World} {base : Nat} {v0 v1 : Value} {d0 d1 : DataW H} {p0 p1 : List MemPlace}
    (o0 : Value.okWide Tryd.prog W .any base 9 v0) (h0 : DataW.Trod enc Tryd.prog W 0 (fun _ => true) true 9 v0 d0 p0)
    (o1 : Value.okWide Tryd.prog W .any base 9 v1) (h1 : DataW.Trod enc Tryd.prog W 0 (fun _ => true) true 9 v1 d1 p1) :
    Calls Tryd.prog 5 #[v0, v1] W fun e W' => e = .returned (.bool true) ∧ Below W.heap.size W W' := by
  obtain ⟨ls, rfl, _⟩ := open_text Tryd.underlying9 o0 h0
  obtain ⟨lt, rfl, _⟩ := open_text Tryd.underlying9 o1 h1
  exact pchecks_law ls lt
end Go.Proofs.YtcanlgcifnjfaaaDoor
