/- Layer 20: the document's Select; PathSelects. -/
import Derived.Test.YtcanlgcifnjfaaaDoorPt23
import Derived.Test.YtcanlgcifnjfaaaDoorOpenT
set_option maxRecDepth 20000
namespace Go.Proofs.YtcanlgcifnjfaaaDoor
open Go.RowKit Go.Hd Go.ChangeShapes Go.WideShapes Go.ChangeAt

set_option maxHeartbeats 4000000 in
theorem rselect_any {a : Option Addr} {n c : Nat} {ks : List (List UInt8)} {s : List UInt8} {w : World} (hn : n = ks.length) (hr : Row w a (ks.map strV)) (hl : ∀ x ∈ ks, x.length ≤ 100) (hs : s.length ≤ 100) (hk : ks.length ≤ 100) :
    Calls Tryd.prog 29 #[.slice a n c, .string (str s)] w fun e w' => e = .returned (.tuple #[.bool (selF ks s).1, .int .i64 (selF ks s).2]) ∧ Below w.heap.size w w' := by
  subst hn
  have HH := Lib.hid (And.intro hl (And.intro hs hk))
  have HS : Hid (selF ks s = if ks.all ruleB = true then (if errL s ks ≠ 0 then (false, errL s ks) else (pickL s ks, 0)) else (false, 4)) := by show _ = _; unfold selF; rw [selG_eq]
  generalize selF ks s = R at *
  clear hl hs hk
  go_enter Tryd.func29, Tryd.ntmps29
  go_upto_block 0 with (fail)
  go_cut [6] (fun _ wx => ks.all ruleB = true ∧ wx = w)
  case first =>
    go_wp2
    go_loopw [6] (fun i wr => ∃ j : Nat, j ≤ ks.length ∧ i = .int .i64 j ∧ Hid ((ks.take j).all ruleB = true) ∧ Hid (wr = w)) (fun i _ => ks.length - (intOf i).toNat)
    case atStart => exact ⟨0, Nat.zero_le _, rfl, Lib.hid rfl, Lib.hid rfl⟩
    case round =>
      obtain ⟨j, hj, rfl, hall, hwr⟩ := hrel
      have hwr := hwr.out
      subst hwr
      have j0 : (0 : Int) ≤ (j : Int) := by omega
      have jb : IntKind.i64.wrap ((j : Int) + 1) = (j : Int) + 1 := IntWalk.i64_in _ (by have := HH.out.2.2; omega)
      by_cases hlt : j < ks.length
      · have q1 : wr.cell? ((hd a).add j) = some (strV ks[j]) := hr.cell (by simp [hlt])
        have s1 : a.isSome = true := hr.isSome (i := j) (by simp; omega)
        unfold strV at q1
        have j1 : (j : Int) < (ks.length : Int) := by omega
        have hA : Hid (ruleB ks[j] = true → (ks.take (j + 1)).all ruleB = true) := fun h => by
          rw [List.take_succ_eq_append_getElem hlt, List.all_append, hall.out]; simp [h]
        have hN : Hid (ruleB ks[j] = false → R = (false, 4)) := fun h => by
          rw [HS.out, if_neg]
          intro h2
          rw [List.all_eq_true.1 h2 _ (List.getElem_mem hlt)] at h; cases h
        have hv := Lib.hid (ruleB_begins ks[j])
        have hb1 := fun w' => rbegins_any ks[j] [43, 32] w'
        have hb2 := fun w' => rbegins_any ks[j] [45, 32] w'
        rw [show str [43, 32] = ⟨#[43, 32]⟩ from rfl] at hb1
        rw [show str [45, 32] = ⟨#[45, 32]⟩ from rfl] at hb2
        generalize ks[j] = r at *
        generalize beginsB r [43, 32] = b1 at *
        generalize beginsB r [45, 32] = b2 at *
        clear hall HS
        cases b1
        · cases b2
          · have hR := Lib.hid (hN.out hv.out)
            clear hA hN hv
            go_wp2_with fail
            refine (hb1 _).mono ?_
            rintro e w1 ⟨rfl, hw1⟩
            subst hw1
            go_wp2_with fail
            refine (hb2 _).mono ?_
            rintro e w1 ⟨rfl, hw1⟩
            subst hw1
            go_wp2
            go_ret2
            show _ ∧ _
            exact ⟨by rw [hR.out] <;> rfl, Below.refl _ _⟩
          · have hA2 := Lib.hid (hA.out hv.out)
            clear hA hN hv
            go_wp2_with fail
            refine (hb1 _).mono ?_
            rintro e w1 ⟨rfl, hw1⟩
            subst hw1
            go_wp2_with fail
            refine (hb2 _).mono ?_
            rintro e w1 ⟨rfl, hw1⟩
            subst hw1
            go_wp2
            first
              | exact ⟨⟨j + 1, by omega, (by first | rfl | go_num | (congr 1; omega)), hA2, (by first | exact Lib.hid rfl | exact Lib.hid trivial)⟩, by simp [intOf] <;> omega⟩
              | (refine ⟨?_, by simp [intOf] <;> omega⟩; (repeat apply Exists.intro); exact ⟨⟨j + 1, by omega, (by first | rfl | go_num | (congr 1; omega)), hA2, (by first | exact Lib.hid rfl | exact Lib.hid trivial)⟩, rfl⟩)
        · have hA2 := Lib.hid (hA.out hv.out)
          clear hA hN hv
          go_wp2_with fail
          refine (hb1 _).mono ?_
          rintro e w1 ⟨rfl, hw1⟩
          subst hw1
          go_wp2
          first
            | exact ⟨⟨j + 1, by omega, (by first | rfl | go_num | (congr 1; omega)), hA2, (by first | exact Lib.hid rfl | exact Lib.hid trivial)⟩, by simp [intOf] <;> omega⟩
            | (refine ⟨?_, by simp [intOf] <;> omega⟩; (repeat apply Exists.intro); exact ⟨⟨j + 1, by omega, (by first | rfl | go_num | (congr 1; omega)), hA2, (by first | exact Lib.hid rfl | exact Lib.hid trivial)⟩, rfl⟩)
      · have hall2 : Hid (ks.all ruleB = true) := by
          have h := hall.out
          rw [show j = ks.length by omega, List.take_length] at h
          exact h
        have j1 : ¬ (j : Int) < (ks.length : Int) := by omega
        clear hall
        go_wp2
        go_meet
        exact ⟨hall2.out, rfl⟩
  case rest =>
    obtain ⟨hall, hwc⟩ := hcut
    subst hwc
    have HR : Hid ((if errL s ks ≠ 0 then (false, errL s ks) else (pickL s ks, 0)) = R) := by show _ = _; rw [HS.out, if_pos hall]
    have HA := Lib.hid (List.all_eq_true.1 hall)
    clear hall HS
    have HE0 : Hid (errL s (ks.drop 0) = errL s ks) := rfl
    have HP0 : Hid (pickL s (ks.drop 0) = pickL s ks) := rfl
    generalize errL s ks = E at *
    generalize pickL s ks = PK at *
    go_wp2
    go_loopw [7] (fun i wr => ∃ j : Nat, j ≤ ks.length ∧ i = .int .i64 j ∧ Hid (errL s (ks.drop j) = E) ∧ Hid (Below wc.heap.size wc wr)) (fun i _ => ks.length - (intOf i).toNat)
    case atStart => exact ⟨0, Nat.zero_le _, rfl, HE0, Lib.hid (Below.refl _ _)⟩
    case round =>
      obtain ⟨j, hj, rfl, hinv, hb⟩ := hrel
      have hR := hinv.out
      have j0 : (0 : Int) ≤ (j : Int) := by omega
      have jb : IntKind.i64.wrap ((j : Int) + 1) = (j : Int) + 1 := IntWalk.i64_in _ (by have := HH.out.2.2; omega)
      clear HE0 hinv
      by_cases hlt : j < ks.length
      · have hr2 := hr.below hb.out
        have q1 : wr.cell? ((hd a).add j) = some (strV ks[j]) := hr2.cell (by simp [hlt])
        have s1 : a.isSome = true := hr2.isSome (i := j) (by simp; omega)
        unfold strV at q1
        have j1 : (j : Int) < (ks.length : Int) := by omega
        rw [List.drop_eq_getElem_cons hlt] at hR
        have hru := HA.out _ (List.getElem_mem hlt)
        have hlr := HH.out.1 _ (List.getElem_mem hlt)
        generalize ks[j] = r at *
        have hm := rmatch_any (r.drop 2) s wr (by simp; omega) (by have := HH.out.2.1; omega)
        have hG : Hid ((if (matchF (r.drop 2) s).2 ≠ 0 then (matchF (r.drop 2) s).2 else errL s (ks.drop (j + 1))) = E) := hR
        have l2 : (2 : Int) ≤ (((str r).size : Nat) : Int) := by
          rw [str_size]
          obtain ⟨x, y, r', rfl⟩ := ruleB_two hru
          simp; omega
        have e2 : (str r).extract 2 (str r).size = str (r.drop 2) := str_drop _ _ _ (by rw [str_size]; exact Nat.le_refl _)
        generalize r.drop 2 = rr at *
        generalize matchF rr s = m at *
        obtain ⟨m1, m2⟩ := m
        clear hR hr2 hlr hru
        generalize str r = S at *
        by_cases hm2 : m2 = 0
        · subst hm2
          have hG2 : Hid (errL s (ks.drop (j + 1)) = E) := by have := hG.out; rwa [if_neg (by simp)] at this
          clear hG
          go_wp2_with fail
          refine hm.mono ?_
          rintro e w2 ⟨rfl, hb2⟩
          have hb3 := Lib.hid (Gr.trans hb.out hb2)
          clear hm hb hb2 q1
          go_wp2
          first
            | exact ⟨⟨j + 1, by omega, (by first | rfl | go_num | (congr 1; omega)), hG2, hb3⟩, by simp [intOf] <;> omega⟩
            | (refine ⟨?_, by simp [intOf] <;> omega⟩; (repeat apply Exists.intro); exact ⟨⟨j + 1, by omega, (by first | rfl | go_num | (congr 1; omega)), hG2, hb3⟩, rfl⟩)
        · have hG2 : Hid (m2 = E) := by have := hG.out; rwa [if_pos hm2] at this
          have e3 : (m2 == 0) = false := by simpa using hm2
          have e4 : (m2 != 0) = true := by simpa using hm2
          have hR2 : Hid ((false, m2) = R) := by show _ = _; rw [← HR.out, ← hG2.out, if_pos hm2]
          clear hG hm2 hG2
          go_wp2_with fail
          refine hm.mono ?_
          rintro e w2 ⟨rfl, hb2⟩
          have hb3 := Lib.hid (Gr.trans hb.out hb2)
          clear hm hb hb2 q1
          go_wp2
          go_ret2
          show _ ∧ _
          exact ⟨by rw [← hR2.out] <;> rfl, hb3.out⟩
      · have hE : E = 0 := by
          rw [← hR, List.drop_eq_nil_of_le (by omega)]; rfl
        have HR2 : Hid ((PK, (0 : Int)) = R) := by
          show _ = _
          rw [← HR.out, if_neg (by rw [hE]; simp)]
        have j1 : ¬ (j : Int) < (ks.length : Int) := by omega
        clear hR HR hE
        go_wp2
        go_loopw [10] (fun i wq => ∃ j : Nat, j ≤ ks.length ∧ i = .int .i64 j ∧ Hid (pickL s (ks.drop j) = PK) ∧ Hid (Below wc.heap.size wc wq)) (fun i _ => ks.length - (intOf i).toNat)
        case atStart => exact ⟨0, Nat.zero_le _, rfl, HP0, hb⟩
        case round =>
          obtain ⟨j, hj, rfl, hinv, hb⟩ := hrel
          have hR := hinv.out
          have j0 : (0 : Int) ≤ (j : Int) := by omega
          have jb : IntKind.i64.wrap ((j : Int) + 1) = (j : Int) + 1 := IntWalk.i64_in _ (by have := HH.out.2.2; omega)
          clear HP0 hinv
          by_cases hlt : j < ks.length
          · have hr2 := hr.below hb.out
            have hba : Hid (∀ w', Below wc.heap.size wc w' → w'.cell? ((hd a).add j) = some (.string (str ks[j]))) := fun w' h => (hr.below h).cell (by simp [hlt, strV])
            have q1 := hba.out _ hb.out
            have s1 : a.isSome = true := hr2.isSome (i := j) (by simp; omega)
            have j1 : (j : Int) < (ks.length : Int) := by omega
            rw [List.drop_eq_getElem_cons hlt] at hR
            have hru := HA.out _ (List.getElem_mem hlt)
            have hlr := HH.out.1 _ (List.getElem_mem hlt)
            generalize ks[j] = r at *
            have hm := fun w' => rmatch_any (r.drop 2) s w' (by simp; omega) (by have := HH.out.2.1; omega)
            have hG : Hid ((if (matchF (r.drop 2) s).1 = true then r.head? == some 43 else pickL s (ks.drop (j + 1))) = PK) := hR
            obtain ⟨x, y, r', rfl⟩ := ruleB_two hru
            · have hzr : (str (x :: y :: r')).size = (x :: y :: r').length := str_size _
              have e2 : (str (x :: y :: r')).extract 2 (str (x :: y :: r')).size = str ((x :: y :: r').drop 2) := str_drop _ _ _ (by rw [hzr]; exact Nat.le_refl _)
              have l2 : (2 : Int) ≤ (((str (x :: y :: r')).size : Nat) : Int) := by rw [hzr]; simp; omega
              have z0 : 0 < (str (x :: y :: r')).size := by rw [hzr]; simp
              have z0' : (0 : Int) < (((str (x :: y :: r')).size : Nat) : Int) := by omega
              have t1 := byte_num z0 (by simp) 43 43 rfl
              change _ = (x == 43) at t1
              have hh : ((x :: y :: r').head? == some 43) = (x == 43) := by
                show ((some x : Option UInt8) == some 43) = _
                rfl
              rw [hh] at hG
              generalize (x :: y :: r').drop 2 = rr at *
              generalize matchF rr s = m at *
              obtain ⟨m1, m2⟩ := m
              clear hR hr2 hzr hlr hh
              generalize str (x :: y :: r') = S at *
              generalize (x == 43) = b1 at *
              cases m1
              · have hG2 : Hid (pickL s (ks.drop (j + 1)) = PK) := hG.out
                clear hG
                go_wp2_with fail
                refine (hm _).mono ?_
                rintro e w2 ⟨rfl, hb2⟩
                have hb3 := Lib.hid (Gr.trans hb.out hb2)
                clear hm hb hb2 q1
                go_wp2
                first
                  | exact ⟨⟨j + 1, by omega, (by first | rfl | go_num | (congr 1; omega)), hG2, hb3⟩, by simp [intOf] <;> omega⟩
                  | (refine ⟨?_, by simp [intOf] <;> omega⟩; (repeat apply Exists.intro); exact ⟨⟨j + 1, by omega, (by first | rfl | go_num | (congr 1; omega)), hG2, hb3⟩, rfl⟩)
              · have hR2 : Hid ((b1, (0 : Int)) = R) := by
                  show _ = _
                  rw [← HR2.out]
                  have := hG.out
                  rw [if_pos rfl] at this
                  rw [this]
                clear hG
                go_wp2_with fail
                refine (hm _).mono ?_
                rintro e w2 ⟨rfl, hb2⟩
                have hb3 := Lib.hid (Gr.trans hb.out hb2)
                have q1 := hba.out _ hb3.out
                clear hm hb hb2 hba
                go_wp2
                go_ret2
                show _ ∧ _
                exact ⟨by rw [← hR2.out] <;> first | rfl | rw [t1], hb3.out⟩
          · have hP : Hid ((true, (0 : Int)) = R) := by
              show _ = _
              rw [← HR2.out, ← hR, List.drop_eq_nil_of_le (by omega)]; rfl
            have j1 : ¬ (j : Int) < (ks.length : Int) := by omega
            clear hR
            go_wp2
            go_ret2
            show _ ∧ _
            exact ⟨by rw [← hP.out] <;> rfl, hb.out⟩
set_option maxHeartbeats 2000000 in
theorem pselects_law {W : World} {a : Option Addr} {c : Nat} {ks : List (List UInt8)} (lt : List UInt8) (hr : Row W a (ks.map strV)) (hkm : ks.length ≤ maxLen) :
    Calls Tryd.prog 9 #[.slice a ks.length c, .string (str lt)] W fun e W' => e = .returned (.bool true) ∧ Below W.heap.size W W' := by
  have hst := fun w' => short_any lt 60 w' (by decide)
  have lt1 : (lt.take 60).length ≤ 60 := by simp; omega
  generalize lt.take 60 = s at *
  have hlv := fun w' => lives20_any w'
  have HK := Lib.hid hkm
  clear hkm
  go_enter Tryd.func9, Tryd.ntmps9
  go_wp2
  go_loopw [5, 6] (fun u i wr => ∃ j : Nat, j ≤ ks.length ∧ j ≤ 6 ∧ i = .int .i64 j ∧ Hid (∃ ls : List (List UInt8), ls.length = j ∧ (∀ x ∈ ls, x.length ≤ 60) ∧ KsAt W.heap.size wr u ls) ∧ Hid (Below W.heap.size W wr)) (fun _ i _ => 6 - (intOf i).toNat)
  case atStart => exact ⟨0, Nat.zero_le _, Nat.zero_le _, rfl, Lib.hid ⟨[], rfl, by simp, World.ownsRow_nil _ _ _ _⟩, Lib.hid (Below.refl _ _)⟩
  case round =>
    obtain ⟨j, hj, hj6, rfl, hinv, hb⟩ := hrel
    obtain ⟨ls, hl, hx, hK⟩ := hinv.out
    subst hl
    clear hinv
    have j0 : (0 : Int) ≤ (ls.length : Int) := by omega
    have jb : IntKind.i64.wrap ((ls.length : Int) + 1) = (ls.length : Int) + 1 := IntWalk.i64_in _ (by omega)
    obtain ⟨ak, ck, rfl, _, _, hrow, _⟩ := owns_rowN hK (by decide)
    by_cases h6 : ls.length < ks.length ∧ ls.length < 6
    · obtain ⟨hlt, hlt6⟩ := h6
      have hr2 := hr.below hb.out
      have q1 : wr.cell? ((hd a).add ls.length) = some (strV ks[ls.length]) := hr2.cell (by simp [hlt])
      have s1 : a.isSome = true := hr2.isSome (i := ls.length) (by simp; omega)
      unfold strV at q1
      have j1 : (ls.length : Int) < (ks.length : Int) := by omega
      have j2 : (ls.length : Int) < 6 := by omega
      have hsh := short_any ks[ls.length] 60 wr (by decide)
      have hpl : (ks[ls.length].take 60).length ≤ 60 := by simp; omega
      generalize ks[ls.length].take 60 = p at *
      generalize ks[ls.length] = r at *
      obtain ⟨a', c', w', hrun, ho', hG⟩ := own_app1 (ty := 31) eS hK (.string (str p)) rfl (by unfold maxLen; omega) (by omega) hb.out.size
      have hlt' := World.ownsRow.lt hK
      have hb' : Hid (Below W.heap.size W w') := hb.out.trans (hG.below (base := W.heap.size) (fun k hk => (hlt' k hk).1) (Nat.le_refl _) hb.out.size)
      have hF : Hid (∃ ls' : List (List UInt8), ls'.length = ls.length + 1 ∧ (∀ x ∈ ls', x.length ≤ 60) ∧ KsAt W.heap.size w' (.slice a' (ls.length + 1) c') ls') := by
        refine ⟨ls ++ [p], by simp, fun x hxm => ?_, ?_⟩
        · rcases List.mem_append.1 hxm with h | h
          · exact hx x h
          · simp at h; subst h; exact hpl
        · show World.ownsRow _ _ _ _ _ _ _
          simpa [strV] using ho'
      clear hK ho' hG hlt' hr2 hx hpl hrow hb
      go_wp2_with fail
      refine hsh.mono ?_
      rintro e w1 ⟨rfl, hw1⟩
      subst hw1
      go_wp2_with (at_builtin; refine wpList_append_run hrun rfl rfl rfl rfl ?_)
      first
        | exact ⟨⟨ls.length + 1, by omega, by omega, (by first | rfl | go_num | (congr 1; omega)), hF, hb'⟩, by simp [intOf] <;> omega⟩
        | (refine ⟨?_, by simp [intOf] <;> omega⟩; (repeat apply Exists.intro); exact ⟨⟨ls.length + 1, by omega, by omega, (by first | rfl | go_num | (congr 1; omega)), hF, hb'⟩, rfl⟩)
    · have hle : ls.length ≤ 6 := by omega
      have hsel := fun w' hb => select_any (a := ak) (n := ls.length) (c := ck) (s := s) (w := w') rfl (hrow.below hb) (fun x h => by have := hx x h; omega) (by omega) (by omega)
      have hrsel := fun w' hb => rselect_any (a := ak) (n := ls.length) (c := ck) (s := s) (w := w') rfl (hrow.below hb) (fun x h => by have := hx x h; omega) (by omega) (by omega)
      have hcs : Hid (¬ (ls.length : Int) < (ks.length : Int) ∨ ((ls.length : Int) < (ks.length : Int) ∧ ¬ (ls.length : Int) < 6)) := by show _ ∨ _; omega
      generalize selF ls s = R at *
      obtain ⟨R1, R2⟩ := R
      clear h6 hle hx hK hrow hr
      rcases hcs.out with j1 | ⟨j1, j2⟩
      all_goals
        clear hcs
        go_wp2_with fail
        refine (hst _).mono ?_
        rintro e w0 ⟨rfl, hw0⟩
        subst hw0
        go_wp2_with fail
        refine (hsel _ (Below.refl _ _)).mono ?_
        rintro e w1 ⟨rfl, hb1⟩
        go_wp2_with fail
        refine (hrsel _ hb1).mono ?_
        rintro e w2 ⟨rfl, hb2⟩
        have hb3 := Gr.trans hb1 hb2
        clear hsel hrsel hb1 hb2
        go_wp2_with fail
        refine (hlv _).mono ?_
        rintro e w3 ⟨rfl, hb4⟩
        go_wp2
        go_ret
        exact ⟨rfl, hb.out.trans ((Gr.trans hb3 hb4).mono hb.out.size)⟩
theorem pathSelects_calls {H : Type} {enc : TypeId × Value → H} {W : World} {base : Nat} {v0 v1 : Value} {d0 d1 : DataW H} {p0 p1 : List MemPlace}
    (o0 : Value.okWide Tryd.prog W .any base 31 v0) (h0 : DataW.Trod enc Tryd.prog W 0 (fun _ => true) true 31 v0 d0 p0)
    (o1 : Value.okWide Tryd.prog W .any base 9 v1) (h1 : DataW.Trod enc Tryd.prog W 0 (fun _ => true) true 9 v1 d1 p1) :
    Calls Tryd.prog 9 #[v0, v1] W fun e W' => e = .returned (.bool true) ∧ Below W.heap.size W W' := by
  obtain ⟨a, c, ks, rfl, hk, hr, _⟩ := open_textsA o0 h0
  obtain ⟨lb, rfl, _⟩ := open_text Tryd.underlying9 o1 h1
  exact pselects_law lb hr hk
end Go.Proofs.YtcanlgcifnjfaaaDoor
