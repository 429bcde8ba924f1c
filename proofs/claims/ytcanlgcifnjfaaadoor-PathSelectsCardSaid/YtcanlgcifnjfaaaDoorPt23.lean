/- Layer 20: rules that pick: the program's Select, the document's. -/
import Derived.Test.YtcanlgcifnjfaaaDoorPt22
set_option maxRecDepth 20000
namespace Go.Hd
def ruleB : List UInt8 → Bool
  | a :: b :: _ => (a == 43 || a == 45) && b == 32
  | _ => false
def selG (s : List UInt8) : List (List UInt8) → Bool → Bool → Bool × Int
  | [], p, _ => (p, 0)
  | r :: l, p, d => if (matchF (r.drop 2) s).2 ≠ 0 then (false, (matchF (r.drop 2) s).2) else if ((matchF (r.drop 2) s).1 && !d) = true then selG s l (r.head? == some 43) true else selG s l p d
def errL (s : List UInt8) : List (List UInt8) → Int
  | [] => 0
  | r :: l => if (matchF (r.drop 2) s).2 ≠ 0 then (matchF (r.drop 2) s).2 else errL s l
def pickL (s : List UInt8) : List (List UInt8) → Bool
  | [] => true
  | r :: l => if (matchF (r.drop 2) s).1 = true then r.head? == some 43 else pickL s l
def selF (ks : List (List UInt8)) (s : List UInt8) : Bool × Int := if ks.all ruleB = true then selG s ks true false else (false, 4)
theorem selG_done (s : List UInt8) : ∀ (l : List (List UInt8)) (p : Bool), selG s l p true = if errL s l ≠ 0 then (false, errL s l) else (p, 0)
  | [], p => rfl
  | r :: l, p => by
    unfold selG errL
    by_cases h : (matchF (r.drop 2) s).2 ≠ 0
    · rw [if_pos h, if_pos h, if_pos h]
    · rw [if_neg h, if_neg h, if_neg (by simp), selG_done s l p]
theorem selG_eq (s : List UInt8) : ∀ (l : List (List UInt8)), selG s l true false = if errL s l ≠ 0 then (false, errL s l) else (pickL s l, 0)
  | [] => rfl
  | r :: l => by
    unfold selG errL pickL
    by_cases h : (matchF (r.drop 2) s).2 ≠ 0
    · rw [if_pos h, if_pos h, if_pos h]
    · rw [if_neg h, if_neg h]
      by_cases h2 : (matchF (r.drop 2) s).1 = true
      · rw [if_pos (by rw [h2]; rfl), if_pos h2, selG_done]
      · rw [if_neg (by simp [h2]), if_neg h2, selG_eq s l]
theorem ruleB_two {r : List UInt8} (h : ruleB r = true) : ∃ x y r', r = x :: y :: r' := by
  rcases r with _ | ⟨x, _ | ⟨y, r'⟩⟩
  · cases h
  · cases h
  · exact ⟨x, y, r', rfl⟩
theorem ruleB_begins (r : List UInt8) : ruleB r = (beginsB r [43, 32] || beginsB r [45, 32]) := by
  match r with
  | [] => rfl
  | [a] =>
    unfold ruleB beginsB
    simp [List.isPrefixOf]
  | a :: b :: r =>
    unfold ruleB beginsB
    simp only [List.isPrefixOf, Bool.and_true]
    rw [Bool.beq_comm (a := (43 : UInt8)), Bool.beq_comm (a := (45 : UInt8)), Bool.beq_comm (a := (32 : UInt8))]
    cases a == 43 <;> cases a == 45 <;> cases b == 32 <;> rfl
end Go.Hd
namespace Go.Proofs.YtcanlgcifnjfaaaDoor
open Go.RowKit Go.Hd

theorem bne_of {α : Type} [BEq α] {x y : α} {b : Bool} (h : (x == y) = b) : (x != y) = !b := by
  show (!(x == y)) = _; rw [h]
set_option maxHeartbeats 4000000 in
theorem select_any {a : Option Addr} {n c : Nat} {ks : List (List UInt8)} {s : List UInt8} {w : World} (hn : n = ks.length) (hr : Row w a (ks.map strV)) (hl : ∀ x ∈ ks, x.length ≤ 100) (hs : s.length ≤ 100) (hk : ks.length ≤ 100) :
    Calls Tryd.prog 28 #[.slice a n c, .string (str s)] w fun e w' => e = .returned (.tuple #[.bool (selF ks s).1, .int .i64 (selF ks s).2]) ∧ Below w.heap.size w w' := by
  subst hn
  have HH := Lib.hid (And.intro hl (And.intro hs hk))
  have HS : Hid (selF ks s = if ks.all ruleB = true then selG s ks true false else (false, 4)) := rfl
  generalize selF ks s = R at *
  clear hl hs hk
  go_enter Tryd.func28, Tryd.ntmps28
  go_upto_block 0 with (fail)
  go_cut [16] (fun _ wx => ks.all ruleB = true ∧ wx = w)
  case first =>
    go_wp2
    go_loopw [16] (fun i wr => ∃ j : Nat, j ≤ ks.length ∧ i = .int .i64 j ∧ Hid ((ks.take j).all ruleB = true) ∧ Hid (wr = w)) (fun i _ => ks.length - (intOf i).toNat)
    case atStart => exact ⟨0, Nat.zero_le _, rfl, Lib.hid rfl, Lib.hid rfl⟩
    case round =>
      obtain ⟨j, hj, rfl, hall, hwr⟩ := hrel
      have hwr := hwr.out
      subst hwr
      have j0 : (0 : Int) ≤ (j : Int) := by omega
      have jb : IntKind.i64.wrap ((j : Int) + 1) = (j : Int) + 1 := IntWalk.i64_in _ (by have := HH.out.2.2; omega)
      by_cases hlt : j < ks.length
      · have q1 : wr.cell? ((hd a).add j) = some (strV ks[j]) := hr.cell (by simp [hlt])
        have s1 : a.isSome = true := hr.isSome (i := j) (by simp; omega)
        unfold strV at q1
        have j1 : (j : Int) < (ks.length : Int) := by omega
        have hA : Hid (ruleB ks[j] = true → (ks.take (j + 1)).all ruleB = true) := fun h => by
          rw [List.take_succ_eq_append_getElem hlt, List.all_append, hall.out]; simp [h]
        have hN : Hid (ruleB ks[j] = false → R = (false, 4)) := fun h => by
          rw [HS.out, if_neg]
          intro h2
          rw [List.all_eq_true.1 h2 _ (List.getElem_mem hlt)] at h; cases h
        generalize ks[j] = r at *
        have hzr : (str r).size = r.length := str_size r
        clear hall HS
        rcases r with _ | ⟨x, _ | ⟨y, r'⟩⟩
        · have hR := Lib.hid (hN.out rfl)
          have l2 : (str ([] : List UInt8)).size = 0 := hzr
          clear hA hN hzr
          go_wp2
          go_ret2
          show _ ∧ _
          exact ⟨by rw [hR.out] <;> rfl, Below.refl _ _⟩
        · have hR := Lib.hid (hN.out rfl)
          have l2 : (str [x]).size = 1 := hzr
          clear hA hN hzr
          generalize str [x] = S at *
          go_wp2
          go_ret2
          show _ ∧ _
          exact ⟨by rw [hR.out] <;> rfl, Below.refl _ _⟩
        · have l2 : ¬ (((str (x :: y :: r')).size : Nat) : Int) < 2 := by rw [hzr]; simp; omega
          have z0 : 0 < (str (x :: y :: r')).size := by rw [hzr]; simp
          have z1 : 1 < (str (x :: y :: r')).size := by rw [hzr]; simp
          have z0' : (0 : Int) < (((str (x :: y :: r')).size : Nat) : Int) := by omega
          have z1' : (1 : Int) < (((str (x :: y :: r')).size : Nat) : Int) := by omega
          have t1 := byte_num z0 (by simp) 43 43 rfl
          have t2 := byte_num z0 (by simp) 45 45 rfl
          have t3 := byte_num z1 (by simp) 32 32 rfl
          have hv : Hid (ruleB (x :: y :: r') = ((x == 43 || x == 45) && y == 32)) := rfl
          change _ = (x == 43) at t1
          change _ = (x == 45) at t2
          change _ = (y == 32) at t3
          generalize (x == 43) = b1 at *
          generalize (x == 45) = b2 at *
          generalize (y == 32) = b3 at *
          have n1 := bne_of t1
          have n2 := bne_of t2
          have n3 := bne_of t3
          cases hb : ((b1 || b2) && b3)
          · have hR := Lib.hid (hN.out (by rw [hv.out, hb]))
            clear hA hN hv hzr
            generalize str (x :: y :: r') = S at *
            cases b1 <;> cases b2 <;> cases b3 <;> first | exact absurd hb (by decide) | skip
            all_goals
              clear hb
              go_wp2
              go_ret2
              show _ ∧ _
              exact ⟨by rw [hR.out] <;> rfl, Below.refl _ _⟩
          · have hA2 := Lib.hid (hA.out (by rw [hv.out, hb]))
            clear hA hN hv hzr
            generalize str (x :: y :: r') = S at *
            cases b1 <;> cases b2 <;> cases b3 <;> first | exact absurd hb (by decide) | skip
            all_goals
              clear hb
              go_wp2
              first
                | exact ⟨⟨j + 1, by omega, (by first | rfl | go_num | (congr 1; omega)), hA2, (by first | exact Lib.hid rfl | exact Lib.hid trivial)⟩, by simp [intOf] <;> omega⟩
                | (refine ⟨?_, by simp [intOf] <;> omega⟩; (repeat apply Exists.intro); exact ⟨⟨j + 1, by omega, (by first | rfl | go_num | (congr 1; omega)), hA2, (by first | exact Lib.hid rfl | exact Lib.hid trivial)⟩, rfl⟩)
      · have hall2 : Hid (ks.all ruleB = true) := by
          have h := hall.out
          rw [show j = ks.length by omega, List.take_length] at h
          exact h
        have j1 : ¬ (j : Int) < (ks.length : Int) := by omega
        clear hall
        go_wp2
        go_meet
        exact ⟨hall2.out, rfl⟩
  case rest =>
    obtain ⟨hall, hwc⟩ := hcut
    subst hwc
    have HR : Hid (selG s (ks.drop 0) true false = R) := by show _ = _; rw [HS.out, if_pos hall]; rfl
    have HA := Lib.hid (List.all_eq_true.1 hall)
    clear hall HS
    go_wp2
    go_loopw [6, 7, 41] (fun p d i wr => ∃ j : Nat, j ≤ ks.length ∧ i = .int .i64 j ∧ Hid (∃ P D : Bool, p = .bool P ∧ d = .bool D ∧ selG s (ks.drop j) P D = R) ∧ Hid (Below wc.heap.size wc wr)) (fun _ _ i _ => ks.length - (intOf i).toNat)
    case atStart => exact ⟨0, Nat.zero_le _, rfl, Lib.hid ⟨true, false, rfl, rfl, HR.out⟩, Lib.hid (Below.refl _ _)⟩
    case round =>
      obtain ⟨j, hj, rfl, hinv, hb⟩ := hrel
      obtain ⟨P, D, hp, hd', hR⟩ := hinv.out
      subst hp hd'
      have j0 : (0 : Int) ≤ (j : Int) := by omega
      have jb : IntKind.i64.wrap ((j : Int) + 1) = (j : Int) + 1 := IntWalk.i64_in _ (by have := HH.out.2.2; omega)
      clear HR hinv
      by_cases hlt : j < ks.length
      · have hr2 := hr.below hb.out
        have q1 : wr.cell? ((hd a).add j) = some (strV ks[j]) := hr2.cell (by simp [hlt])
        have s1 : a.isSome = true := hr2.isSome (i := j) (by simp; omega)
        unfold strV at q1
        have j1 : (j : Int) < (ks.length : Int) := by omega
        rw [List.drop_eq_getElem_cons hlt] at hR
        have hru := HA.out _ (List.getElem_mem hlt)
        have hlr := HH.out.1 _ (List.getElem_mem hlt)
        generalize ks[j] = r at *
        have hm := Match_any (r.drop 2) s wr (by simp; omega) (by have := HH.out.2.1; omega)
        have hG : Hid ((if (matchF (r.drop 2) s).2 ≠ 0 then (false, (matchF (r.drop 2) s).2) else if ((matchF (r.drop 2) s).1 && !D) = true then selG s (ks.drop (j + 1)) (r.head? == some 43) true else selG s (ks.drop (j + 1)) P D) = R) := hR
        obtain ⟨x, y, r', rfl⟩ := ruleB_two hru
        · have hzr : (str (x :: y :: r')).size = (x :: y :: r').length := str_size _
          have e2 : (str (x :: y :: r')).extract 2 (str (x :: y :: r')).size = str ((x :: y :: r').drop 2) := str_drop _ _ _ (by rw [hzr]; exact Nat.le_refl _)
          have l2 : (2 : Int) ≤ (((str (x :: y :: r')).size : Nat) : Int) := by rw [hzr]; simp; omega
          have z0 : 0 < (str (x :: y :: r')).size := by rw [hzr]; simp
          have z0' : (0 : Int) < (((str (x :: y :: r')).size : Nat) : Int) := by omega
          have t1 := byte_num z0 (by simp) 43 43 rfl
          change _ = (x == 43) at t1
          have hh : ((x :: y :: r').head? == some 43) = (x == 43) := by
            show ((some x : Option UInt8) == some 43) = _
            rfl
          rw [hh] at hG
          generalize (x :: y :: r').drop 2 = rr at *
          generalize matchF rr s = m at *
          obtain ⟨m1, m2⟩ := m
          clear hR hr2 hzr hlr hh
          generalize str (x :: y :: r') = S at *
          generalize (x == 43) = b1 at *
          by_cases hm2 : m2 = 0
          · subst hm2
            have hG2 : Hid ((if (m1 && !D) = true then selG s (ks.drop (j + 1)) b1 true else selG s (ks.drop (j + 1)) P D) = R) := by have := hG.out; rwa [if_neg (by simp)] at this
            clear hG
            go_wp2_with fail
            refine hm.mono ?_
            rintro e w2 ⟨rfl, hb2⟩
            have hb3 := Lib.hid (Gr.trans hb.out hb2)
            clear hm hb hb2 q1
            cases m1
            · have hG3 : Hid (selG s (ks.drop (j + 1)) P D = R) := hG2.out
              clear hG2
              go_wp2
              first
                | exact ⟨⟨j + 1, by omega, (by first | rfl | go_num | (congr 1; omega)), Lib.hid ⟨P, D, rfl, rfl, hG3.out⟩, hb3⟩, by simp [intOf] <;> omega⟩
                | (refine ⟨?_, by simp [intOf] <;> omega⟩; (repeat apply Exists.intro); exact ⟨⟨j + 1, by omega, (by first | rfl | go_num | (congr 1; omega)), Lib.hid ⟨P, D, rfl, rfl, hG3.out⟩, hb3⟩, rfl⟩)
            · cases D
              · have hG3 : Hid (selG s (ks.drop (j + 1)) b1 true = R) := hG2.out
                clear hG2
                go_wp2
                first
                  | exact ⟨⟨j + 1, by omega, (by first | rfl | go_num | (congr 1; omega)), Lib.hid ⟨b1, true, by first | rfl | rw [t1], rfl, hG3.out⟩, hb3⟩, by simp [intOf] <;> omega⟩
                  | (refine ⟨?_, by simp [intOf] <;> omega⟩; (repeat apply Exists.intro); exact ⟨⟨j + 1, by omega, (by first | rfl | go_num | (congr 1; omega)), Lib.hid ⟨b1, true, by first | rfl | rw [t1], rfl, hG3.out⟩, hb3⟩, rfl⟩)
              · have hG3 : Hid (selG s (ks.drop (j + 1)) P true = R) := hG2.out
                clear hG2
                go_wp2
                first
                  | exact ⟨⟨j + 1, by omega, (by first | rfl | go_num | (congr 1; omega)), Lib.hid ⟨P, true, rfl, rfl, hG3.out⟩, hb3⟩, by simp [intOf] <;> omega⟩
                  | (refine ⟨?_, by simp [intOf] <;> omega⟩; (repeat apply Exists.intro); exact ⟨⟨j + 1, by omega, (by first | rfl | go_num | (congr 1; omega)), Lib.hid ⟨P, true, rfl, rfl, hG3.out⟩, hb3⟩, rfl⟩)
          · have hG2 : Hid ((false, m2) = R) := by have := hG.out; rwa [if_pos hm2] at this
            have e3 : (m2 == 0) = false := by simpa using hm2
            have e4 : (m2 != 0) = true := by simpa using hm2
            clear hG hm2
            go_wp2_with fail
            refine hm.mono ?_
            rintro e w2 ⟨rfl, hb2⟩
            have hb3 := Lib.hid (Gr.trans hb.out hb2)
            clear hm hb hb2 q1
            go_wp2
            go_ret2
            show _ ∧ _
            exact ⟨by rw [← hG2.out] <;> rfl, hb3.out⟩
      · have hR2 : Hid ((P, (0 : Int)) = R) := by
          show _ = _
          rw [← hR, List.drop_eq_nil_of_le (by omega)]; rfl
        have j1 : ¬ (j : Int) < (ks.length : Int) := by omega
        clear hR
        go_wp2
        go_ret2
        show _ ∧ _
        exact ⟨by rw [← hR2.out] <;> rfl, hb.out⟩
end Go.Proofs.YtcanlgcifnjfaaaDoor
