/- The walk of BookAgain. -/
import Derived.Test.YtcomcljpnjeogaaB14
set_option maxRecDepth 20000
namespace Go.Proofs.Ytcomcljpnjeogaa
open Go.ChangeShapes Go.WideShapes Go.ChangeAt Go.RowKit Go.Hd

theorem two_not {k k' : BKind} {b : List UInt8} (h : (readF k b).2 = 0) (hne : k.magic ≠ k'.magic) : ((readF k' b).2 == 0) = false ∧ ((readF k' b).2 != 0) = true := by
  have e : (readF k' b).2 ≠ 0 := fun h' => hne (read_excl h h')
  exact ⟨beq_eq_false_iff_ne.2 e, by simpa using e⟩
theorem kIC : kI.magic ≠ kC.magic := by decide
theorem kCU : kC.magic ≠ kU.magic := by decide
theorem kIU : kI.magic ≠ kU.magic := by decide

set_option maxHeartbeats 1000000 in
theorem bagain_law {a : Option Addr} {c : Nat} {l : List UInt8} {w : World} (hc : l.length ≤ c) (hl : Row w a (l.map b8)) :
    Calls Try.prog 7 #[.slice a l.length c] w fun e w' => e = .returned (.bool true) ∧ Below w.heap.size w w' := by
  go_enter Try.func7, Try.ntmps7
  go_wp2_with fail
  refine (cut_any a _ c 1500 w (by decide) hc).mono ?_
  rintro e w1 ⟨rfl, rfl⟩
  have hL : min l.length (1500 : Int).toNat = (l.take 1500).length := by rw [List.length_take]; omega
  rw [hL]
  have hlT : Row w a ((l.take 1500).map b8) := by rw [List.map_take]; exact hl.take 1500
  have hcT : (l.take 1500).length ≤ c := by rw [List.length_take]; omega
  have hmT : (l.take 1500).length ≤ 1500 := List.length_take_le _ _
  generalize l.take 1500 = L at *
  clear hl hc hL
  have fI := read_fit (k := kI) (b := L)
  have fC := read_fit (k := kC) (b := L)
  have fU := read_fit (k := kU) (b := L)
  have mI := read_max (k := kI) (b := L)
  have mC := read_max (k := kC) (b := L)
  have mU := read_max (k := kU) (b := L)
  have hmm : L.length ≤ 140737488355328 := by omega
  go_wp2_with fail
  refine (rdidx_any (l := L) rfl hcT hlT hmm).mono ?_
  rintro e w1 ⟨v1, rfl, R1, B1⟩
  go_wp2_with fail
  refine (rdcnt_any (l := L) rfl hcT (hlT.below B1) hmm).mono ?_
  rintro e w2 ⟨v2, rfl, R2, B2⟩
  have B02 := Gr.trans B1 B2
  go_wp2_with fail
  refine (rduse_any (l := L) rfl hcT (hlT.below B02) hmm).mono ?_
  rintro e w3 ⟨v3, rfl, R3, B3⟩
  have B03 := Gr.trans B02 B3
  obtain ⟨x1, y1, rfl, z1, q1, r1⟩ := R1.below (Gr.trans B2 B3)
  obtain ⟨x2, y2, rfl, z2, q2, r2⟩ := R2.below B3
  obtain ⟨x3, y3, rfl, z3, q3, r3⟩ := R3
  have hlm : L.length ≤ maxLen := by unfold maxLen; omega
  have hrow := hlT.below B03
  clear hlT B1 B2 B3 B02 hmT R1 R2
  by_cases h1 : (readF kI L).2 = 0
  · obtain ⟨t2, u2⟩ := two_not h1 kIC
    obtain ⟨t3, u3⟩ := two_not h1 kIU
    have HW := Lib.hid (write_read h1)
    rw [h1]
    generalize readF kI L = E1 at *
    generalize readF kC L = E2 at *
    generalize readF kU L = E3 at *
    clear h1 fC fU mC mU
    go_wp2_with fail
    refine (idx_any rfl r1 fI mI).mono ?_
    rintro e w4 ⟨v4, rfl, R4, B4⟩
    rw [HW.out] at R4 ⊢
    have B04 := Gr.trans B03 B4
    obtain ⟨x4, y4, rfl, z4, q4, r4⟩ := R4
    clear HW r1 r2 r3 fI mI
    go_wp2_with fail
    refine (same_any rfl rfl r4 (hrow.below B4) hlm).mono ?_
    rintro e w7 ⟨rfl, n7, rfl⟩
    have e1 : (L == L) = true := by simp
    go_wp2_with fail
    refine (lives13_any _).mono ?_
    rintro e w10 ⟨rfl, hb10⟩
    go_wp2
    go_ret
    exact ⟨rfl, Gr.trans (Below.drewN B04 _) hb10⟩
  · have t1 : ((readF kI L).2 == 0) = false := beq_eq_false_iff_ne.2 h1
    have u1 : ((readF kI L).2 != 0) = true := by simpa using h1
    by_cases h2 : (readF kC L).2 = 0
    · obtain ⟨t3, u3⟩ := two_not h2 kCU
      have HW := Lib.hid (write_read h2)
      rw [h2]
      generalize readF kI L = E1 at *
      generalize readF kC L = E2 at *
      generalize readF kU L = E3 at *
      clear h1 h2 fI fU mI mU
      go_wp2_with fail
      refine (cnt_any rfl r2 fC mC).mono ?_
      rintro e w4 ⟨v4, rfl, R4, B4⟩
      rw [HW.out] at R4 ⊢
      have B04 := Gr.trans B03 B4
      obtain ⟨x4, y4, rfl, z4, q4, r4⟩ := R4
      clear HW r1 r2 r3 fC mC
      go_wp2_with fail
      refine (same_any rfl rfl r4 (hrow.below B4) hlm).mono ?_
      rintro e w7 ⟨rfl, n7, rfl⟩
      have e1 : (L == L) = true := by simp
      go_wp2_with fail
      refine (lives13_any _).mono ?_
      rintro e w10 ⟨rfl, hb10⟩
      go_wp2
      go_ret
      exact ⟨rfl, Gr.trans (Below.drewN B04 _) hb10⟩
    · have t2 : ((readF kC L).2 == 0) = false := beq_eq_false_iff_ne.2 h2
      have u2 : ((readF kC L).2 != 0) = true := by simpa using h2
      by_cases h3 : (readF kU L).2 = 0
      · have HW := Lib.hid (write_read h3)
        rw [h3]
        generalize readF kI L = E1 at *
        generalize readF kC L = E2 at *
        generalize readF kU L = E3 at *
        clear h1 h2 h3 fI fC mI mC
        go_wp2_with fail
        refine (use_any rfl r3 fU mU).mono ?_
        rintro e w4 ⟨v4, rfl, R4, B4⟩
        rw [HW.out] at R4 ⊢
        have B04 := Gr.trans B03 B4
        obtain ⟨x4, y4, rfl, z4, q4, r4⟩ := R4
        clear HW r1 r2 r3 fU mU
        go_wp2_with fail
        refine (same_any rfl rfl r4 (hrow.below B4) hlm).mono ?_
        rintro e w7 ⟨rfl, n7, rfl⟩
        have e1 : (L == L) = true := by simp
        go_wp2_with fail
        refine (lives13_any _).mono ?_
        rintro e w10 ⟨rfl, hb10⟩
        go_wp2
        go_ret
        exact ⟨rfl, Gr.trans (Below.drewN B04 _) hb10⟩
      · have t3 : ((readF kU L).2 == 0) = false := beq_eq_false_iff_ne.2 h3
        have u3 : ((readF kU L).2 != 0) = true := by simpa using h3
        generalize readF kI L = E1 at *
        generalize readF kC L = E2 at *
        generalize readF kU L = E3 at *
        clear h1 h2 h3 fI fC mI mC fU mU r1 r2 r3
        go_wp2_with fail
        refine (lives13_any _).mono ?_
        rintro e w10 ⟨rfl, hb10⟩
        go_wp2
        go_ret
        exact ⟨rfl, Gr.trans B03 hb10⟩
section
variable {H : Type} {enc : TypeId × Value → H} {W : World} {base : Nat} {v : Value} {d : DataW H} {p : List MemPlace}
theorem bookAgain_calls (o : Value.okWide Try.prog W .any base 27 v) (h : DataW.Trod enc Try.prog W 0 (fun _ => true) true 27 v d p) :
    Calls Try.prog 7 #[v] W fun e W' => e = .returned (.bool true) ∧ Below W.heap.size W W' := by
  obtain ⟨a, n, c, l, rfl, rfl, hc, _, hl⟩ := open_byt Try.underlying27 Try.underlying5 cellsb o h
  exact bagain_law hc hl
end
end Go.Proofs.Ytcomcljpnjeogaa
