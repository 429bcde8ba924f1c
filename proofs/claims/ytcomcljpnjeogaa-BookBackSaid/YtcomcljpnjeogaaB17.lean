/- The walk of BookBack. -/
import Derived.Test.YtcomcljpnjeogaaB16
import Derived.Test.YtcomcljpnjeogaaB15
set_option maxRecDepth 20000
namespace Go.Proofs.Ytcomcljpnjeogaa
open Go.ChangeShapes Go.WideShapes Go.ChangeAt Go.RowKit Go.Hd

/-- A kind's part of BookBack: what is written is read, and not as another kind. -/
theorem back_facts {k k' : BKind} (hk : k.good) {l : List BRow} (h : ∀ r ∈ l, fitR k r) (hw : (writeF k l).2 = 0) (hne : k.magic ≠ k'.magic) (hm : l.length ≤ 30) :
    readF k (writeF k l).1 = (l, 0) ∧ readF k' (writeF k l).1 = ([], 4) ∧ (writeF k l).1.length ≤ 2000 := by
  refine ⟨read_write hk h hw, read_other hk h hw hne, ?_⟩
  obtain ⟨_, _, _, hwe⟩ := write_ok hw
  rw [hwe]
  show (closedF (bodyF k l)).length ≤ 2000
  rw [book_length hk h]
  have : k.size ≤ 44 := by rcases hk.2.1 with h | h <;> (have := hk.2.2.2; unfold BKind.size; omega)
  have h2 : l.length * k.size ≤ 30 * 44 := Nat.mul_le_mul hm this
  omega
theorem kIC' : kI.magic ≠ kC.magic := by decide
theorem kCU' : kC.magic ≠ kU.magic := by decide
theorem kUI' : kU.magic ≠ kI.magic := by decide

set_option maxHeartbeats 2000000 in
theorem bback_law {a1 a2 a3 : Option Addr} {c1 c2 c3 : Nat} {l1 l2 l3 : List BRow} {w : World} (hc1 : l1.length ≤ c1) (hc2 : l2.length ≤ c2) (hc3 : l3.length ≤ c3) (h1 : EntRd 35 w a1 l1) (h2 : EntRd 34 w a2 l2) (h3 : EntRd 3 w a3 l3)
    (f1 : ∀ r ∈ l1, fitR kI r) (f2 : ∀ r ∈ l2, fitR kC r) (f3 : ∀ r ∈ l3, fitR kU r) (i1 : ∀ r ∈ l1, okI r) (i2 : ∀ r ∈ l2, okI r) (i3 : ∀ r ∈ l3, okI r) :
    Calls Try.prog 6 #[.slice a1 l1.length c1, .slice a2 l2.length c2, .slice a3 l3.length c3] w fun e w' => e = .returned (.bool true) ∧ Below w.heap.size w w' := by
  go_enter Try.func6, Try.ntmps6
  go_wp2_with fail
  refine (few_any hc1 hc2 hc3 h1 h2 h3).mono ?_
  rintro e w' ⟨⟨b1, b2, b3, d1, d2, d3, rfl, ⟨g1, g2, g3⟩, _⟩, rfl⟩
  have m1 : (l1.take 30).length ≤ 30 := List.length_take_le _ _
  have m2 : (l2.take 30).length ≤ 30 := List.length_take_le _ _
  have m3 : (l3.take 30).length ≤ 30 := List.length_take_le _ _
  have F1 := fun r hr => f1 r (List.mem_of_mem_take (i := 30) hr)
  have F2 := fun r hr => f2 r (List.mem_of_mem_take (i := 30) hr)
  have F3 := fun r hr => f3 r (List.mem_of_mem_take (i := 30) hr)
  have I1 := fun r hr => i1 r (List.mem_of_mem_take (i := 30) hr)
  have I2 := fun r hr => i2 r (List.mem_of_mem_take (i := 30) hr)
  have I3 := fun r hr => i3 r (List.mem_of_mem_take (i := 30) hr)
  generalize l1.take 30 = L1 at *
  generalize l2.take 30 = L2 at *
  generalize l3.take 30 = L3 at *
  clear h1 h2 h3 f1 f2 f3 i1 i2 i3 hc1 hc2 hc3
  have B0 := Below.refl w.heap.size w
  go_wp2_with fail
  refine (idx_any rfl (g1.below B0) F1 (by omega)).mono ?_
  rintro e w1 ⟨v1, rfl, R1, B1⟩
  obtain ⟨x1, y1, rfl, z1, q1, r1⟩ := R1
  have B01 := Gr.trans B0 B1
  go_upto_if 39 with (fail)
  go_cut [4] (fun _ wx => Below w.heap.size w wx)
  case first =>
    by_cases hw : (writeF kI L1).2 = 0
    · obtain ⟨HR1, HR2, hD⟩ := back_facts kI_good F1 hw kIC' m1
      have hw1 : ((writeF kI L1).2 == 0) = true := by rw [hw]; rfl
      generalize (writeF kI L1).1 = D at *
      have HA := Lib.hid HR1
      have HB := Lib.hid HR2
      clear HR1 HR2 hw
      go_wp2_with fail
      refine (rdidx_any (l := D) rfl z1 r1 (by omega)).mono ?_
      rintro e w2 ⟨v2, rfl, R2, B2⟩
      rw [HA.out] at R2 ⊢
      obtain ⟨x2, y2, rfl, z2, q2, r2⟩ := R2
      have B02 := Gr.trans B01 B2
      go_wp2_with fail
      refine (rdcnt_any (l := D) rfl z1 (r1.below B2) (by omega)).mono ?_
      rintro e w3 ⟨v3, rfl, R3, B3⟩
      rw [HB.out] at R3 ⊢
      obtain ⟨x3, y3, rfl, _, _, _⟩ := R3
      have B03 := Gr.trans B02 B3
      have s2 := r2.below B3
      have s1 := g1.below B03
      clear HA HB r1 r2 z1 z2 hD
      go_wp2_with fail
      refine (sindex_any rfl rfl s2 s1 F1 I1 (by omega)).mono ?_
      rintro e w4 ⟨rfl, n4, rfl⟩
      have B04 := Below.drewN B03 n4
      clear s1 s2
      go_wp2
      go_meet
      exact B04
    · have hw' : ((writeF kI L1).2 == 0) = false := beq_eq_false_iff_ne.2 hw
      generalize writeF kI L1 = WW at *
      clear hw
      go_wp2
      go_meet
      exact B01
  case rest =>
  clear B0 B1 B01 r1 z1 q1
  have B0 := hcut
  clear hcut
  go_wp2_with fail
  refine (cnt_any rfl (g2.below B0) F2 (by omega)).mono ?_
  rintro e w1 ⟨v1, rfl, R1, B1⟩
  obtain ⟨x1, y1, rfl, z1, q1, r1⟩ := R1
  have B01 := Gr.trans B0 B1
  go_upto_if 68 with (fail)
  go_cut [4] (fun _ wx => Below w.heap.size w wx)
  case first =>
    by_cases hw : (writeF kC L2).2 = 0
    · obtain ⟨HR1, HR2, hD⟩ := back_facts kC_good F2 hw kCU' m2
      have hw1 : ((writeF kC L2).2 == 0) = true := by rw [hw]; rfl
      generalize (writeF kC L2).1 = D at *
      have HA := Lib.hid HR1
      have HB := Lib.hid HR2
      clear HR1 HR2 hw
      go_wp2_with fail
      refine (rdcnt_any (l := D) rfl z1 r1 (by omega)).mono ?_
      rintro e w2 ⟨v2, rfl, R2, B2⟩
      rw [HA.out] at R2 ⊢
      obtain ⟨x2, y2, rfl, z2, q2, r2⟩ := R2
      have B02 := Gr.trans B01 B2
      go_wp2_with fail
      refine (rduse_any (l := D) rfl z1 (r1.below B2) (by omega)).mono ?_
      rintro e w3 ⟨v3, rfl, R3, B3⟩
      rw [HB.out] at R3 ⊢
      obtain ⟨x3, y3, rfl, _, _, _⟩ := R3
      have B03 := Gr.trans B02 B3
      have s2 := r2.below B3
      have s1 := g2.below B03
      clear HA HB r1 r2 z1 z2 hD
      go_wp2_with fail
      refine (scounts_any rfl rfl s2 s1 F2 I2 (by omega)).mono ?_
      rintro e w4 ⟨rfl, n4, rfl⟩
      have B04 := Below.drewN B03 n4
      clear s1 s2
      go_wp2
      go_meet
      exact B04
    · have hw' : ((writeF kC L2).2 == 0) = false := beq_eq_false_iff_ne.2 hw
      generalize writeF kC L2 = WW at *
      clear hw
      go_wp2
      go_meet
      exact B01
  case rest =>
  clear B0 B1 B01 r1 z1 q1
  have B0 := hcut
  clear hcut
  go_wp2_with fail
  refine (use_any rfl (g3.below B0) F3 (by omega)).mono ?_
  rintro e w1 ⟨v1, rfl, R1, B1⟩
  obtain ⟨x1, y1, rfl, z1, q1, r1⟩ := R1
  have B01 := Gr.trans B0 B1
  go_upto_if 97 with (fail)
  go_cut [4] (fun _ wx => Below w.heap.size w wx)
  case first =>
    by_cases hw : (writeF kU L3).2 = 0
    · obtain ⟨HR1, HR2, hD⟩ := back_facts kU_good F3 hw kUI' m3
      have hw1 : ((writeF kU L3).2 == 0) = true := by rw [hw]; rfl
      generalize (writeF kU L3).1 = D at *
      have HA := Lib.hid HR1
      have HB := Lib.hid HR2
      clear HR1 HR2 hw
      go_wp2_with fail
      refine (rduse_any (l := D) rfl z1 r1 (by omega)).mono ?_
      rintro e w2 ⟨v2, rfl, R2, B2⟩
      rw [HA.out] at R2 ⊢
      obtain ⟨x2, y2, rfl, z2, q2, r2⟩ := R2
      have B02 := Gr.trans B01 B2
      go_wp2_with fail
      refine (rdidx_any (l := D) rfl z1 (r1.below B2) (by omega)).mono ?_
      rintro e w3 ⟨v3, rfl, R3, B3⟩
      rw [HB.out] at R3 ⊢
      obtain ⟨x3, y3, rfl, _, _, _⟩ := R3
      have B03 := Gr.trans B02 B3
      have s2 := r2.below B3
      have s1 := g3.below B03
      clear HA HB r1 r2 z1 z2 hD
      go_wp2_with fail
      refine (suses_any rfl rfl s2 s1 F3 I3 (by omega)).mono ?_
      rintro e w4 ⟨rfl, n4, rfl⟩
      have B04 := Below.drewN B03 n4
      clear s1 s2
      go_wp2
      go_meet
      exact B04
    · have hw' : ((writeF kU L3).2 == 0) = false := beq_eq_false_iff_ne.2 hw
      generalize writeF kU L3 = WW at *
      clear hw
      go_wp2
      go_meet
      exact B01
  case rest =>
  clear B0 B1 B01 r1 z1 q1
  have B0 := hcut
  clear hcut
  go_wp2_with fail
  refine (lives13_any _).mono ?_
  rintro e w10 ⟨rfl, hb10⟩
  go_wp2
  go_ret
  exact ⟨rfl, Gr.trans B0 hb10⟩
section
variable {H : Type} {enc : TypeId × Value → H} {W : World} {base : Nat} {v0 v1 v2 : Value} {d0 d1 d2 : DataW H} {p0 p1 p2 : List MemPlace}
theorem bookBack_calls (o0 : Value.okWide Try.prog W .any base 22 v0) (h0 : DataW.Trod enc Try.prog W 0 (fun _ => true) true 22 v0 d0 p0)
    (o1 : Value.okWide Try.prog W .any base 23 v1) (h1 : DataW.Trod enc Try.prog W 0 (fun _ => true) true 23 v1 d1 p1)
    (o2 : Value.okWide Try.prog W .any base 24 v2) (h2 : DataW.Trod enc Try.prog W 0 (fun _ => true) true 24 v2 d2 p2) :
    Calls Try.prog 6 #[v0, v1, v2] W fun e W' => e = .returned (.bool true) ∧ Below W.heap.size W W' := by
  obtain ⟨a1, n1, c1, l1, rfl, rfl, hc1, r1, f1, i1⟩ := open_ents (k := kI) Try.underlying22 (by kernel_rfl) ent_KD o0 h0
  obtain ⟨a2, n2, c2, l2, rfl, rfl, hc2, r2, f2, i2⟩ := open_ents (k := kC) Try.underlying23 (by kernel_rfl) ent_CD o1 h1
  obtain ⟨a3, n3, c3, l3, rfl, rfl, hc3, r3, f3, i3⟩ := open_ents (k := kU) Try.underlying24 (by kernel_rfl) ent_US o2 h2
  exact bback_law hc1 hc2 hc3 r1 r2 r3 f1 f2 f3 i1 i2 i3
end
end Go.Proofs.Ytcomcljpnjeogaa
