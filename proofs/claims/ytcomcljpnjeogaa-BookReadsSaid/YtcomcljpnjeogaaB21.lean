/- The walk of BookReads. -/
import Derived.Test.YtcomcljpnjeogaaB20
import Derived.Test.YtcomcljpnjeogaaB15
set_option maxRecDepth 20000
namespace Go.Proofs.Ytcomcljpnjeogaa
open Go.ChangeShapes Go.WideShapes Go.ChangeAt Go.RowKit Go.Hd

set_option maxHeartbeats 2000000 in
theorem breads_law {a : Option Addr} {c : Nat} {l : List UInt8} {w : World} (hc : l.length ≤ c) (hl : Row w a (l.map b8)) :
    Calls Try.prog 5 #[.slice a l.length c] w fun e w' => e = .returned (.bool true) ∧ Below w.heap.size w w' := by
  go_enter Try.func5, Try.ntmps5
  go_wp2_with fail
  refine (cut_any a _ c 1500 w (by decide) hc).mono ?_
  rintro e w1 ⟨rfl, rfl⟩
  have hL : min l.length (1500 : Int).toNat = (l.take 1500).length := by rw [List.length_take]; omega
  rw [hL]
  have hlT : Row w a ((l.take 1500).map b8) := by rw [List.map_take]; exact hl.take 1500
  have hcT : (l.take 1500).length ≤ c := by rw [List.length_take]; omega
  have hmT : (l.take 1500).length ≤ 1500 := List.length_take_le _ _
  generalize l.take 1500 = L at *
  clear hl hc hL
  have fI := read_fit (k := kI) (b := L)
  have fC := read_fit (k := kC) (b := L)
  have fU := read_fit (k := kU) (b := L)
  have mI := read_max (k := kI) (b := L)
  have mC := read_max (k := kC) (b := L)
  have mU := read_max (k := kU) (b := L)
  have iI := read_okI (k := kI) (b := L)
  have iC := read_okI (k := kC) (b := L)
  have iU := read_okI (k := kU) (b := L)
  have hmm : L.length ≤ 140737488355328 := by omega
  have hm3 : L.length ≤ 3000000 := by omega
  go_wp2_with fail
  refine (copy_any a _ c L w rfl hlT hmm).mono ?_
  rintro e w1 ⟨v0, rfl, ho, hb⟩
  obtain ⟨a0, c0, rfl, hc0, hcm0, hr0, _⟩ := owns_atS ho
  clear ho
  go_wp2_with fail
  refine (rdidx_any (l := L) rfl hc0 hr0 hmm).mono ?_
  rintro e w2 ⟨v1, rfl, R1, B1⟩
  have B01 := Gr.trans hb B1
  go_wp2_with fail
  refine (rdcnt_any (l := L) rfl hc0 (hr0.below B1) hmm).mono ?_
  rintro e w3 ⟨v2, rfl, R2, B2⟩
  have B12 := Gr.trans B1 B2
  have B02 := Gr.trans hb B12
  go_wp2_with fail
  refine (rduse_any (l := L) rfl hc0 (hr0.below B12) hmm).mono ?_
  rintro e w4 ⟨v3, rfl, R3, B3⟩
  have B13 := Gr.trans B12 B3
  have B03 := Gr.trans hb B13
  go_wp2_with fail
  refine (rrdKD_any (l := L) rfl hcT (hlT.below B03) hm3).mono ?_
  rintro e w5 ⟨v4, rfl, R4, B4⟩
  have B14 := Gr.trans B13 B4
  have B04 := Gr.trans hb B14
  go_wp2_with fail
  refine (rrdCD_any (l := L) rfl hcT (hlT.below B04) hm3).mono ?_
  rintro e w6 ⟨v5, rfl, R5, B5⟩
  have B15 := Gr.trans B14 B5
  have B05 := Gr.trans hb B15
  go_wp2_with fail
  refine (rrdUS_any (l := L) rfl hcT (hlT.below B05) hm3).mono ?_
  rintro e w7 ⟨v6, rfl, R6, B6⟩
  have B16 := Gr.trans B15 B6
  have B06 := Gr.trans hb B16
  have hrL := hlT.below B06
  have hr6 := hr0.below B16
  obtain ⟨x1, y1, rfl, z1, q1, r1⟩ := R1.below (Gr.trans (Gr.trans (Gr.trans (Gr.trans B2 B3) B4) B5) B6)
  obtain ⟨x2, y2, rfl, z2, q2, r2⟩ := R2.below (Gr.trans (Gr.trans (Gr.trans B3 B4) B5) B6)
  obtain ⟨x3, y3, rfl, z3, q3, r3⟩ := R3.below (Gr.trans (Gr.trans B4 B5) B6)
  obtain ⟨x4, y4, rfl, z4, q4, r4⟩ := R4.below (Gr.trans B5 B6)
  obtain ⟨x5, y5, rfl, z5, q5, r5⟩ := R5.below B6
  obtain ⟨x6, y6, rfl, z6, q6, r6⟩ := R6
  have hlm : L.length ≤ maxLen := by unfold maxLen; omega
  generalize readF kI L = E1 at *
  generalize readF kC L = E2 at *
  generalize readF kU L = E3 at *
  clear R1 R2 R3 R4 R5 hb B1 B2 B3 B4 B5 B6 B01 B02 B03 B04 B05 B12 B13 B14 B15 B16 hlT hr0 hmT hmm hm3
  go_wp2_with fail
  refine (sindex_any rfl rfl r1 r4 fI iI mI).mono ?_
  rintro e w8 ⟨rfl, n8, rfl⟩
  go_wp2_with fail
  refine (scounts_any rfl rfl ⟨r2.1.drewN n8, r2.2⟩ ⟨r5.1.drewN n8, r5.2⟩ fC iC mC).mono ?_
  rintro e w9 ⟨rfl, n9, rfl⟩
  go_wp2_with fail
  refine (suses_any rfl rfl ⟨r3.1.drewN _, r3.2⟩ ⟨r6.1.drewN _, r6.2⟩ fU iU mU).mono ?_
  rintro e w10 ⟨rfl, n10, rfl⟩
  clear r1 r2 r3 r4 r5 r6 fI fC fU iI iC iU mI mC mU
  go_wp2_with fail
  refine (same_any rfl rfl (hr6.drewN _) (hrL.drewN _) hlm).mono ?_
  rintro e w11 ⟨rfl, n11, rfl⟩
  have e1 : (L == L) = true := by simp
  clear hr6 hrL
  go_wp2_with fail
  refine (lives13_any _).mono ?_
  rintro e w12 ⟨rfl, hb12⟩
  go_wp2
  go_ret
  exact ⟨rfl, Gr.trans (Below.drewN B06 _) hb12⟩
section
variable {H : Type} {enc : TypeId × Value → H} {W : World} {base : Nat} {v : Value} {d : DataW H} {p : List MemPlace}
theorem bookReads_calls (o : Value.okWide Try.prog W .any base 27 v) (h : DataW.Trod enc Try.prog W 0 (fun _ => true) true 27 v d p) :
    Calls Try.prog 5 #[v] W fun e W' => e = .returned (.bool true) ∧ Below W.heap.size W W' := by
  obtain ⟨a, n, c, l, rfl, rfl, hc, _, hl⟩ := open_byt Try.underlying27 Try.underlying5 cellsb o h
  exact breads_law hc hl
end
end Go.Proofs.Ytcomcljpnjeogaa
