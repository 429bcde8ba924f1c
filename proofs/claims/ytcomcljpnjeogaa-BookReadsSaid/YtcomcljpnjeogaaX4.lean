/- The walk of (*xxh.Hasher).Sum. -/
import Derived.Test.YtcomcljpnjeogaaX3
import Derived.StillTailTactics
set_option maxRecDepth 20000
namespace Go.Proofs.Ytcomcljpnjeogaa
open Go.RowKit Go.Hd
variable {S : Nat → Prop}

theorem shr33 (x : BitVec 64) : (x.toNat : Int) / (8589934592 : Int) = ((x >>> 33).toNat : Int) := by rw [show (8589934592 : Int) = 2 ^ 33 by decide]; exact w64_shr x 33
theorem shr29 (x : BitVec 64) : (x.toNat : Int) / (536870912 : Int) = ((x >>> 29).toNat : Int) := by rw [show (536870912 : Int) = 2 ^ 29 by decide]; exact w64_shr x 29
theorem shr32 (x : BitVec 64) : (x.toNat : Int) / (4294967296 : Int) = ((x >>> 32).toNat : Int) := by rw [show (4294967296 : Int) = 2 ^ 32 by decide]; exact w64_shr x 32
theorem fin1 (x : BitVec 64) : IntKind.u64.wrap (bits .xor .u64 (x.toNat : Int) ((x.toNat : Int) / (8589934592 : Int)) * 14029467366897019727) = (((x ^^^ x >>> 33) * P2).toNat : Int) := wrap_eq (by rw [shr33, bits64_xor, B64_mul, b64_nat, B64_p2])
theorem fin2 (x : BitVec 64) : IntKind.u64.wrap (bits .xor .u64 (x.toNat : Int) ((x.toNat : Int) / (536870912 : Int)) * 1609587929392839161) = (((x ^^^ x >>> 29) * P3).toNat : Int) := wrap_eq (by rw [shr29, bits64_xor, B64_mul, b64_nat, B64_p3])
theorem fin3 (x : BitVec 64) : bits .xor .u64 (x.toNat : Int) ((x.toNat : Int) / (4294967296 : Int)) = ((x ^^^ x >>> 32).toNat : Int) := by rw [shr32, bits64_xor]
theorem hsum_any {w : World} {g : Nat} {seed : BitVec 64} {l : List UInt8} (h : HAt S w g seed l) (hm : l.length ≤ 140737488355328) :
    Calls Try.prog 68 #[.pointer (some ⟨g, 0, none⟩)] w fun e w' => e = .returned (.int .u64 ((sumF l seed).toNat : Int)) ∧ Below w.heap.size w w' := by
  obtain ⟨a, c, hB, hr, hc, hcm, _⟩ := h
  have HSU : Hid (sumF l seed = finF (tailF (aheadF l seed + BitVec.ofNat 64 l.length) (l.drop (32 * (l.length / 32))))) := rfl
  obtain ⟨r, hre⟩ : ∃ r, r = l.drop (32 * (l.length / 32)) := ⟨_, rfl⟩
  rw [← hre] at hB hr hc HSU
  have HRE := Lib.hid hre
  clear hre
  have c0 : w.cell? ⟨g, 0, none⟩ = _ := hB.cell rfl
  have c1 : w.cell? ⟨g, 1, none⟩ = _ := hB.cell rfl
  have c6 : w.cell? ⟨g, 6, none⟩ = _ := hB.cell rfl
  have c7 : w.cell? ⟨g, 7, none⟩ = _ := hB.cell rfl
  by_cases h32 : 32 ≤ l.length
  · have hI : (32 : Int) ≤ l.length := by omega
    have HA : Hid (IntKind.u64.wrap (((joinF (lanes l seed 0 (l.length / 32)) (lanes l seed 1 (l.length / 32)) (lanes l seed 2 (l.length / 32)) (lanes l seed 3 (l.length / 32))).toNat : Int) + l.length) = ((aheadF l seed + BitVec.ofNat 64 l.length).toNat : Int)) := by
      show _ = _
      unfold aheadF
      rw [if_pos h32]
      exact wrap_eq (by rw [B64_add, b64_nat]; congr 1)
    go_enter Try.func68, Try.ntmps68
    go_wp2_with fail
    refine (joined_any hB).mono ?_
    rintro e w1 ⟨rfl, hb1⟩
    have hB1 := hB.below hb1
    have d6 : w1.cell? ⟨g, 6, none⟩ = _ := hB1.cell rfl
    have d7 : w1.cell? ⟨g, 7, none⟩ = _ := hB1.cell rfl
    go_wp2
    refine wp_region_still_tail 10 (by kernel_rfl) (by kernel_rfl) ?_
    simp only [List.take_succ_cons, List.take_zero, List.drop_succ_cons, List.drop_zero]
    change wpStill _ _ (w1.drewN 1) _ _ _
    repeat still_step
    try refine wpStill_nil ?_
    change wpList _ _ _ _ _ (w1.drewN 1)
    go_wp2_with fail
    refine (tail_bv (aheadF l seed + BitVec.ofNat 64 l.length) ?_ rfl ((hr.below hb1).drewN 1) hc hcm).mono ?_
    · exact HA.out
    rintro e w2 ⟨rfl, n2, rfl⟩
    generalize tailF (aheadF l seed + BitVec.ofNat 64 l.length) r = y at *
    go_wp2
    go_ret
    exact ⟨ret_int (by rw [fin1, fin2, fin3, HSU.out]; rfl), Below.drewN hb1 _⟩
  · have hI : ¬ (32 : Int) ≤ l.length := by omega
    have HA : Hid (IntKind.u64.wrap (IntKind.u64.wrap ((seed.toNat : Int) + 2870177450012600261) + l.length) = ((aheadF l seed + BitVec.ofNat 64 l.length).toNat : Int)) := by
      show _ = _
      unfold aheadF
      rw [if_neg h32]
      exact wrap_eq (by rw [B64_add, B64_wrap, B64_add, b64_nat, B64_p5]; congr 1)
    go_enter Try.func68, Try.ntmps68
    go_wp2
    refine wp_region_still_tail 10 (by kernel_rfl) (by kernel_rfl) ?_
    simp only [List.take_succ_cons, List.take_zero, List.drop_succ_cons, List.drop_zero]
    change wpStill _ _ (w.drewN 1) _ _ _
    repeat still_step
    try refine wpStill_nil ?_
    change wpList _ _ _ _ _ (w.drewN 1)
    go_wp2_with fail
    refine (tail_bv (aheadF l seed + BitVec.ofNat 64 l.length) ?_ rfl (hr.drewN 1) hc hcm).mono ?_
    · exact HA.out
    rintro e w2 ⟨rfl, n2, rfl⟩
    generalize tailF (aheadF l seed + BitVec.ofNat 64 l.length) r = y at *
    go_wp2
    go_ret
    exact ⟨ret_int (by rw [fin1, fin2, fin3, HSU.out]; rfl), Gr.drewN w _⟩
end Go.Proofs.Ytcomcljpnjeogaa
