/- Layer 20: the document's Is, Joined. -/
import Derived.Test.YtcanlgcifnjfaaaDoorP7
import Derived.Deep.CutBlock
import Derived.Deep.DeepCutAuto
set_option maxRecDepth 20000
namespace Go.Hd
def partR (p : List UInt8) : Bool := p != [] && p != [46] && p != [46, 46] && decide (p.length ≤ 60)
theorem mem0_join : ∀ ps : List (List UInt8), (0 : UInt8) ∈ joinP ps ↔ ∃ p ∈ ps, (0 : UInt8) ∈ p
  | [] => by simp [joinP]
  | [p] => by simp [joinP]
  | p :: q :: r => by
    rw [joinP_cons p (by simp), List.mem_append, List.mem_cons, mem0_join (q :: r)]
    have : ¬ (0 : UInt8) = 47 := by decide
    simp [this]
theorem partB_R {p : List UInt8} (h : 47 ∉ p) : partB p = (partR p && !p.contains 0) := by
  unfold partB partR
  have e : p.contains 47 = false := by simpa using h
  rw [e]
  cases p != [] <;> cases p != [46] <;> cases p != [46, 46] <;> cases decide (p.length ≤ 60) <;> cases p.contains 0 <;> rfl
theorem check_is (s : List UInt8) : (checkF s == 0) = ((cutP s).all partR && !s.contains 0 && decide (s.length ≤ 200)) := by
  have h1 : (cutP s).all partB = ((cutP s).all partR && !s.contains 0) := by
    rw [Bool.eq_iff_iff]
    simp only [List.all_eq_true, Bool.and_eq_true, Bool.not_eq_true', List.contains_eq_mem, decide_eq_false_iff_not]
    have hz := mem0_join (cutP s)
    rw [joinP_cutP] at hz
    constructor
    · intro h
      refine ⟨fun p hp => ?_, fun h0 => ?_⟩
      · have := h p hp
        rw [partB_R (cutP_no s p hp)] at this
        simp only [Bool.and_eq_true] at this
        exact this.1
      · obtain ⟨p, hp, hp0⟩ := hz.1 h0
        have := h p hp
        rw [partB_R (cutP_no s p hp)] at this
        simp [hp0] at this
    · intro h p hp
      rw [partB_R (cutP_no s p hp), h.1 p hp]
      have : (0 : UInt8) ∉ p := fun h0 => h.2 (hz.2 ⟨p, hp, h0⟩)
      simp [this]
  unfold checkF
  by_cases h2 : 200 < s.length
  · rw [if_pos h2, decide_eq_false (by omega)]; simp
  · rw [if_neg h2, decide_eq_true (by omega), h1]
    cases (cutP s).all partR <;> cases s.contains 0 <;> rfl
end Go.Hd
namespace Go.Proofs.YtcanlgcifnjfaaaDoor
open Go.RowKit Go.Hd

set_option maxHeartbeats 2000000 in
theorem ris_any (s : List UInt8) (w : World) (hs : s.length ≤ 1000000) :
    Calls Tryd.prog 16 #[.string (str s)] w fun e w' => e = .returned (.bool (checkF s == 0)) ∧ Below w.heap.size w w' := by
  have hpc := rpieces_any s w hs
  have HI := Lib.hid (check_is s)
  have hcl : (cutP s).length ≤ 1000001 := Nat.le_trans (cutP_len s) (by omega)
  have hz : (str s).size = s.length := str_size s
  generalize (checkF s == 0) = R at *
  generalize cutP s = ps at *
  have HCL := Lib.hid (And.intro hcl hs)
  clear hcl hs
  go_enter Tryd.func16, Tryd.ntmps16
  go_wp2_with fail
  refine hpc.mono ?_
  rintro e w1 ⟨⟨u, rfl, hk⟩, hb⟩
  obtain ⟨ak, ck, rfl, _, _, hrow, _⟩ := owns_rowN hk (by decide)
  clear hpc hk
  go_upto_block 0 with (fail)
  go_cut [4] (fun u wx => ps.all partR = true ∧ wx = w1)
  case first =>
    go_wp2
    go_loopw [4] (fun i wr => ∃ j : Nat, j ≤ ps.length ∧ i = .int .i64 j ∧ (ps.take j).all partR = true ∧ Hid (wr = w1)) (fun i _ => ps.length - (intOf i).toNat)
    case atStart => exact ⟨0, Nat.zero_le _, rfl, rfl, Lib.hid rfl⟩
    case round =>
      obtain ⟨j, hj, rfl, hall, hwr⟩ := hrel
      have hwr := hwr.out
      subst hwr
      have j0 : (0 : Int) ≤ (j : Int) := by omega
      have jb : IntKind.i64.wrap ((j : Int) + 1) = (j : Int) + 1 := IntWalk.i64_in _ (by have := HCL.out.1; omega)
      by_cases hlt : j < ps.length
      · have q1 : wr.cell? ((hd ak).add j) = some (strV ps[j]) := hrow.cell (by simp [hlt])
        have s1 : ak.isSome = true := hrow.isSome (i := j) (by simp; omega)
        unfold strV at q1
        have j1 : (j : Int) < (ps.length : Int) := by omega
        have hA : Hid ((ps.take (j + 1)).all partR = partR ps[j]) := by
          show _ = _
          rw [List.take_succ_eq_append_getElem hlt, List.all_append, hall]; simp
        have hN : Hid (partR ps[j] = false → R = false) := fun h => by
          rw [HI.out]
          rcases Bool.eq_false_or_eq_true (ps.all partR) with h2 | h2
          · rw [List.all_eq_true.1 h2 _ (List.getElem_mem hlt)] at h; cases h
          · rw [h2]; rfl
        have ht := Lib.hid (str_toList ps[j])
        generalize ps[j] = p at *
        clear hall
        by_cases h1 : p = []
        · have t1 : (str p).toList.isEmpty = true := by rw [ht.out, h1]; rfl
          have t1b : (str p).toList = [] := by rw [ht.out, h1]
          have hR := Lib.hid (hN.out (by rw [h1]; rfl))
          clear h1 hN hA
          go_wp2
          go_ret
          exact ⟨by rw [hR.out]; rfl, hb⟩
        have t1 : (str p).toList.isEmpty = false := by rw [ht.out]; simpa using h1
        have t1b : ¬ (str p).toList = [] := by rw [ht.out]; exact h1
        by_cases h2 : p = [46]
        · have t2 : ((str p).toList == [46]) = true := by rw [ht.out, h2]; rfl
          have hR := Lib.hid (hN.out (by rw [h2]; rfl))
          clear h1 h2 hN hA
          go_wp2
          go_ret
          exact ⟨by rw [hR.out]; rfl, hb⟩
        have t2 : ((str p).toList == [46]) = false := by rw [ht.out]; simpa using h2
        by_cases h3 : p = [46, 46]
        · have t3 : ((str p).toList == [46, 46]) = true := by rw [ht.out, h3]; rfl
          have hR := Lib.hid (hN.out (by rw [h3]; rfl))
          clear h1 h2 h3 hN hA
          go_wp2
          go_ret
          exact ⟨by rw [hR.out]; rfl, hb⟩
        have t3 : ((str p).toList == [46, 46]) = false := by rw [ht.out]; simpa using h3
        have hP : Hid (partR p = decide (p.length ≤ 60)) := by
          show _ = _
          unfold partR
          have e1 : (p != []) = true := by simpa using h1
          have e2 : (p != [46]) = true := by simpa using h2
          have e3 : (p != [46, 46]) = true := by simpa using h3
          rw [e1, e2, e3]; rfl
        clear h1 h2 h3
        by_cases h4 : p.length ≤ 60
        · have t4 : ¬ (60 : Int) < (p.length : Int) := by omega
          have hA2 : Hid ((ps.take (j + 1)).all partR = true) := by show _ = _; rw [hA.out, hP.out, decide_eq_true h4]
          clear hN hA h4
          go_wp2
          first
            | exact ⟨⟨j + 1, by omega, (by first | rfl | go_num | (congr 1; omega)), hA2.out, (by first | exact Lib.hid rfl | exact Lib.hid trivial)⟩, by simp [intOf] <;> omega⟩
            | (refine ⟨?_, by simp [intOf] <;> omega⟩; (repeat apply Exists.intro); exact ⟨⟨j + 1, by omega, (by first | rfl | go_num | (congr 1; omega)), hA2.out, (by first | exact Lib.hid rfl | exact Lib.hid trivial)⟩, rfl⟩)
        · have t4 : (60 : Int) < (p.length : Int) := by omega
          have hR := Lib.hid (hN.out (by rw [hP.out, decide_eq_false h4]))
          clear hN hA h4
          go_wp2
          go_ret
          exact ⟨by rw [hR.out]; rfl, hb⟩
      · obtain rfl : j = ps.length := by omega
        rw [List.take_length] at hall
        go_wp2
        go_meet
        exact ⟨hall, rfl⟩
  case rest =>
    obtain ⟨hall, hwc⟩ := hcut
    subst hwc
    have HR : Hid (R = (!s.contains 0 && decide (s.length ≤ 200))) := by show _ = _; rw [HI.out, hall]; simp
    clear hall hrow HI
    go_wp2
    go_loopw [5] (fun i wr => ∃ j : Nat, j ≤ s.length ∧ i = .int .i64 j ∧ (s.take j).contains 0 = false ∧ Hid (wr = wc)) (fun i _ => s.length - (intOf i).toNat)
    case atStart => exact ⟨0, Nat.zero_le _, rfl, rfl, Lib.hid rfl⟩
    case round =>
      obtain ⟨j, hj, rfl, hall, hwr⟩ := hrel
      have hwr := hwr.out
      subst hwr
      have j0 : (0 : Int) ≤ (j : Int) := by omega
      have jb : IntKind.i64.wrap ((j : Int) + 1) = (j : Int) + 1 := IntWalk.i64_in _ (by have := HCL.out.2; omega)
      by_cases hlt : j < s.length
      · have j1 : (j : Int) < (s.length : Int) := by omega
        have hsz : j < (str s).size := by rw [hz]; exact hlt
        have hat := str_at s j hsz hlt
        have hT : Hid ((s.take (j + 1)).contains 0 = (s[j] == 0)) := by
          show _ = _
          rw [List.take_succ_eq_append_getElem hlt]
          simp only [List.contains_eq_mem, List.mem_append, List.mem_singleton] at hall ⊢
          rw [Bool.eq_iff_iff]
          simp only [decide_eq_false_iff_not] at hall
          simp [hall]
          exact eq_comm
        have hM : Hid (s[j] = 0 → s.contains 0 = true) := fun h => by
          simp only [List.contains_eq_mem, decide_eq_true_eq]
          rw [← h]; exact List.getElem_mem hlt
        by_cases hc : s[j] = 0
        · have t1 : ((((str s)[j]'hsz).toNat : Int) == 0) = true := (congrArg (fun c : UInt8 => ((c.toNat : Int) == 0)) hat).trans (by show ((s[j].toNat : Int) == 0) = true; rw [hc]; rfl)
          have hR : Hid (R = false) := by show _ = _; rw [HR.out, hM.out hc]; rfl
          clear hc hM hT hat hall hlt
          go_wp2
          go_ret
          exact ⟨by rw [hR.out]; rfl, hb⟩
        · have t1 : ((((str s)[j]'hsz).toNat : Int) == 0) = false := by
            refine (congrArg (fun c : UInt8 => ((c.toNat : Int) == 0)) hat).trans ?_
            show ((s[j].toNat : Int) == 0) = false
            rw [beq_eq_false_iff_ne]
            intro e
            exact hc (UInt8.toNat_inj.1 (by have h47 : (0 : UInt8).toNat = 0 := rfl; omega))
          have hA : Hid ((s.take (j + 1)).contains 0 = false) := by show _ = _; rw [hT.out]; simpa using hc
          clear hc hM hT hat hall
          go_wp2
          first
            | exact ⟨⟨j + 1, by omega, (by first | rfl | go_num | (congr 1; omega)), hA.out, (by first | exact Lib.hid rfl | exact Lib.hid trivial)⟩, by simp [intOf] <;> omega⟩
            | (refine ⟨?_, by simp [intOf] <;> omega⟩; (repeat apply Exists.intro); exact ⟨⟨j + 1, by omega, (by first | rfl | go_num | (congr 1; omega)), hA.out, (by first | exact Lib.hid rfl | exact Lib.hid trivial)⟩, rfl⟩)
      · obtain rfl : j = s.length := by omega
        rw [List.take_length] at hall
        have hR : Hid (R = decide (s.length ≤ 200)) := by show _ = _; rw [HR.out, hall]; rfl
        clear hall
        by_cases h2 : s.length ≤ 200
        · have i2 : (s.length : Int) ≤ 200 := by omega
          go_wp2
          go_ret
          exact ⟨by rw [hR.out, decide_eq_true h2]; rfl, hb⟩
        · have i2 : ¬ (s.length : Int) ≤ 200 := by omega
          go_wp2
          go_ret
          exact ⟨by rw [hR.out, decide_eq_false h2]; rfl, hb⟩
end Go.Proofs.YtcanlgcifnjfaaaDoor
