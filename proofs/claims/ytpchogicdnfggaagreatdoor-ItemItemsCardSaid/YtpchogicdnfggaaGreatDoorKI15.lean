/- Joined: what one statement of this layer stands on, part 15 of 26; nothing is assumed. -/
import Derived.BigQuiet
import Derived.Deep.CutBlock
import Derived.Deep.DeepCutAuto
import Derived.Test.YtpchogicdnfggaaGreatDoorKI14
set_option maxRecDepth 20000
namespace Go.Hd
theorem str_slice (l : List UInt8) (a b : Nat) : (str l).extract a b = str ((l.drop a).take (b - a)) := by
  rw [Lib.extract_eq, str_data]; rfl
theorem str_at (l : List UInt8) (i : Nat) (_h : i < (str l).size) (h2 : i < l.length) : (str l)[i] = l[i] := by
  show (str l).data[i] = _
  simp [str]
/-- The pieces laid so far. -/
structure PcI (s : List UInt8) (i a : Nat) (ks : List (List UInt8)) : Prop where
  mid : i ≤ s.length → a ≤ i ∧ cutP s = ks ++ cutP (s.drop a) ∧ 47 ∉ (s.drop a).take (i - a)
  fin : s.length < i → i = s.length + 1 ∧ ks = cutP s
theorem PcI.start (s : List UInt8) : PcI s 0 0 [] := ⟨fun _ => ⟨Nat.le_refl _, rfl, by simp⟩, fun h => absurd h (by omega)⟩
theorem PcI.last {s : List UInt8} {a : Nat} {ks : List (List UInt8)} (h : PcI s s.length a ks) : PcI s (s.length + 1) (s.length + 1) (ks ++ [(s.drop a).take (s.length - a)]) := by
  obtain ⟨h1, h2, h3⟩ := h.mid (Nat.le_refl _)
  refine ⟨fun h => absurd h (by omega), fun _ => ⟨rfl, ?_⟩⟩
  rw [h2, List.take_of_length_le (by simp), cutP_one]
  rw [List.take_of_length_le (by simp)] at h3; exact h3
theorem PcI.cut {s : List UInt8} {i a : Nat} {ks : List (List UInt8)} (h : PcI s i a ks) (hi : i < s.length) (hc : s[i] = 47) : PcI s (i + 1) (i + 1) (ks ++ [(s.drop a).take (i - a)]) := by
  obtain ⟨h1, h2, h3⟩ := h.mid (by omega)
  have e : s.drop a = (s.drop a).take (i - a) ++ 47 :: s.drop (i + 1) := by
    conv => lhs; rw [← List.take_append_drop (i - a) (s.drop a)]
    rw [List.drop_drop, show a + (i - a) = i by omega, List.drop_eq_getElem_cons hi, hc]
  refine ⟨fun _ => ⟨Nat.le_refl _, ?_, by simp⟩, fun h => absurd h (by omega)⟩
  rw [h2]
  conv => lhs; rw [e]
  rw [cutP_app _ _ h3]; simp
theorem PcI.next {s : List UInt8} {i a : Nat} {ks : List (List UInt8)} (h : PcI s i a ks) (hi : i < s.length) (hc : s[i] ≠ 47) : PcI s (i + 1) a ks := by
  obtain ⟨h1, h2, h3⟩ := h.mid (by omega)
  refine ⟨fun _ => ⟨by omega, h2, ?_⟩, fun h => absurd h (by omega)⟩
  have e : (s.drop a).take (i + 1 - a) = (s.drop a).take (i - a) ++ [s[i]] := by
    rw [show i + 1 - a = (i - a) + 1 by omega, List.take_succ_eq_append_getElem (by simp; omega)]
    congr 2
    rw [List.getElem_drop]; congr 1; omega
  rw [e, List.mem_append]
  rintro (h4 | h4)
  · exact h3 h4
  · exact hc (by simp at h4; exact h4.symm)
theorem PcI.len {s : List UInt8} {i a : Nat} {ks : List (List UInt8)} (h : PcI s i a ks) : ks.length ≤ s.length + 1 := by
  rcases Nat.lt_or_ge s.length i with h1 | h1
  · rw [(h.fin h1).2]; exact cutP_len s
  · have := congrArg List.length (h.mid h1).2.1
    have h2 := cutP_len s
    rw [List.length_append] at this; omega
end Go.Hd
namespace Go.Proofs.YtpchogicdnfggaaGreatDoor
open Go.RowKit Go.Hd

set_option maxHeartbeats 2000000 in
theorem rpieces_any (s : List UInt8) (w : World) (hs : s.length ≤ 1000000) :
    Calls Tryz.prog 37 #[.string (str s)] w fun e w' => (∃ u, e = .returned u ∧ KsAt w.heap.size w' u (cutP s)) ∧ Below w.heap.size w w' := by
  have hz : (str s).size = s.length := str_size s
  have HS := Lib.hid hs
  clear hs
  go_enter Tryz.func37, Tryz.ntmps37
  go_wp2
  go_loopw [3, 4, 5] (fun u f i wr => ∃ (j a : Nat) (ks : List (List UInt8)), f = .int .i64 a ∧ i = .int .i64 j ∧ j ≤ s.length + 1 ∧ PcI s j a ks ∧ KsAt w.heap.size wr u ks ∧ Below w.heap.size w wr) (fun _ _ i _ => s.length + 1 - (intOf i).toNat)
  case atStart => exact ⟨0, 0, [], rfl, rfl, Nat.zero_le _, PcI.start s, World.ownsRow_nil _ _ _ _, Below.refl _ _⟩
  case round =>
    obtain ⟨j, a, ks, rfl, rfl, hj, hP, hk, hb⟩ := hrel
    have j0 : (0 : Int) ≤ (j : Int) := by omega
    have jb : IntKind.i64.wrap ((j : Int) + 1) = (j : Int) + 1 := IntWalk.i64_in _ (by have := HS.out; omega)
    have hkl := hP.len
    obtain ⟨ak, ck, rfl, _⟩ := owns_rowN hk (by decide)
    have hown := World.ownsRow.lt hk
    have HB := Lib.hid hb
    by_cases hle : j ≤ s.length
    · obtain ⟨haj, _, _⟩ := hP.mid hle
      have e1 := str_slice s a j
      have HAPP := own_app1 (ty := 47) eS hk (.string (str ((s.drop a).take (j - a)))) rfl (by unfold maxLen; have := HS.out; omega) (by have := HS.out; omega) hb.size
      have a0 : (0 : Int) ≤ (a : Int) := by omega
      have a1 : (a : Int) ≤ (j : Int) := by omega
      have j2 : (j : Int) ≤ (s.length : Int) := by omega
      obtain ⟨a', c', w', hrun, ho', hG⟩ := HAPP
      have hb' : Below w.heap.size w w' := hb.trans (hG.below (base := w.heap.size) (fun k hk => (hown k hk).1) (Nat.le_refl _) hb.size)
      by_cases hlt : j < s.length
      · have hne : ((j : Int) == (s.length : Int)) = false := by rw [beq_eq_false_iff_ne]; omega
        have j1 : (j : Int) < (s.length : Int) := by omega
        have hsz : j < (str s).size := by rw [hz]; exact hlt
        have hat := str_at s j hsz hlt
        by_cases hc : s[j] = 47
        · have t1 : ((((str s)[j]'hsz).toNat : Int) == 47) = true := (congrArg (fun c : UInt8 => ((c.toNat : Int) == 47)) hat).trans (by show ((s[j].toNat : Int) == 47) = true; rw [hc]; rfl)
          have hP' := hP.cut hlt hc
          have hK : KsAt w.heap.size w' (.slice a' (ks.length + 1) c') (ks ++ [(s.drop a).take (j - a)]) := by
            show World.ownsRow _ _ _ _ _ _ _
            simpa [strV] using ho'
          have HF := Lib.hid (And.intro hP' hK)
          clear hP hP' hK ho' hG hk hown hc hat hlt hle haj
          generalize (s.drop a).take (j - a) = p at *
          go_wp2_with (at_builtin; refine wpList_append_run hrun rfl rfl rfl rfl ?_)
          first
            | exact ⟨⟨j + 1, j + 1, _, (by first | rfl | go_num | (congr 1; omega)), (by first | rfl | go_num | (congr 1; omega)), by omega, HF.out.1, HF.out.2, hb'⟩, by simp [intOf] <;> omega⟩
            | (refine ⟨?_, by simp [intOf] <;> omega⟩; (repeat apply Exists.intro); exact ⟨⟨j + 1, j + 1, _, (by first | rfl | go_num | (congr 1; omega)), (by first | rfl | go_num | (congr 1; omega)), by omega, HF.out.1, HF.out.2, hb'⟩, rfl⟩)
        · have t1 : ((((str s)[j]'hsz).toNat : Int) == 47) = false := by
            refine (congrArg (fun c : UInt8 => ((c.toNat : Int) == 47)) hat).trans ?_
            show ((s[j].toNat : Int) == 47) = false
            rw [beq_eq_false_iff_ne]
            intro e
            exact hc (UInt8.toNat_inj.1 (by have h47 : (47 : UInt8).toNat = 47 := rfl; omega))
          have HF := Lib.hid (And.intro (hP.next hlt hc) hk)
          clear hP ho' hG hk hown hc hat hlt hle haj hrun
          go_wp2
          first
            | exact ⟨⟨j + 1, a, _, rfl, (by first | rfl | go_num | (congr 1; omega)), by omega, HF.out.1, HF.out.2, HB.out⟩, by simp [intOf] <;> omega⟩
            | (refine ⟨?_, by simp [intOf] <;> omega⟩; (repeat apply Exists.intro); exact ⟨⟨j + 1, a, _, rfl, (by first | rfl | go_num | (congr 1; omega)), by omega, HF.out.1, HF.out.2, HB.out⟩, rfl⟩)
      · obtain rfl : j = s.length := by omega
        have hP' := hP.last
        have hK : KsAt w.heap.size w' (.slice a' (ks.length + 1) c') (ks ++ [(s.drop a).take (s.length - a)]) := by
          show World.ownsRow _ _ _ _ _ _ _
          simpa [strV] using ho'
        have HF := Lib.hid (And.intro hP' hK)
        clear hP hP' hK ho' hG hk hown hlt hle haj
        generalize (s.drop a).take (s.length - a) = p at *
        go_wp2_with (at_builtin; refine wpList_append_run hrun rfl rfl rfl rfl ?_)
        first
          | exact ⟨⟨s.length + 1, s.length + 1, _, (by first | rfl | go_num | (congr 1; omega)), (by first | rfl | go_num | (congr 1; omega)), by omega, HF.out.1, HF.out.2, hb'⟩, by simp [intOf] <;> omega⟩
          | (refine ⟨?_, by simp [intOf] <;> omega⟩; (repeat apply Exists.intro); exact ⟨⟨s.length + 1, s.length + 1, _, (by first | rfl | go_num | (congr 1; omega)), (by first | rfl | go_num | (congr 1; omega)), by omega, HF.out.1, HF.out.2, hb'⟩, rfl⟩)
    · have hks := (hP.fin (by omega)).2
      have j1 : ¬ (j : Int) ≤ (s.length : Int) := by omega
      have HK : Hid (KsAt w.heap.size wr (.slice ak ks.length ck) (cutP s)) := by show KsAt _ _ _ _; rw [← hks]; exact hk
      clear hP hle hks hk hown
      go_wp2
      go_ret
      exact ⟨⟨_, rfl, HK.out⟩, hb⟩
end Go.Proofs.YtpchogicdnfggaaGreatDoor
set_option maxRecDepth 20000
namespace Go.Hd
def partR (p : List UInt8) : Bool := p != [] && p != [46] && p != [46, 46] && decide (p.length ≤ 60)
theorem mem0_join : ∀ ps : List (List UInt8), (0 : UInt8) ∈ joinP ps ↔ ∃ p ∈ ps, (0 : UInt8) ∈ p
  | [] => by simp [joinP]
  | [p] => by simp [joinP]
  | p :: q :: r => by
    rw [joinP_cons p (by simp), List.mem_append, List.mem_cons, mem0_join (q :: r)]
    have : ¬ (0 : UInt8) = 47 := by decide
    simp [this]
theorem partB_R {p : List UInt8} (h : 47 ∉ p) : partB p = (partR p && !p.contains 0) := by
  unfold partB partR
  have e : p.contains 47 = false := by simpa using h
  rw [e]
  cases p != [] <;> cases p != [46] <;> cases p != [46, 46] <;> cases decide (p.length ≤ 60) <;> cases p.contains 0 <;> rfl
theorem check_is (s : List UInt8) : (checkF s == 0) = ((cutP s).all partR && !s.contains 0 && decide (s.length ≤ 200)) := by
  have h1 : (cutP s).all partB = ((cutP s).all partR && !s.contains 0) := by
    rw [Bool.eq_iff_iff]
    simp only [List.all_eq_true, Bool.and_eq_true, Bool.not_eq_true', List.contains_eq_mem, decide_eq_false_iff_not]
    have hz := mem0_join (cutP s)
    rw [joinP_cutP] at hz
    constructor
    · intro h
      refine ⟨fun p hp => ?_, fun h0 => ?_⟩
      · have := h p hp
        rw [partB_R (cutP_no s p hp)] at this
        simp only [Bool.and_eq_true] at this
        exact this.1
      · obtain ⟨p, hp, hp0⟩ := hz.1 h0
        have := h p hp
        rw [partB_R (cutP_no s p hp)] at this
        simp [hp0] at this
    · intro h p hp
      rw [partB_R (cutP_no s p hp), h.1 p hp]
      have : (0 : UInt8) ∉ p := fun h0 => h.2 (hz.2 ⟨p, hp, h0⟩)
      simp [this]
  unfold checkF
  by_cases h2 : 200 < s.length
  · rw [if_pos h2, decide_eq_false (by omega)]; simp
  · rw [if_neg h2, decide_eq_true (by omega), h1]
    cases (cutP s).all partR <;> cases s.contains 0 <;> rfl
end Go.Hd
namespace Go.Proofs.YtpchogicdnfggaaGreatDoor
open Go.RowKit Go.Hd

set_option maxHeartbeats 2000000 in
theorem ris_any (s : List UInt8) (w : World) (hs : s.length ≤ 1000000) :
    Calls Tryz.prog 59 #[.string (str s)] w fun e w' => e = .returned (.bool (checkF s == 0)) ∧ Below w.heap.size w w' := by
  have hpc := rpieces_any s w hs
  have HI := Lib.hid (check_is s)
  have hcl : (cutP s).length ≤ 1000001 := Nat.le_trans (cutP_len s) (by omega)
  have hz : (str s).size = s.length := str_size s
  generalize (checkF s == 0) = R at *
  generalize cutP s = ps at *
  have HCL := Lib.hid (And.intro hcl hs)
  clear hcl hs
  go_enter Tryz.func59, Tryz.ntmps59
  go_wp2_with fail
  refine hpc.mono ?_
  rintro e w1 ⟨⟨u, rfl, hk⟩, hb⟩
  obtain ⟨ak, ck, rfl, _, _, hrow, _⟩ := owns_rowN hk (by decide)
  clear hpc hk
  go_upto_block 0 with (fail)
  go_cut [4] (fun u wx => ps.all partR = true ∧ wx = w1)
  case first =>
    go_wp2
    go_loopw [4] (fun i wr => ∃ j : Nat, j ≤ ps.length ∧ i = .int .i64 j ∧ (ps.take j).all partR = true ∧ Hid (wr = w1)) (fun i _ => ps.length - (intOf i).toNat)
    case atStart => exact ⟨0, Nat.zero_le _, rfl, rfl, Lib.hid rfl⟩
    case round =>
      obtain ⟨j, hj, rfl, hall, hwr⟩ := hrel
      have hwr := hwr.out
      subst hwr
      have j0 : (0 : Int) ≤ (j : Int) := by omega
      have jb : IntKind.i64.wrap ((j : Int) + 1) = (j : Int) + 1 := IntWalk.i64_in _ (by have := HCL.out.1; omega)
      by_cases hlt : j < ps.length
      · have q1 : wr.cell? ((hd ak).add j) = some (strV ps[j]) := hrow.cell (by simp [hlt])
        have s1 : ak.isSome = true := hrow.isSome (i := j) (by simp; omega)
        unfold strV at q1
        have j1 : (j : Int) < (ps.length : Int) := by omega
        have hA : Hid ((ps.take (j + 1)).all partR = partR ps[j]) := by
          show _ = _
          rw [List.take_succ_eq_append_getElem hlt, List.all_append, hall]; simp
        have hN : Hid (partR ps[j] = false → R = false) := fun h => by
          rw [HI.out]
          rcases Bool.eq_false_or_eq_true (ps.all partR) with h2 | h2
          · rw [List.all_eq_true.1 h2 _ (List.getElem_mem hlt)] at h; cases h
          · rw [h2]; rfl
        have ht := Lib.hid (str_toList ps[j])
        generalize ps[j] = p at *
        clear hall
        by_cases h1 : p = []
        · have t1 : (str p).toList.isEmpty = true := by rw [ht.out, h1]; rfl
          have t1b : (str p).toList = [] := by rw [ht.out, h1]
          have hR := Lib.hid (hN.out (by rw [h1]; rfl))
          clear h1 hN hA
          go_wp2
          go_ret
          exact ⟨by rw [hR.out]; rfl, hb⟩
        have t1 : (str p).toList.isEmpty = false := by rw [ht.out]; simpa using h1
        have t1b : ¬ (str p).toList = [] := by rw [ht.out]; exact h1
        by_cases h2 : p = [46]
        · have t2 : ((str p).toList == [46]) = true := by rw [ht.out, h2]; rfl
          have hR := Lib.hid (hN.out (by rw [h2]; rfl))
          clear h1 h2 hN hA
          go_wp2
          go_ret
          exact ⟨by rw [hR.out]; rfl, hb⟩
        have t2 : ((str p).toList == [46]) = false := by rw [ht.out]; simpa using h2
        by_cases h3 : p = [46, 46]
        · have t3 : ((str p).toList == [46, 46]) = true := by rw [ht.out, h3]; rfl
          have hR := Lib.hid (hN.out (by rw [h3]; rfl))
          clear h1 h2 h3 hN hA
          go_wp2
          go_ret
          exact ⟨by rw [hR.out]; rfl, hb⟩
        have t3 : ((str p).toList == [46, 46]) = false := by rw [ht.out]; simpa using h3
        have hP : Hid (partR p = decide (p.length ≤ 60)) := by
          show _ = _
          unfold partR
          have e1 : (p != []) = true := by simpa using h1
          have e2 : (p != [46]) = true := by simpa using h2
          have e3 : (p != [46, 46]) = true := by simpa using h3
          rw [e1, e2, e3]; rfl
        clear h1 h2 h3
        by_cases h4 : p.length ≤ 60
        · have t4 : ¬ (60 : Int) < (p.length : Int) := by omega
          have hA2 : Hid ((ps.take (j + 1)).all partR = true) := by show _ = _; rw [hA.out, hP.out, decide_eq_true h4]
          clear hN hA h4
          go_wp2
          first
            | exact ⟨⟨j + 1, by omega, (by first | rfl | go_num | (congr 1; omega)), hA2.out, (by first | exact Lib.hid rfl | exact Lib.hid trivial)⟩, by simp [intOf] <;> omega⟩
            | (refine ⟨?_, by simp [intOf] <;> omega⟩; (repeat apply Exists.intro); exact ⟨⟨j + 1, by omega, (by first | rfl | go_num | (congr 1; omega)), hA2.out, (by first | exact Lib.hid rfl | exact Lib.hid trivial)⟩, rfl⟩)
        · have t4 : (60 : Int) < (p.length : Int) := by omega
          have hR := Lib.hid (hN.out (by rw [hP.out, decide_eq_false h4]))
          clear hN hA h4
          go_wp2
          go_ret
          exact ⟨by rw [hR.out]; rfl, hb⟩
      · obtain rfl : j = ps.length := by omega
        rw [List.take_length] at hall
        go_wp2
        go_meet
        exact ⟨hall, rfl⟩
  case rest =>
    obtain ⟨hall, hwc⟩ := hcut
    subst hwc
    have HR : Hid (R = (!s.contains 0 && decide (s.length ≤ 200))) := by show _ = _; rw [HI.out, hall]; simp
    clear hall hrow HI
    go_wp2
    go_loopw [5] (fun i wr => ∃ j : Nat, j ≤ s.length ∧ i = .int .i64 j ∧ (s.take j).contains 0 = false ∧ Hid (wr = wc)) (fun i _ => s.length - (intOf i).toNat)
    case atStart => exact ⟨0, Nat.zero_le _, rfl, rfl, Lib.hid rfl⟩
    case round =>
      obtain ⟨j, hj, rfl, hall, hwr⟩ := hrel
      have hwr := hwr.out
      subst hwr
      have j0 : (0 : Int) ≤ (j : Int) := by omega
      have jb : IntKind.i64.wrap ((j : Int) + 1) = (j : Int) + 1 := IntWalk.i64_in _ (by have := HCL.out.2; omega)
      by_cases hlt : j < s.length
      · have j1 : (j : Int) < (s.length : Int) := by omega
        have hsz : j < (str s).size := by rw [hz]; exact hlt
        have hat := str_at s j hsz hlt
        have hT : Hid ((s.take (j + 1)).contains 0 = (s[j] == 0)) := by
          show _ = _
          rw [List.take_succ_eq_append_getElem hlt]
          simp only [List.contains_eq_mem, List.mem_append, List.mem_singleton] at hall ⊢
          rw [Bool.eq_iff_iff]
          simp only [decide_eq_false_iff_not] at hall
          simp [hall]
          exact eq_comm
        have hM : Hid (s[j] = 0 → s.contains 0 = true) := fun h => by
          simp only [List.contains_eq_mem, decide_eq_true_eq]
          rw [← h]; exact List.getElem_mem hlt
        by_cases hc : s[j] = 0
        · have t1 : ((((str s)[j]'hsz).toNat : Int) == 0) = true := (congrArg (fun c : UInt8 => ((c.toNat : Int) == 0)) hat).trans (by show ((s[j].toNat : Int) == 0) = true; rw [hc]; rfl)
          have hR : Hid (R = false) := by show _ = _; rw [HR.out, hM.out hc]; rfl
          clear hc hM hT hat hall hlt
          go_wp2
          go_ret
          exact ⟨by rw [hR.out]; rfl, hb⟩
        · have t1 : ((((str s)[j]'hsz).toNat : Int) == 0) = false := by
            refine (congrArg (fun c : UInt8 => ((c.toNat : Int) == 0)) hat).trans ?_
            show ((s[j].toNat : Int) == 0) = false
            rw [beq_eq_false_iff_ne]
            intro e
            exact hc (UInt8.toNat_inj.1 (by have h47 : (0 : UInt8).toNat = 0 := rfl; omega))
          have hA : Hid ((s.take (j + 1)).contains 0 = false) := by show _ = _; rw [hT.out]; simpa using hc
          clear hc hM hT hat hall
          go_wp2
          first
            | exact ⟨⟨j + 1, by omega, (by first | rfl | go_num | (congr 1; omega)), hA.out, (by first | exact Lib.hid rfl | exact Lib.hid trivial)⟩, by simp [intOf] <;> omega⟩
            | (refine ⟨?_, by simp [intOf] <;> omega⟩; (repeat apply Exists.intro); exact ⟨⟨j + 1, by omega, (by first | rfl | go_num | (congr 1; omega)), hA.out, (by first | exact Lib.hid rfl | exact Lib.hid trivial)⟩, rfl⟩)
      · obtain rfl : j = s.length := by omega
        rw [List.take_length] at hall
        have hR : Hid (R = decide (s.length ≤ 200)) := by show _ = _; rw [HR.out, hall]; rfl
        clear hall
        by_cases h2 : s.length ≤ 200
        · have i2 : (s.length : Int) ≤ 200 := by omega
          go_wp2
          go_ret
          exact ⟨by rw [hR.out, decide_eq_true h2]; rfl, hb⟩
        · have i2 : ¬ (s.length : Int) ≤ 200 := by omega
          go_wp2
          go_ret
          exact ⟨by rw [hR.out, decide_eq_false h2]; rfl, hb⟩
end Go.Proofs.YtpchogicdnfggaaGreatDoor
set_option maxRecDepth 20000
namespace Go.Proofs.YtpchogicdnfggaaGreatDoor
open Go.RowKit Go.Hd
theorem cell_field {w : World} {a : Addr} {i j : Nat} {v : Value} (h : w.cell? (a.add (i + j)) = some v) : w.cell? ⟨(a.add i).block, (a.add i).off + j, none⟩ = some v := by
  unfold World.cell? Addr.add at *
  by_cases hi : i = 0 <;> by_cases hj : j = 0 <;> simp [hi, hj, Nat.add_assoc] at h ⊢
  · cases hb : w.heap[a.block]? with
    | none => rw [hb] at h; cases h
    | some o =>
      rw [hb] at h
      cases o with
      | cells c e f =>
        simp only at h ⊢
        split at h
        · cases h
        · exact h
      | _ => cases h
  all_goals exact h
theorem cell_fld {w : World} {a : Addr} {i j : Nat} {v : Value} (h : w.cell? ((a.add i).add j) = some v) : w.cell? ⟨(a.add i).block, (a.add i).off + j, none⟩ = some v := cell_field (by rwa [add_add] at h)
def partsF (l : List Prt) : Int := if 64 < l.length then -1 else if l.all okP then sumP l else -1
set_option maxHeartbeats 2000000 in
theorem rparts_any {a : Option Addr} {n c : Nat} {l : List Prt} {w : World} (hn : n = l.length) (hr : Row w a (l.map prtC).flatten) (hpo : ∀ p ∈ l, PrtOk p) (hl : l.length ≤ 100000) :
    Calls Tryz.prog 60 #[.slice a n c] w fun e w' => e = .returned (.int .i64 (partsF l)) ∧ w = w' := by
  subst hn
  have hE : Hid (partsF l = if 64 < l.length then -1 else if l.all okP then sumP l else -1) := rfl
  generalize partsF l = E at *
  by_cases h1 : 64 < l.length
  · have e1 : (64 : Int) < (l.length : Int) := by omega
    have hT : Hid (E = -1) := by show _ = _; rw [hE.out, if_pos h1]
    clear hE h1
    go_enter Tryz.func60, Tryz.ntmps60
    go_wp2
    go_ret
    exact ⟨by rw [hT.out] <;> rfl, rfl⟩
  have e1 : ¬ (64 : Int) < (l.length : Int) := by omega
  have hF : Hid (E = if l.all okP then sumP l else -1) := by show _ = _; rw [hE.out, if_neg h1]
  have HL := Lib.hid hl
  clear hE h1 hl
  go_enter Tryz.func60, Tryz.ntmps60
  go_wp2
  go_loopw [3, 4] (fun u i wr => ∃ j : Nat, j ≤ l.length ∧ i = .int .i64 j ∧ u = .int .i64 (sumP (l.take j)) ∧ Hid ((l.take j).all okP = true) ∧ Hid (w = wr)) (fun _ i _ => l.length - (intOf i).toNat)
  case atStart => exact ⟨0, Nat.zero_le _, rfl, rfl, Lib.hid rfl, Lib.hid rfl⟩
  case round =>
    obtain ⟨j, hj, rfl, rfl, hA, hw⟩ := hrel
    obtain rfl := hw.out
    have j0 : (0 : Int) ≤ (j : Int) := by omega
    have jb : IntKind.i64.wrap ((j : Int) + 1) = (j : Int) + 1 := IntWalk.i64_in _ (by have := HL.out; omega)
    have hsb := sumP_bound _ hA.out
    rw [List.length_take] at hsb
    by_cases hlt : j < l.length
    · have j1 : (j : Int) < (l.length : Int) := by omega
      have s1 := hr.elemSome (s := 33) (prts33I hpo) (by decide) (i := j) (by simpa using hlt)
      have hp := hpo _ (List.getElem_mem hlt)
      have q1 := cell_fld (prt_cellI hr hpo hlt (prtC_32 hp))
      have hT : Hid (l.take (j + 1) = l.take j ++ [l[j]]) := List.take_succ_eq_append_getElem hlt
      have hI : Hid (l[j] ∈ l) := List.getElem_mem hlt
      generalize l[j] = p at *
      by_cases g1 : p.size < 1
      · have hT2 : Hid (E = -1) := by
          show _ = _
          rw [hF.out]
          have : l.all okP = false := by
            rw [Bool.eq_false_iff]; intro h
            have := List.all_eq_true.1 h _ hI.out
            unfold okP at this; simp at this; omega
          rw [this]; rfl
        clear hF
        go_wp2
        go_ret
        exact ⟨by rw [hT2.out] <;> rfl, rfl⟩
      · by_cases g2 : 8192 < p.size
        · have hT2 : Hid (E = -1) := by
            show _ = _
            rw [hF.out]
            have : l.all okP = false := by
              rw [Bool.eq_false_iff]; intro h
              have := List.all_eq_true.1 h _ hI.out
              unfold okP at this; simp at this; omega
            rw [this]; rfl
          clear hF
          go_wp2
          go_ret
          exact ⟨by rw [hT2.out] <;> rfl, rfl⟩
        · have hA2 : Hid ((l.take (j + 1)).all okP = true) := by
            show _ = _
            rw [hT.out, List.all_append, hA.out]; simp [okP]; omega
          have hS2 : Hid (sumP (l.take (j + 1)) = sumP (l.take j) + p.size) := by show _ = _; rw [hT.out, sumP_snoc]
          have sb : IntKind.i64.wrap (sumP (l.take j) + p.size) = sumP (l.take j) + p.size := IntWalk.i64_in _ (by have := HL.out; omega)
          generalize sumP (l.take j) = S at *
          clear hI hT hF
          go_wp2
          first
            | exact ⟨⟨j + 1, by omega, (by first | rfl | go_num | (congr 1; omega)), (by first | rw [hS2.out] | (rw [hS2.out]; rfl)), hA2, (by first | exact Lib.hid rfl | exact Lib.hid trivial)⟩, by simp [intOf] <;> omega⟩
            | (refine ⟨?_, by simp [intOf] <;> omega⟩; (repeat apply Exists.intro); exact ⟨⟨j + 1, by omega, (by first | rfl | go_num | (congr 1; omega)), (by first | rw [hS2.out] | (rw [hS2.out]; rfl)), hA2, (by first | exact Lib.hid rfl | exact Lib.hid trivial)⟩, rfl⟩)
    · obtain rfl : j = l.length := by omega
      have hA2 := hA.out
      rw [List.take_length] at hA2 ⊢
      have hF2 : Hid (E = sumP l) := by show _ = _; rw [hF.out, hA2]; rfl
      clear hA2 hF hsb hA
      generalize sumP l = S at *
      go_wp2
      go_ret
      exact ⟨by rw [hF2.out] <;> rfl, rfl⟩
def tgtF (s : List UInt8) : Bool := !s.contains 0 && (decide (1 ≤ s.length) && decide (s.length ≤ 200))
set_option maxHeartbeats 2000000 in
theorem rtarget_any (s : List UInt8) (w : World) (hl : s.length ≤ maxLen) : Calls Tryz.prog 61 #[.string (str s)] w fun e w' => e = .returned (.bool (tgtF s)) ∧ w = w' := by
  have hz : (str s).size = s.length := str_size s
  have HR : Hid (tgtF s = (!s.contains 0 && (decide (1 ≤ s.length) && decide (s.length ≤ 200)))) := rfl
  generalize tgtF s = R at *
  have HCL := Lib.hid hl
  have hm : maxLen = 9223372036854775807 := rfl
  clear hl
  go_enter Tryz.func61, Tryz.ntmps61
  go_wp2
  go_loopw [3] (fun i wr => ∃ j : Nat, j ≤ s.length ∧ i = .int .i64 j ∧ (s.take j).contains 0 = false ∧ Hid (w = wr)) (fun i _ => s.length - (intOf i).toNat)
  case atStart => exact ⟨0, Nat.zero_le _, rfl, rfl, Lib.hid rfl⟩
  case round =>
    obtain ⟨j, hj, rfl, hall, hwr⟩ := hrel
    have hwr := hwr.out
    subst hwr
    have j0 : (0 : Int) ≤ (j : Int) := by omega
    by_cases hlt : j < s.length
    · have jb : IntKind.i64.wrap ((j : Int) + 1) = (j : Int) + 1 := IntWalk.i64_in _ (by have := HCL.out; rw [hm] at this; omega)
      have j1 : (j : Int) < (s.length : Int) := by omega
      have hsz : j < (str s).size := by rw [hz]; exact hlt
      have hat := str_at s j hsz hlt
      have hT : Hid ((s.take (j + 1)).contains 0 = (s[j] == 0)) := by
        show _ = _
        rw [List.take_succ_eq_append_getElem hlt]
        simp only [List.contains_eq_mem, List.mem_append, List.mem_singleton] at hall ⊢
        rw [Bool.eq_iff_iff]
        simp only [decide_eq_false_iff_not] at hall
        simp [hall]
        exact eq_comm
      have hM : Hid (s[j] = 0 → s.contains 0 = true) := fun h => by
        simp only [List.contains_eq_mem, decide_eq_true_eq]
        rw [← h]; exact List.getElem_mem hlt
      by_cases hc : s[j] = 0
      · have t1 : ((((str s)[j]'hsz).toNat : Int) == 0) = true := (congrArg (fun c : UInt8 => ((c.toNat : Int) == 0)) hat).trans (by show ((s[j].toNat : Int) == 0) = true; rw [hc]; rfl)
        have hR : Hid (R = false) := by show _ = _; rw [HR.out, hM.out hc]; rfl
        clear hc hM hT hat hall hlt
        go_wp2
        go_ret
        exact ⟨by rw [hR.out]; rfl, rfl⟩
      · have t1 : ((((str s)[j]'hsz).toNat : Int) == 0) = false := by
          refine (congrArg (fun c : UInt8 => ((c.toNat : Int) == 0)) hat).trans ?_
          show ((s[j].toNat : Int) == 0) = false
          rw [beq_eq_false_iff_ne]
          intro e
          exact hc (UInt8.toNat_inj.1 (by have h47 : (0 : UInt8).toNat = 0 := rfl; omega))
        have hA : Hid ((s.take (j + 1)).contains 0 = false) := by show _ = _; rw [hT.out]; simpa using hc
        clear hc hM hT hat hall
        go_wp2
        first
          | exact ⟨⟨j + 1, by omega, (by first | rfl | go_num | (congr 1; omega)), hA.out, (by first | exact Lib.hid rfl | exact Lib.hid trivial)⟩, by simp [intOf] <;> omega⟩
          | (refine ⟨?_, by simp [intOf] <;> omega⟩; (repeat apply Exists.intro); exact ⟨⟨j + 1, by omega, (by first | rfl | go_num | (congr 1; omega)), hA.out, (by first | exact Lib.hid rfl | exact Lib.hid trivial)⟩, rfl⟩)
    · obtain rfl : j = s.length := by omega
      rw [List.take_length] at hall
      have hR : Hid (R = (decide (1 ≤ s.length) && decide (s.length ≤ 200))) := by show _ = _; rw [HR.out, hall]; rfl
      clear hall
      by_cases h1 : 1 ≤ s.length
      · have i1 : (1 : Int) ≤ (s.length : Int) := by omega
        by_cases h2 : s.length ≤ 200
        · have i2 : (s.length : Int) ≤ 200 := by omega
          go_wp2
          go_ret
          exact ⟨by rw [hR.out, decide_eq_true h1, decide_eq_true h2]; rfl, rfl⟩
        · have i2 : ¬ (s.length : Int) ≤ 200 := by omega
          go_wp2
          go_ret
          exact ⟨by rw [hR.out, decide_eq_true h1, decide_eq_false h2]; rfl, rfl⟩
      · have i1 : ¬ (1 : Int) ≤ (s.length : Int) := by omega
        go_wp2
        go_ret
        exact ⟨by rw [hR.out, decide_eq_false h1]; rfl, rfl⟩
theorem parts_whole (x : Itm) : wholeF x = (decide (x.target = []) && (decide (partsF x.parts = x.size) && (decide (x.size ≤ 262144) && decide (0 ≤ x.size)))) := by
  unfold wholeF partsF
  by_cases h1 : 64 < x.parts.length
  · rw [if_pos h1, decide_eq_false (by omega : ¬ x.parts.length ≤ 64)]
    by_cases h2 : 0 ≤ x.size
    · rw [decide_eq_false (by omega : ¬ (-1 : Int) = x.size)]; simp
    · rw [decide_eq_false h2]; simp
  · rw [if_neg h1, decide_eq_true (by omega : x.parts.length ≤ 64)]
    cases x.parts.all okP
    · by_cases h2 : 0 ≤ x.size
      · rw [if_neg (by decide), decide_eq_false (by omega : ¬ (-1 : Int) = x.size)]; simp
      · rw [decide_eq_false h2]; simp
    · rw [if_pos rfl]
      cases decide (x.target = []) <;> cases decide (0 ≤ x.size) <;> cases decide (x.size ≤ 262144) <;> cases decide (sumP x.parts = x.size) <;> rfl
theorem link_tgt (x : Itm) : linkF x = tgtF x.target := by
  unfold linkF tgtF
  cases x.target with
  | nil => rfl
  | cons c l =>
    rw [decide_eq_false (by simp), decide_eq_true (by simp : 1 ≤ (c :: l).length)]
    cases (c :: l).contains 0 <;> cases decide ((c :: l).length ≤ 200) <;> rfl
set_option maxHeartbeats 4000000 in
theorem rcheckI_any {x : Itm} {a : Option Addr} {c : Nat} {w : World} (hr : Row w a (x.parts.map prtC).flatten) (hok : ItmOk x) (hl : x.parts.length ≤ 100000) (hp : x.path.length ≤ 1000000) : Calls Tryz.prog 34 #[.agg (List.toArray (itC x a c))] w fun e w' => e = .returned (.int .i64 (checkI x)) ∧ Below w.heap.size w w' := by
  have hE : Hid (checkI x = if checkF x.path ≠ 0 then checkF x.path else if modeF x = true then (if fitsF x = true then 0 else 2) else 2) := rfl
  have hM : Hid (modeF x = (decide (0 ≤ x.mode) && (decide (x.mode ≤ 4095) && (decide (-1099511627776 ≤ x.time) && decide (x.time ≤ 1099511627776))))) := rfl
  have hFF : Hid (fitsF x = if x.kind = 1 then (decide (x.target = []) && (decide (partsF x.parts = x.size) && (decide (x.size ≤ 262144) && decide (0 ≤ x.size)))) else if x.kind = 2 then (decide (x.parts.length = 0) && decide (x.size = 0)) && decide (x.target = []) else if x.kind = 3 then (decide (x.parts.length = 0) && decide (x.size = 0)) && tgtF x.target else false) := by
    show _ = _
    unfold fitsF
    rw [parts_whole, link_tgt]; rfl
  have hPF := Lib.hid (checkF_cases x.path)
  have hb0 : Below w.heap.size w (w.alloc (.cells (List.toArray (itC x a c)) 40)) := (Below.refl _ _).alloc (Nat.le_refl _) _
  have hpc := ris_any x.path (w.alloc (.cells (List.toArray (itC x a c)) 40)) hp
  have hrt := fun w' => rtarget_any x.target w' hok.target
  have hps := fun w' (hb : Below w.heap.size w w') n => rparts_any (c := c) (w := w'.drewN n) rfl (Row.drewN (hr.below hb) n) hok.parts hl
  have n1 := str_nil x.target
  have n2 := str_nil2 x.target
  clear hr hok hl hp
  unfold itC strV at *
  generalize checkI x = F at *
  generalize modeF x = MF at *
  generalize fitsF x = FF at *
  generalize partsF x.parts = PS at *
  generalize tgtF x.target = TG at *
  generalize checkF x.path = PF at *
  generalize str x.path = sp at *
  generalize str x.target = st at *
  generalize decide (x.target = []) = Tb at *
  generalize x.parts.length = pl at *
  generalize x.kind = k at *
  generalize x.mode = md at *
  generalize x.time = tm at *
  generalize x.size = sz at *
  go_enter Tryz.func34, Tryz.ntmps34
  go_wp2_with fail
  refine hpc.mono ?_
  rintro e w2 ⟨rfl, hb2⟩
  have hB2 := (Blk.new w 40 (List.toArray [.string sp, .int .i64 k, .int .i64 md, .int .i64 tm, .string st, .int .i64 sz, .slice a pl c])).below hb2
  have d1 : w2.cell? ⟨w.heap.size, 1, none⟩ = some (.int .i64 k) := hB2.cell rfl
  have d2 : w2.cell? ⟨w.heap.size, 2, none⟩ = some (.int .i64 md) := hB2.cell rfl
  have d3 : w2.cell? ⟨w.heap.size, 3, none⟩ = some (.int .i64 tm) := hB2.cell rfl
  have d4 : w2.cell? ⟨w.heap.size, 4, none⟩ = some (.string st) := hB2.cell rfl
  have d5 : w2.cell? ⟨w.heap.size, 5, none⟩ = some (.int .i64 sz) := hB2.cell rfl
  have d6 : w2.cell? ⟨w.heap.size, 6, none⟩ = some (.slice a pl c) := hB2.cell rfl
  have hbw := hb0.trans (hb2.mono hb0.size)
  have hps2 := fun n => hps _ hbw n
  clear hps hb2 hb0 hpc hB2
  rcases hPF.out with h0 | h0
  case inr =>
    have e0 : (PF == 0) = false := by rw [h0]; rfl
    have hT : Hid (F = 8) := by show _ = _; rw [hE.out, h0]; rfl
    rw [e0]
    clear hE h0
    go_wp2
    go_ret
    exact ⟨by rw [hT.out] <;> rfl, hbw⟩
  case inl =>
  have e0 : (PF == 0) = true := by rw [h0]; rfl
  have hE2 : Hid (F = if MF = true then (if FF = true then 0 else 2) else 2) := by show _ = _; rw [hE.out, if_neg (by simp [h0])]
  rw [e0]
  clear hE h0 e0
  by_cases h1 : 0 ≤ md
  case neg =>
    have e1 : md < 0 := by omega
    have hT : Hid (F = 2) := by show _ = _; rw [hE2.out, hM.out]; simp [h1]
    clear hE2 hM
    go_wp2
    go_ret
    exact ⟨by rw [hT.out] <;> rfl, hbw⟩
  case pos =>
  have e1 : ¬ md < 0 := by omega
  by_cases h2 : md ≤ 4095
  case neg =>
    have e2 : 4095 < md := by omega
    have hT : Hid (F = 2) := by show _ = _; rw [hE2.out, hM.out]; simp [h2]
    clear hE2 hM
    go_wp2
    go_ret
    exact ⟨by rw [hT.out] <;> rfl, hbw⟩
  case pos =>
  have e2 : ¬ 4095 < md := by omega
  by_cases h3 : -1099511627776 ≤ tm
  case neg =>
    have e3 : tm < -1099511627776 := by omega
    have hT : Hid (F = 2) := by show _ = _; rw [hE2.out, hM.out]; simp [h3]
    clear hE2 hM
    go_wp2
    go_ret
    exact ⟨by rw [hT.out] <;> rfl, hbw⟩
  case pos =>
  have e3 : ¬ tm < -1099511627776 := by omega
  by_cases h4 : tm ≤ 1099511627776
  case neg =>
    have e4 : 1099511627776 < tm := by omega
    have hT : Hid (F = 2) := by show _ = _; rw [hE2.out, hM.out]; simp [h4]
    clear hE2 hM
    go_wp2
    go_ret
    exact ⟨by rw [hT.out] <;> rfl, hbw⟩
  case pos =>
  have e4 : ¬ 1099511627776 < tm := by omega
  have hE3 : Hid (F = if FF = true then 0 else 2) := by show _ = _; rw [hE2.out, hM.out]; simp [h1, h2, h3, h4]
  clear hE2 hM h1 h2 h3 h4
  by_cases h1 : k = 1
  · subst h1
    have hT : Hid (F = if (Tb && (decide (PS = sz) && (decide (sz ≤ 262144) && decide (0 ≤ sz)))) = true then 0 else 2) := by show _ = _; rw [hE3.out, hFF.out]; rfl
    clear hE3 hFF
    cases Tb
    · have hT2 : Hid (F = 2) := by show _ = _; rw [hT.out]; rfl
      clear hT
      go_wp2
      go_quiet (fail)
      go_wp2
      go_ret
      exact ⟨by rw [hT2.out] <;> rfl, Below.drewN hbw _⟩
    · by_cases g1 : PS = sz
      case neg =>
        have hT2 : Hid (F = 2) := by show _ = _; rw [hT.out]; simp [g1]
        have i1 : (PS == sz) = false := by simpa using g1
        clear hT
        go_wp2
        go_quiet ((go_at_call 60; exact Calls.quiet_of (quiet0 (hps2 _))))
        go_wp2
        go_ret
        exact ⟨by rw [hT2.out] <;> rfl, Below.drewN hbw _⟩
      case pos =>
      have i1 : (PS == sz) = true := by simpa using g1
      by_cases g2 : sz ≤ 262144
      case neg =>
        have hT2 : Hid (F = 2) := by show _ = _; rw [hT.out]; simp [g2]
        have i2 : decide (sz ≤ 262144) = false := decide_eq_false g2
        clear hT
        go_wp2
        go_quiet ((go_at_call 60; exact Calls.quiet_of (quiet0 (hps2 _))))
        go_wp2
        go_ret
        exact ⟨by rw [hT2.out] <;> rfl, Below.drewN hbw _⟩
      case pos =>
      have i2 : decide (sz ≤ 262144) = true := decide_eq_true g2
      by_cases g3 : 0 ≤ sz
      case neg =>
        have hT2 : Hid (F = 2) := by show _ = _; rw [hT.out]; simp [g3]
        have i3 : decide (0 ≤ sz) = false := decide_eq_false g3
        clear hT
        go_wp2
        go_quiet ((go_at_call 60; exact Calls.quiet_of (quiet0 (hps2 _))))
        go_wp2
        go_ret
        exact ⟨by rw [hT2.out] <;> rfl, Below.drewN hbw _⟩
      case pos =>
        have hT2 : Hid (F = 0) := by show _ = _; rw [hT.out]; simp [g1, g2, g3]
        have i3 : decide (0 ≤ sz) = true := decide_eq_true g3
        clear hT
        go_wp2
        go_quiet ((go_at_call 60; exact Calls.quiet_of (quiet0 (hps2 _))))
        go_wp2
        go_ret
        exact ⟨by rw [hT2.out] <;> rfl, Below.drewN hbw _⟩
  have e5 : (k == 1) = false := by simpa using h1
  by_cases h2 : k = 2
  · subst h2
    have hT : Hid (F = if ((decide (pl = 0) && decide (sz = 0)) && Tb) = true then 0 else 2) := by show _ = _; rw [hE3.out, hFF.out]; rfl
    clear hE3 hFF h1
    cases Tb
    · have hT2 : Hid (F = 2) := by show _ = _; rw [hT.out]; simp
      clear hT
      go_wp2
      go_ret
      exact ⟨by rw [hT2.out] <;> rfl, hbw⟩
    · by_cases g1 : pl = 0
      case neg =>
        have hT2 : Hid (F = 2) := by show _ = _; rw [hT.out]; simp [g1]
        have i1 : ((pl : Int) == 0) = false := by rw [beq_eq_false_iff_ne]; omega
        clear hT
        go_wp2
        go_ret
        exact ⟨by rw [hT2.out] <;> rfl, hbw⟩
      case pos =>
      have i1 : ((pl : Int) == 0) = true := by rw [g1]; rfl
      by_cases g2 : sz = 0
      case neg =>
        have hT2 : Hid (F = 2) := by show _ = _; rw [hT.out]; simp [g2]
        have i2 : (sz == 0) = false := by simpa using g2
        clear hT
        go_wp2
        go_ret
        exact ⟨by rw [hT2.out] <;> rfl, hbw⟩
      case pos =>
        have hT2 : Hid (F = 0) := by show _ = _; rw [hT.out]; simp [g1, g2]
        have i2 : (sz == 0) = true := by simpa using g2
        clear hT
        go_wp2
        go_ret
        exact ⟨by rw [hT2.out] <;> rfl, hbw⟩
  have e6 : (k == 2) = false := by simpa using h2
  by_cases h3 : k = 3
  · subst h3
    have hT : Hid (F = if ((decide (pl = 0) && decide (sz = 0)) && TG) = true then 0 else 2) := by show _ = _; rw [hE3.out, hFF.out]; rfl
    clear hE3 hFF h1 h2
    go_wp2_with fail
    refine (hrt _).mono ?_
    rintro e w3 ⟨rfl, hw3⟩
    subst hw3
    cases TG
    · have hT2 : Hid (F = 2) := by show _ = _; rw [hT.out]; simp
      clear hT
      go_wp2
      go_ret
      exact ⟨by rw [hT2.out] <;> rfl, hbw⟩
    · by_cases g1 : pl = 0
      case neg =>
        have hT2 : Hid (F = 2) := by show _ = _; rw [hT.out]; simp [g1]
        have i1 : ((pl : Int) == 0) = false := by rw [beq_eq_false_iff_ne]; omega
        clear hT
        go_wp2
        go_ret
        exact ⟨by rw [hT2.out] <;> rfl, hbw⟩
      case pos =>
      have i1 : ((pl : Int) == 0) = true := by rw [g1]; rfl
      by_cases g2 : sz = 0
      case neg =>
        have hT2 : Hid (F = 2) := by show _ = _; rw [hT.out]; simp [g2]
        have i2 : (sz == 0) = false := by simpa using g2
        clear hT
        go_wp2
        go_ret
        exact ⟨by rw [hT2.out] <;> rfl, hbw⟩
      case pos =>
        have hT2 : Hid (F = 0) := by show _ = _; rw [hT.out]; simp [g1, g2]
        have i2 : (sz == 0) = true := by simpa using g2
        clear hT
        go_wp2
        go_ret
        exact ⟨by rw [hT2.out] <;> rfl, hbw⟩
  have e7 : (k == 3) = false := by simpa using h3
  have hT2 : Hid (F = 2) := by show _ = _; rw [hE3.out, hFF.out]; simp [h1, h2, h3]
  clear hE3 hFF h1 h2 h3
  go_wp2
  go_ret
  exact ⟨by rw [hT2.out] <;> rfl, hbw⟩
end Go.Proofs.YtpchogicdnfggaaGreatDoor
