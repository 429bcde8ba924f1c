/- Layer 20: the document's Pieces. -/
import Derived.Test.YtcanlgcifnjfaaaDoorP4
set_option maxRecDepth 20000
namespace Go.Hd
theorem str_slice (l : List UInt8) (a b : Nat) : (str l).extract a b = str ((l.drop a).take (b - a)) := by
  rw [Lib.extract_eq, str_data]; rfl
theorem str_at (l : List UInt8) (i : Nat) (_h : i < (str l).size) (h2 : i < l.length) : (str l)[i] = l[i] := by
  show (str l).data[i] = _
  simp [str]
/-- The pieces laid so far. -/
structure PcI (s : List UInt8) (i a : Nat) (ks : List (List UInt8)) : Prop where
  mid : i ≤ s.length → a ≤ i ∧ cutP s = ks ++ cutP (s.drop a) ∧ 47 ∉ (s.drop a).take (i - a)
  fin : s.length < i → i = s.length + 1 ∧ ks = cutP s
theorem PcI.start (s : List UInt8) : PcI s 0 0 [] := ⟨fun _ => ⟨Nat.le_refl _, rfl, by simp⟩, fun h => absurd h (by omega)⟩
theorem PcI.last {s : List UInt8} {a : Nat} {ks : List (List UInt8)} (h : PcI s s.length a ks) : PcI s (s.length + 1) (s.length + 1) (ks ++ [(s.drop a).take (s.length - a)]) := by
  obtain ⟨h1, h2, h3⟩ := h.mid (Nat.le_refl _)
  refine ⟨fun h => absurd h (by omega), fun _ => ⟨rfl, ?_⟩⟩
  rw [h2, List.take_of_length_le (by simp), cutP_one]
  rw [List.take_of_length_le (by simp)] at h3; exact h3
theorem PcI.cut {s : List UInt8} {i a : Nat} {ks : List (List UInt8)} (h : PcI s i a ks) (hi : i < s.length) (hc : s[i] = 47) : PcI s (i + 1) (i + 1) (ks ++ [(s.drop a).take (i - a)]) := by
  obtain ⟨h1, h2, h3⟩ := h.mid (by omega)
  have e : s.drop a = (s.drop a).take (i - a) ++ 47 :: s.drop (i + 1) := by
    conv => lhs; rw [← List.take_append_drop (i - a) (s.drop a)]
    rw [List.drop_drop, show a + (i - a) = i by omega, List.drop_eq_getElem_cons hi, hc]
  refine ⟨fun _ => ⟨Nat.le_refl _, ?_, by simp⟩, fun h => absurd h (by omega)⟩
  rw [h2]
  conv => lhs; rw [e]
  rw [cutP_app _ _ h3]; simp
theorem PcI.next {s : List UInt8} {i a : Nat} {ks : List (List UInt8)} (h : PcI s i a ks) (hi : i < s.length) (hc : s[i] ≠ 47) : PcI s (i + 1) a ks := by
  obtain ⟨h1, h2, h3⟩ := h.mid (by omega)
  refine ⟨fun _ => ⟨by omega, h2, ?_⟩, fun h => absurd h (by omega)⟩
  have e : (s.drop a).take (i + 1 - a) = (s.drop a).take (i - a) ++ [s[i]] := by
    rw [show i + 1 - a = (i - a) + 1 by omega, List.take_succ_eq_append_getElem (by simp; omega)]
    congr 2
    rw [List.getElem_drop]; congr 1; omega
  rw [e, List.mem_append]
  rintro (h4 | h4)
  · exact h3 h4
  · exact hc (by simp at h4; exact h4.symm)
theorem PcI.len {s : List UInt8} {i a : Nat} {ks : List (List UInt8)} (h : PcI s i a ks) : ks.length ≤ s.length + 1 := by
  rcases Nat.lt_or_ge s.length i with h1 | h1
  · rw [(h.fin h1).2]; exact cutP_len s
  · have := congrArg List.length (h.mid h1).2.1
    have h2 := cutP_len s
    rw [List.length_append] at this; omega
end Go.Hd
namespace Go.Proofs.YtcanlgcifnjfaaaDoor
open Go.RowKit Go.Hd

set_option maxHeartbeats 2000000 in
theorem rpieces_any (s : List UInt8) (w : World) (hs : s.length ≤ 1000000) :
    Calls Tryd.prog 20 #[.string (str s)] w fun e w' => (∃ u, e = .returned u ∧ KsAt w.heap.size w' u (cutP s)) ∧ Below w.heap.size w w' := by
  have hz : (str s).size = s.length := str_size s
  have HS := Lib.hid hs
  clear hs
  go_enter Tryd.func20, Tryd.ntmps20
  go_wp2
  go_loopw [3, 4, 5] (fun u f i wr => ∃ (j a : Nat) (ks : List (List UInt8)), f = .int .i64 a ∧ i = .int .i64 j ∧ j ≤ s.length + 1 ∧ PcI s j a ks ∧ KsAt w.heap.size wr u ks ∧ Below w.heap.size w wr) (fun _ _ i _ => s.length + 1 - (intOf i).toNat)
  case atStart => exact ⟨0, 0, [], rfl, rfl, Nat.zero_le _, PcI.start s, World.ownsRow_nil _ _ _ _, Below.refl _ _⟩
  case round =>
    obtain ⟨j, a, ks, rfl, rfl, hj, hP, hk, hb⟩ := hrel
    have j0 : (0 : Int) ≤ (j : Int) := by omega
    have jb : IntKind.i64.wrap ((j : Int) + 1) = (j : Int) + 1 := IntWalk.i64_in _ (by have := HS.out; omega)
    have hkl := hP.len
    obtain ⟨ak, ck, rfl, _⟩ := owns_rowN hk (by decide)
    have hown := World.ownsRow.lt hk
    have HB := Lib.hid hb
    by_cases hle : j ≤ s.length
    · obtain ⟨haj, _, _⟩ := hP.mid hle
      have e1 := str_slice s a j
      have HAPP := own_app1 (ty := 31) eS hk (.string (str ((s.drop a).take (j - a)))) rfl (by unfold maxLen; have := HS.out; omega) (by have := HS.out; omega) hb.size
      have a0 : (0 : Int) ≤ (a : Int) := by omega
      have a1 : (a : Int) ≤ (j : Int) := by omega
      have j2 : (j : Int) ≤ (s.length : Int) := by omega
      obtain ⟨a', c', w', hrun, ho', hG⟩ := HAPP
      have hb' : Below w.heap.size w w' := hb.trans (hG.below (base := w.heap.size) (fun k hk => (hown k hk).1) (Nat.le_refl _) hb.size)
      by_cases hlt : j < s.length
      · have hne : ((j : Int) == (s.length : Int)) = false := by rw [beq_eq_false_iff_ne]; omega
        have j1 : (j : Int) < (s.length : Int) := by omega
        have hsz : j < (str s).size := by rw [hz]; exact hlt
        have hat := str_at s j hsz hlt
        by_cases hc : s[j] = 47
        · have t1 : ((((str s)[j]'hsz).toNat : Int) == 47) = true := (congrArg (fun c : UInt8 => ((c.toNat : Int) == 47)) hat).trans (by show ((s[j].toNat : Int) == 47) = true; rw [hc]; rfl)
          have hP' := hP.cut hlt hc
          have hK : KsAt w.heap.size w' (.slice a' (ks.length + 1) c') (ks ++ [(s.drop a).take (j - a)]) := by
            show World.ownsRow _ _ _ _ _ _ _
            simpa [strV] using ho'
          have HF := Lib.hid (And.intro hP' hK)
          clear hP hP' hK ho' hG hk hown hc hat hlt hle haj
          generalize (s.drop a).take (j - a) = p at *
          go_wp2_with (at_builtin; refine wpList_append_run hrun rfl rfl rfl rfl ?_)
          first
            | exact ⟨⟨j + 1, j + 1, _, (by first | rfl | go_num | (congr 1; omega)), (by first | rfl | go_num | (congr 1; omega)), by omega, HF.out.1, HF.out.2, hb'⟩, by simp [intOf] <;> omega⟩
            | (refine ⟨?_, by simp [intOf] <;> omega⟩; (repeat apply Exists.intro); exact ⟨⟨j + 1, j + 1, _, (by first | rfl | go_num | (congr 1; omega)), (by first | rfl | go_num | (congr 1; omega)), by omega, HF.out.1, HF.out.2, hb'⟩, rfl⟩)
        · have t1 : ((((str s)[j]'hsz).toNat : Int) == 47) = false := by
            refine (congrArg (fun c : UInt8 => ((c.toNat : Int) == 47)) hat).trans ?_
            show ((s[j].toNat : Int) == 47) = false
            rw [beq_eq_false_iff_ne]
            intro e
            exact hc (UInt8.toNat_inj.1 (by have h47 : (47 : UInt8).toNat = 47 := rfl; omega))
          have HF := Lib.hid (And.intro (hP.next hlt hc) hk)
          clear hP ho' hG hk hown hc hat hlt hle haj hrun
          go_wp2
          first
            | exact ⟨⟨j + 1, a, _, rfl, (by first | rfl | go_num | (congr 1; omega)), by omega, HF.out.1, HF.out.2, HB.out⟩, by simp [intOf] <;> omega⟩
            | (refine ⟨?_, by simp [intOf] <;> omega⟩; (repeat apply Exists.intro); exact ⟨⟨j + 1, a, _, rfl, (by first | rfl | go_num | (congr 1; omega)), by omega, HF.out.1, HF.out.2, HB.out⟩, rfl⟩)
      · obtain rfl : j = s.length := by omega
        have hP' := hP.last
        have hK : KsAt w.heap.size w' (.slice a' (ks.length + 1) c') (ks ++ [(s.drop a).take (s.length - a)]) := by
          show World.ownsRow _ _ _ _ _ _ _
          simpa [strV] using ho'
        have HF := Lib.hid (And.intro hP' hK)
        clear hP hP' hK ho' hG hk hown hlt hle haj
        generalize (s.drop a).take (s.length - a) = p at *
        go_wp2_with (at_builtin; refine wpList_append_run hrun rfl rfl rfl rfl ?_)
        first
          | exact ⟨⟨s.length + 1, s.length + 1, _, (by first | rfl | go_num | (congr 1; omega)), (by first | rfl | go_num | (congr 1; omega)), by omega, HF.out.1, HF.out.2, hb'⟩, by simp [intOf] <;> omega⟩
          | (refine ⟨?_, by simp [intOf] <;> omega⟩; (repeat apply Exists.intro); exact ⟨⟨s.length + 1, s.length + 1, _, (by first | rfl | go_num | (congr 1; omega)), (by first | rfl | go_num | (congr 1; omega)), by omega, HF.out.1, HF.out.2, hb'⟩, rfl⟩)
    · have hks := (hP.fin (by omega)).2
      have j1 : ¬ (j : Int) ≤ (s.length : Int) := by omega
      have HK : Hid (KsAt w.heap.size wr (.slice ak ks.length ck) (cutP s)) := by show KsAt _ _ _ _; rw [← hks]; exact hk
      clear hP hle hks hk hown
      go_wp2
      go_ret
      exact ⟨⟨_, rfl, HK.out⟩, hb⟩
end Go.Proofs.YtcanlgcifnjfaaaDoor
