/- Layer 20: parts, Check. -/
import Derived.Test.YtcanlgcifnjfaaaDoorP1
set_option maxRecDepth 20000
namespace Go.Hd
theorem str_toList (l : List UInt8) : (str l).toList = l := by rw [Lib.toList_data]; exact str_data l
theorem partB_not {p : List UInt8} (h : p = [] ∨ 60 < p.length ∨ p = [46] ∨ p = [46, 46]) : partB p = false := by
  unfold partB
  rcases h with rfl | h | rfl | rfl
  · rfl
  · rw [decide_eq_false (by omega)]; simp
  · rfl
  · rfl
theorem partB_mid {p : List UInt8} (h1 : p ≠ []) (h2 : p.length ≤ 60) (h3 : p ≠ [46]) (h4 : p ≠ [46, 46]) : partB p = (!p.contains 0 && !p.contains 47) := by
  unfold partB
  rw [decide_eq_true h2]
  have e1 : (p != []) = true := by simpa using h1
  have e3 : (p != [46]) = true := by simpa using h3
  have e4 : (p != [46, 46]) = true := by simpa using h4
  rw [e1, e3, e4]; simp
end Go.Hd
namespace Go.Proofs.YtcanlgcifnjfaaaDoor
open Go.RowKit Go.Hd

theorem part_any (p : List UInt8) (w : World) :
    Calls Tryd.prog 32 #[.string (str p)] w fun e w' => e = .returned (.bool (partB p)) ∧ w = w' := by
  have hN := Lib.hid (fun h => partB_not (p := p) h)
  have hM := Lib.hid (fun h1 h2 h3 h4 => partB_mid (p := p) h1 h2 h3 h4)
  have hc0 := contains_any p 0 w
  have hc7 := contains_any p 47 w
  have ht := Lib.hid (str_toList p)
  by_cases h1 : p = []
  · have hF := Lib.hid (hN.out (.inl h1))
    have t1 : (str p).toList = [] := by rw [ht.out, h1]
    clear h1 hN hM
    go_enter Tryd.func32, Tryd.ntmps32
    go_wp2_with fail
    go_ret
    exact ⟨by rw [hF.out]; rfl, rfl⟩
  by_cases h2 : p.length ≤ 60
  case neg =>
    have hF := Lib.hid (hN.out (.inr (.inl (by omega))))
    have t1 : ¬ (str p).toList = [] := by rw [ht.out]; exact h1
    have t2 : ¬ (p.length : Int) ≤ 60 := by omega
    clear h1 h2 hN hM
    go_enter Tryd.func32, Tryd.ntmps32
    go_wp2_with fail
    go_ret
    exact ⟨by rw [hF.out]; rfl, rfl⟩
  have t1 : ¬ (str p).toList = [] := by rw [ht.out]; exact h1
  have t2 : (p.length : Int) ≤ 60 := by omega
  by_cases h3 : p = [46]
  · have hF := Lib.hid (hN.out (.inr (.inr (.inl h3))))
    have t3 : (str p).toList = [46] := by rw [ht.out]; exact h3
    clear h1 h2 h3 hN hM
    go_enter Tryd.func32, Tryd.ntmps32
    go_wp2_with fail
    go_ret
    exact ⟨by rw [hF.out]; rfl, rfl⟩
  have t3 : ¬ (str p).toList = [46] := by rw [ht.out]; exact h3
  by_cases h4 : p = [46, 46]
  · have hF := Lib.hid (hN.out (.inr (.inr (.inr h4))))
    have t4 : (str p).toList = [46, 46] := by rw [ht.out]; exact h4
    clear h1 h2 h3 h4 hN hM
    go_enter Tryd.func32, Tryd.ntmps32
    go_wp2_with fail
    go_ret
    exact ⟨by rw [hF.out]; rfl, rfl⟩
  have t4 : ¬ (str p).toList = [46, 46] := by rw [ht.out]; exact h4
  have hF := Lib.hid (hM.out h1 h2 h3 h4)
  have e1 : Hid ((str p).toList.isEmpty = false) := by show _ = _; rw [ht.out]; simpa using h1
  have e3 : Hid (((str p).toList == [46]) = false) := by show _ = _; rw [ht.out]; simpa using h3
  have e4 : Hid (((str p).toList == [46, 46]) = false) := by show _ = _; rw [ht.out]; simpa using h4
  clear h1 h2 h3 h4 hN hM
  generalize p.contains 0 = b0 at *
  generalize p.contains 47 = b7 at *
  go_enter Tryd.func32, Tryd.ntmps32
  go_wp2_with fail
  refine hc0.mono ?_
  rintro e w1 ⟨rfl, rfl⟩
  cases b0
  · go_wp2_with fail
    refine hc7.mono ?_
    rintro e w1 ⟨rfl, rfl⟩
    go_wp2
    go_ret
    refine ⟨(congrArg (fun b => Ending.returned (Value.bool b)) ?_ : _), rfl⟩
    first | (rw [hF.out, e1.out, e3.out, e4.out]; cases b7 <;> rfl) | (rw [hF.out]; cases b7 <;> rfl)
  · go_wp2_with fail
    go_ret
    refine ⟨(congrArg (fun b => Ending.returned (Value.bool b)) ?_ : _), rfl⟩
    first | (rw [hF.out, e1.out, e3.out, e4.out]; cases b7 <;> rfl) | (rw [hF.out]; cases b7 <;> rfl)
theorem add_base (g i : Nat) : (hd (some ⟨g, 0, none⟩)).add i = ⟨g, i, none⟩ := by
  show (⟨g, 0, none⟩ : Addr).add i = _
  rw [Addr.add_mid]; simp
/-- A row of texts that a call made. -/
theorem texts_row {w : World} {ps : List (List UInt8)} : Row (w.alloc (.cells (ps.map strV).toArray 9)) (some ⟨w.heap.size, 0, none⟩) (ps.map strV) := by
  simpa using row_alloc w (ps.map strV).toArray 9 (0, 0)
set_option maxHeartbeats 1000000 in
theorem check_any (s : List UInt8) (w : World) (hs : s.length ≤ 1000000) :
    Calls Tryd.prog 12 #[.string (str s)] w fun e w' => e = .returned (.int .i64 (checkF s)) ∧ Below w.heap.size w w' := by
  by_cases h200 : 200 < s.length
  · have i1 : (200 : Int) < (s.length : Int) := by omega
    have hF : Hid (checkF s = 8) := by show _ = _; unfold checkF; rw [if_pos h200]
    clear h200 hs
    go_enter Tryd.func12, Tryd.ntmps12
    go_wp2
    go_ret
    exact ⟨by rw [hF.out]; rfl, Below.refl _ _⟩
  · have i1 : ¬ (200 : Int) < (s.length : Int) := by omega
    have hF : Hid (checkF s = if (cutP s).all partB then 0 else 8) := by show _ = _; unfold checkF; rw [if_neg h200]
    have hsp := split_any s w (by omega)
    have hcl : (cutP s).length ≤ 1000001 := Nat.le_trans (cutP_len s) (by omega)
    generalize cutP s = ps at *
    clear h200 hs
    have hrow := texts_row (w := w) (ps := ps)
    have hb := (Below.refl w.heap.size w).alloc (Nat.le_refl _) (.cells (ps.map strV).toArray 9)
    go_enter Tryd.func12, Tryd.ntmps12
    go_wp2_with fail
    refine hsp.mono ?_
    rintro e w1 ⟨rfl, rfl⟩
    generalize w.alloc (.cells (ps.map strV).toArray 9) = w1 at *
    obtain ⟨g, hg⟩ : ∃ g, g = w.heap.size := ⟨_, rfl⟩
    rw [← hg] at hrow
    have HG := Lib.hid hg
    simp only [← hg]
    clear hsp hg
    go_wp2
    go_loopw [11] (fun i wr => ∃ j : Nat, j ≤ ps.length ∧ i = .int .i64 j ∧ (ps.take j).all partB = true ∧ Hid (wr = w1)) (fun i _ => ps.length - (intOf i).toNat)
    case atStart => exact ⟨0, Nat.zero_le _, rfl, rfl, Lib.hid rfl⟩
    case round =>
      obtain ⟨j, hj, rfl, hall, hwr⟩ := hrel
      have hwr := hwr.out
      subst hwr
      by_cases hlt : j < ps.length
      · have q1 : wr.cell? ⟨g, j, none⟩ = some (strV ps[j]) := by
          have := hrow.cell (i := j) (u := strV ps[j]) (by simp [hlt])
          rw [add_base] at this; exact this
        unfold strV at q1
        have hpt := part_any ps[j] wr
        have hA : Hid ((ps.take (j + 1)).all partB = partB ps[j]) := by
          show _ = _
          rw [List.take_succ_eq_append_getElem hlt, List.all_append, hall]; simp
        have hN : Hid (partB ps[j] = false → ps.all partB = false) := fun h => by
          rcases Bool.eq_false_or_eq_true (ps.all partB) with h2 | h2
          · rw [List.all_eq_true.1 h2 _ (List.getElem_mem hlt)] at h; cases h
          · exact h2
        have j0 : (0 : Int) ≤ (j : Int) := by omega
        have j1 : (j : Int) < (ps.length : Int) := by omega
        have jb : IntKind.i64.wrap ((j : Int) + 1) = (j : Int) + 1 := IntWalk.i64_in _ (by omega)
        generalize ps[j] = p at *
        generalize partB p = bb at *
        clear hall
        go_wp2_with fail
        refine hpt.mono ?_
        rintro e w2 ⟨rfl, rfl⟩
        cases bb
        · go_wp2
          go_ret
          exact ⟨by rw [hF.out, hN.out (by first | rfl | trivial)]; rfl, hb⟩
        · go_wp2
          first
            | exact ⟨⟨j + 1, by omega, (by first | rfl | go_num | (congr 1; omega)), hA.out, (by first | exact Lib.hid rfl | exact Lib.hid trivial)⟩, by simp [intOf] <;> omega⟩
            | (refine ⟨?_, by simp [intOf] <;> omega⟩; (repeat apply Exists.intro); exact ⟨⟨j + 1, by omega, (by first | rfl | go_num | (congr 1; omega)), hA.out, (by first | exact Lib.hid rfl | exact Lib.hid trivial)⟩, rfl⟩)
      · obtain rfl : j = ps.length := by omega
        rw [List.take_length] at hall
        go_wp2
        go_ret
        exact ⟨by rw [hF.out, hall]; rfl, hb⟩
end Go.Proofs.YtcanlgcifnjfaaaDoor
