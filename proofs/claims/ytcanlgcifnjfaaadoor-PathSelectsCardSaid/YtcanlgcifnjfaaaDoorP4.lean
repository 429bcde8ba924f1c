/- Layer 20: Clean. -/
import Derived.Test.YtcanlgcifnjfaaaDoorP3
import Derived.Deep.CutBlock
import Derived.Deep.DeepCutAuto
set_option maxRecDepth 20000
namespace Go.Hd
theorem joinP_inter : ∀ ks : List (List UInt8), Lib.join ks [47] = joinP ks
  | [] => rfl
  | [p] => Lib.join_one p [47]
  | p :: q :: r => by
    have ih := joinP_inter (q :: r)
    rw [joinP_cons p (by simp), ← ih, Lib.join_cons, Lib.join_cons]
    simp [Lib.joinTail]
theorem joinP_len : ∀ ks : List (List UInt8), (joinP ks).length = (ks.map List.length).sum + (ks.length - 1)
  | [] => rfl
  | [p] => by simp [joinP]
  | p :: q :: r => by
    rw [joinP_cons p (by simp)]
    have ih := joinP_len (q :: r)
    simp only [List.length_append, List.length_cons, List.map_cons, List.sum_cons] at ih ⊢
    omega
theorem sum_sub {a b : List (List UInt8)} (h : a.Sublist b) : (a.map List.length).sum ≤ (b.map List.length).sum ∧ a.length ≤ b.length := by
  induction h with
  | slnil => simp
  | cons x _ ih => simp; omega
  | cons_cons x _ ih => simp; omega
theorem cleanT_len (s : List UInt8) : (cleanT s).length ≤ s.length := by
  have h := sum_sub (List.filter_sublist (p := fun p => p != [] && p != [46]) (l := cutP s))
  have e := joinP_len (cutP s)
  rw [joinP_cutP] at e
  unfold cleanT cleanL
  rw [joinP_len]
  omega
end Go.Hd
namespace Go.Proofs.YtcanlgcifnjfaaaDoor
open Go.RowKit Go.Hd

theorem join_any {base : Nat} {w : World} {v : Value} {ks : List (List UInt8)} (h : KsAt base w v ks) (hl : (joinP ks).length ≤ 1000000) (hk : ks.length ≤ 1000001) :
    Calls Tryd.prog 31 #[v, .string ⟨#[47]⟩] w fun e w' => e = .returned (.string (str (joinP ks))) ∧ Below w.heap.size w w' := by
  obtain ⟨h1, ⟨rfl, h2⟩ | ⟨g, c, cur, rfl, hg, hb, hn, hm, hy, ht⟩⟩ := h
  · obtain rfl : ks = [] := List.eq_nil_of_length_eq_zero (by simpa using h2)
    exact (Tryd.strings_Join_none none 0 ⟨#[47]⟩ w).mono fun e w' ⟨h1, h2⟩ => ⟨h1, h2 ▸ Below.refl _ _⟩
  · have hB : Blk w g 9 cur.toList := by unfold Blk; simpa using hb
    have hrow : ∀ (j : Nat) x, (ks.map str)[j]? = some x → w.cell? ⟨g, 0 + j, none⟩ = some (.string x) := fun j x hx => by
      rw [Nat.zero_add]
      refine hB.cell ?_
      rw [List.getElem?_map] at hx
      cases hk : ks[j]? with
      | none => rw [hk] at hx; cases hx
      | some k =>
        rw [hk] at hx
        cases hx
        have h3 : (ks.map strV)[j]? = some (strV k) := by rw [List.getElem?_map, hk]; rfl
        rw [← ht, List.getElem?_take] at h3
        split at h3
        · exact h3
        · cases h3
    have hmap : (ks.map str).map (·.data.toList) = ks := by
      rw [List.map_map]
      conv => rhs; rw [← List.map_id ks]
      apply List.map_congr_left
      intro x _
      exact str_data x
    have := Tryd.strings_Join g 0 c (ks.map str) ⟨#[47]⟩ w hrow hB.lt (by simp; omega) (by simpa using hn) (by rw [hmap]; show (Lib.join ks [47]).length ≤ _; rw [joinP_inter]; omega)
    rw [hmap, List.length_map] at this
    refine this.mono fun e w' ⟨h1, h2⟩ => ⟨?_, h2⟩
    rw [h1]
    show _ = Ending.returned (.string (str (joinP ks)))
    rw [← joinP_inter]; rfl
set_option maxHeartbeats 2000000 in
theorem clean_any (s : List UInt8) (w : World) (hs : s.length ≤ 1000000) :
    Calls Tryd.prog 11 #[.string (str s)] w fun e w' => e = .returned (.tuple #[.string (str (cleanF s).1), .int .i64 (cleanF s).2]) ∧ Below w.heap.size w w' := by
  have hsp := split_any s w hs
  have hcl : (cutP s).length ≤ 1000001 := Nat.le_trans (cutP_len s) (by omega)
  have hC : Hid (cleanT s = joinP ((cutP s).filter fun p => p != [] && p != [46])) := rfl
  have hF : Hid (cleanF s = if checkF (cleanT s) = 0 then (cleanT s, 0) else ([], 8)) := rfl
  have hTl : Hid ((cleanT s).length ≤ 1000000) := Nat.le_trans (cleanT_len s) hs
  generalize cleanT s = T at *
  generalize cleanF s = R at *
  generalize cutP s = ps at *
  have hrow := texts_row (w := w) (ps := ps)
  have hb := (Below.refl w.heap.size w).alloc (Nat.le_refl _) (.cells (ps.map strV).toArray 9)
  have hsz : (w.alloc (.cells (ps.map strV).toArray 9)).heap.size = w.heap.size + 1 := by simp
  have HCL := Lib.hid hcl
  clear hcl
  go_enter Tryd.func11, Tryd.ntmps11
  go_wp2_with fail
  refine hsp.mono ?_
  rintro e w1 ⟨rfl, rfl⟩
  generalize w.alloc (.cells (ps.map strV).toArray 9) = w1 at *
  obtain ⟨g, hg⟩ : ∃ g, g = w.heap.size := ⟨_, rfl⟩
  rw [← hg] at hrow hsz
  have HG := Lib.hid hg
  have HS := Lib.hid hsz
  simp only [← hg]
  clear hsp hg hsz
  go_upto_block 0 with (fail)
  go_cut [4] (fun u wx => KsAt (g + 1) wx u (ps.filter fun p => p != [] && p != [46]) ∧ Below w.heap.size w wx)
  case first =>
    go_wp2
    go_loopw [4, 12] (fun u i wr => ∃ j : Nat, j ≤ ps.length ∧ i = .int .i64 j ∧ KsAt (g + 1) wr u ((ps.take j).filter fun p => p != [] && p != [46]) ∧ Row wr (some ⟨g, 0, none⟩) (ps.map strV) ∧ Below w.heap.size w wr ∧ g + 1 ≤ wr.heap.size) (fun _ i _ => ps.length - (intOf i).toNat)
    case atStart => exact ⟨0, Nat.zero_le _, rfl, World.ownsRow_nil _ _ _ _, hrow, hb, Nat.le_of_eq HS.out.symm⟩
    case round =>
      clear hrow hb
      obtain ⟨j, hj, rfl, hk, hrow, hb, hgs⟩ := hrel
      by_cases hlt : j < ps.length
      · have q1 : wr.cell? ⟨g, j, none⟩ = some (strV ps[j]) := by
          have := hrow.cell (i := j) (u := strV ps[j]) (by simp [hlt])
          rw [add_base] at this; exact this
        unfold strV at q1
        have hT : Hid ((ps.take (j + 1)).filter (fun p => p != [] && p != [46]) = if (ps[j] != [] && ps[j] != [46]) = true then (ps.take j).filter (fun p => p != [] && p != [46]) ++ [ps[j]] else (ps.take j).filter (fun p => p != [] && p != [46])) := by
          show _ = _
          rw [List.take_succ_eq_append_getElem hlt, List.filter_append]
          by_cases h : (ps[j] != [] && ps[j] != [46]) = true
          · rw [if_pos h, List.filter_cons_of_pos (p := fun p => p != [] && p != [46]) h]; rfl
          · rw [if_neg h, List.filter_cons_of_neg (p := fun p => p != [] && p != [46]) h]; simp
        have hkl : ((ps.take j).filter fun p => p != [] && p != [46]).length ≤ 1000001 := Nat.le_trans (List.length_filter_le _ _) (by have := HCL.out; simp; omega)
        generalize (ps.take j).filter (fun p => p != [] && p != [46]) = ks at *
        have j0 : (0 : Int) ≤ (j : Int) := by omega
        have j1 : (j : Int) < (ps.length : Int) := by omega
        have jb : IntKind.i64.wrap ((j : Int) + 1) = (j : Int) + 1 := IntWalk.i64_in _ (by have := HCL.out; omega)
        generalize ps[j] = p at *
        have ht := str_toList p
        have HT2 := Lib.hid ht
        obtain ⟨a', c', w', hrun, ho', hG⟩ := own_app1 (ty := 31) eS hk (.string (str p)) rfl (by unfold maxLen; omega) (by omega) hgs
        have hown := World.ownsRow.lt hk
        by_cases h1 : p = []
        · have t1 : (str p).toList = [] := by rw [ht, h1]
          have hK : Hid (KsAt (g + 1) wr u4 ((ps.take (j + 1)).filter fun p => p != [] && p != [46])) := by show KsAt _ _ _ _; rw [hT.out, if_neg (by rw [h1]; decide)]; exact hk
          clear h1 ht hrun ho' hG hk hT hkl
          go_wp2
          first
            | exact ⟨⟨j + 1, by omega, (by first | rfl | go_num | (congr 1; omega)), hK.out, hrow, hb, hgs⟩, by simp [intOf] <;> omega⟩
            | (refine ⟨?_, by simp [intOf] <;> omega⟩; (repeat apply Exists.intro); exact ⟨⟨j + 1, by omega, (by first | rfl | go_num | (congr 1; omega)), hK.out, hrow, hb, hgs⟩, rfl⟩)
        · by_cases h2 : p = [46]
          · have t1 : ¬ (str p).toList = [] := by rw [ht]; exact h1
            have t2 : (str p).toList = [46] := by rw [ht, h2]
            have hK : Hid (KsAt (g + 1) wr u4 ((ps.take (j + 1)).filter fun p => p != [] && p != [46])) := by show KsAt _ _ _ _; rw [hT.out, if_neg (by rw [h2]; decide)]; exact hk
            clear h1 h2 ht hrun ho' hG hk hT hkl
            go_wp2
            first
              | exact ⟨⟨j + 1, by omega, (by first | rfl | go_num | (congr 1; omega)), hK.out, hrow, hb, hgs⟩, by simp [intOf] <;> omega⟩
              | (refine ⟨?_, by simp [intOf] <;> omega⟩; (repeat apply Exists.intro); exact ⟨⟨j + 1, by omega, (by first | rfl | go_num | (congr 1; omega)), hK.out, hrow, hb, hgs⟩, rfl⟩)
          · have t1 : ¬ (str p).toList = [] := by rw [ht]; exact h1
            have t2 : ((str p).toList == [46]) = false := by rw [ht]; simpa using h2
            have t3 : (str p).toList.isEmpty = false := by rw [ht]; simpa using h1
            obtain ⟨ak, ck, rfl, _⟩ := owns_rowN hk (by decide)
            have hK : Hid (KsAt (g + 1) w' (.slice a' (ks.length + 1) c') ((ps.take (j + 1)).filter fun p => p != [] && p != [46])) := by
              show KsAt _ _ _ _
              rw [hT.out, if_pos (by simp [h1, h2])]
              have := ho'
              show World.ownsRow _ _ _ _ _ _ _
              simpa [strV] using this
            have hrow' := Row.keptFar hrow hG.gr (fun _ e => by have := (hown _ e).1; simp [hd] at this; omega)
            have hb' : Below w.heap.size w w' := hG.below (base := g + 1) (fun k hk => (hown k hk).1) (by have := HG.out; omega) hb.size |> fun h => hb.trans h
            have hgs' := Nat.le_trans hgs hG.size
            clear h1 h2 ht ho' hG hk hT hown
            go_wp2_with (at_builtin; refine wpList_append_run hrun rfl rfl rfl rfl ?_)
            first
              | exact ⟨⟨j + 1, by omega, (by first | rfl | go_num | (congr 1; omega)), hK.out, hrow', hb', hgs'⟩, by simp [intOf] <;> omega⟩
              | (refine ⟨?_, by simp [intOf] <;> omega⟩; (repeat apply Exists.intro); exact ⟨⟨j + 1, by omega, (by first | rfl | go_num | (congr 1; omega)), hK.out, hrow', hb', hgs'⟩, rfl⟩)
      · obtain rfl : j = ps.length := by omega
        rw [List.take_length] at hk
        go_wp2
        go_meet
        exact ⟨hk, hb⟩
  case rest =>
    obtain ⟨hk, hb2⟩ := hcut
    have hks : (ps.filter fun p => p != [] && p != [46]).length ≤ 1000001 := Nat.le_trans (List.length_filter_le _ _) HCL.out
    have hjn := join_any hk (by rw [← hC.out]; exact hTl.out) hks
    rw [← hC.out] at hjn
    have hck := fun w' => check_any T w' hTl.out
    clear hrow hb hk hks
    go_wp2_with fail
    refine hjn.mono ?_
    rintro e w3 ⟨rfl, hb3⟩
    have hb3' := hb2.trans (hb3.mono hb2.size)
    go_wp2_with fail
    refine (hck _).mono ?_
    rintro e w4 ⟨rfl, hb4⟩
    have hb4' := hb3'.trans (hb4.mono hb3'.size)
    clear hjn hck hb3 hb4 hb2 hb3'
    rcases checkF_cases T with h | h
    · have hR : Hid (R = (T, 0)) := by show _ = _; rw [hF.out, if_pos h]
      rw [h]
      clear h
      go_wp2
      go_ret2
      exact ⟨by rw [hR.out]; rfl, hb4'⟩
    · have hR : Hid (R = ([], 8)) := by show _ = _; rw [hF.out, if_neg (by rw [h]; decide)]
      rw [h]
      clear h
      go_wp2
      go_ret2
      exact ⟨by rw [hR.out]; rfl, hb4'⟩
theorem lives20_any (w : World) : Calls Tryd.prog 13 #[] w fun e w' => e = .returned (.bool true) ∧ Below w.heap.size w w' := by
  have hc : Calls Tryd.prog 11 #[.string ⟨#[47, 97, 47, 47, 98]⟩] w fun e w' => e = .returned (.tuple #[.string ⟨#[97, 47, 98]⟩, .int .i64 0]) ∧ Below w.heap.size w w' := by
    have h := clean_any [47, 97, 47, 47, 98] w (by decide)
    have e : cleanF [47, 97, 47, 47, 98] = ([97, 47, 98], 0) := by decide +kernel
    rw [e] at h
    exact h
  go_enter Tryd.func13, Tryd.ntmps13
  go_wp2_with fail
  refine hc.mono ?_
  rintro e w1 ⟨rfl, hb⟩
  go_wp2
  go_ret
  exact ⟨rfl, hb⟩
end Go.Proofs.YtcanlgcifnjfaaaDoor
