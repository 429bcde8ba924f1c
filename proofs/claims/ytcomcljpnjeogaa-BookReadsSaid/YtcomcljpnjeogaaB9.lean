/- Walks of layer 13: the document's Index and Counts. -/
import Derived.Test.YtcomcljpnjeogaaB8
set_option maxRecDepth 20000
namespace Go.Proofs.Ytcomcljpnjeogaa
open Go.RowKit Go.Hd
attribute [local go_sem ↓] h_ldID h_stID h_alID
attribute [local go_sem] r_ldID r_stID r_alID

set_option maxHeartbeats 4000000 in
theorem ridx_any {a : Option Addr} {n c : Nat} {l : List BRow} {w : World} (hn : n = l.length) (hl : EntRd 35 w a l) (hf : ∀ r ∈ l, fitR kI r) (hi64 : ∀ r ∈ l, okI r) (hm : l.length ≤ 65536) :
    Calls Try.prog 12 #[.slice a n c] w fun e w' => ∃ v, e = .returned (.tuple #[v, .int .i64 (writeF kI l).2]) ∧ BRd w' v (writeF kI l).1 ∧ Below w.heap.size w w' := by
  subst hn
  go_enter Try.func12, Try.ntmps12
  go_wp2_with fail
  refine (begun_any (n := l.length) kI.magic w kI_good.1 hm).mono ?_
  rintro e w1 ⟨v, rfl, hv, hb1⟩
  go_wp2
  go_loopw [4, 5, 6, 7] (fun v g r i wr => ∃ j : Nat, j ≤ l.length ∧ i = .int .i64 j ∧ g = .bool ((l.take j).all okR) ∧ r = .bool (risesB kI (l.take j)) ∧ Own 5 wr w.heap.size v (headF kI l.length ++ rowsB (l.take j)) ∧ Below w.heap.size w wr) (fun _ _ _ i _ => l.length - (intOf i).toNat)
  case atStart => exact ⟨0, Nat.zero_le _, rfl, rfl, rfl, by rw [List.take_zero, show rowsB [] = [] from rfl, List.append_nil]; exact hv, hb1⟩
  case round =>
    clear hv hb1
    obtain ⟨j, hj, rfl, rfl, rfl, hv, hb⟩ := hrel
    by_cases hlt : j < l.length
    · have hle := hl.below hb
      have hfit := hf _ (List.getElem_mem hlt)
      have hii := hi64 _ (List.getElem_mem hlt)
      have s1 := hle.isSome (by decide) hlt
      have HT := Lib.hid (rowsB_take l j hlt)
      have HA := Lib.hid (all_take hlt)
      have hbl := body_len kI_good hf hm j
      obtain ⟨key, x, y, z, he⟩ : ∃ key x y z, l[j] = (key, [x, y, z]) := by
        obtain ⟨h1, h2⟩ := hfit
        rcases hq : l[j] with ⟨k0, l0⟩
        rw [hq] at h1 h2
        match l0, h2 with
        | [x, y, z], _ => exact ⟨k0, x, y, z, rfl⟩
      have hkl : key.length = 32 := by have := hfit.1; rw [he] at this; exact this
      have cc : ∀ w', Below w.heap.size w w' → w'.cell? ⟨((hd a).add (j * 35)).block, ((hd a).add (j * 35)).off + 32, none⟩ = some (.int .i64 x) ∧ w'.cell? ⟨((hd a).add (j * 35)).block, ((hd a).add (j * 35)).off + 33, none⟩ = some (.int .i64 y) ∧ w'.cell? ⟨((hd a).add (j * 35)).block, ((hd a).add (j * 35)).off + 34, none⟩ = some (.int .i64 z) :=
        fun w' hw => ⟨(hl.below hw).cell' hlt (by rw [he]; simp [entL, hkl]), (hl.below hw).cell' hlt (by rw [he]; simp [entL, hkl]), (hl.below hw).cell' hlt (by rw [he]; simp [entL, hkl])⟩
      have ck : ∀ w', Below w.heap.size w w' → ∀ t (ht : t < key.length), w'.cell? (((hd a).add (j * 35)).add t) = some (.int .u8 (key[t].toNat : Int)) :=
        fun w' hw t ht => (hl.below hw).cell hlt (by rw [he]; simp only [entL]; rw [List.getElem?_append_left (by simpa using ht)]; simp [ht])
      have HC := Lib.hid cc
      have HK := Lib.hid ck
      have hx : i64Ok x := hii x (by rw [he]; simp)
      have hy : i64Ok y := hii y (by rw [he]; simp)
      have hz : i64Ok z := hii z (by rw [he]; simp)
      have HE : Hid (rowB l[j] = key ++ numsB [x, y, z]) := by show _ = _; rw [he]; rfl
      have HE2 : Hid (okR l[j] = okR ([], [x, y, z])) := by show _ = _; rw [he]; rfl
      have HX : Hid (l[j].1 = key) := by show _ = _; rw [he]
      clear he hii hfit cc ck hle
      have hj0 : (0 : Int) ≤ (j : Int) := by omega
      have hj1 : (j : Int) < (l.length : Int) := by omega
      generalize hP : headF kI l.length ++ rowsB (l.take j) = PRE at *
      have HP := Lib.hid hP
      clear hP
      go_wp2
      go_loopw [4, 8] (fun v i wq => ∃ t : Nat, t ≤ 32 ∧ i = .int .i64 t ∧ Own 5 wq w.heap.size v (PRE ++ key.take t) ∧ Below w.heap.size w wq) (fun _ i _ => 32 - (intOf i).toNat)
      case atStart => exact ⟨0, by omega, rfl, by simpa using hv, hb⟩
      case round =>
        clear hv hb
        obtain ⟨t, ht, rfl, hv, hb⟩ := hrel
        by_cases htl : t < 32
        · have hsz := hb.size
          have ct := HK.out wr hb t (by omega)
          have ht0 : (0 : Int) ≤ (t : Int) := by omega
          have ht1 : (t : Int) < 32 := by omega
          have hlen : (PRE ++ key.take t).length ≤ 3000032 := by rw [List.length_append]; simp; omega
          obtain ⟨v', w1, hrun, hv1, _, _, hb1⟩ := hv.append1 (ty := 27) eB (key[t]'(by omega)) (by omega) hsz
          have HV : Hid (Own 5 w1 w.heap.size v' (PRE ++ key.take (t + 1))) := by
            show Own _ _ _ _ _
            rw [List.take_succ_eq_append_getElem (by omega), ← List.append_assoc]; exact hv1
          clear hv hv1 hlen
          go_wp2_with (at_builtin; refine wpList_append_run hrun rfl rfl rfl rfl ?_)
          first
            | exact ⟨⟨t + 1, by omega, (by first | rfl | go_num | (congr 1; omega)), HV.out, hb.trans hb1⟩, by simp [intOf] <;> omega⟩
            | (refine ⟨?_, by simp [intOf] <;> omega⟩; (repeat apply Exists.intro); exact ⟨⟨t + 1, by omega, (by first | rfl | go_num | (congr 1; omega)), HV.out, hb.trans hb1⟩, rfl⟩)
        · obtain rfl : t = 32 := by omega
          rw [List.take_of_length_le (by omega)] at hv
          have hsz := hb.size
          have hpl : (PRE ++ key).length ≤ 3000032 := by rw [List.length_append]; omega
          obtain ⟨c0, c1, c2⟩ := HC.out wr hb
          have hvd : Own 5 wr.drew w.heap.size u4 (PRE ++ key) := hv
          go_wp2
          go_region_held3 (fun w' => w'.cell? ⟨((hd a).add (j * 35)).block, ((hd a).add (j * 35)).off + 32, none⟩ = some (.int .i64 x) ∧ w'.cell? ⟨((hd a).add (j * 35)).block, ((hd a).add (j * 35)).off + 33, none⟩ = some (.int .i64 y) ∧ w'.cell? ⟨((hd a).add (j * 35)).block, ((hd a).add (j * 35)).off + 34, none⟩ = some (.int .i64 z)) (first | exact ⟨by assumption, by assumption, by assumption⟩ | go_keep) ((go_at_call 40; refine (three_any x y z hvd hsz (by omega) hx hy hz).mono ?_; rintro e w2 ⟨v2, rfl, hv2, hb2⟩; have hbw : Below w.heap.size w w2 := hb.trans (Below.drewN' (n := 1) hb2); obtain ⟨d0, d1, d2⟩ := HC.out w2 hbw))
          clear hvd c0 c1 c2
          have HV : Hid (Own 5 w2 w.heap.size v2 (headF kI l.length ++ rowsB (l.take (j + 1)))) := by
            show Own _ _ _ _ _
            rw [HT.out, HE.out, ← List.append_assoc, HP.out, ← List.append_assoc]; exact hv2
          rw [← HE2.out]
          clear hv hv2 HT hb2
          generalize okR l[j] = O at *
          go_upto_region 14 with (fail)
          go_cut [5] (fun s5 wx => s5 = .bool ((l.take j).all okR && O) ∧ wx = w2)
          case first =>
            rcases Bool.eq_false_or_eq_true ((l.take j).all okR) with h | h
            all_goals
              rw [h]
              go_wp2
              go_meet
              exact ⟨by rw [h]; rfl, rfl⟩
          case rest =>
            obtain ⟨rfl, rfl⟩ := hcut
            rw [← HA.out]
            rcases Bool.eq_false_or_eq_true (risesB kI (l.take j)) with h | h
            · rw [h]
              by_cases hj00 : j = 0
              · subst hj00
                have HR : Hid (true = risesB kI (l.take (0 + 1))) := (risesB_one _ _).symm
                clear h
                go_wp2
                go_quiet (fail)
                go_wp2
                first
                  | exact ⟨⟨0 + 1, by omega, (by first | rfl | go_num | (congr 1; omega)), rfl, congrArg Value.bool HR.out, HV.out.below (Gr.drewN _ _), Below.drewN hbw _⟩, by simp [intOf] <;> omega⟩
                  | (refine ⟨?_, by simp [intOf] <;> omega⟩; (repeat apply Exists.intro); exact ⟨⟨0 + 1, by omega, (by first | rfl | go_num | (congr 1; omega)), rfl, congrArg Value.bool HR.out, HV.out.below (Gr.drewN _ _), Below.drewN hbw _⟩, rfl⟩)
              · obtain ⟨i, rfl⟩ : ∃ i, j = i + 1 := ⟨j - 1, by omega⟩
                have hil : i < l.length := Nat.lt_of_succ_lt hlt
                have hfi := hf _ (List.getElem_mem hil)
                have hk0 : (l[i]'hil).1.length = 32 := hfi.1
                have hk1 : (l[i + 1]'hlt).1.length = 32 := by rw [HX.out]; exact hkl
                have q0 := (hl.below (Below.drewN hbw 1)).key hil hk0
                have q1 := (hl.below (Below.drewN hbw 1)).key hlt hk1
                have HR : Hid (ltB (l[i]'hil).1 (l[i + 1]'hlt).1 = risesB kI (l.take (i + 1 + 1))) := by
                  show _ = _
                  rw [risesB_take kI l i hlt, h, Bool.true_and]
                  unfold aheadB
                  rw [if_pos (by rfl)]
                have ew : IntKind.i64.wrap (i : Int) = (i : Int) := IntWalk.i64_in _ (by omega)
                have ew1 : IntKind.i64.wrap ((i : Int) + 1 - 1) = (i : Int) := by rw [IntWalk.i64_in _ (by omega)]; omega
                have i0 : (0 : Int) ≤ (i : Int) := by omega
                have i1 : (i : Int) < (l.length : Int) := by omega
                have i2 : (0 : Int) ≤ (i : Int) + 1 := by omega
                have i3 : (i : Int) + 1 < (l.length : Int) := by omega
                have i4 : ((i : Int) + 1).toNat = i + 1 := by omega
                have i5 : ((i : Int) + 1 == 0) = false := by simp; omega
                generalize (l[i]'hil).1 = k0 at *
                generalize (l[i + 1]'hlt).1 = k1 at *
                clear h hfi
                go_wp2
                refine wp_region_still_tail 16 (by kernel_rfl) (by kernel_rfl) ?_
                simp only [List.take_succ_cons, List.take_zero, List.drop_succ_cons, List.drop_zero]
                change wpStill _ _ (wc.drewN 1) _ _ _
                repeat still_step
                try refine wpStill_nil ?_
                change wpList _ _ _ _ _ (wc.drewN 1)
                go_wp2_with fail
                refine (rless_any _ hk0 hk1).mono ?_
                rintro e w5 ⟨rfl, hb5⟩
                have hb6 : Below w.heap.size w w5 := hbw.trans ((Below.drewN' (n := 1) hb5).mono hbw.size)
                have HV5 : Hid (Own 5 w5 w.heap.size v2 (headF kI l.length ++ rowsB (l.take (i + 1 + 1)))) := HV.out.below (Below.drewN' (n := 1) hb5)
                clear q0 q1 ew ew1 hb5
                go_wp2
                first
                  | exact ⟨⟨i + 1 + 1, by omega, (by first | rfl | go_num | (congr 1; omega)), rfl, congrArg Value.bool HR.out, HV5.out, hb6⟩, by simp [intOf] <;> omega⟩
                  | (refine ⟨?_, by simp [intOf] <;> omega⟩; (repeat apply Exists.intro); exact ⟨⟨i + 1 + 1, by omega, (by first | rfl | go_num | (congr 1; omega)), rfl, congrArg Value.bool HR.out, HV5.out, hb6⟩, rfl⟩)
            · have HR : Hid (false = risesB kI (l.take (j + 1))) := (rises_no h).symm
              rw [h]
              clear h
              go_wp2
              go_quiet (fail)
              go_wp2
              first
                | exact ⟨⟨j + 1, by omega, (by first | rfl | go_num | (congr 1; omega)), rfl, congrArg Value.bool HR.out, HV.out.below (Gr.drewN _ _), Below.drewN hbw _⟩, by simp [intOf] <;> omega⟩
                | (refine ⟨?_, by simp [intOf] <;> omega⟩; (repeat apply Exists.intro); exact ⟨⟨j + 1, by omega, (by first | rfl | go_num | (congr 1; omega)), rfl, congrArg Value.bool HR.out, HV.out.below (Gr.drewN _ _), Below.drewN hbw _⟩, rfl⟩)
    · obtain rfl : j = l.length := by omega
      rw [List.take_length] at hv ⊢
      have HW := Lib.hid (write_of (k := kI) hm)
      have hbl := body_len kI_good hf hm l.length
      rw [List.take_length] at hbl
      rcases Bool.eq_false_or_eq_true (l.all okR) with h1 | h1
      · rcases Bool.eq_false_or_eq_true (risesB kI l) with h2 | h2
        · rw [h1, h2] at HW ⊢
          clear h1 h2
          go_wp2_with fail
          refine (closed_any hv hb.size (by omega)).mono ?_
          rintro e w2 ⟨v2, rfl, hv2, hb2⟩
          go_wp2
          go_ret2
          rw [HW.out]
          obtain ⟨a2, c2, rfl, x1, x2, x3, _⟩ := hv2.at
          exact ⟨_, rfl, ⟨a2, c2, rfl, x1, x2, x3⟩, hb.trans hb2⟩
        · rw [h1, h2] at HW ⊢
          clear h1 h2
          go_wp2
          go_ret2
          rw [HW.out]
          exact ⟨_, rfl, BRd.nil _, hb⟩
      · rw [h1] at HW ⊢
        clear h1
        go_wp2
        go_ret2
        rw [HW.out]
        exact ⟨_, rfl, BRd.nil _, hb⟩
set_option maxHeartbeats 4000000 in
theorem rcnt_any {a : Option Addr} {n c : Nat} {l : List BRow} {w : World} (hn : n = l.length) (hl : EntRd 34 w a l) (hf : ∀ r ∈ l, fitR kC r) (hi64 : ∀ r ∈ l, okI r) (hm : l.length ≤ 65536) :
    Calls Try.prog 13 #[.slice a n c] w fun e w' => ∃ v, e = .returned (.tuple #[v, .int .i64 (writeF kC l).2]) ∧ BRd w' v (writeF kC l).1 ∧ Below w.heap.size w w' := by
  subst hn
  go_enter Try.func13, Try.ntmps13
  go_wp2_with fail
  refine (begun_any (n := l.length) kC.magic w kC_good.1 hm).mono ?_
  rintro e w1 ⟨v, rfl, hv, hb1⟩
  go_wp2
  go_loopw [4, 5, 6, 7] (fun v g r i wr => ∃ j : Nat, j ≤ l.length ∧ i = .int .i64 j ∧ g = .bool ((l.take j).all okR) ∧ r = .bool (risesB kC (l.take j)) ∧ Own 5 wr w.heap.size v (headF kC l.length ++ rowsB (l.take j)) ∧ Below w.heap.size w wr) (fun _ _ _ i _ => l.length - (intOf i).toNat)
  case atStart => exact ⟨0, Nat.zero_le _, rfl, rfl, rfl, by rw [List.take_zero, show rowsB [] = [] from rfl, List.append_nil]; exact hv, hb1⟩
  case round =>
    clear hv hb1
    obtain ⟨j, hj, rfl, rfl, rfl, hv, hb⟩ := hrel
    by_cases hlt : j < l.length
    · have hle := hl.below hb
      have hfit := hf _ (List.getElem_mem hlt)
      have hii := hi64 _ (List.getElem_mem hlt)
      have s1 := hle.isSome (by decide) hlt
      have HT := Lib.hid (rowsB_take l j hlt)
      have HA := Lib.hid (all_take hlt)
      have hbl := body_len kC_good hf hm j
      obtain ⟨key, x, y, he⟩ : ∃ key x y, l[j] = (key, [x, y]) := by
        obtain ⟨h1, h2⟩ := hfit
        rcases hq : l[j] with ⟨k0, l0⟩
        rw [hq] at h1 h2
        match l0, h2 with
        | [x, y], _ => exact ⟨k0, x, y, rfl⟩
      have hkl : key.length = 32 := by have := hfit.1; rw [he] at this; exact this
      have cc : ∀ w', Below w.heap.size w w' → w'.cell? ⟨((hd a).add (j * 34)).block, ((hd a).add (j * 34)).off + 32, none⟩ = some (.int .i64 x) ∧ w'.cell? ⟨((hd a).add (j * 34)).block, ((hd a).add (j * 34)).off + 33, none⟩ = some (.int .i64 y) :=
        fun w' hw => ⟨(hl.below hw).cell' hlt (by rw [he]; simp [entL, hkl]), (hl.below hw).cell' hlt (by rw [he]; simp [entL, hkl])⟩
      have ck : ∀ w', Below w.heap.size w w' → ∀ t (ht : t < key.length), w'.cell? (((hd a).add (j * 34)).add t) = some (.int .u8 (key[t].toNat : Int)) :=
        fun w' hw t ht => (hl.below hw).cell hlt (by rw [he]; simp only [entL]; rw [List.getElem?_append_left (by simpa using ht)]; simp [ht])
      have HC := Lib.hid cc
      have HK := Lib.hid ck
      have hx : i64Ok x := hii x (by rw [he]; simp)
      have hy : i64Ok y := hii y (by rw [he]; simp)
      have HE : Hid (rowB l[j] = key ++ numsB [x, y]) := by show _ = _; rw [he]; rfl
      have HE2 : Hid (okR l[j] = okR ([], [x, y])) := by show _ = _; rw [he]; rfl
      have HX : Hid (l[j].1 = key) := by show _ = _; rw [he]
      clear he hii hfit cc ck hle
      have hj0 : (0 : Int) ≤ (j : Int) := by omega
      have hj1 : (j : Int) < (l.length : Int) := by omega
      generalize hP : headF kC l.length ++ rowsB (l.take j) = PRE at *
      have HP := Lib.hid hP
      clear hP
      go_wp2
      go_loopw [4, 8] (fun v i wq => ∃ t : Nat, t ≤ 32 ∧ i = .int .i64 t ∧ Own 5 wq w.heap.size v (PRE ++ key.take t) ∧ Below w.heap.size w wq) (fun _ i _ => 32 - (intOf i).toNat)
      case atStart => exact ⟨0, by omega, rfl, by simpa using hv, hb⟩
      case round =>
        clear hv hb
        obtain ⟨t, ht, rfl, hv, hb⟩ := hrel
        by_cases htl : t < 32
        · have hsz := hb.size
          have ct := HK.out wr hb t (by omega)
          have ht0 : (0 : Int) ≤ (t : Int) := by omega
          have ht1 : (t : Int) < 32 := by omega
          have hlen : (PRE ++ key.take t).length ≤ 3000032 := by rw [List.length_append]; simp; omega
          obtain ⟨v', w1, hrun, hv1, _, _, hb1⟩ := hv.append1 (ty := 27) eB (key[t]'(by omega)) (by omega) hsz
          have HV : Hid (Own 5 w1 w.heap.size v' (PRE ++ key.take (t + 1))) := by
            show Own _ _ _ _ _
            rw [List.take_succ_eq_append_getElem (by omega), ← List.append_assoc]; exact hv1
          clear hv hv1 hlen
          go_wp2_with (at_builtin; refine wpList_append_run hrun rfl rfl rfl rfl ?_)
          first
            | exact ⟨⟨t + 1, by omega, (by first | rfl | go_num | (congr 1; omega)), HV.out, hb.trans hb1⟩, by simp [intOf] <;> omega⟩
            | (refine ⟨?_, by simp [intOf] <;> omega⟩; (repeat apply Exists.intro); exact ⟨⟨t + 1, by omega, (by first | rfl | go_num | (congr 1; omega)), HV.out, hb.trans hb1⟩, rfl⟩)
        · obtain rfl : t = 32 := by omega
          rw [List.take_of_length_le (by omega)] at hv
          have hsz := hb.size
          have hpl : (PRE ++ key).length ≤ 3000032 := by rw [List.length_append]; omega
          obtain ⟨c0, c1⟩ := HC.out wr hb
          go_wp2_with fail
          refine (number_any x hv hsz (by omega) hx.1 hx.2).mono ?_
          rintro e w1 ⟨v1, rfl, hv1, hb1⟩
          have hbw1 := hb.trans hb1
          obtain ⟨d0, d1⟩ := HC.out w1 hbw1
          clear c0 c1
          have l1 := numB_length x
          go_wp2_with fail
          refine (number_any y hv1 hbw1.size (by rw [List.length_append]; omega) hy.1 hy.2).mono ?_
          rintro e w2 ⟨v2, rfl, hv2', hb2⟩
          have hbw := hbw1.trans hb2
          have hv2 : Own 5 w2 w.heap.size v2 (PRE ++ key ++ numsB [x, y]) := by
            have e : PRE ++ key ++ numsB [x, y] = PRE ++ key ++ numB x ++ numB y := by simp [numsB]
            rw [e]; exact hv2'
          clear hv1 hv2' d0 d1
          have HV : Hid (Own 5 w2 w.heap.size v2 (headF kC l.length ++ rowsB (l.take (j + 1)))) := by
            show Own _ _ _ _ _
            rw [HT.out, HE.out, ← List.append_assoc, HP.out, ← List.append_assoc]; exact hv2
          have HO2 : Hid (okR l[j] = (okN x && okN y)) := by show _ = _; rw [HE2.out]; simp [okR]
          clear hv hv2 HT hb2
          go_upto_region 15 with (fail)
          go_cut [5, 10, 12] (fun s5 _ _ wx => s5 = .bool ((l.take j).all okR && okR l[j]) ∧ wx = w2)
          case first =>
            rcases Bool.eq_false_or_eq_true ((l.take j).all okR) with h | h
            all_goals
              rcases Bool.eq_false_or_eq_true (okN x) with h1 | h1
              all_goals
                rcases Bool.eq_false_or_eq_true (okN y) with h2 | h2
                all_goals
                  rw [h, h1, h2]
                  go_wp2
                  go_meet
                  exact ⟨by rw [h, HO2.out, h1, h2]; rfl, rfl⟩
          case rest =>
            obtain ⟨rfl, rfl⟩ := hcut
            rw [← HA.out]
            rcases Bool.eq_false_or_eq_true (risesB kC (l.take j)) with h | h
            · rw [h]
              by_cases hj00 : j = 0
              · subst hj00
                have HR : Hid (true = risesB kC (l.take (0 + 1))) := (risesB_one _ _).symm
                clear h
                go_wp2
                go_quiet (fail)
                go_wp2
                first
                  | exact ⟨⟨0 + 1, by omega, (by first | rfl | go_num | (congr 1; omega)), rfl, congrArg Value.bool HR.out, HV.out.below (Gr.drewN _ _), Below.drewN hbw _⟩, by simp [intOf] <;> omega⟩
                  | (refine ⟨?_, by simp [intOf] <;> omega⟩; (repeat apply Exists.intro); exact ⟨⟨0 + 1, by omega, (by first | rfl | go_num | (congr 1; omega)), rfl, congrArg Value.bool HR.out, HV.out.below (Gr.drewN _ _), Below.drewN hbw _⟩, rfl⟩)
              · obtain ⟨i, rfl⟩ : ∃ i, j = i + 1 := ⟨j - 1, by omega⟩
                have hil : i < l.length := Nat.lt_of_succ_lt hlt
                have hfi := hf _ (List.getElem_mem hil)
                have hk0 : (l[i]'hil).1.length = 32 := hfi.1
                have hk1 : (l[i + 1]'hlt).1.length = 32 := by rw [HX.out]; exact hkl
                have q0 := (hl.below (Below.drewN hbw 1)).key hil hk0
                have q1 := (hl.below (Below.drewN hbw 1)).key hlt hk1
                have HR : Hid (ltB (l[i]'hil).1 (l[i + 1]'hlt).1 = risesB kC (l.take (i + 1 + 1))) := by
                  show _ = _
                  rw [risesB_take kC l i hlt, h, Bool.true_and]
                  unfold aheadB
                  rw [if_pos (by rfl)]
                have ew : IntKind.i64.wrap (i : Int) = (i : Int) := IntWalk.i64_in _ (by omega)
                have ew1 : IntKind.i64.wrap ((i : Int) + 1 - 1) = (i : Int) := by rw [IntWalk.i64_in _ (by omega)]; omega
                have i0 : (0 : Int) ≤ (i : Int) := by omega
                have i1 : (i : Int) < (l.length : Int) := by omega
                have i2 : (0 : Int) ≤ (i : Int) + 1 := by omega
                have i3 : (i : Int) + 1 < (l.length : Int) := by omega
                have i4 : ((i : Int) + 1).toNat = i + 1 := by omega
                have i5 : ((i : Int) + 1 == 0) = false := by simp; omega
                generalize (l[i]'hil).1 = k0 at *
                generalize (l[i + 1]'hlt).1 = k1 at *
                clear h hfi
                go_wp2
                refine wp_region_still_tail 16 (by kernel_rfl) (by kernel_rfl) ?_
                simp only [List.take_succ_cons, List.take_zero, List.drop_succ_cons, List.drop_zero]
                change wpStill _ _ (wc.drewN 1) _ _ _
                repeat still_step
                try refine wpStill_nil ?_
                change wpList _ _ _ _ _ (wc.drewN 1)
                go_wp2_with fail
                refine (rless_any _ hk0 hk1).mono ?_
                rintro e w5 ⟨rfl, hb5⟩
                have hb6 : Below w.heap.size w w5 := hbw.trans ((Below.drewN' (n := 1) hb5).mono hbw.size)
                have HV5 : Hid (Own 5 w5 w.heap.size v2 (headF kC l.length ++ rowsB (l.take (i + 1 + 1)))) := HV.out.below (Below.drewN' (n := 1) hb5)
                clear q0 q1 ew ew1 hb5
                go_wp2
                first
                  | exact ⟨⟨i + 1 + 1, by omega, (by first | rfl | go_num | (congr 1; omega)), rfl, congrArg Value.bool HR.out, HV5.out, hb6⟩, by simp [intOf] <;> omega⟩
                  | (refine ⟨?_, by simp [intOf] <;> omega⟩; (repeat apply Exists.intro); exact ⟨⟨i + 1 + 1, by omega, (by first | rfl | go_num | (congr 1; omega)), rfl, congrArg Value.bool HR.out, HV5.out, hb6⟩, rfl⟩)
            · have HR : Hid (false = risesB kC (l.take (j + 1))) := (rises_no h).symm
              rw [h]
              clear h
              go_wp2
              go_quiet (fail)
              go_wp2
              first
                | exact ⟨⟨j + 1, by omega, (by first | rfl | go_num | (congr 1; omega)), rfl, congrArg Value.bool HR.out, HV.out.below (Gr.drewN _ _), Below.drewN hbw _⟩, by simp [intOf] <;> omega⟩
                | (refine ⟨?_, by simp [intOf] <;> omega⟩; (repeat apply Exists.intro); exact ⟨⟨j + 1, by omega, (by first | rfl | go_num | (congr 1; omega)), rfl, congrArg Value.bool HR.out, HV.out.below (Gr.drewN _ _), Below.drewN hbw _⟩, rfl⟩)
    · obtain rfl : j = l.length := by omega
      rw [List.take_length] at hv ⊢
      have HW := Lib.hid (write_of (k := kC) hm)
      have hbl := body_len kC_good hf hm l.length
      rw [List.take_length] at hbl
      rcases Bool.eq_false_or_eq_true (l.all okR) with h1 | h1
      · rcases Bool.eq_false_or_eq_true (risesB kC l) with h2 | h2
        · rw [h1, h2] at HW ⊢
          clear h1 h2
          go_wp2_with fail
          refine (closed_any hv hb.size (by omega)).mono ?_
          rintro e w2 ⟨v2, rfl, hv2, hb2⟩
          go_wp2
          go_ret2
          rw [HW.out]
          obtain ⟨a2, c2, rfl, x1, x2, x3, _⟩ := hv2.at
          exact ⟨_, rfl, ⟨a2, c2, rfl, x1, x2, x3⟩, hb.trans hb2⟩
        · rw [h1, h2] at HW ⊢
          clear h1 h2
          go_wp2
          go_ret2
          rw [HW.out]
          exact ⟨_, rfl, BRd.nil _, hb⟩
      · rw [h1] at HW ⊢
        clear h1
        go_wp2
        go_ret2
        rw [HW.out]
        exact ⟨_, rfl, BRd.nil _, hb⟩
end Go.Proofs.Ytcomcljpnjeogaa
