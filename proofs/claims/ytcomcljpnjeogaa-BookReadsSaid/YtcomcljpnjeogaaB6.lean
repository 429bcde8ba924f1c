/- The walk of layer 13's (kind).write. -/
import Derived.Test.YtcomcljpnjeogaaB5
import Derived.Test.YtcomcljpnjeogaaX7
import Derived.Deep.RegionLaw
import Derived.Deep.DeepCutAuto
set_option maxRecDepth 20000
namespace Go.Proofs.Ytcomcljpnjeogaa
open Go.RowKit Go.Hd
attribute [local go_sem ↓] h_ldID h_stID h_alID h_ldROW h_stROW h_alROW h_bdROW h_bsROW h_cv
attribute [local go_sem] r_ldID r_stID r_s2ID r_alID r_ldROW r_stROW r_s2ROW r_alROW r_bsROW r_cv

theorem mag_a {W w1 : World} {N : Nat} {v : Value} {m l : List UInt8} (hN : W.heap.size = N) (hm : m.length ≤ 1000) (hl : l.length ≤ 1000) (hF : Fresh (cvW 5 W m) w1 v l) :
    ∃ v' w2, (Builtin.append_ #[27, 27] 27 #[.slice (some ⟨N, 0, none⟩) m.length (cvC 5 W m), v]).run Try.prog w1 = .ok v' w2 ∧ OwnQ 5 w2 N v' (m ++ l) ∧ Below N W w2 := by
  subst hN
  obtain ⟨a1, c1, rfl, hr, hb, _, _⟩ := hF.open
  have hsz := cvW_size 5 W m
  have hq : OwnQ 5 w1 W.heap.size (.slice (some ⟨W.heap.size, 0, none⟩) m.length (cvC 5 W m)) m := (cvW_own (Nat.le_refl _) (by unfold maxLen; omega)).below hb
  obtain ⟨v', w2, h1, h2, _, h4, _⟩ := hq.append (ty := 27) eB hr rfl (by omega) (by have := hb.size; omega)
  exact ⟨v', w2, h1, h2, ((cvW_below 5 W m).trans (hb.mono (by omega))).trans h4⟩
theorem mag_b {W w1 : World} {N M : Nat} {v : Value} {m l : List UInt8} (hN : W.heap.size = N) (hM : w1.heap.size = M) (hm : m.length ≤ 1000) (hl : l.length ≤ 1000) (hF : Fresh W w1 v l) :
    ∃ v' w2, (Builtin.append_ #[27, 27] 27 #[.slice (some ⟨M, 0, none⟩) m.length (cvC 5 w1 m), v]).run Try.prog (cvW 5 w1 m) = .ok v' w2 ∧ OwnQ 5 w2 N v' (m ++ l) ∧ Below N W w2 := by
  subst hN hM
  obtain ⟨a1, c1, rfl, hr, hb, _, _⟩ := hF.open
  have hs := hb.size
  have hsz := cvW_size 5 w1 m
  have hcb := cvW_below 5 w1 m
  have hq : OwnQ 5 (cvW 5 w1 m) W.heap.size (.slice (some ⟨w1.heap.size, 0, none⟩) m.length (cvC 5 w1 m)) m := cvW_own hs (by unfold maxLen; omega)
  obtain ⟨v', w2, h1, h2, _, h4, _⟩ := hq.append (ty := 27) eB (hr.below hcb) rfl (by omega) (by omega)
  exact ⟨v', w2, h1, h2, (hb.trans (hcb.mono hs)).trans h4⟩

theorem mag_cell {W w1 : World} {v x : Value} {l : List UInt8} {g : Nat} {T : TypeId} {xs : List Value} (hF : Fresh W w1 v l) (hB : Blk W g T (x :: xs)) : w1.cell? ⟨g, 0, none⟩ = some x := (hB.below hF.2).cell rfl
set_option maxHeartbeats 2000000 in
theorem kwrite_any (k : BKind) {w : World} (hk : k.good) {a : Option Addr} {n c : Nat} {l : List BRow} (hn : n = l.length) (hl : RowsRd w a l) (hf : ∀ r ∈ l, fitR k r) (hm : l.length ≤ 65536) :
    Calls Try.prog 30 #[.agg #[.string (str k.magic), .bool (keyed k), .int .i64 (k.nums : Int)], .slice a n c] w fun e w' => ∃ v, e = .returned (.tuple #[v, .int .i64 (writeF k l).2]) ∧ BRd w' v (writeF k l).1 ∧ Below w.heap.size w w' := by
  subst hn
  have h8 : k.magic.length ≤ 1000 := by rw [hk.1]; decide
  have hp4 : (putL l.length 4).length ≤ 1000 := by simp
  have HK := Lib.hid hk
  clear hk
  have hlm : decide (65536 < l.length) = false := by simp; omega
  have eL : IntKind.u64.wrap (l.length : Int) = (l.length : Int) := by rw [IntKind.wrap_u64]; omega
  have hb0 : Below w.heap.size w (w.alloc (.cells #[.string (str k.magic), .bool (keyed k), .int .i64 (k.nums : Int)] 61)) := (Below.refl _ _).alloc (Nat.le_refl _) _
  have B0 : Blk (w.alloc (.cells #[.string (str k.magic), .bool (keyed k), .int .i64 (k.nums : Int)] 61)) w.heap.size 61 [.string (str k.magic), .bool (keyed k), .int .i64 (k.nums : Int)] := Blk.new _ _ _
  go_enter Try.func30, Try.ntmps30
  go_upto_region 3 with (fail)
  go_cut [6] (fun s6 wx => OwnQ 5 wx (w.heap.size + 1) s6 (headF k l.length) ∧ Blk wx w.heap.size 61 [.string (str k.magic), .bool (keyed k), .int .i64 (k.nums : Int)] ∧ Below w.heap.size w wx)
  case first =>
    go_region_law ((first
      | (go_simp; go_at_call 54; refine (put_any l.length 4 _ (by omega) (by omega) (by omega)).mono ?_; rintro e w1 ⟨v, rfl, hF⟩; first | (have cx := mag_cell hF B0.drew) | skip)
      | (obtain ⟨v', w2, hrun, hq, hb2⟩ := mag_a (N := w.heap.size + 1) (by simp) h8 hp4 hF; refine step_append_run hrun rfl rfl rfl rfl ?_)
      | (obtain ⟨v', w2, hrun, hq, hb2⟩ := mag_b (N := w.heap.size + 1) (by simp) rfl h8 hp4 hF; refine step_append_run hrun rfl rfl rfl rfl ?_)))
    all_goals
      have hbw : Below w.heap.size w w2 := hb0.trans (Below.drewN' (n := 1) (hb2.mono (Nat.le_succ _)))
      have Bk2 := B0.drew.below (by simpa using hb2)
      clear hrun hF hb2
      go_wp2_with fail
      go_meet
      exact ⟨hq, Bk2, hbw⟩
  case rest =>
    obtain ⟨hq, Bk, hb⟩ := hcut
    obtain ⟨cs, hrow, hcs⟩ := hl
    clear B0 hb0
    go_wp2
    go_loopw [6, 24] (fun v i wr => ∃ j : Nat, j ≤ l.length ∧ i = .int .i64 j ∧ OwnQ 5 wr (w.heap.size + 1) v (headF k l.length ++ rowsB (l.take j)) ∧ (l.take j).all okR = true ∧ Blk wr w.heap.size 61 [.string (str k.magic), .bool (keyed k), .int .i64 (k.nums : Int)] ∧ Below w.heap.size w wr) (fun _ i _ => l.length - (intOf i).toNat)
    case atStart => exact ⟨0, Nat.zero_le _, rfl, by simpa [rowsB] using hq, rfl, Bk, hb⟩
    case round =>
      clear hq Bk hb
      obtain ⟨j, hj, rfl, hv, hok, Bk, hb⟩ := hrel
      have HOK := Lib.hid hok
      clear hok
      by_cases hlt : j < l.length
      · obtain ⟨x, hx, rx⟩ := hcs.2 j l[j] (by simp [hlt])
        have hfit := hf _ (List.getElem_mem hlt)
        have hr2 := hrow.below hb
        have s1 := hr2.elemSome (s := 33) hcs.all (by decide) (i := j) (by have := hcs.1; omega)
        have q1 := ldOp_at (P := Try.prog) (ty := 74) (hr2.elem (s := 33) hcs.all hx) Try.underlying74 rfl (by rw [rx.len]; exact sizeROW)
        have x33 : x.toArray.size = 33 := by simpa using rx.len
        have xo : OneC x.toArray := all_oneCell_toArray rx.one
        have HT := Lib.hid (rowsB_take l j hlt)
        have HA : Hid ((l.take (j + 1)).all okR = ((l.take j).all okR && okR l[j])) := by
          show _ = _
          rw [List.take_succ_eq_append_getElem hlt, List.all_append]
          simp
        have HB : Hid (okR l[j] = false → writeF k l = ([], 2)) := by
          show _ → _
          intro h
          unfold writeF
          rw [if_neg (by omega), if_pos]
          rw [List.all_eq_false]
          exact ⟨l[j], List.getElem_mem hlt, by rw [h]; decide⟩
        have zs := zROW_size
        generalize l[j] = r at *
        obtain ⟨cell, hxe, hp, aa, nn, cc, rfl, rfl, hnc, hcm, hrow2, _⟩ := rx
        have Bx : Blk (wr.alloc (.cells x.toArray 74)) wr.heap.size 74 x := Blk.new _ _ _
        have hbx : Below wr.heap.size wr (wr.alloc (.cells x.toArray 74)) := (Below.refl _ _).alloc (Nat.le_refl _) _
        have hsz := hb.size
        have h32 : x[32]? = some (.slice aa r.2.length cc) := by rw [hxe, List.getElem?_append_right (by simp [pad_length hp])]; simp [pad_length hp]
        have HX := Lib.hid hxe
        clear hx hr2 hxe
        go_upto_region 7 with (fail)
        have Bk1 := Bk.below hbx
        have hv1 := hv.below hbx
        have hb1 := hb.trans (hbx.mono hsz)
        have hgl := Bx.lt
        generalize wr.alloc (.cells x.toArray 74) = W1 at *
        obtain ⟨gx, hgx⟩ : ∃ gx, gx = wr.heap.size := ⟨_, rfl⟩
        have hvlt := hv.lt
        rw [← hgx] at Bx hgl hsz hvlt ⊢
        clear hbx Bk hv hb hgx q1 s1 xo
        have c1 : W1.cell? ⟨w.heap.size, 1, none⟩ = _ := Bk1.cell rfl
        go_upto_if 29 with (fail)
        go_cut [0, 6] (fun s0 s6 wx => (∀ q, s6.ownBlock = some q → q ≠ gx) ∧ s0 = .agg #[.string (str k.magic), .bool (keyed k), .int .i64 (k.nums : Int)] ∧ OwnQ 5 wx (w.heap.size + 1) s6 (headF k l.length ++ rowsB (l.take j) ++ r.1) ∧ Blk wx gx 74 x ∧ Blk wx w.heap.size 61 [.string (str k.magic), .bool (keyed k), .int .i64 (k.nums : Int)] ∧ Below w.heap.size w wx)
        case first =>
          rcases HK.out.2.1 with hk32 | hk0
          · have p1 : r.1.length = 32 := by rw [hfit.1, hk32]
            have hrk : Row W1 (some ⟨gx, 0, none⟩) (r.1.map b8) := Row.ofBlk Bx (by rw [HX.out, pad_full p1])
            have hll : (headF k l.length ++ rowsB (l.take j)).length + r.1.length ≤ 140737488355328 := by
              rw [List.length_append, headF_length HK.out, rowsB_length (k := k) (fun y hy => hf y (List.mem_of_mem_take hy)), p1]
              have h1 : (l.take j).length * k.size ≤ 65536 * 44 := Nat.mul_le_mul (by simp; omega) (by have := HK.out.2.2.2; unfold BKind.size; omega)
              omega
            obtain ⟨v2, w2, hrun, hv2, hg2, hb2, hk2⟩ := hv1.append (ty := 27) (c := 32) eB hrk (n := 32) p1.symm hll (by have := Bk1.lt; omega)
            have e1 : keyed k = true := keyed_yes hk32
            rw [e1] at c1
            have D1 : Blk w2 gx 74 x := Bx.keptBy hg2 (fun e => by have := (hvlt _ e).2; omega)
            have D2 := Bk1.keptBy hg2 (fun e => by have := (hvlt _ e).1; omega)
            have D0 : ∀ q, v2.ownBlock = some q → q ≠ gx := fun q e => by
              rcases hk2 q e with h | h
              · have := (hvlt _ h).2; omega
              · omega
            have D3 := hb1.trans (hb2.mono (Nat.le_succ _))
            clear hk32 hrk hll hg2 hb2 hfit p1 hvlt hk2
            rw [e1]
            go_wp2_with (at_builtin; refine wpList_append_run hrun rfl rfl rfl rfl ?_)
            go_meet
            exact ⟨D0, by rw [e1], hv2, D1, D2, D3⟩
          · have e1 : keyed k = false := keyed_no hk0
            have p1 : r.1 = [] := List.eq_nil_of_length_eq_zero (by rw [hfit.1, hk0])
            rw [e1] at c1
            have hv2 : OwnQ 5 W1 (w.heap.size + 1) u6 (headF k l.length ++ rowsB (l.take j) ++ r.1) := by rw [p1, List.append_nil]; exact hv1
            have D0 : ∀ q, u6.ownBlock = some q → q ≠ gx := fun q e => by have := (hvlt _ e).2; omega
            clear hk0 hfit p1 hvlt
            rw [e1]
            go_wp2
            go_meet
            exact ⟨D0, by rw [e1], hv2, Bx, Bk1, hb1⟩
        case rest =>
          clear c1 hv1 Bx Bk1 hb1 hvlt hgl hsz
          obtain ⟨hfar, rfl, hv, Bx, Bk, hb⟩ := hcut
          have hsz := hb.size
          have c32 : wc.cell? ⟨gx, 32, none⟩ = some (.slice aa r.2.length cc) := Bx.cell h32
          have hn3 : r.2.length ≤ 3 := by rw [hfit.2]; exact HK.out.2.2.2
          have hfar' := Lib.hid hfar
          have hPL : (headF k l.length ++ rowsB (l.take j) ++ r.1).length ≤ 3000000 := by
            rw [List.length_append, List.length_append, headF_length HK.out, rowsB_length (k := k) (fun y hy => hf y (List.mem_of_mem_take hy)), hfit.1]
            have h1 : (l.take j).length * k.size ≤ 65536 * 44 := Nat.mul_le_mul (by simp; omega) (by rcases HK.out.2.1 with h | h <;> (have := HK.out.2.2.2; unfold BKind.size; omega))
            have h2 : k.key ≤ 32 := by rcases HK.out.2.1 with h | h <;> omega
            omega
          have HEnd : Hid (headF k l.length ++ rowsB (l.take (j + 1)) = headF k l.length ++ rowsB (l.take j) ++ r.1 ++ numsB r.2) := by
            show _ = _
            rw [HT.out, rowB]
            simp only [List.append_assoc]
          generalize headF k l.length ++ rowsB (l.take j) ++ r.1 = PRE at *
          clear hfar hfit
          go_wp2
          go_loopw [6, 37] (fun v i wq => ∃ q : Nat, q ≤ r.2.length ∧ i = .int .i64 q ∧ OwnQ 5 wq (w.heap.size + 1) v (PRE ++ numsB (r.2.take q)) ∧ Hid (∀ t, v.ownBlock = some t → t ≠ gx) ∧ Hid ((r.2.take q).all okN = true) ∧ Blk wq gx 74 x ∧ Blk wq w.heap.size 61 [.string (str k.magic), .bool (keyed k), .int .i64 (k.nums : Int)] ∧ Below w.heap.size w wq) (fun _ i _ => r.2.length - (intOf i).toNat)
          case atStart => exact ⟨0, Nat.zero_le _, rfl, by simpa [numsB] using hv, hfar', rfl, Bx, Bk, hb⟩
          case round =>
            clear hv Bx Bk hb hfar' c32 hsz
            obtain ⟨q, hq, rfl, hv, hfar, hoq, Bx, Bk, hb⟩ := hrel
            have hsz := hb.size
            by_cases hqlt : q < r.2.length
            · have y := (hrow2.below hb).cell (i := q) (u := .int .i64 r.2[q]) (by simp [hqlt])
              have ys := hrow2.isSome (i := q) (by simpa using hqlt)
              have hnnq : (q : Int) < (r.2.length : Int) := by omega
              have HQ := Lib.hid (numsB_take r.2 q hqlt)
              have HO : Hid ((r.2.take (q + 1)).all okN = ((r.2.take q).all okN && okN r.2[q])) := by
                show _ = _
                rw [List.take_succ_eq_append_getElem hqlt, List.all_append]
                simp
              have HBq : Hid (okN r.2[q] = false → okR r = false) := by
                show _ → _
                intro h
                unfold okR
                rw [List.all_eq_false]
                exact ⟨r.2[q], List.getElem_mem hqlt, by rw [h]; decide⟩
              generalize r.2[q] = N at *
              by_cases hN0 : N < 0
              · have HW : Hid (writeF k l = ([], 2)) := HB.out (HBq.out (by simp [okN]; omega))
                go_wp2
                go_ret2
                rw [HW.out]
                exact ⟨_, rfl, BRd.nil _, hb⟩
              · by_cases hN1 : 4294967295 < N
                · have HW : Hid (writeF k l = ([], 2)) := HB.out (HBq.out (by simp [okN]; omega))
                  go_wp2
                  go_ret2
                  rw [HW.out]
                  exact ⟨_, rfl, BRd.nil _, hb⟩
                · obtain ⟨M, rfl⟩ := Int.eq_ofNat_of_zero_le (show 0 ≤ N by omega)
                  have eM : IntKind.u64.wrap (M : Int) = (M : Int) := by rw [IntKind.wrap_u64]; omega
                  have HNB : Hid (numB (M : Int) = putL M 4) := by
                    show _ = _
                    rw [numB]
                    congr 1
                    omega
                  have HOQ : Hid ((r.2.take (q + 1)).all okN = true) := by
                    show _ = _
                    rw [HO.out, hoq.out]
                    simp [okN]; omega
                  clear HB HBq HO hoq
                  go_wp2_with fail
                  refine (put_any M 4 _ (by omega) (by decide) (by decide)).mono ?_
                  rintro e w1 ⟨pv, rfl, hF⟩
                  obtain ⟨a1, c1, rfl, hr1, hb1, hm1, _⟩ := hF.open
                  have hll : (PRE ++ numsB (r.2.take q)).length + (putL M 4).length ≤ 140737488355328 := by
                    rw [List.length_append, numsB_length, putL_length]
                    have : (r.2.take q).length ≤ r.2.length := by simp; omega
                    omega
                  have hsz1 := hb1.size
                  have hBl := Bk.lt
                  have hgl := Bx.lt
                  have hvl := hv.lt
                  obtain ⟨v2, w2, hrun, hv2, hg2, hb2, hk2⟩ := (hv.below hb1).append (ty := 27) (c := c1) eB hr1 rfl hll (by omega)
                  have D1 : Blk w2 gx 74 x := (Bx.below hb1).keptBy hg2 (fun e => hfar.out _ e rfl)
                  have D2 := (Bk.below hb1).keptBy hg2 (fun e => by have := (hvl _ e).1; omega)
                  have D3 : Below w.heap.size w w2 := (hb.trans (hb1.mono hsz)).trans (hb2.mono (Nat.le_succ _))
                  have D0 : Hid (∀ t, v2.ownBlock = some t → t ≠ gx) := by
                    show ∀ _, _
                    intro t e
                    rcases hk2 t e with h | h
                    · exact hfar.out _ h
                    · omega
                  have HV : Hid (OwnQ 5 w2 (w.heap.size + 1) v2 (PRE ++ numsB (r.2.take (q + 1)))) := by
                    show OwnQ _ _ _ _ _
                    rw [HQ.out, HNB.out, ← List.append_assoc]; exact hv2
                  clear hv2 hg2 hk2 hb2 hll hF hb1 hr1 y hv Bx Bk hb hfar eM
                  go_wp2_with (at_builtin; refine wpList_append_run hrun rfl rfl rfl rfl ?_)
                  first
                    | exact ⟨⟨q + 1, by omega, (by first | rfl | go_num | (congr 1; omega)), HV.out, D0, HOQ, D1, D2, D3⟩, by simp [intOf] <;> omega⟩
                    | (refine ⟨?_, by simp [intOf] <;> omega⟩; (repeat apply Exists.intro); exact ⟨⟨q + 1, by omega, (by first | rfl | go_num | (congr 1; omega)), HV.out, D0, HOQ, D1, D2, D3⟩, rfl⟩)
            · obtain rfl : q = r.2.length := by omega
              have HV : Hid (OwnQ 5 wr (w.heap.size + 1) u6 (headF k l.length ++ rowsB (l.take (j + 1)))) := by
                show OwnQ _ _ _ _ _
                rw [HEnd.out]
                rw [List.take_length] at hv
                exact hv
              have HO : Hid ((l.take (j + 1)).all okR = true) := by
                show _ = _
                have h := hoq.out
                rw [List.take_length] at h
                rw [HA.out, HOK.out, Bool.true_and]
                exact h
              clear hv hoq HOK HA HB
              go_wp2
              first
                | exact ⟨⟨j + 1, by omega, (by first | rfl | go_num | (congr 1; omega)), HV.out, HO.out, Bk, hb⟩, by simp [intOf] <;> omega⟩
                | (refine ⟨?_, by simp [intOf] <;> omega⟩; (repeat apply Exists.intro); exact ⟨⟨j + 1, by omega, (by first | rfl | go_num | (congr 1; omega)), HV.out, HO.out, Bk, hb⟩, rfl⟩)
      · obtain rfl : j = l.length := by omega
        have hok := HOK.out
        rw [List.take_length] at hv hok
        have hlen : (headF k l.length ++ rowsB l).length ≤ 3000000 := by
          rw [List.length_append, headF_length HK.out, rowsB_length hf]
          have h1 : l.length * k.size ≤ 65536 * 44 := Nat.mul_le_mul hm (by rcases HK.out.2.1 with h | h <;> (have := HK.out.2.2.2; unfold BKind.size; omega))
          omega
        have HW : Hid (writeF k l = if risesB k l = false then ([], 18) else (closedF (headF k l.length ++ rowsB l), 0)) := by
          show _ = _
          unfold writeF
          rw [if_neg (by omega), if_neg (by rw [hok]; simp)]
          rfl
        have c0 : wr.cell? ⟨w.heap.size, 0, none⟩ = _ := Bk.cell rfl
        have c1 : wr.cell? ⟨w.heap.size, 1, none⟩ = _ := Bk.cell rfl
        have c2 : wr.cell? ⟨w.heap.size, 2, none⟩ = _ := Bk.cell rfl
        have hBl := Bk.lt
        have hrd : RowsRd wr a l := RowsRd.below ⟨cs, hrow, hcs⟩ hb
        generalize headF k l.length ++ rowsB l = PRE at *
        clear hok HOK
        go_wp2_with fail
        refine (rises_any k HK.out (str k.magic) rfl hrd hf hm).mono ?_
        rintro e w1 ⟨rfl, hb1⟩
        have hbw : Below w.heap.size w w1 := hb.trans (hb1.mono hb.size)
        by_cases hri : risesB k l = true
        · rw [hri] at HW ⊢
          have hv1 := hv.below hb1
          obtain ⟨av, cv, rfl, hcv, hmv, hrv⟩ := hv1.at
          clear hri c0 c1 c2 hv
          go_wp2_with fail
          refine (xsum_any 0 (by rfl) rfl hrv hcv (by omega)).mono ?_
          rintro e w2 ⟨rfl, hb2⟩
          have hs := sum_lt PRE 0
          rw [show (256 ^ 8 : Nat) = 18446744073709551616 by decide] at hs
          go_wp2_with fail
          refine (put_any (sumF PRE 0).toNat 8 _ hs (by decide) (by decide)).mono ?_
          rintro e w3 ⟨pv, rfl, hF⟩
          obtain ⟨a1, d1, rfl, hr1, hb3, hm1, _⟩ := hF.open
          have z1 := hb1.size
          have z2 := hb2.size
          have z3 := hb3.size
          obtain ⟨v4, w4, hrun, hv4, _, hb4, _⟩ := ((hv1.below hb2).below hb3).append (ty := 27) (c := d1) eB hr1 rfl (by rw [putL_length]; omega) (by omega)
          have D3 : Below w.heap.size w w4 := ((hbw.trans (hb2.mono (by omega))).trans (hb3.mono (by omega))).trans (hb4.mono (Nat.le_succ _))
          clear hs hF hr1 hm1
          go_wp2_with (at_builtin; refine wpList_append_run hrun rfl rfl rfl rfl ?_)
          go_ret2
          rw [HW.out]
          exact ⟨_, rfl, hv4.rd, D3⟩
        · have hri' : risesB k l = false := by simpa using hri
          rw [hri'] at HW ⊢
          clear hri hri' c0 c1 c2
          go_wp2
          go_ret2
          rw [HW.out]
          exact ⟨_, rfl, BRd.nil _, hbw⟩
end Go.Proofs.Ytcomcljpnjeogaa
