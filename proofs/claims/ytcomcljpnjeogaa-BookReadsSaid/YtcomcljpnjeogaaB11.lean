/- Walks of layer 13: entries out of rows. -/
import Derived.Test.YtcomcljpnjeogaaB5
import Derived.Test.YtcomcljpnjeogaaB8
set_option maxRecDepth 20000
namespace Go.Proofs.Ytcomcljpnjeogaa
open Go.RowKit Go.Hd
attribute [local go_sem ↓] h_ldID h_stID h_alID h_ldROW h_stROW h_alROW h_bdROW h_bsROW h_ldKD h_stKD h_alKD h_bdKD h_bsKD h_ldCD h_stCD h_alCD h_bdCD h_bsCD h_ldUS h_stUS h_alUS h_bdUS h_bsUS
attribute [local go_sem] r_ldID r_stID r_s2ID r_alID r_ldROW r_stROW r_s2ROW r_alROW r_bsROW r_ldKD r_stKD r_s2KD r_alKD r_bsKD r_ldCD r_stCD r_s2CD r_alCD r_bsCD r_ldUS r_stUS r_s2US r_alUS r_bsUS

theorem r_bdKD {w : World} {key : List UInt8} {x y z : Int} (h : key.length = 32) : (bdOp 71 #[(0, .agg (kcs key)), (1, .agg #[.int .i64 x, .int .i64 y, .int .i64 z])]).run Try.prog w = .ok (.agg (entA (key, [x, y, z]))) w := by
  have := bdOp_two (P := Try.prog) (u := .agg (kcs key)) (v := .agg #[.int .i64 x, .int .i64 y, .int .i64 z]) (w := w) Try.underlying71 zeroKD (m := 32) (n := 3) (by kernel_rfl) (by exact zKD_size) (kcs_size h) rfl
  simpa [entA, entL, kcs, Value.cells] using this
theorem r_bdCD {w : World} {key : List UInt8} {x y : Int} (h : key.length = 32) : (bdOp 80 #[(0, .agg (kcs key)), (1, .agg #[.int .i64 x, .int .i64 y])]).run Try.prog w = .ok (.agg (entA (key, [x, y]))) w := by
  have := bdOp_two (P := Try.prog) (u := .agg (kcs key)) (v := .agg #[.int .i64 x, .int .i64 y]) (w := w) Try.underlying80 zeroCD (m := 32) (n := 2) (by kernel_rfl) (by exact zCD_size) (kcs_size h) rfl
  simpa [entA, entL, kcs, Value.cells] using this
theorem r_bdUS {w : World} {x y z : Int} : (bdOp 84 #[(0, .int .i64 x), (1, .int .i64 y), (2, .int .i64 z)]).run Try.prog w = .ok (.agg (entA ([], [x, y, z]))) w := by
  refine run_build w 84 _ _ ?_
  rw [built_struct Try.underlying84 zeroUS (places := [(0, 1), (1, 1), (2, 1)]) (by kernel_rfl)]
  rfl
/-- Entries that a call owns. -/
def EntOwn (T : TypeId) (s : Nat) (B : Nat) (w : World) (v : Value) (l : List BRow) : Prop := w.ownsRow B T s v l.length (l.map entL).flatten ∧ ∀ r ∈ l, (entL r).length = s
theorem EntOwn.rd {T : TypeId} {s B : Nat} {w : World} {v : Value} {l : List BRow} (h : EntOwn T s B w v l) : ∃ a c, v = .slice a l.length c ∧ l.length ≤ c ∧ c ≤ maxLen ∧ EntRd s w a l := by
  obtain ⟨a, c, e, hc, hm, hr, _⟩ := owns_atS h.1
  exact ⟨a, c, e, hc, hm, hr, h.2⟩

set_option maxHeartbeats 1000000 in
theorem rcl_KD {ok : Nat → Prop} {r : BRow} {cs : List Value} {w : World} (h : RowIs ok w cs r) (hf : fitR kI r) :
    Calls Try.prog 46 #[.agg cs.toArray] w fun e w' => e = .returned (.agg (entA r)) ∧ Below w.heap.size w w' := by
  obtain ⟨key, nums⟩ := r
  obtain ⟨hk, hn⟩ := hf
  simp only at hk hn
  replace hk : key.length = 32 := hk
  match nums, hn with
  | [x, y, z], _ =>
    obtain ⟨cell, hcs, hp, a, n, c, rfl, rfl, hnc, hcm, hrow, _⟩ := h
    simp only [List.length_cons, List.length_nil, Nat.zero_add, Nat.reduceAdd] at hnc hcs
    simp only at hcs hrow hp hnc
    obtain rfl : cs = rowL (pad key) a 3 c := hcs
    show Calls _ _ #[.agg (rowA (pad key) a 3 c)] _ _
    have h33 := rowA_size (pad_length hp) a 3 c
    have hel : (entL (key, [x, y, z])).length = 35 := by simp [entL, hk]
    have sA : (entA (key, [x, y, z])).size = 35 := entA_KD (by simp; exact hk) rfl
    have oA := entA_one (key, [x, y, z])
    go_enter Try.func46, Try.ntmps46
    go_upto_region 1 with (fail)
    have hb0 : Below w.heap.size w ((w.alloc (.cells (rowA (pad key) a 3 c) 74)).alloc (.cells zKD 71)) := ((Below.refl _ _).alloc (Nat.le_refl _) _).alloc (by simp) _
    have B1 : Blk ((w.alloc (.cells (rowA (pad key) a 3 c) 74)).alloc (.cells zKD 71)) w.heap.size 74 (rowL (pad key) a 3 c) := (Blk.new w 74 (rowA (pad key) a 3 c)).alloc _
    have B2 : Blk ((w.alloc (.cells (rowA (pad key) a 3 c) 74)).alloc (.cells zKD 71)) (w.heap.size + 1) 71 zKD.toList := by
      have := Blk.new (w.alloc (.cells (rowA (pad key) a 3 c) 74)) 71 zKD
      rw [drew_alloc_size] at this
      exact this
    generalize (w.alloc (.cells (rowA (pad key) a 3 c) 74)).alloc (.cells zKD 71) = W at *
    have q1 := ldOp_blk (P := Try.prog) (o := 0) (n := 32) (B1.drewN 1) (by simp [rowL, pad_length hp]) Try.underlying67 rfl sizeID
    rw [show ((rowL (pad key) a 3 c).drop 0).take 32 = key.map b8 by unfold rowL; rw [List.drop_zero, pad_full hk, List.take_left' (by simpa using hk)]] at q1
    have q1' : (ldOp 67 (.pointer (some ⟨w.heap.size, 0, none⟩))).run Try.prog (W.drewN 1) = .ok (.agg (kcs key)) (W.drewN 1) := q1
    have q3 := fun (w : World) => r_bdKD (w := w) (x := x) (y := y) (z := z) hk
    clear q1
    have c32 : W.cell? ⟨w.heap.size, 32, none⟩ = some (.slice a 3 c) := B1.cell (by unfold rowL; rw [List.getElem?_append_right (by simp [pad_length hp])]; simp [pad_length hp])
    have y0 := (hrow.below hb0).cell (i := 0) (u := .int .i64 x) (by simp)
    have y1 := (hrow.below hb0).cell (i := 1) (u := .int .i64 y) (by simp)
    have y2 := (hrow.below hb0).cell (i := 2) (u := .int .i64 z) (by simp)
    have y1' : W.cell? ⟨(hd a).block, (hd a).off + 1, none⟩ = some (.int .i64 y) := by have h := y1; simp only [Addr.add] at h; simpa using h
    have y2' : W.cell? ⟨(hd a).block, (hd a).off + 2, none⟩ = some (.int .i64 z) := by have h := y2; simp only [Addr.add] at h; simpa using h
    have y0' : W.cell? (hd a) = some (.int .i64 x) := by have h := y0; simp only [Addr.add] at h; simpa using h
    have s0 := hrow.isSome (i := 0) (by simp)
    obtain ⟨w2, hst, hB2, hg2⟩ := stOp_blk (P := Try.prog) (ty := 71) (o := 0) (cs := entL (key, [x, y, z])) (B2.drewN 1) (by have h1 := zKD_size; simp; omega) (by rw [hel]; exact sizeKD) (entL_one _)
    have hst' : (stoOp 71 (.pointer (some ⟨w.heap.size + 1, 0, none⟩)) (.agg (entA (key, [x, y, z])))).run Try.prog (W.drewN 1) = .ok () w2 := hst
    have hB2' : Blk w2 (w.heap.size + 1) 71 (entL (key, [x, y, z])) := by
      have e : (zKD.toList.take 0 ++ entL (key, [x, y, z]) ++ zKD.toList.drop (0 + (entL (key, [x, y, z])).length)) = entL (key, [x, y, z]) := by
        have h1 := zKD_size
        rw [List.take_zero, List.nil_append, List.drop_eq_nil_of_le (by simp; omega), List.append_nil]
      rw [e] at hB2; exact hB2
    have hbw : Below w.heap.size w w2 := (Below.drewN hb0 1).trans (Below.grown (Below.refl _ _) hg2 (by have := hb0.size; exact this) (fun k hk => by cases hk; omega))
    clear hst hB2 hg2 B1 B2 hb0 hrow hcm hnc
    generalize entA (key, [x, y, z]) = EA at *
    go_wp2
    refine wp_region_still_tail 16 (by kernel_rfl) (by kernel_rfl) ?_
    simp only [List.take_succ_cons, List.take_zero, List.drop_succ_cons, List.drop_zero]
    change wpStill _ _ (W.drewN 1) _ _ _
    repeat still_step
    try refine wpStill_nil ?_
    change wpList _ _ _ _ _ (W.drewN 1)
    go_wp2
    refine bodyPost_ret (results_cell_row (fn := Try.f46) (by rfl) _ _ (w.heap.size + 1) 71 _ (0, 0) _ (by rfl) hB2' Try.underlying71 rfl (by rw [List.size_toArray, hel]; exact sizeKD)) rfl ⟨?_, hbw⟩
    exact rfl
theorem ent_len_KD {r : BRow} (hf : fitR kI r) : (entL r).length = 35 := by
  obtain ⟨h1, h2⟩ := hf
  simp only [entL, List.length_append, List.length_map, h1, h2]
  rfl
theorem eKD : Elem Try.prog 22 71 (.agg zKD) 35 56 := ⟨by kernel_rfl, by kernel_rfl, rfl, by decide⟩
theorem back_KD {a : Option Addr} {n c : Nat} {l : List BRow} {w : World} (hn : n = l.length) (hl : RowsRd w a l) (hf : ∀ r ∈ l, fitR kI r) (hm : l.length ≤ 65536) :
    Calls Try.prog 45 #[.slice a n c, .func (.func 46) #[] #[]] w fun e w' => ∃ v, e = .returned v ∧ EntOwn 71 35 w.heap.size w' v l ∧ Below w.heap.size w w' := by
  subst hn
  obtain ⟨cs, hrow, hcs⟩ := hl
  have zs := zROW_size
  go_enter Try.func45, Try.ntmps45
  go_wp2
  go_loopw [5, 10] (fun v i wr => ∃ k : Nat, k ≤ l.length ∧ i = .int .i64 k ∧ wr.ownsRow w.heap.size 71 35 v k ((l.take k).map entL).flatten ∧ Below w.heap.size w wr) (fun _ i _ => l.length - (intOf i).toNat)
  case atStart => exact ⟨0, Nat.zero_le _, rfl, World.ownsRow_nil _ _ _ _, Below.refl _ _⟩
  case round =>
    obtain ⟨k, hk, rfl, hv, hb⟩ := hrel
    by_cases hlt : k < l.length
    · obtain ⟨x, hx, rx⟩ := hcs.2 k l[k] (by simp [hlt])
      have hfit := hf _ (List.getElem_mem hlt)
      have hr2 := hrow.below hb
      have s1 := hr2.elemSome (s := 33) hcs.all (by decide) (i := k) (by have := hcs.1; omega)
      have q1 := ldOp_at (P := Try.prog) (ty := 74) (hr2.elem (s := 33) hcs.all hx) Try.underlying74 rfl (by rw [rx.len]; exact sizeROW)
      have x33 : x.toArray.size = 33 := by simpa using rx.len
      have xo : OneC x.toArray := all_oneCell_toArray rx.one
      have HT : Hid (((l.take (k + 1)).map entL).flatten = ((l.take k).map entL).flatten ++ entL l[k]) := by
        show _ = _
        rw [List.take_succ_eq_append_getElem hlt]
        simp only [List.map_append, List.flatten_append, List.map_cons, List.map_nil, List.flatten_cons, List.flatten_nil, List.append_nil]
      have hsz := hb.size
      generalize l[k] = r at *
      have rx' := rx.below hb
      have q2 : (entA r).size = 35 := by have := ent_len_KD hfit; simpa [entA] using this
      clear hx hr2 rx
      go_wp2_with fail
      refine (rcl_KD (rx'.below ((Below.refl _ _).alloc (Nat.le_refl _) _)) hfit).mono ?_
      rintro e w1 ⟨rfl, hb1⟩
      have hbw : Below w.heap.size w w1 := (hb.alloc hsz _).trans (hb1.mono (by simp; omega))
      have hbr : Below wr.heap.size wr w1 := ((Below.refl _ _).alloc (Nat.le_refl _) _).trans (hb1.mono (by simp))
      have hsrc : Src Try.prog 35 22 (.slice (some ⟨w1.heap.size, 0, none⟩) 1 1) 1 (entL r) (w1.alloc (.cells (entA r) 71)) :=
        Src.ofRow eKD.ht _ 1 1 _ (by decide) (by rw [ent_len_KD hfit]) (row_alloc _ _ _ _) (entL_one _)
      obtain ⟨v', w2, hrun, hown2, hg2⟩ := append_src (ty := 22) eKD ((ownsRow_below hv hbr).alloc (.cells (entA r) 71)) hsrc (by unfold maxLen; omega) (by omega) (by have := hbw.size; simp; omega)
      have hb2 : Below w.heap.size w w2 := (hbw.alloc hbw.size _).trans (Below.ofGrown hg2 ((ownsRow_below hv hbr).alloc _) (by have := hbw.size; simp; omega))
      have HV : Hid (w2.ownsRow w.heap.size 71 35 v' (k + 1) ((l.take (k + 1)).map entL).flatten) := by
        show World.ownsRow _ _ _ _ _ _ _
        rw [HT.out]; exact hown2
      clear hown2 hg2 hsrc hv hbr hbw hb1 q1 rx' xo x33
      go_wp2_with (at_builtin; refine wpList_append_run hrun rfl rfl rfl rfl ?_)
      first
        | exact ⟨⟨k + 1, by omega, (by first | rfl | go_num | (congr 1; omega)), HV.out, hb2⟩, by simp [intOf] <;> omega⟩
        | (refine ⟨?_, by simp [intOf] <;> omega⟩; (repeat apply Exists.intro); exact ⟨⟨k + 1, by omega, (by first | rfl | go_num | (congr 1; omega)), HV.out, hb2⟩, rfl⟩)
    · obtain rfl : k = l.length := by omega
      rw [List.take_length] at hv
      go_wp2
      go_ret
      exact ⟨_, rfl, ⟨hv, fun r hr => ent_len_KD (hf r hr)⟩, hb⟩
set_option maxHeartbeats 1000000 in
theorem rcl_CD {ok : Nat → Prop} {r : BRow} {cs : List Value} {w : World} (h : RowIs ok w cs r) (hf : fitR kC r) :
    Calls Try.prog 48 #[.agg cs.toArray] w fun e w' => e = .returned (.agg (entA r)) ∧ Below w.heap.size w w' := by
  obtain ⟨key, nums⟩ := r
  obtain ⟨hk, hn⟩ := hf
  simp only at hk hn
  replace hk : key.length = 32 := hk
  match nums, hn with
  | [x, y], _ =>
    obtain ⟨cell, hcs, hp, a, n, c, rfl, rfl, hnc, hcm, hrow, _⟩ := h
    simp only [List.length_cons, List.length_nil, Nat.zero_add, Nat.reduceAdd] at hnc hcs
    simp only at hcs hrow hp hnc
    obtain rfl : cs = rowL (pad key) a 2 c := hcs
    show Calls _ _ #[.agg (rowA (pad key) a 2 c)] _ _
    have h33 := rowA_size (pad_length hp) a 2 c
    have hel : (entL (key, [x, y])).length = 34 := by simp [entL, hk]
    have sA : (entA (key, [x, y])).size = 34 := entA_CD (by simp; exact hk) rfl
    have oA := entA_one (key, [x, y])
    go_enter Try.func48, Try.ntmps48
    go_upto_region 1 with (fail)
    have hb0 : Below w.heap.size w ((w.alloc (.cells (rowA (pad key) a 2 c) 74)).alloc (.cells zCD 80)) := ((Below.refl _ _).alloc (Nat.le_refl _) _).alloc (by simp) _
    have B1 : Blk ((w.alloc (.cells (rowA (pad key) a 2 c) 74)).alloc (.cells zCD 80)) w.heap.size 74 (rowL (pad key) a 2 c) := (Blk.new w 74 (rowA (pad key) a 2 c)).alloc _
    have B2 : Blk ((w.alloc (.cells (rowA (pad key) a 2 c) 74)).alloc (.cells zCD 80)) (w.heap.size + 1) 80 zCD.toList := by
      have := Blk.new (w.alloc (.cells (rowA (pad key) a 2 c) 74)) 80 zCD
      rw [drew_alloc_size] at this
      exact this
    generalize (w.alloc (.cells (rowA (pad key) a 2 c) 74)).alloc (.cells zCD 80) = W at *
    have q1 := ldOp_blk (P := Try.prog) (o := 0) (n := 32) (B1.drewN 1) (by simp [rowL, pad_length hp]) Try.underlying67 rfl sizeID
    rw [show ((rowL (pad key) a 2 c).drop 0).take 32 = key.map b8 by unfold rowL; rw [List.drop_zero, pad_full hk, List.take_left' (by simpa using hk)]] at q1
    have q1' : (ldOp 67 (.pointer (some ⟨w.heap.size, 0, none⟩))).run Try.prog (W.drewN 1) = .ok (.agg (kcs key)) (W.drewN 1) := q1
    have q3 := fun (w : World) => r_bdCD (w := w) (x := x) (y := y) hk
    clear q1
    have c32 : W.cell? ⟨w.heap.size, 32, none⟩ = some (.slice a 2 c) := B1.cell (by unfold rowL; rw [List.getElem?_append_right (by simp [pad_length hp])]; simp [pad_length hp])
    have y0 := (hrow.below hb0).cell (i := 0) (u := .int .i64 x) (by simp)
    have y1 := (hrow.below hb0).cell (i := 1) (u := .int .i64 y) (by simp)
    have y1' : W.cell? ⟨(hd a).block, (hd a).off + 1, none⟩ = some (.int .i64 y) := by have h := y1; simp only [Addr.add] at h; simpa using h
    have y0' : W.cell? (hd a) = some (.int .i64 x) := by have h := y0; simp only [Addr.add] at h; simpa using h
    have s0 := hrow.isSome (i := 0) (by simp)
    obtain ⟨w2, hst, hB2, hg2⟩ := stOp_blk (P := Try.prog) (ty := 80) (o := 0) (cs := entL (key, [x, y])) (B2.drewN 1) (by have h1 := zCD_size; simp; omega) (by rw [hel]; exact sizeCD) (entL_one _)
    have hst' : (stoOp 80 (.pointer (some ⟨w.heap.size + 1, 0, none⟩)) (.agg (entA (key, [x, y])))).run Try.prog (W.drewN 1) = .ok () w2 := hst
    have hB2' : Blk w2 (w.heap.size + 1) 80 (entL (key, [x, y])) := by
      have e : (zCD.toList.take 0 ++ entL (key, [x, y]) ++ zCD.toList.drop (0 + (entL (key, [x, y])).length)) = entL (key, [x, y]) := by
        have h1 := zCD_size
        rw [List.take_zero, List.nil_append, List.drop_eq_nil_of_le (by simp; omega), List.append_nil]
      rw [e] at hB2; exact hB2
    have hbw : Below w.heap.size w w2 := (Below.drewN hb0 1).trans (Below.grown (Below.refl _ _) hg2 (by have := hb0.size; exact this) (fun k hk => by cases hk; omega))
    clear hst hB2 hg2 B1 B2 hb0 hrow hcm hnc
    generalize entA (key, [x, y]) = EA at *
    go_wp2
    refine wp_region_still_tail 12 (by kernel_rfl) (by kernel_rfl) ?_
    simp only [List.take_succ_cons, List.take_zero, List.drop_succ_cons, List.drop_zero]
    change wpStill _ _ (W.drewN 1) _ _ _
    repeat still_step
    try refine wpStill_nil ?_
    change wpList _ _ _ _ _ (W.drewN 1)
    go_wp2
    refine bodyPost_ret (results_cell_row (fn := Try.f48) (by rfl) _ _ (w.heap.size + 1) 80 _ (0, 0) _ (by rfl) hB2' Try.underlying80 rfl (by rw [List.size_toArray, hel]; exact sizeCD)) rfl ⟨?_, hbw⟩
    exact rfl
theorem ent_len_CD {r : BRow} (hf : fitR kC r) : (entL r).length = 34 := by
  obtain ⟨h1, h2⟩ := hf
  simp only [entL, List.length_append, List.length_map, h1, h2]
  rfl
theorem eCD : Elem Try.prog 23 80 (.agg zCD) 34 48 := ⟨by kernel_rfl, by kernel_rfl, rfl, by decide⟩
theorem back_CD {a : Option Addr} {n c : Nat} {l : List BRow} {w : World} (hn : n = l.length) (hl : RowsRd w a l) (hf : ∀ r ∈ l, fitR kC r) (hm : l.length ≤ 65536) :
    Calls Try.prog 47 #[.slice a n c, .func (.func 48) #[] #[]] w fun e w' => ∃ v, e = .returned v ∧ EntOwn 80 34 w.heap.size w' v l ∧ Below w.heap.size w w' := by
  subst hn
  obtain ⟨cs, hrow, hcs⟩ := hl
  have zs := zROW_size
  go_enter Try.func47, Try.ntmps47
  go_wp2
  go_loopw [5, 10] (fun v i wr => ∃ k : Nat, k ≤ l.length ∧ i = .int .i64 k ∧ wr.ownsRow w.heap.size 80 34 v k ((l.take k).map entL).flatten ∧ Below w.heap.size w wr) (fun _ i _ => l.length - (intOf i).toNat)
  case atStart => exact ⟨0, Nat.zero_le _, rfl, World.ownsRow_nil _ _ _ _, Below.refl _ _⟩
  case round =>
    obtain ⟨k, hk, rfl, hv, hb⟩ := hrel
    by_cases hlt : k < l.length
    · obtain ⟨x, hx, rx⟩ := hcs.2 k l[k] (by simp [hlt])
      have hfit := hf _ (List.getElem_mem hlt)
      have hr2 := hrow.below hb
      have s1 := hr2.elemSome (s := 33) hcs.all (by decide) (i := k) (by have := hcs.1; omega)
      have q1 := ldOp_at (P := Try.prog) (ty := 74) (hr2.elem (s := 33) hcs.all hx) Try.underlying74 rfl (by rw [rx.len]; exact sizeROW)
      have x33 : x.toArray.size = 33 := by simpa using rx.len
      have xo : OneC x.toArray := all_oneCell_toArray rx.one
      have HT : Hid (((l.take (k + 1)).map entL).flatten = ((l.take k).map entL).flatten ++ entL l[k]) := by
        show _ = _
        rw [List.take_succ_eq_append_getElem hlt]
        simp only [List.map_append, List.flatten_append, List.map_cons, List.map_nil, List.flatten_cons, List.flatten_nil, List.append_nil]
      have hsz := hb.size
      generalize l[k] = r at *
      have rx' := rx.below hb
      have q2 : (entA r).size = 34 := by have := ent_len_CD hfit; simpa [entA] using this
      clear hx hr2 rx
      go_wp2_with fail
      refine (rcl_CD (rx'.below ((Below.refl _ _).alloc (Nat.le_refl _) _)) hfit).mono ?_
      rintro e w1 ⟨rfl, hb1⟩
      have hbw : Below w.heap.size w w1 := (hb.alloc hsz _).trans (hb1.mono (by simp; omega))
      have hbr : Below wr.heap.size wr w1 := ((Below.refl _ _).alloc (Nat.le_refl _) _).trans (hb1.mono (by simp))
      have hsrc : Src Try.prog 34 23 (.slice (some ⟨w1.heap.size, 0, none⟩) 1 1) 1 (entL r) (w1.alloc (.cells (entA r) 80)) :=
        Src.ofRow eCD.ht _ 1 1 _ (by decide) (by rw [ent_len_CD hfit]) (row_alloc _ _ _ _) (entL_one _)
      obtain ⟨v', w2, hrun, hown2, hg2⟩ := append_src (ty := 23) eCD ((ownsRow_below hv hbr).alloc (.cells (entA r) 80)) hsrc (by unfold maxLen; omega) (by omega) (by have := hbw.size; simp; omega)
      have hb2 : Below w.heap.size w w2 := (hbw.alloc hbw.size _).trans (Below.ofGrown hg2 ((ownsRow_below hv hbr).alloc _) (by have := hbw.size; simp; omega))
      have HV : Hid (w2.ownsRow w.heap.size 80 34 v' (k + 1) ((l.take (k + 1)).map entL).flatten) := by
        show World.ownsRow _ _ _ _ _ _ _
        rw [HT.out]; exact hown2
      clear hown2 hg2 hsrc hv hbr hbw hb1 q1 rx' xo x33
      go_wp2_with (at_builtin; refine wpList_append_run hrun rfl rfl rfl rfl ?_)
      first
        | exact ⟨⟨k + 1, by omega, (by first | rfl | go_num | (congr 1; omega)), HV.out, hb2⟩, by simp [intOf] <;> omega⟩
        | (refine ⟨?_, by simp [intOf] <;> omega⟩; (repeat apply Exists.intro); exact ⟨⟨k + 1, by omega, (by first | rfl | go_num | (congr 1; omega)), HV.out, hb2⟩, rfl⟩)
    · obtain rfl : k = l.length := by omega
      rw [List.take_length] at hv
      go_wp2
      go_ret
      exact ⟨_, rfl, ⟨hv, fun r hr => ent_len_CD (hf r hr)⟩, hb⟩
set_option maxHeartbeats 1000000 in
theorem rcl_US {ok : Nat → Prop} {r : BRow} {cs : List Value} {w : World} (h : RowIs ok w cs r) (hf : fitR kU r) :
    Calls Try.prog 50 #[.agg cs.toArray] w fun e w' => e = .returned (.agg (entA r)) ∧ Below w.heap.size w w' := by
  obtain ⟨key, nums⟩ := r
  obtain ⟨hk, hn⟩ := hf
  simp only at hk hn
  replace hk : key.length = 0 := hk
  match nums, hn with
  | [x, y, z], _ =>
    obtain ⟨cell, hcs, hp, a, n, c, rfl, rfl, hnc, hcm, hrow, _⟩ := h
    simp only [List.length_cons, List.length_nil, Nat.zero_add, Nat.reduceAdd] at hnc hcs
    simp only at hcs hrow hp hnc
    obtain rfl : key = [] := List.eq_nil_of_length_eq_zero hk
    obtain rfl : cs = rowL (pad []) a 3 c := hcs
    show Calls _ _ #[.agg (rowA (pad []) a 3 c)] _ _
    have h33 := rowA_size (pad_length hp) a 3 c
    have hel : (entL ([], [x, y, z])).length = 3 := by simp [entL]
    have sA : (entA ([], [x, y, z])).size = 3 := entA_US (by simp) rfl
    have oA := entA_one ([], [x, y, z])
    go_enter Try.func50, Try.ntmps50
    go_upto_region 1 with (fail)
    have hb0 : Below w.heap.size w ((w.alloc (.cells (rowA (pad []) a 3 c) 74)).alloc (.cells zUS 84)) := ((Below.refl _ _).alloc (Nat.le_refl _) _).alloc (by simp) _
    have B1 : Blk ((w.alloc (.cells (rowA (pad []) a 3 c) 74)).alloc (.cells zUS 84)) w.heap.size 74 (rowL (pad []) a 3 c) := (Blk.new w 74 (rowA (pad []) a 3 c)).alloc _
    have B2 : Blk ((w.alloc (.cells (rowA (pad []) a 3 c) 74)).alloc (.cells zUS 84)) (w.heap.size + 1) 84 zUS.toList := by
      have := Blk.new (w.alloc (.cells (rowA (pad []) a 3 c) 74)) 84 zUS
      rw [drew_alloc_size] at this
      exact this
    generalize (w.alloc (.cells (rowA (pad []) a 3 c) 74)).alloc (.cells zUS 84) = W at *
    have q3 := fun (w : World) => r_bdUS (w := w) (x := x) (y := y) (z := z)
    have c32 : W.cell? ⟨w.heap.size, 32, none⟩ = some (.slice a 3 c) := B1.cell (by unfold rowL; rw [List.getElem?_append_right (by simp [pad_length hp])]; simp [pad_length hp])
    have y0 := (hrow.below hb0).cell (i := 0) (u := .int .i64 x) (by simp)
    have y1 := (hrow.below hb0).cell (i := 1) (u := .int .i64 y) (by simp)
    have y2 := (hrow.below hb0).cell (i := 2) (u := .int .i64 z) (by simp)
    have y1' : W.cell? ⟨(hd a).block, (hd a).off + 1, none⟩ = some (.int .i64 y) := by have h := y1; simp only [Addr.add] at h; simpa using h
    have y2' : W.cell? ⟨(hd a).block, (hd a).off + 2, none⟩ = some (.int .i64 z) := by have h := y2; simp only [Addr.add] at h; simpa using h
    have y0' : W.cell? (hd a) = some (.int .i64 x) := by have h := y0; simp only [Addr.add] at h; simpa using h
    have s0 := hrow.isSome (i := 0) (by simp)
    obtain ⟨w2, hst, hB2, hg2⟩ := stOp_blk (P := Try.prog) (ty := 84) (o := 0) (cs := entL ([], [x, y, z])) (B2.drewN 1) (by have h1 := zUS_size; simp; omega) (by rw [hel]; exact sizeUS) (entL_one _)
    have hst' : (stoOp 84 (.pointer (some ⟨w.heap.size + 1, 0, none⟩)) (.agg (entA ([], [x, y, z])))).run Try.prog (W.drewN 1) = .ok () w2 := hst
    have hB2' : Blk w2 (w.heap.size + 1) 84 (entL ([], [x, y, z])) := by
      have e : (zUS.toList.take 0 ++ entL ([], [x, y, z]) ++ zUS.toList.drop (0 + (entL ([], [x, y, z])).length)) = entL ([], [x, y, z]) := by
        have h1 := zUS_size
        rw [List.take_zero, List.nil_append, List.drop_eq_nil_of_le (by simp; omega), List.append_nil]
      rw [e] at hB2; exact hB2
    have hbw : Below w.heap.size w w2 := (Below.drewN hb0 1).trans (Below.grown (Below.refl _ _) hg2 (by have := hb0.size; exact this) (fun k hk => by cases hk; omega))
    clear hst hB2 hg2 B1 B2 hb0 hrow hcm hnc
    generalize entA ([], [x, y, z]) = EA at *
    go_wp2
    refine wp_region_still_tail 13 (by kernel_rfl) (by kernel_rfl) ?_
    simp only [List.take_succ_cons, List.take_zero, List.drop_succ_cons, List.drop_zero]
    change wpStill _ _ (W.drewN 1) _ _ _
    repeat still_step
    try refine wpStill_nil ?_
    change wpList _ _ _ _ _ (W.drewN 1)
    go_wp2
    refine bodyPost_ret (results_cell_row (fn := Try.f50) (by rfl) _ _ (w.heap.size + 1) 84 _ (0, 0) _ (by rfl) hB2' Try.underlying84 rfl (by rw [List.size_toArray, hel]; exact sizeUS)) rfl ⟨?_, hbw⟩
    exact rfl
theorem ent_len_US {r : BRow} (hf : fitR kU r) : (entL r).length = 3 := by
  obtain ⟨h1, h2⟩ := hf
  simp only [entL, List.length_append, List.length_map, h1, h2]
  rfl
theorem eUS : Elem Try.prog 24 84 (.agg zUS) 3 24 := ⟨by kernel_rfl, by kernel_rfl, rfl, by decide⟩
theorem back_US {a : Option Addr} {n c : Nat} {l : List BRow} {w : World} (hn : n = l.length) (hl : RowsRd w a l) (hf : ∀ r ∈ l, fitR kU r) (hm : l.length ≤ 65536) :
    Calls Try.prog 49 #[.slice a n c, .func (.func 50) #[] #[]] w fun e w' => ∃ v, e = .returned v ∧ EntOwn 84 3 w.heap.size w' v l ∧ Below w.heap.size w w' := by
  subst hn
  obtain ⟨cs, hrow, hcs⟩ := hl
  have zs := zROW_size
  go_enter Try.func49, Try.ntmps49
  go_wp2
  go_loopw [5, 10] (fun v i wr => ∃ k : Nat, k ≤ l.length ∧ i = .int .i64 k ∧ wr.ownsRow w.heap.size 84 3 v k ((l.take k).map entL).flatten ∧ Below w.heap.size w wr) (fun _ i _ => l.length - (intOf i).toNat)
  case atStart => exact ⟨0, Nat.zero_le _, rfl, World.ownsRow_nil _ _ _ _, Below.refl _ _⟩
  case round =>
    obtain ⟨k, hk, rfl, hv, hb⟩ := hrel
    by_cases hlt : k < l.length
    · obtain ⟨x, hx, rx⟩ := hcs.2 k l[k] (by simp [hlt])
      have hfit := hf _ (List.getElem_mem hlt)
      have hr2 := hrow.below hb
      have s1 := hr2.elemSome (s := 33) hcs.all (by decide) (i := k) (by have := hcs.1; omega)
      have q1 := ldOp_at (P := Try.prog) (ty := 74) (hr2.elem (s := 33) hcs.all hx) Try.underlying74 rfl (by rw [rx.len]; exact sizeROW)
      have x33 : x.toArray.size = 33 := by simpa using rx.len
      have xo : OneC x.toArray := all_oneCell_toArray rx.one
      have HT : Hid (((l.take (k + 1)).map entL).flatten = ((l.take k).map entL).flatten ++ entL l[k]) := by
        show _ = _
        rw [List.take_succ_eq_append_getElem hlt]
        simp only [List.map_append, List.flatten_append, List.map_cons, List.map_nil, List.flatten_cons, List.flatten_nil, List.append_nil]
      have hsz := hb.size
      generalize l[k] = r at *
      have rx' := rx.below hb
      have q2 : (entA r).size = 3 := by have := ent_len_US hfit; simpa [entA] using this
      clear hx hr2 rx
      go_wp2_with fail
      refine (rcl_US (rx'.below ((Below.refl _ _).alloc (Nat.le_refl _) _)) hfit).mono ?_
      rintro e w1 ⟨rfl, hb1⟩
      have hbw : Below w.heap.size w w1 := (hb.alloc hsz _).trans (hb1.mono (by simp; omega))
      have hbr : Below wr.heap.size wr w1 := ((Below.refl _ _).alloc (Nat.le_refl _) _).trans (hb1.mono (by simp))
      have hsrc : Src Try.prog 3 24 (.slice (some ⟨w1.heap.size, 0, none⟩) 1 1) 1 (entL r) (w1.alloc (.cells (entA r) 84)) :=
        Src.ofRow eUS.ht _ 1 1 _ (by decide) (by rw [ent_len_US hfit]) (row_alloc _ _ _ _) (entL_one _)
      obtain ⟨v', w2, hrun, hown2, hg2⟩ := append_src (ty := 24) eUS ((ownsRow_below hv hbr).alloc (.cells (entA r) 84)) hsrc (by unfold maxLen; omega) (by omega) (by have := hbw.size; simp; omega)
      have hb2 : Below w.heap.size w w2 := (hbw.alloc hbw.size _).trans (Below.ofGrown hg2 ((ownsRow_below hv hbr).alloc _) (by have := hbw.size; simp; omega))
      have HV : Hid (w2.ownsRow w.heap.size 84 3 v' (k + 1) ((l.take (k + 1)).map entL).flatten) := by
        show World.ownsRow _ _ _ _ _ _ _
        rw [HT.out]; exact hown2
      clear hown2 hg2 hsrc hv hbr hbw hb1 q1 rx' xo x33
      go_wp2_with (at_builtin; refine wpList_append_run hrun rfl rfl rfl rfl ?_)
      first
        | exact ⟨⟨k + 1, by omega, (by first | rfl | go_num | (congr 1; omega)), HV.out, hb2⟩, by simp [intOf] <;> omega⟩
        | (refine ⟨?_, by simp [intOf] <;> omega⟩; (repeat apply Exists.intro); exact ⟨⟨k + 1, by omega, (by first | rfl | go_num | (congr 1; omega)), HV.out, hb2⟩, rfl⟩)
    · obtain rfl : k = l.length := by omega
      rw [List.take_length] at hv
      go_wp2
      go_ret
      exact ⟨_, rfl, ⟨hv, fun r hr => ent_len_US (hf r hr)⟩, hb⟩
end Go.Proofs.Ytcomcljpnjeogaa
