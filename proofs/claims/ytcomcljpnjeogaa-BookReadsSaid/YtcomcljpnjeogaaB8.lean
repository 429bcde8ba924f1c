/- Walks of layer 13: the document's Uses. -/
import Derived.Test.YtcomcljpnjeogaaB7
set_option maxRecDepth 20000
namespace Go.Proofs.Ytcomcljpnjeogaa
open Go.RowKit Go.Hd
attribute [local go_sem ↓] h_ldID h_stID h_alID
attribute [local go_sem] r_ldID r_stID r_alID

theorem EntRd.cell {s : Nat} {w : World} {a : Option Addr} {l : List BRow} (h : EntRd s w a l) {i : Nat} (hi : i < l.length) {j : Nat} {v : Value} (hj : (entL l[i])[j]? = some v) : w.cell? (((hd a).add (i * s)).add j) = some v :=
  h.1.elem h.all (i := i) (c := entL l[i]) (by simp [hi]) j v hj
theorem EntRd.cell' {s : Nat} {w : World} {a : Option Addr} {l : List BRow} (h : EntRd s w a l) {i : Nat} (hi : i < l.length) {j : Nat} {v : Value} (hj : (entL l[i])[j]? = some v) : w.cell? ⟨((hd a).add (i * s)).block, ((hd a).add (i * s)).off + j, none⟩ = some v := by
  refine cell_off ?_
  have := h.cell hi hj
  rwa [add_add] at this
theorem EntRd.cell0 {s : Nat} {w : World} {a : Option Addr} {l : List BRow} (h : EntRd s w a l) {i : Nat} (hi : i < l.length) {v : Value} (hj : (entL l[i])[0]? = some v) : w.cell? ((hd a).add (i * s)) = some v := by
  have := h.cell hi hj
  simpa [Addr.add] using this
theorem EntRd.isSome {s : Nat} {w : World} {a : Option Addr} {l : List BRow} (h : EntRd s w a l) (hs : 0 < s) {i : Nat} (hi : i < l.length) : a.isSome = true :=
  h.1.elemSome h.all hs (i := i) (by simpa using hi)
theorem EntRd.below {s : Nat} {w w' : World} {a : Option Addr} {l : List BRow} (h : EntRd s w a l) (hb : Below w.heap.size w w') : EntRd s w' a l := ⟨h.1.below hb, h.2⟩
theorem EntRd.key {s : Nat} {w : World} {a : Option Addr} {l : List BRow} (h : EntRd s w a l) {i : Nat} (hi : i < l.length) (hk : l[i].1.length = 32) : (ldOp 67 (.pointer (some ((hd a).add (i * s))))).run Try.prog w = .ok (.agg (kcs l[i].1)) w := by
  refine ldOp_at (cs := l[i].1.map b8) (fun j v hv => h.cell hi ?_) Try.underlying67 rfl (by rw [List.length_map, hk]; exact sizeID)
  unfold entL
  rw [List.getElem?_append_left ?_]
  · exact hv
  · rcases Nat.lt_or_ge j (l[i].1.map b8).length with h | h
    · exact h
    · rw [List.getElem?_eq_none h] at hv; cases hv
/-- Numbers that an int holds. -/
def okI (r : BRow) : Prop := ∀ n ∈ r.2, i64Ok n
theorem body_len {k : BKind} (hk : k.good) {l : List BRow} (hf : ∀ r ∈ l, fitR k r) (hm : l.length ≤ 65536) (j : Nat) : (headF k l.length ++ rowsB (l.take j)).length ≤ 3000000 := by
  rw [List.length_append, headF_length hk, rowsB_length (k := k) (fun y hy => hf y (List.mem_of_mem_take hy))]
  have h1 : (l.take j).length * k.size ≤ 65536 * 44 := Nat.mul_le_mul (by simp; omega) (by rcases hk.2.1 with h | h <;> (have := hk.2.2.2; unfold BKind.size; omega))
  omega
theorem write_of {k : BKind} {l : List BRow} (hm : l.length ≤ 65536) : writeF k l = if l.all okR = false then ([], 2) else if risesB k l = false then ([], 18) else (closedF (headF k l.length ++ rowsB l), 0) := by
  unfold writeF
  rw [if_neg (by omega)]
  rfl
theorem all_take {l : List BRow} {j : Nat} (h : j < l.length) : (l.take (j + 1)).all okR = ((l.take j).all okR && okR l[j]) := by
  rw [List.take_succ_eq_append_getElem h, List.all_append]
  simp

theorem rises_no {k : BKind} {l : List BRow} {j : Nat} (h : risesB k (l.take j) = false) : risesB k (l.take (j + 1)) = false := by
  rcases Bool.eq_false_or_eq_true (risesB k (l.take (j + 1))) with h2 | h2
  · have := risesB_take_of k (l.take (j + 1)) j h2
    rw [List.take_take, Nat.min_eq_left (Nat.le_succ j), h] at this
    cases this
  · exact h2
set_option maxHeartbeats 2000000 in
theorem ruse_any {a : Option Addr} {n c : Nat} {l : List BRow} {w : World} (hn : n = l.length) (hl : EntRd 3 w a l) (hf : ∀ r ∈ l, fitR kU r) (hi64 : ∀ r ∈ l, okI r) (hm : l.length ≤ 65536) :
    Calls Try.prog 14 #[.slice a n c] w fun e w' => ∃ v, e = .returned (.tuple #[v, .int .i64 (writeF kU l).2]) ∧ BRd w' v (writeF kU l).1 ∧ Below w.heap.size w w' := by
  subst hn
  go_enter Try.func14, Try.ntmps14
  go_wp2_with fail
  refine (begun_any (n := l.length) kU.magic w kU_good.1 hm).mono ?_
  rintro e w1 ⟨v, rfl, hv, hb1⟩
  go_wp2
  go_loopw [4, 5, 6, 7] (fun v g r i wr => ∃ j : Nat, j ≤ l.length ∧ i = .int .i64 j ∧ g = .bool ((l.take j).all okR) ∧ r = .bool (risesB kU (l.take j)) ∧ Own 5 wr w.heap.size v (headF kU l.length ++ rowsB (l.take j)) ∧ Below w.heap.size w wr) (fun _ _ _ i _ => l.length - (intOf i).toNat)
  case atStart => exact ⟨0, Nat.zero_le _, rfl, rfl, rfl, by rw [List.take_zero, show rowsB [] = [] from rfl, List.append_nil]; exact hv, hb1⟩
  case round =>
    clear hv hb1
    obtain ⟨j, hj, rfl, rfl, rfl, hv, hb⟩ := hrel
    by_cases hlt : j < l.length
    · have hle := hl.below hb
      have hfit := hf _ (List.getElem_mem hlt)
      have hii := hi64 _ (List.getElem_mem hlt)
      have s1 := hle.isSome (by decide) hlt
      have HT := Lib.hid (rowsB_take l j hlt)
      have HA := Lib.hid (all_take hlt)
      have hbl := body_len kU_good hf hm j
      obtain ⟨x, y, z, he⟩ : ∃ x y z, l[j] = ([], [x, y, z]) := by
        obtain ⟨h1, h2⟩ := hfit
        rcases hq : l[j] with ⟨k0, l0⟩
        rw [hq] at h1 h2
        match l0, h2 with
        | [x, y, z], _ => exact ⟨x, y, z, by rw [show k0 = [] from List.eq_nil_of_length_eq_zero h1]⟩
      have cc : ∀ w', Below w.heap.size w w' → w'.cell? ((hd a).add (j * 3)) = some (.int .i64 x) ∧ w'.cell? ⟨((hd a).add (j * 3)).block, ((hd a).add (j * 3)).off + 1, none⟩ = some (.int .i64 y) ∧ w'.cell? ⟨((hd a).add (j * 3)).block, ((hd a).add (j * 3)).off + 2, none⟩ = some (.int .i64 z) :=
        fun w' hw => ⟨(hl.below hw).cell0 hlt (by rw [he]; rfl), (hl.below hw).cell' hlt (by rw [he]; rfl), (hl.below hw).cell' hlt (by rw [he]; rfl)⟩
      obtain ⟨c0, c1, c2⟩ := cc wr hb
      have HC := Lib.hid cc
      have hx : i64Ok x := hii x (by rw [he]; simp)
      have hy : i64Ok y := hii y (by rw [he]; simp)
      have hz : i64Ok z := hii z (by rw [he]; simp)
      have HE : Hid (rowB l[j] = numsB [x, y, z]) := by show _ = _; rw [he]; rfl
      have HE2 : Hid (okR l[j] = okR ([], [x, y, z])) := by show _ = _; rw [he]
      have HX : Hid (l[j].2.getD 0 0 = x) := by show _ = _; rw [he]; rfl
      have hvd : Own 5 wr.drew w.heap.size u4 (headF kU l.length ++ rowsB (l.take j)) := hv
      have hsz := hb.size
      clear he hii hfit cc
      have hj0 : (0 : Int) ≤ (j : Int) := by omega
      have hj1 : (j : Int) < (l.length : Int) := by omega
      go_wp2
      go_region_held3 (fun w' => w'.cell? ((hd a).add (j * 3)) = some (.int .i64 x) ∧ w'.cell? ⟨((hd a).add (j * 3)).block, ((hd a).add (j * 3)).off + 1, none⟩ = some (.int .i64 y) ∧ w'.cell? ⟨((hd a).add (j * 3)).block, ((hd a).add (j * 3)).off + 2, none⟩ = some (.int .i64 z)) (first | exact ⟨by assumption, by assumption, by assumption⟩ | go_keep) ((go_at_call 40; refine (three_any x y z hvd hsz (by omega) hx hy hz).mono ?_; rintro e w2 ⟨v2, rfl, hv2, hb2⟩; have hbw : Below w.heap.size w w2 := hb.trans (Below.drewN' (n := 1) hb2); obtain ⟨d0, d1, d2⟩ := HC.out w2 hbw))
      have HV : Hid (Own 5 w2 w.heap.size v2 (headF kU l.length ++ rowsB (l.take (j + 1)))) := by
        show Own _ _ _ _ _
        rw [HT.out, HE.out, ← List.append_assoc]; exact hv2
      rw [← HE2.out]
      clear hv hvd hv2 HT hb2 c0 c1 c2
      generalize okR l[j] = O at *
      go_upto_region 10 with (fail)
      go_cut [5] (fun s5 wx => s5 = .bool ((l.take j).all okR && O) ∧ wx = w2)
      case first =>
        rcases Bool.eq_false_or_eq_true ((l.take j).all okR) with h | h
        all_goals
          rw [h]
          go_wp2
          go_meet
          exact ⟨by rw [h]; rfl, rfl⟩
      case rest =>
        obtain ⟨rfl, rfl⟩ := hcut
        rw [← HA.out]
        rcases Bool.eq_false_or_eq_true (risesB kU (l.take j)) with h | h
        · rw [h]
          by_cases hj00 : j = 0
          · subst hj00
            have HR : Hid (true = risesB kU (l.take (0 + 1))) := (risesB_one _ _).symm
            clear h hle
            go_wp2
            go_quiet (fail)
            go_wp2
            first
              | exact ⟨⟨0 + 1, by omega, (by first | rfl | go_num | (congr 1; omega)), rfl, congrArg Value.bool HR.out, HV.out.below (Gr.drewN _ _), Below.drewN hbw _⟩, by simp [intOf] <;> omega⟩
              | (refine ⟨?_, by simp [intOf] <;> omega⟩; (repeat apply Exists.intro); exact ⟨⟨0 + 1, by omega, (by first | rfl | go_num | (congr 1; omega)), rfl, congrArg Value.bool HR.out, HV.out.below (Gr.drewN _ _), Below.drewN hbw _⟩, rfl⟩)
          · obtain ⟨i, rfl⟩ : ∃ i, j = i + 1 := ⟨j - 1, by omega⟩
            have hil : i < l.length := Nat.lt_of_succ_lt hlt
            have hfi := hf _ (List.getElem_mem hil)
            obtain ⟨x0, y0, z0, he0⟩ : ∃ x y z, l[i] = ([], [x, y, z]) := by
              obtain ⟨h1, h2⟩ := hfi
              rcases hq : l[i] with ⟨k0, l0⟩
              rw [hq] at h1 h2
              match l0, h2 with
              | [x, y, z], _ => exact ⟨x, y, z, by rw [show k0 = [] from List.eq_nil_of_length_eq_zero h1]⟩
            have e0 : wc.cell? ((hd a).add (i * 3)) = some (.int .i64 x0) := (hl.below hbw).cell0 hil (by rw [he0]; rfl)
            have HR : Hid (decide (x0 < x) = risesB kU (l.take (i + 1 + 1))) := by
              show _ = _
              rw [risesB_take kU l i hlt, h, Bool.true_and]
              unfold aheadB
              rw [if_neg (by decide), HX.out, he0]
              rfl
            have ew : IntKind.i64.wrap (i : Int) = (i : Int) := IntWalk.i64_in _ (by omega)
            have ew1 : IntKind.i64.wrap ((i : Int) + 1 - 1) = (i : Int) := by rw [IntWalk.i64_in _ (by omega)]; omega
            have i0 : (0 : Int) ≤ (i : Int) := by omega
            have i1 : (i : Int) < (l.length : Int) := by omega
            have i2 : (0 : Int) ≤ (i : Int) + 1 := by omega
            have i3 : (i : Int) + 1 < (l.length : Int) := by omega
            have i4 : ((i : Int) + 1).toNat = i + 1 := by omega
            have i5 : ((i : Int) + 1 == 0) = false := by simp; omega
            clear h hle he0 hfi
            go_wp2
            go_quiet (fail)
            go_wp2
            first
              | exact ⟨⟨i + 1 + 1, by omega, (by first | rfl | go_num | (congr 1; omega)), rfl, congrArg Value.bool HR.out, HV.out.below (Gr.drewN _ _), Below.drewN hbw _⟩, by simp [intOf] <;> omega⟩
              | (refine ⟨?_, by simp [intOf] <;> omega⟩; (repeat apply Exists.intro); exact ⟨⟨i + 1 + 1, by omega, (by first | rfl | go_num | (congr 1; omega)), rfl, congrArg Value.bool HR.out, HV.out.below (Gr.drewN _ _), Below.drewN hbw _⟩, rfl⟩)
        · have HR : Hid (false = risesB kU (l.take (j + 1))) := (rises_no h).symm
          rw [h]
          clear h hle
          go_wp2
          go_quiet (fail)
          go_wp2
          first
            | exact ⟨⟨j + 1, by omega, (by first | rfl | go_num | (congr 1; omega)), rfl, congrArg Value.bool HR.out, HV.out.below (Gr.drewN _ _), Below.drewN hbw _⟩, by simp [intOf] <;> omega⟩
            | (refine ⟨?_, by simp [intOf] <;> omega⟩; (repeat apply Exists.intro); exact ⟨⟨j + 1, by omega, (by first | rfl | go_num | (congr 1; omega)), rfl, congrArg Value.bool HR.out, HV.out.below (Gr.drewN _ _), Below.drewN hbw _⟩, rfl⟩)
    · obtain rfl : j = l.length := by omega
      rw [List.take_length] at hv ⊢
      have HW := Lib.hid (write_of (k := kU) hm)
      have hbl := body_len kU_good hf hm l.length
      rw [List.take_length] at hbl
      rcases Bool.eq_false_or_eq_true (l.all okR) with h1 | h1
      · rcases Bool.eq_false_or_eq_true (risesB kU l) with h2 | h2
        · rw [h1, h2] at HW ⊢
          clear h1 h2
          go_wp2_with fail
          refine (closed_any hv hb.size (by omega)).mono ?_
          rintro e w2 ⟨v2, rfl, hv2, hb2⟩
          go_wp2
          go_ret2
          rw [HW.out]
          obtain ⟨a2, c2, rfl, x1, x2, x3, _⟩ := hv2.at
          exact ⟨_, rfl, ⟨a2, c2, rfl, x1, x2, x3⟩, hb.trans hb2⟩
        · rw [h1, h2] at HW ⊢
          clear h1 h2
          go_wp2
          go_ret2
          rw [HW.out]
          exact ⟨_, rfl, BRd.nil _, hb⟩
      · rw [h1] at HW ⊢
        clear h1
        go_wp2
        go_ret2
        rw [HW.out]
        exact ⟨_, rfl, BRd.nil _, hb⟩
end Go.Proofs.Ytcomcljpnjeogaa
