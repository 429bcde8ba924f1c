/- Joined: what one statement of this layer stands on, part 13 of 25; nothing is assumed. -/
import Derived.Test.YtakliplkabgmbaaKR11
import Derived.Test.YtakliplkabgmbaaKR12
set_option maxRecDepth 20000
namespace Go.Proofs.Ytakliplkabgmbaa
open Go.RowKit Go.Hd
def abtOf (x : PV) : Abt := ⟨(atV x 0).text, keyV (atV x 1).bytes, (atV x 2).int, [], 0, 0⟩
def lstOut (v : PV) : List Abt := ((fldV v [97]).list.take 70).map abtOf
def lstOk (v : PV) : Bool := decide (checkL (lstOut v) = 0) && sameV (listV (lstOut v)) v
def lstR (l : List UInt8) : List Abt × Int := if (decF l).2 ≠ 0 then ([], (decF l).2) else if lstOk (decF l).1 = true then (lstOut (decF l).1, 0) else ([], 4)
theorem norm_num (n : Int) : normV (pNum n) = pNum n := by unfold pNum; rw [normV_mk]; rfl
theorem norm_txt (t : List UInt8) : normV (pTxt t) = pTxt t := by unfold pTxt; rw [normV_mk]; rfl
theorem norm_byt (b : List UInt8) : normV (pByt b) = pByt b := by unfold pByt; rw [normV_mk]; rfl
theorem norm_list (l : List PV) : normV (pList l) = pList (normL l) := by unfold pList; rw [normV_mk]; rfl
theorem norm_abt (x : Abt) : normV (abtV x) = abtV x := by
  unfold abtV
  rw [norm_list]
  simp only [normL, norm_txt, norm_byt, norm_num]
theorem normL_id : ∀ {l : List PV}, (∀ x ∈ l, normV x = x) → normL l = l
  | [], _ => by simp [normL]
  | x :: l, h => by rw [normL, h x (by simp), normL_id (fun y hy => h y (by simp [hy]))]
theorem norm_listV (l : List Abt) : normV (listV l) = listV l := by
  unfold listV
  rw [normV_mk]
  show PV.mk 7 0 [] [] _ (normL _) = _
  rw [normL, normL, normL, norm_list, norm_num, normL_id (fun x hx => by obtain ⟨y, _, rfl⟩ := List.mem_map.1 hx; exact norm_abt y)]
theorem same_list {l : List Abt} {v : PV} (hn : normV v = v) (h : sameV (listV l) v = true) : v = listV l := by
  have := (sameV_norm _ _).1 h
  rw [norm_listV, hn] at this
  exact this.symm
theorem fld_listV (l : List Abt) : fldV (listV l) [97] = pList (l.map abtV) := by
  unfold listV
  rw [fldV_mk, if_pos rfl, findK, if_pos rfl]
  rfl
theorem isV_abt {x : Abt} (h : x.id.length = 32) : isV (abtV x) [5, 4, 3] = true := by
  simp [isV, abtV, pList, isL, pTxt, pByt, pNum, PV.kind, PV.list, PV.bytes, h]
theorem lstOut_ids (v : PV) : ∀ x ∈ lstOut v, x.id.length = 32 := fun x hx => by
  obtain ⟨y, _, rfl⟩ := List.mem_map.1 hx
  exact keyV_len _
theorem checkL_long {l : List Abt} (h : 64 < l.length) : checkL l = 16 := by unfold checkL; rw [if_pos h]
theorem lstOk_short {v : PV} (h : lstOk v = true) : (fldV v [97]).list.length ≤ 64 := by
  unfold lstOk at h
  rw [Bool.and_eq_true, decide_eq_true_eq] at h
  by_cases h1 : 64 < (lstOut v).length
  · rw [checkL_long h1] at h; exact absurd h.1 (by omega)
  · have : (lstOut v).length = min 70 (fldV v [97]).list.length := by simp [lstOut]
    omega
theorem rd_bad {v : PV} (hn : normV v = v) {x : PV} (hx : x ∈ (fldV v [97]).list) (hb : isV x [5, 4, 3] = false) : lstOk v = false := by
  by_cases h : lstOk v = true
  · have h64 := lstOk_short h
    have hv : v = listV (lstOut v) := by
      unfold lstOk at h
      rw [Bool.and_eq_true] at h
      exact same_list hn h.2
    have h1 : (fldV v [97]).list = (lstOut v).map abtV := by
      have := fld_listV (lstOut v)
      rw [← hv] at this
      rw [this]; rfl
    rw [h1] at hx
    obtain ⟨y, hy, rfl⟩ := List.mem_map.1 hx
    rw [isV_abt (lstOut_ids v y hy)] at hb
    cases hb
  · simpa using h
theorem lstOut_all {v : PV} (h : (fldV v [97]).list.length ≤ 70) : lstOut v = (fldV v [97]).list.map abtOf := by
  unfold lstOut; rw [List.take_of_length_le h]
theorem lstOk_all (v : PV) : lstOk v = (decide (checkL ((fldV v [97]).list.map abtOf) = 0) && sameV (listV ((fldV v [97]).list.map abtOf)) v) := by
  by_cases h : (fldV v [97]).list.length ≤ 70
  · unfold lstOk; rw [lstOut_all h]
  · unfold lstOk
    rw [checkL_long (l := lstOut v) (by simp [lstOut]; omega), checkL_long (l := (fldV v [97]).list.map abtOf) (by simp; omega)]
    simp
theorem isV_parts {x : PV} (h : isV x [5, 4, 3] = true) : ∃ x0 x1 x2, x.list = [x0, x1, x2] ∧ x1.bytes.length = 32 := by
  unfold isV at h
  rw [Bool.and_eq_true, Bool.and_eq_true, decide_eq_true_eq, decide_eq_true_eq] at h
  obtain ⟨⟨_, h1⟩, h2⟩ := h
  match hx : x.list, h1 with
  | [x0, x1, x2], _ =>
    rw [hx] at h2
    simp [isL] at h2
    exact ⟨x0, x1, x2, rfl, h2.2.1.2⟩
end Go.Proofs.Ytakliplkabgmbaa
set_option maxRecDepth 20000
namespace Go.Hd
def sizeB (p : Prt) : Bool := decide (1 ≤ p.size) && decide (p.size ≤ 8192)
def limB (x : Abt) (n : Nat) : Bool := decide (x.comment.length ≤ 100) && timelyB x.time && decide (0 ≤ x.items) && decide (x.items ≤ 100) && decide (0 ≤ x.bytes) && decide (x.bytes ≤ 26214400) && decide (n ≤ 64)
def checkA (x : Abt) (ps : List Prt) : Int := if nameB x.name = true then (if limB x ps.length = true then (if ps.all sizeB = true then 0 else 2) else 2) else 7
end Go.Hd
namespace Go.Proofs.Ytakliplkabgmbaa
open Go.RowKit Go.Hd
attribute [local go_sem ↓] h_ldAB h_stAB h_alAB h_ldPA h_stPA h_alPA
attribute [local go_sem] r_ldAB r_stAB r_alAB r_ldPA r_stPA r_alPA
theorem prts33 {l : List Prt} (hok : ∀ x ∈ l, PrtOk x) : ∀ x ∈ l.map prtC, x.length = 33 := fun x hx => by
  obtain ⟨y, hy, rfl⟩ := List.mem_map.1 hx
  exact prtC_len (hok y hy)
theorem prt_cell {w : World} {a : Option Addr} {l : List Prt} (hr : Row w a (l.map prtC).flatten) (hok : ∀ x ∈ l, PrtOk x) {j : Nat} (hj : j < l.length) {k : Nat} {v : Value} (h : (prtC l[j])[k]? = some v) : w.cell? (((hd a).add (j * 33)).add k) = some v :=
  hr.elem (s := 33) (prts33 hok) (i := j) (c := prtC l[j]) (by simp [hj]) k v h
theorem lim_cases (x : Abt) (n : Nat) (P : Prop) (h1 : ¬ x.comment.length ≤ 100 → P) (h2 : x.comment.length ≤ 100 → timelyB x.time = false → P) (h3 : x.comment.length ≤ 100 → timelyB x.time = true → x.items < 0 → P)
    (h4 : x.comment.length ≤ 100 → timelyB x.time = true → ¬ x.items < 0 → 100 < x.items → P) (h5 : x.comment.length ≤ 100 → timelyB x.time = true → ¬ x.items < 0 → ¬ 100 < x.items → x.bytes < 0 → P)
    (h6 : x.comment.length ≤ 100 → timelyB x.time = true → ¬ x.items < 0 → ¬ 100 < x.items → ¬ x.bytes < 0 → 26214400 < x.bytes → P)
    (h7 : x.comment.length ≤ 100 → timelyB x.time = true → ¬ x.items < 0 → ¬ 100 < x.items → ¬ x.bytes < 0 → ¬ 26214400 < x.bytes → ¬ n ≤ 64 → P)
    (h8 : x.comment.length ≤ 100 → timelyB x.time = true → ¬ x.items < 0 → ¬ 100 < x.items → ¬ x.bytes < 0 → ¬ 26214400 < x.bytes → n ≤ 64 → P) : P := by
  by_cases c1 : x.comment.length ≤ 100
  · cases c2 : timelyB x.time
    · exact h2 c1 c2
    · by_cases c3 : x.items < 0
      · exact h3 c1 c2 c3
      · by_cases c4 : 100 < x.items
        · exact h4 c1 c2 c3 c4
        · by_cases c5 : x.bytes < 0
          · exact h5 c1 c2 c3 c4 c5
          · by_cases c6 : 26214400 < x.bytes
            · exact h6 c1 c2 c3 c4 c5 c6
            · by_cases c7 : n ≤ 64
              · exact h8 c1 c2 c3 c4 c5 c6 c7
              · exact h7 c1 c2 c3 c4 c5 c6 c7
  · exact h1 c1
theorem limB_eq (x : Abt) (n : Nat) : limB x n = (decide (x.comment.length ≤ 100) && timelyB x.time && decide (0 ≤ x.items) && decide (x.items ≤ 100) && decide (0 ≤ x.bytes) && decide (x.bytes ≤ 26214400) && decide (n ≤ 64)) := rfl
set_option maxHeartbeats 4000000 in
theorem checkArchive_wide {a : Option Addr} {n c : Nat} {x : Abt} {l : List Prt} {w : World} (hn : n = l.length) (hr : Row w a (l.map prtC).flatten) (hok : ∀ p ∈ l, PrtOk p) (hx : AbtOk x) (hl : l.length ≤ 100000) :
    Calls Try.prog 34 #[.agg (List.toArray (abtC x)), .slice a n c] w fun e w' => e = .returned (.int .i64 (checkA x l)) ∧ Below w.heap.size w w' := by
  subst hn
  have zp := zPA_size
  have HC : Hid (checkA x l = if nameB x.name = true then (if limB x l.length = true then (if l.all sizeB = true then 0 else 2) else 2) else 7) := rfl
  have HL := Lib.hid hl
  have HOK := Lib.hid hok
  have x1 : (List.toArray (abtC x)).size = 37 := by simpa using abtC_len hx
  have x2 : OneC (List.toArray (abtC x)) := all_oneCell_toArray (abtC_one x)
  have hall : Hid (∀ W, W = w.alloc (.cells (List.toArray (abtC x)) 31) → Blk W w.heap.size 31 (abtC x) ∧ Below w.heap.size w W) := by
    rintro W rfl
    exact ⟨Blk.new w 31 _, (Below.refl _ _).alloc (Nat.le_refl _) _⟩
  have HX := Lib.hid hx
  have HR := Lib.hid hr
  generalize checkA x l = R at *
  have HF : Hid (nameE x.name = if nameB x.name then 0 else 7) := rfl
  clear hl hok hr hx
  go_enter Try.func34, Try.ntmps34
  go_upto_region 1 with (fail)
  generalize hW : w.alloc (.cells (List.toArray (abtC x)) 31) = W at *
  obtain ⟨hxB, hbW⟩ := hall.out W rfl
  clear hall hW
  have d0 : W.cell? ⟨w.heap.size, 0, none⟩ = some (.string (str x.name)) := hxB.cell (abtC_0 x)
  have hcn := checkName_any x.name W HX.out.name
  generalize nameB x.name = nb at *
  cases nb
  · have hR : Hid (R = 7) := HC.out
    have hn7 : nameE x.name = 7 := HF.out
    rw [hn7] at hcn
    clear HF HC hn7
    go_wp2_with fail
    refine hcn.mono ?_
    rintro e w2 ⟨rfl, hb2⟩
    go_wp2
    go_ret
    exact ⟨by rw [hR.out] <;> rfl, hbW.trans (hb2.mono hbW.size)⟩
  have HC2 : Hid (R = if limB x l.length = true then (if l.all sizeB = true then 0 else 2) else 2) := HC.out
  have hn7 : nameE x.name = 0 := HF.out
  rw [hn7] at hcn
  clear HF HC hn7
  go_wp2_with fail
  refine hcn.mono ?_
  rintro e w2 ⟨rfl, hb2⟩
  have hxB2 := hxB.below hb2
  have hbW2 := Lib.hid (hbW.trans (hb2.mono hbW.size))
  have e33 : w2.cell? ⟨w.heap.size, 33, none⟩ = some (.int .i64 x.time) := hxB2.cell (abtC_33 HX.out)
  have e34 : w2.cell? ⟨w.heap.size, 34, none⟩ = some (.string (str x.comment)) := hxB2.cell (abtC_34 HX.out)
  have e35 : w2.cell? ⟨w.heap.size, 35, none⟩ = some (.int .i64 x.items) := hxB2.cell (abtC_35 HX.out)
  have e36 : w2.cell? ⟨w.heap.size, 36, none⟩ = some (.int .i64 x.bytes) := hxB2.cell (abtC_36 HX.out)
  have hzc : (str x.comment).size = x.comment.length := str_size _
  have htm := fun w' => timely_any x.time w'
  have HLB := Lib.hid (limB_eq x l.length)
  clear hcn hb2 hbW d0 hxB hxB2
  go_upto_region 4 with (fail)
  go_cut [48] (fun u wx => u = .bool (!limB x l.length) ∧ wx = w2)
  case first =>
    refine lim_cases x l.length _ ?_ ?_ ?_ ?_ ?_ ?_ ?_ ?_
    · intro c1
      have i1 : (100 : Int) < (x.comment.length : Int) := by omega
      have hv : Hid ((!limB x l.length) = true) := by show _ = _; rw [HLB.out, decide_eq_false c1]; simp
      clear c1 HLB HC2
      go_wp2
      go_meet
      exact ⟨by (rw [hv.out] <;> first | rfl | (congr 1; simp only [Bool.or_eq_false_iff, decide_eq_false_iff_not]; omega)), rfl⟩
    · intro c1 c2
      have i1 : ¬ (100 : Int) < (x.comment.length : Int) := by omega
      have hv : Hid ((!limB x l.length) = true) := by show _ = _; rw [HLB.out, decide_eq_true c1, c2]; simp
      have htm2 := htm w2
      rw [c2] at htm2
      clear c1 HLB HC2 c2
      go_wp2_with fail
      refine htm2.mono ?_
      rintro e w3 ⟨rfl, hw3⟩
      subst hw3
      go_wp2
      go_meet
      exact ⟨by (rw [hv.out] <;> first | rfl | (congr 1; simp only [Bool.or_eq_false_iff, decide_eq_false_iff_not]; omega)), rfl⟩
    · intro c1 c2 c3
      have i1 : ¬ (100 : Int) < (x.comment.length : Int) := by omega
      have hv : Hid ((!limB x l.length) = true) := by show _ = _; rw [HLB.out, decide_eq_true c1, c2, decide_eq_false (p := 0 ≤ x.items) (by omega)]; simp
      have htm2 := htm w2
      rw [c2] at htm2
      clear c1 HLB HC2 c2
      go_wp2_with fail
      refine htm2.mono ?_
      rintro e w3 ⟨rfl, hw3⟩
      subst hw3
      go_wp2
      go_meet
      exact ⟨by (rw [hv.out] <;> first | rfl | (congr 1; simp only [Bool.or_eq_false_iff, decide_eq_false_iff_not]; omega)), rfl⟩
    · intro c1 c2 c3 c4
      have i1 : ¬ (100 : Int) < (x.comment.length : Int) := by omega
      have hv : Hid ((!limB x l.length) = true) := by show _ = _; rw [HLB.out, decide_eq_true c1, c2, decide_eq_true (p := 0 ≤ x.items) (by omega), decide_eq_false (p := x.items ≤ 100) (by omega)]; simp
      have htm2 := htm w2
      rw [c2] at htm2
      clear c1 HLB HC2 c2
      go_wp2_with fail
      refine htm2.mono ?_
      rintro e w3 ⟨rfl, hw3⟩
      subst hw3
      go_wp2
      go_meet
      exact ⟨by (rw [hv.out] <;> first | rfl | (congr 1; simp only [Bool.or_eq_false_iff, decide_eq_false_iff_not]; omega)), rfl⟩
    · intro c1 c2 c3 c4 c5
      have i1 : ¬ (100 : Int) < (x.comment.length : Int) := by omega
      have hv : Hid ((!limB x l.length) = true) := by show _ = _; rw [HLB.out, decide_eq_true c1, c2, decide_eq_true (p := 0 ≤ x.items) (by omega), decide_eq_true (p := x.items ≤ 100) (by omega), decide_eq_false (p := 0 ≤ x.bytes) (by omega)]; simp
      have htm2 := htm w2
      rw [c2] at htm2
      clear c1 HLB HC2 c2
      go_wp2_with fail
      refine htm2.mono ?_
      rintro e w3 ⟨rfl, hw3⟩
      subst hw3
      go_wp2
      go_meet
      exact ⟨by (rw [hv.out] <;> first | rfl | (congr 1; simp only [Bool.or_eq_false_iff, decide_eq_false_iff_not]; omega)), rfl⟩
    · intro c1 c2 c3 c4 c5 c6
      have i1 : ¬ (100 : Int) < (x.comment.length : Int) := by omega
      have hv : Hid ((!limB x l.length) = true) := by show _ = _; rw [HLB.out, decide_eq_true c1, c2, decide_eq_true (p := 0 ≤ x.items) (by omega), decide_eq_true (p := x.items ≤ 100) (by omega), decide_eq_true (p := 0 ≤ x.bytes) (by omega), decide_eq_false (p := x.bytes ≤ 26214400) (by omega)]; simp
      have htm2 := htm w2
      rw [c2] at htm2
      clear c1 HLB HC2 c2
      go_wp2_with fail
      refine htm2.mono ?_
      rintro e w3 ⟨rfl, hw3⟩
      subst hw3
      go_wp2
      go_meet
      exact ⟨by (rw [hv.out] <;> first | rfl | (congr 1; simp only [Bool.or_eq_false_iff, decide_eq_false_iff_not]; omega)), rfl⟩
    · intro c1 c2 c3 c4 c5 c6 c7
      have i1 : ¬ (100 : Int) < (x.comment.length : Int) := by omega
      have i7 : (64 : Int) < (l.length : Int) := by omega
      have hv : Hid ((!limB x l.length) = true) := by show _ = _; rw [HLB.out, decide_eq_true c1, c2, decide_eq_true (p := 0 ≤ x.items) (by omega), decide_eq_true (p := x.items ≤ 100) (by omega), decide_eq_true (p := 0 ≤ x.bytes) (by omega), decide_eq_true (p := x.bytes ≤ 26214400) (by omega), decide_eq_false (p := l.length ≤ 64) c7]; simp
      have htm2 := htm w2
      rw [c2] at htm2
      clear c1 HLB HC2 c2 c7
      go_wp2_with fail
      refine htm2.mono ?_
      rintro e w3 ⟨rfl, hw3⟩
      subst hw3
      go_wp2
      go_meet
      exact ⟨by (rw [hv.out] <;> first | rfl | (congr 1; simp only [Bool.or_eq_false_iff, decide_eq_false_iff_not]; omega)), rfl⟩
    · intro c1 c2 c3 c4 c5 c6 c7
      have i1 : ¬ (100 : Int) < (x.comment.length : Int) := by omega
      have i7 : ¬ (64 : Int) < (l.length : Int) := by omega
      have hv : Hid ((!limB x l.length) = false) := by show _ = _; rw [HLB.out, decide_eq_true c1, c2, decide_eq_true (p := 0 ≤ x.items) (by omega), decide_eq_true (p := x.items ≤ 100) (by omega), decide_eq_true (p := 0 ≤ x.bytes) (by omega), decide_eq_true (p := x.bytes ≤ 26214400) (by omega), decide_eq_true (p := l.length ≤ 64) c7]; simp
      have htm2 := htm w2
      rw [c2] at htm2
      clear c1 HLB HC2 c2 c7
      go_wp2_with fail
      refine htm2.mono ?_
      rintro e w3 ⟨rfl, hw3⟩
      subst hw3
      go_wp2
      go_meet
      exact ⟨by (rw [hv.out] <;> first | rfl | (congr 1; simp only [Bool.or_eq_false_iff, decide_eq_false_iff_not]; omega)), rfl⟩
  case rest =>
    obtain ⟨rfl, hwc⟩ := hcut
    subst hwc
    clear e33 e34 e35 e36 htm HLB
    generalize limB x l.length = lb at *
    cases lb
    · have hR : Hid (R = 2) := HC2.out
      clear HC2
      go_wp2
      go_ret
      exact ⟨by rw [hR.out] <;> rfl, hbW2.out⟩
    have HC3 : Hid (R = if l.all sizeB = true then 0 else 2) := HC2.out
    clear HC2
    go_wp2
    go_loopw [51] (fun i wr => ∃ j : Nat, j ≤ l.length ∧ i = .int .i64 j ∧ Hid ((l.take j).all sizeB = true) ∧ Hid (Below w.heap.size w wr)) (fun i _ => l.length - (intOf i).toNat)
    case atStart => exact ⟨0, Nat.zero_le _, rfl, Lib.hid rfl, hbW2⟩
    case round =>
      obtain ⟨j, hj, rfl, hall, hb⟩ := hrel
      have j0 : (0 : Int) ≤ (j : Int) := by omega
      have jb : IntKind.i64.wrap ((j : Int) + 1) = (j : Int) + 1 := IntWalk.i64_in _ (by have := HL.out; omega)
      clear hbW2
      by_cases hlt : j < l.length
      · have j1 : (j : Int) < (l.length : Int) := by omega
        have hr2 := HR.out.below hb.out
        have s1 := hr2.elemSome (s := 33) (prts33 HOK.out) (by decide) (i := j) (by simpa using hlt)
        have hpo := HOK.out _ (List.getElem_mem hlt)
        have q1 := ldOp_at (P := Try.prog) (ty := 83) (hr2.elem (s := 33) (prts33 HOK.out) (i := j) (c := prtC l[j]) (by simp [hlt])) Try.underlying83 rfl (by rw [prtC_len hpo]; exact sizePA)
        have hA : Hid (sizeB l[j] = true → (l.take (j + 1)).all sizeB = true) := fun h => by
          rw [List.take_succ_eq_append_getElem hlt, List.all_append, hall.out]; simp [h]
        have hN : Hid (sizeB l[j] = false → R = 2) := fun h => by
          rw [HC3.out, if_neg]
          intro h2
          rw [List.all_eq_true.1 h2 _ (List.getElem_mem hlt)] at h; cases h
        generalize l[j] = p at *
        have y1 : (List.toArray (prtC p)).size = 33 := by simpa using prtC_len hpo
        have y2 : OneC (List.toArray (prtC p)) := all_oneCell_toArray (prtC_one p)
        have hSB : Hid (sizeB p = (decide (1 ≤ p.size) && decide (p.size ≤ 8192))) := rfl
        clear hr2 hall HC3
        go_upto_region 9 with (fail)
        have hpB : Blk (wr.alloc (.cells (List.toArray (prtC p)) 83)) wr.heap.size 83 (prtC p) := Blk.new wr 83 _
        have hb0p : Below wr.heap.size wr (wr.alloc (.cells (List.toArray (prtC p)) 83)) := (Below.refl _ _).alloc (Nat.le_refl _) _
        have hbP := Lib.hid (hb.out.trans (hb0p.mono hb.out.size))
        generalize wr.alloc (.cells (List.toArray (prtC p)) 83) = W2 at *
        generalize wr.heap.size = qp at *
        have d32 : W2.cell? ⟨qp, 32, none⟩ = some (.int .i64 p.size) := hpB.cell (prtC_32 hpo)
        clear q1 hb hb0p s1 hpB
        by_cases c1 : p.size < 1
        · have hR := Lib.hid (hN.out (by rw [hSB.out, decide_eq_false (by omega)]; rfl))
          clear hA hN hSB
          go_wp2
          go_ret
          exact ⟨by rw [hR.out] <;> rfl, hbP.out⟩
        · by_cases c2 : 8192 < p.size
          · have hR := Lib.hid (hN.out (by rw [hSB.out, decide_eq_false (p := p.size ≤ 8192) (by omega)]; simp))
            clear hA hN hSB
            go_wp2
            go_ret
            exact ⟨by rw [hR.out] <;> rfl, hbP.out⟩
          · have hA2 := Lib.hid (hA.out (by rw [hSB.out, decide_eq_true (show 1 ≤ p.size by omega), decide_eq_true (show p.size ≤ 8192 by omega)]; rfl))
            clear hA hN hSB
            go_wp2
            first
              | exact ⟨⟨j + 1, by omega, (by first | rfl | go_num | (congr 1; omega)), hA2, hbP⟩, by simp [intOf] <;> omega⟩
              | (refine ⟨?_, by simp [intOf] <;> omega⟩; (repeat apply Exists.intro); exact ⟨⟨j + 1, by omega, (by first | rfl | go_num | (congr 1; omega)), hA2, hbP⟩, rfl⟩)
      · have hR : Hid (R = 0) := by
          show _ = _
          have h := hall.out
          rw [show j = l.length by omega, List.take_length] at h
          rw [HC3.out, if_pos h]
        have j1 : ¬ (j : Int) < (l.length : Int) := by omega
        clear hall HC3
        go_wp2
        go_ret
        exact ⟨by rw [hR.out] <;> rfl, hb.out⟩
set_option maxHeartbeats 4000000 in
theorem rCheckArchive_any {a : Option Addr} {n c : Nat} {x : Abt} {l : List Prt} {w : World} (hn : n = l.length) (hr : Row w a (l.map prtC).flatten) (hok : ∀ p ∈ l, PrtOk p) (hx : AbtOk x) (hnl : x.name.length ≤ 100000) (hl : l.length ≤ 1000) :
    Calls Try.prog 36 #[.agg (List.toArray (abtC x)), .slice a n c] w fun e w' => e = .returned (.int .i64 (checkA x l)) ∧ Below w.heap.size w w' := by
  subst hn
  have HC : Hid (checkA x l = if nameB x.name = true then (if limB x l.length = true then (if l.all sizeB = true then 0 else 2) else 2) else 7) := rfl
  have HL := Lib.hid hl
  have HOK := Lib.hid hok
  have x1 : (List.toArray (abtC x)).size = 37 := by simpa using abtC_len hx
  have x2 : OneC (List.toArray (abtC x)) := all_oneCell_toArray (abtC_one x)
  have hall : Hid (∀ W, W = w.alloc (.cells (List.toArray (abtC x)) 31) → Blk W w.heap.size 31 (abtC x) ∧ Below w.heap.size w W) := by
    rintro W rfl
    exact ⟨Blk.new w 31 _, (Below.refl _ _).alloc (Nat.le_refl _) _⟩
  have HX := Lib.hid hx
  have HR := Lib.hid hr
  have hnm := fun w' => rname_any x.name w' (by omega)
  generalize checkA x l = R at *
  clear hl hok hr hx hnl
  go_enter Try.func36, Try.ntmps36
  go_upto_region 1 with (fail)
  generalize hW : w.alloc (.cells (List.toArray (abtC x)) 31) = w2 at *
  obtain ⟨hxB2, hbW⟩ := hall.out w2 rfl
  clear hall hW
  have d0 : w2.cell? ⟨w.heap.size, 0, none⟩ = some (.string (str x.name)) := hxB2.cell (abtC_0 x)
  have hbW2 := Lib.hid hbW
  generalize nameB x.name = nb at *
  cases nb
  · have hR : Hid (R = 7) := HC.out
    clear HC
    go_wp2_with fail
    refine (hnm _).mono ?_
    rintro e w3 ⟨rfl, hw3⟩
    subst hw3
    go_wp2
    go_ret
    exact ⟨by rw [hR.out] <;> rfl, hbW⟩
  have HC2 : Hid (R = if limB x l.length = true then (if l.all sizeB = true then 0 else 2) else 2) := HC.out
  clear HC
  go_wp2_with fail
  refine (hnm _).mono ?_
  rintro e w3 ⟨rfl, hw3⟩
  subst hw3
  have e33 : w2.cell? ⟨w.heap.size, 33, none⟩ = some (.int .i64 x.time) := hxB2.cell (abtC_33 HX.out)
  have e34 : w2.cell? ⟨w.heap.size, 34, none⟩ = some (.string (str x.comment)) := hxB2.cell (abtC_34 HX.out)
  have e35 : w2.cell? ⟨w.heap.size, 35, none⟩ = some (.int .i64 x.items) := hxB2.cell (abtC_35 HX.out)
  have e36 : w2.cell? ⟨w.heap.size, 36, none⟩ = some (.int .i64 x.bytes) := hxB2.cell (abtC_36 HX.out)
  have hzc : (str x.comment).size = x.comment.length := str_size _
  have htm := fun w' => rtimely_any x.time w'
  have HLB := Lib.hid (limB_eq x l.length)
  clear hnm hbW d0 hxB2
  go_upto_region 3 with (fail)
  go_cut [44] (fun u wx => u = .bool (!limB x l.length) ∧ wx = w2)
  case first =>
    refine lim_cases x l.length _ ?_ ?_ ?_ ?_ ?_ ?_ ?_ ?_
    · intro c1
      have i1 : (100 : Int) < (x.comment.length : Int) := by omega
      have hv : Hid ((!limB x l.length) = true) := by show _ = _; rw [HLB.out, decide_eq_false c1]; simp
      clear c1 HLB HC2
      go_wp2
      go_meet
      exact ⟨by (rw [hv.out] <;> first | rfl | (congr 1; simp only [Bool.or_eq_false_iff, decide_eq_false_iff_not]; omega)), rfl⟩
    · intro c1 c2
      have i1 : ¬ (100 : Int) < (x.comment.length : Int) := by omega
      have hv : Hid ((!limB x l.length) = true) := by show _ = _; rw [HLB.out, decide_eq_true c1, c2]; simp
      have htm2 := htm w2
      rw [c2] at htm2
      clear c1 HLB HC2 c2
      go_wp2_with fail
      refine htm2.mono ?_
      rintro e w3 ⟨rfl, hw3⟩
      subst hw3
      go_wp2
      go_meet
      exact ⟨by (rw [hv.out] <;> first | rfl | (congr 1; simp only [Bool.or_eq_false_iff, decide_eq_false_iff_not]; omega)), rfl⟩
    · intro c1 c2 c3
      have i1 : ¬ (100 : Int) < (x.comment.length : Int) := by omega
      have hv : Hid ((!limB x l.length) = true) := by show _ = _; rw [HLB.out, decide_eq_true c1, c2, decide_eq_false (p := 0 ≤ x.items) (by omega)]; simp
      have htm2 := htm w2
      rw [c2] at htm2
      clear c1 HLB HC2 c2
      go_wp2_with fail
      refine htm2.mono ?_
      rintro e w3 ⟨rfl, hw3⟩
      subst hw3
      go_wp2
      go_meet
      exact ⟨by (rw [hv.out] <;> first | rfl | (congr 1; simp only [Bool.or_eq_false_iff, decide_eq_false_iff_not]; omega)), rfl⟩
    · intro c1 c2 c3 c4
      have i1 : ¬ (100 : Int) < (x.comment.length : Int) := by omega
      have hv : Hid ((!limB x l.length) = true) := by show _ = _; rw [HLB.out, decide_eq_true c1, c2, decide_eq_true (p := 0 ≤ x.items) (by omega), decide_eq_false (p := x.items ≤ 100) (by omega)]; simp
      have htm2 := htm w2
      rw [c2] at htm2
      clear c1 HLB HC2 c2
      go_wp2_with fail
      refine htm2.mono ?_
      rintro e w3 ⟨rfl, hw3⟩
      subst hw3
      go_wp2
      go_meet
      exact ⟨by (rw [hv.out] <;> first | rfl | (congr 1; simp only [Bool.or_eq_false_iff, decide_eq_false_iff_not]; omega)), rfl⟩
    · intro c1 c2 c3 c4 c5
      have i1 : ¬ (100 : Int) < (x.comment.length : Int) := by omega
      have hv : Hid ((!limB x l.length) = true) := by show _ = _; rw [HLB.out, decide_eq_true c1, c2, decide_eq_true (p := 0 ≤ x.items) (by omega), decide_eq_true (p := x.items ≤ 100) (by omega), decide_eq_false (p := 0 ≤ x.bytes) (by omega)]; simp
      have htm2 := htm w2
      rw [c2] at htm2
      clear c1 HLB HC2 c2
      go_wp2_with fail
      refine htm2.mono ?_
      rintro e w3 ⟨rfl, hw3⟩
      subst hw3
      go_wp2
      go_meet
      exact ⟨by (rw [hv.out] <;> first | rfl | (congr 1; simp only [Bool.or_eq_false_iff, decide_eq_false_iff_not]; omega)), rfl⟩
    · intro c1 c2 c3 c4 c5 c6
      have i1 : ¬ (100 : Int) < (x.comment.length : Int) := by omega
      have hv : Hid ((!limB x l.length) = true) := by show _ = _; rw [HLB.out, decide_eq_true c1, c2, decide_eq_true (p := 0 ≤ x.items) (by omega), decide_eq_true (p := x.items ≤ 100) (by omega), decide_eq_true (p := 0 ≤ x.bytes) (by omega), decide_eq_false (p := x.bytes ≤ 26214400) (by omega)]; simp
      have htm2 := htm w2
      rw [c2] at htm2
      clear c1 HLB HC2 c2
      go_wp2_with fail
      refine htm2.mono ?_
      rintro e w3 ⟨rfl, hw3⟩
      subst hw3
      go_wp2
      go_meet
      exact ⟨by (rw [hv.out] <;> first | rfl | (congr 1; simp only [Bool.or_eq_false_iff, decide_eq_false_iff_not]; omega)), rfl⟩
    · intro c1 c2 c3 c4 c5 c6 c7
      have i1 : ¬ (100 : Int) < (x.comment.length : Int) := by omega
      have i7 : (64 : Int) < (l.length : Int) := by omega
      have hv : Hid ((!limB x l.length) = true) := by show _ = _; rw [HLB.out, decide_eq_true c1, c2, decide_eq_true (p := 0 ≤ x.items) (by omega), decide_eq_true (p := x.items ≤ 100) (by omega), decide_eq_true (p := 0 ≤ x.bytes) (by omega), decide_eq_true (p := x.bytes ≤ 26214400) (by omega), decide_eq_false (p := l.length ≤ 64) c7]; simp
      have htm2 := htm w2
      rw [c2] at htm2
      clear c1 HLB HC2 c2 c7
      go_wp2_with fail
      refine htm2.mono ?_
      rintro e w3 ⟨rfl, hw3⟩
      subst hw3
      go_wp2
      go_meet
      exact ⟨by (rw [hv.out] <;> first | rfl | (congr 1; simp only [Bool.or_eq_false_iff, decide_eq_false_iff_not]; omega)), rfl⟩
    · intro c1 c2 c3 c4 c5 c6 c7
      have i1 : ¬ (100 : Int) < (x.comment.length : Int) := by omega
      have i7 : ¬ (64 : Int) < (l.length : Int) := by omega
      have hv : Hid ((!limB x l.length) = false) := by show _ = _; rw [HLB.out, decide_eq_true c1, c2, decide_eq_true (p := 0 ≤ x.items) (by omega), decide_eq_true (p := x.items ≤ 100) (by omega), decide_eq_true (p := 0 ≤ x.bytes) (by omega), decide_eq_true (p := x.bytes ≤ 26214400) (by omega), decide_eq_true (p := l.length ≤ 64) c7]; simp
      have htm2 := htm w2
      rw [c2] at htm2
      clear c1 HLB HC2 c2 c7
      go_wp2_with fail
      refine htm2.mono ?_
      rintro e w3 ⟨rfl, hw3⟩
      subst hw3
      go_wp2
      go_meet
      exact ⟨by (rw [hv.out] <;> first | rfl | (congr 1; simp only [Bool.or_eq_false_iff, decide_eq_false_iff_not]; omega)), rfl⟩
  case rest =>
    obtain ⟨rfl, hwc⟩ := hcut
    subst hwc
    clear e33 e34 e35 e36 htm HLB
    generalize limB x l.length = lb at *
    cases lb
    · have hR : Hid (R = 2) := HC2.out
      clear HC2
      go_wp2
      go_ret
      exact ⟨by rw [hR.out] <;> rfl, hbW2.out⟩
    have HC3 : Hid (R = if l.all sizeB = true then 0 else 2) := HC2.out
    clear HC2
    go_wp2
    go_loopw [5] (fun i wr => ∃ j : Nat, j ≤ l.length ∧ i = .int .i64 j ∧ Hid ((l.take j).all sizeB = true) ∧ Hid (wr = wc)) (fun i _ => l.length - (intOf i).toNat)
    case atStart => exact ⟨0, Nat.zero_le _, rfl, Lib.hid rfl, Lib.hid rfl⟩
    case round =>
      obtain ⟨j, hj, rfl, hall, hwr⟩ := hrel
      have hwr := hwr.out
      subst hwr
      have j0 : (0 : Int) ≤ (j : Int) := by omega
      have jb : IntKind.i64.wrap ((j : Int) + 1) = (j : Int) + 1 := IntWalk.i64_in _ (by have := HL.out; omega)
      by_cases hlt : j < l.length
      · have j1 : (j : Int) < (l.length : Int) := by omega
        have hr2 := HR.out.below hbW2.out
        have s1 := hr2.elemSome (s := 33) (prts33 HOK.out) (by decide) (i := j) (by simpa using hlt)
        have hpo := HOK.out _ (List.getElem_mem hlt)
        have q1 := cell_fld (prt_cell hr2 HOK.out hlt (prtC_32 hpo))
        have hA : Hid (sizeB l[j] = true → (l.take (j + 1)).all sizeB = true) := fun h => by
          rw [List.take_succ_eq_append_getElem hlt, List.all_append, hall.out]; simp [h]
        have hN : Hid (sizeB l[j] = false → R = 2) := fun h => by
          rw [HC3.out, if_neg]
          intro h2
          rw [List.all_eq_true.1 h2 _ (List.getElem_mem hlt)] at h; cases h
        generalize l[j] = p at *
        have hSB : Hid (sizeB p = (decide (1 ≤ p.size) && decide (p.size ≤ 8192))) := rfl
        clear hr2 hall HC3
        by_cases c1 : p.size < 1
        · have hR := Lib.hid (hN.out (by rw [hSB.out, decide_eq_false (by omega)]; rfl))
          clear hA hN hSB
          go_wp2
          go_ret
          exact ⟨by rw [hR.out] <;> rfl, hbW2.out⟩
        · by_cases c2 : 8192 < p.size
          · have hR := Lib.hid (hN.out (by rw [hSB.out, decide_eq_false (p := p.size ≤ 8192) (by omega)]; simp))
            clear hA hN hSB
            go_wp2
            go_ret
            exact ⟨by rw [hR.out] <;> rfl, hbW2.out⟩
          · have hA2 := Lib.hid (hA.out (by rw [hSB.out, decide_eq_true (show 1 ≤ p.size by omega), decide_eq_true (show p.size ≤ 8192 by omega)]; rfl))
            clear hA hN hSB
            go_wp2
            first
              | exact ⟨⟨j + 1, by omega, (by first | rfl | go_num | (congr 1; omega)), hA2, (by first | exact Lib.hid rfl | exact Lib.hid trivial)⟩, by simp [intOf] <;> omega⟩
              | (refine ⟨?_, by simp [intOf] <;> omega⟩; (repeat apply Exists.intro); exact ⟨⟨j + 1, by omega, (by first | rfl | go_num | (congr 1; omega)), hA2, (by first | exact Lib.hid rfl | exact Lib.hid trivial)⟩, rfl⟩)
      · have hR : Hid (R = 0) := by
          show _ = _
          have h := hall.out
          rw [show j = l.length by omega, List.take_length] at h
          rw [HC3.out, if_pos h]
        have j1 : ¬ (j : Int) < (l.length : Int) := by omega
        clear hall HC3
        go_wp2
        go_ret
        exact ⟨by rw [hR.out] <;> rfl, hbW2.out⟩
end Go.Proofs.Ytakliplkabgmbaa
