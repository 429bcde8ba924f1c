/- Layer 23: whether a list can be. -/
import Derived.Test.YtakliplkabgmbaaM4
import Derived.Test.YtakliplkabgmbaaPl20
set_option maxRecDepth 20000
namespace Go.Hd
/-- Names and times, one by one. -/
def scanE : List Abt → Int
  | [] => 0
  | x :: l => if nameB x.name = true then (if timelyB x.time = true then scanE l else 2) else 7
def checkL (l : List Abt) : Int := if 64 < l.length then 16 else if scanE l ≠ 0 then scanE l else if risesT (l.map (·.name)) = true then 0 else 18
end Go.Hd
namespace Go.Proofs.Ytakliplkabgmbaa
open Go.RowKit Go.Hd
attribute [local go_sem ↓] h_ldV h_stV h_alV h_ldID h_stID h_alID h_ldAB h_stAB h_alAB
attribute [local go_sem] r_ldV r_stV r_alV r_ldID r_stID r_alID r_ldAB r_stAB r_alAB

theorem leT_not (b a : List UInt8) : leT b a = !Op.bytesLess (str a).toList (str b).toList := by
  unfold leT
  generalize (str a).toList = A
  generalize (str b).toList = B
  by_cases h : B = A
  · subst h; rw [bl_irrefl]; simp
  · have hne : (B == A) = false := by simpa using h
    rw [hne, Bool.or_false]
    rcases bl_total B A h with h2 | h2
    · rw [h2, bl_asymm h2]; rfl
    · rw [h2, bl_asymm h2]; rfl
theorem cell_field {w : World} {a : Addr} {i j : Nat} {v : Value} (h : w.cell? (a.add (i + j)) = some v) : w.cell? ⟨(a.add i).block, (a.add i).off + j, none⟩ = some v := by
  unfold World.cell? Addr.add at *
  by_cases hi : i = 0 <;> by_cases hj : j = 0 <;> simp [hi, hj, Nat.add_assoc] at h ⊢
  · cases hb : w.heap[a.block]? with
    | none => rw [hb] at h; cases h
    | some o =>
      rw [hb] at h
      cases o with
      | cells c e f =>
        simp only at h ⊢
        split at h
        · cases h
        · exact h
      | _ => cases h
  all_goals exact h
theorem cell_fld {w : World} {a : Addr} {i j : Nat} {v : Value} (h : w.cell? ((a.add i).add j) = some v) : w.cell? ⟨(a.add i).block, (a.add i).off + j, none⟩ = some v := cell_field (by rwa [add_add] at h)
theorem addr_add0 (x : Addr) : x.add 0 = x := by unfold Addr.add; simp
theorem abts37 {l : List Abt} (hok : ∀ x ∈ l, AbtOk x) : ∀ x ∈ l.map abtC, x.length = 37 := fun x hx => by
  obtain ⟨y, hy, rfl⟩ := List.mem_map.1 hx
  exact abtC_len (hok y hy)
/-- One field of an archive in a row. -/
theorem abt_cell {w : World} {a : Option Addr} {l : List Abt} (hr : Row w a (l.map abtC).flatten) (hok : ∀ x ∈ l, AbtOk x) {j : Nat} (hj : j < l.length) {k : Nat} {v : Value} (h : (abtC l[j])[k]? = some v) : w.cell? (((hd a).add (j * 37)).add k) = some v :=
  hr.elem (s := 37) (abts37 hok) (i := j) (c := abtC l[j]) (by simp [hj]) k v h
set_option maxHeartbeats 2000000 in
theorem checkList_any {a : Option Addr} {n c : Nat} {l : List Abt} {w : World} (hn : n = l.length) (hr : Row w a (l.map abtC).flatten) (hok : ∀ x ∈ l, AbtOk x) (hl : l.length ≤ 1000) :
    Calls Try.prog 28 #[.slice a n c] w fun e w' => e = .returned (.int .i64 (checkL l)) ∧ Below w.heap.size w w' := by
  subst hn
  have za := zAB_size
  have HC : Hid (checkL l = if 64 < l.length then 16 else if scanE l ≠ 0 then scanE l else if risesT (l.map (·.name)) = true then 0 else 18) := rfl
  have HL := Lib.hid hl
  have HOK := Lib.hid hok
  clear hl hok
  by_cases h64 : 64 < l.length
  · have i1 : (64 : Int) < (l.length : Int) := by omega
    have hR : Hid (checkL l = 16) := by show _ = _; rw [HC.out, if_pos h64]
    clear h64 HC
    go_enter Try.func28, Try.ntmps28
    go_wp2
    go_ret
    exact ⟨by rw [hR.out] <;> rfl, Below.refl _ _⟩
  have i1 : ¬ (64 : Int) < (l.length : Int) := by omega
  have HC2 : Hid (checkL l = if scanE l ≠ 0 then scanE l else if risesT (l.map (·.name)) = true then 0 else 18) := by show _ = _; rw [HC.out, if_neg h64]
  have HS0 : Hid (scanE (l.drop 0) = scanE l) := rfl
  generalize checkL l = R at *
  generalize scanE l = SE at *
  clear HC h64
  go_enter Try.func28, Try.ntmps28
  go_upto_block 0 with (fail)
  go_cut [12] (fun _ wx => SE = 0 ∧ Below w.heap.size w wx)
  case first =>
    go_wp2
    go_loopw [12] (fun i wr => ∃ j : Nat, j ≤ l.length ∧ i = .int .i64 j ∧ Hid (scanE (l.drop j) = SE) ∧ Hid (Below w.heap.size w wr)) (fun i _ => l.length - (intOf i).toNat)
    case atStart => exact ⟨0, Nat.zero_le _, rfl, HS0, Lib.hid (Below.refl _ _)⟩
    case round =>
      obtain ⟨j, hj, rfl, hE, hb⟩ := hrel
      have j0 : (0 : Int) ≤ (j : Int) := by omega
      have jb : IntKind.i64.wrap ((j : Int) + 1) = (j : Int) + 1 := IntWalk.i64_in _ (by have := HL.out; omega)
      clear HS0
      by_cases hlt : j < l.length
      · have j1 : (j : Int) < (l.length : Int) := by omega
        have hr2 := hr.below hb.out
        have s1 := hr2.elemSome (s := 37) (abts37 HOK.out) (by decide) (i := j) (by simpa using hlt)
        have hxo := HOK.out _ (List.getElem_mem hlt)
        have q1 := ldOp_at (P := Try.prog) (ty := 31) (hr2.elem (s := 37) (abts37 HOK.out) (i := j) (c := abtC l[j]) (by simp [hlt])) Try.underlying31 rfl (by rw [abtC_len hxo]; exact sizeAB)
        have hE2 : Hid ((if nameB l[j].name = true then (if timelyB l[j].time = true then scanE (l.drop (j + 1)) else 2) else 7) = SE) := by
          show _ = _
          rw [← hE.out, List.drop_eq_getElem_cons hlt]; rfl
        generalize l[j] = x at *
        have x1 : (List.toArray (abtC x)).size = 37 := by simpa using abtC_len hxo
        have x2 : OneC (List.toArray (abtC x)) := all_oneCell_toArray (abtC_one x)
        clear hr2 hE
        go_upto_region 6 with (fail)
        have hxB : Blk (wr.alloc (.cells (List.toArray (abtC x)) 31)) wr.heap.size 31 (abtC x) := Blk.new wr 31 _
        have hb0x : Below wr.heap.size wr (wr.alloc (.cells (List.toArray (abtC x)) 31)) := (Below.refl _ _).alloc (Nat.le_refl _) _
        have hbW := Lib.hid (hb.out.trans (hb0x.mono hb.out.size))
        generalize wr.alloc (.cells (List.toArray (abtC x)) 31) = W at *
        generalize wr.heap.size = qx at *
        have d0 : W.cell? ⟨qx, 0, none⟩ = some (.string (str x.name)) := hxB.cell (abtC_0 x)
        have hcn := checkName_any x.name W hxo.name
        have HF : Hid (nameE x.name = if nameB x.name then 0 else 7) := rfl
        clear q1 hb hb0x s1
        generalize nameB x.name = nb at *
        cases nb
        · have hE3 : Hid (7 = SE) := hE2.out
          have hn7 : nameE x.name = 7 := HF.out
          have hR : Hid (R = 7) := by show _ = _; rw [HC2.out, ← hE3.out]; rfl
          rw [hn7] at hcn
          clear hE2 HF HC2 hn7 hE3
          go_wp2_with fail
          refine hcn.mono ?_
          rintro e w2 ⟨rfl, hb2⟩
          go_wp2
          go_ret
          exact ⟨by rw [hR.out] <;> rfl, hbW.out.trans (hb2.mono hbW.out.size)⟩
        · have hE3 : Hid ((if timelyB x.time = true then scanE (l.drop (j + 1)) else 2) = SE) := hE2.out
          have hn7 : nameE x.name = 0 := HF.out
          rw [hn7] at hcn
          have htm := fun w' => timely_any x.time w'
          clear hE2 HF hn7
          go_wp2_with fail
          refine hcn.mono ?_
          rintro e w2 ⟨rfl, hb2⟩
          have d33 : w2.cell? ⟨qx, 33, none⟩ = some (.int .i64 x.time) := (hxB.below hb2).cell (abtC_33 hxo)
          have hbW2 := Lib.hid (hbW.out.trans (hb2.mono hbW.out.size))
          clear hb2 hbW hxB d0 hcn
          generalize timelyB x.time = tb at *
          cases tb
          · have hE4 : Hid (2 = SE) := hE3.out
            have hR : Hid (R = 2) := by show _ = _; rw [HC2.out, ← hE4.out]; rfl
            clear hE3 HC2 hE4
            go_wp2_with fail
            refine (htm _).mono ?_
            rintro e w3 ⟨rfl, hw3⟩
            subst hw3
            go_wp2
            go_ret
            exact ⟨by rw [hR.out] <;> rfl, hbW2.out⟩
          · have hE4 : Hid (scanE (l.drop (j + 1)) = SE) := hE3.out
            clear hE3
            go_wp2_with fail
            refine (htm _).mono ?_
            rintro e w3 ⟨rfl, hw3⟩
            subst hw3
            go_wp2
            first
              | exact ⟨⟨j + 1, by omega, (by first | rfl | go_num | (congr 1; omega)), hE4, hbW2⟩, by simp [intOf] <;> omega⟩
              | (refine ⟨?_, by simp [intOf] <;> omega⟩; (repeat apply Exists.intro); exact ⟨⟨j + 1, by omega, (by first | rfl | go_num | (congr 1; omega)), hE4, hbW2⟩, rfl⟩)
      · have hSE : SE = 0 := by rw [← hE.out, List.drop_eq_nil_of_le (by omega)]; rfl
        have j1 : ¬ (j : Int) < (l.length : Int) := by omega
        have hh := Lib.hid (And.intro hSE hb.out)
        clear hSE
        go_wp2
        go_meet
        exact hh.out
  case rest =>
    obtain ⟨hSE, hbc⟩ := hcut
    have HR : Hid (R = if risesT (l.map (·.name)) = true then 0 else 18) := by show _ = _; rw [HC2.out, if_neg (by rw [hSE]; simp)]
    have HB := Lib.hid hbc
    have hrc := hr.below hbc
    clear HC2 hSE HS0 hbc hr
    go_wp2
    go_loopw [6] (fun i wr => ∃ j : Nat, 1 ≤ j ∧ j ≤ l.length + 1 ∧ i = .int .i64 j ∧ Hid (risesT ((l.map (·.name)).take j) = true) ∧ Hid (∃ n, wr = wc.drewN n)) (fun i _ => l.length + 1 - (intOf i).toNat)
    case atStart => exact ⟨1, Nat.le_refl _, by omega, rfl, Lib.hid (risesT_one _), Lib.hid ⟨0, by rw [World.drewN_zero]⟩⟩
    case round =>
      obtain ⟨j, hj1, hj, rfl, hri, hwr⟩ := hrel
      obtain ⟨nn, hwr⟩ := hwr.out
      have j0 : (0 : Int) ≤ (j : Int) := by omega
      have jb : IntKind.i64.wrap ((j : Int) + 1) = (j : Int) + 1 := IntWalk.i64_in _ (by have := HL.out; omega)
      by_cases hlt : j < l.length
      · have j1 : (j : Int) < (l.length : Int) := by omega
        have hrw : Row wr a (l.map abtC).flatten := by rw [hwr]; exact hrc.drewN nn
        obtain ⟨k, hk⟩ : ∃ k, k = j - 1 := ⟨_, rfl⟩
        have hkl : k < l.length := by omega
        have im : IntKind.i64.wrap ((j : Int) - 1) = (k : Int) := by rw [IntWalk.i64_in _ (by have := HL.out; omega)]; omega
        have k0 : (0 : Int) ≤ (k : Int) := by omega
        have k1 : (k : Int) < (l.length : Int) := by omega
        have s1 := hrw.elemSome (s := 37) (abts37 HOK.out) (by decide) (i := j) (by simpa using hlt)
        have q1 := abt_cell hrw HOK.out hlt (abtC_0 l[j])
        have q2 := abt_cell hrw HOK.out hkl (abtC_0 l[k])
        have hbF : Hid (∀ n, Below w.heap.size w (wr.drewN n)) := fun n => by rw [hwr, World.drewN_drewN]; exact Below.drewN HB.out _
        have hNX : Hid (∀ n, ∃ m, wr.drewN n = wc.drewN m) := fun n => ⟨nn + n, by rw [hwr, World.drewN_drewN]⟩
        have hRT : Hid (risesT ((l.map (·.name)).take (j + 1)) = !leT (l[j]).name (l[k]).name) := by
          show _ = _
          obtain rfl : j = k + 1 := by omega
          rw [risesT_take _ k (by simpa using hlt), hri.out]
          simp
        have hNR : Hid (risesT ((l.map (·.name)).take (j + 1)) = false → risesT (l.map (·.name)) = false) := risesT_not
        unfold strV at q1 q2
        rw [addr_add0] at q1 q2
        generalize l[j].name = y at *
        generalize l[k].name = z at *
        clear hk hwr hrw hri
        go_wp2
        go_quiet (fail)
        have HLT := Lib.hid (leT_not y z)
        cases hg : Op.bytesLess (str z).toList (str y).toList
        · have hR : Hid (R = 18) := by
            show _ = _
            rw [HR.out, if_neg]
            rw [hNR.out (by rw [hRT.out, HLT.out, hg]; rfl)]; decide
          clear hRT hNR HR hNX HLT
          go_wp2
          go_ret
          exact ⟨by rw [hR.out] <;> rfl, hbF.out nq⟩
        · have hri2 : Hid (risesT ((l.map (·.name)).take (j + 1)) = true) := by show _ = _; rw [hRT.out, HLT.out, hg]; rfl
          have hnx := Lib.hid (hNX.out nq)
          clear hRT hNR hNX HLT hbF
          go_wp2
          first
            | exact ⟨⟨j + 1, by omega, by omega, (by first | rfl | go_num | (congr 1; omega)), hri2, hnx⟩, by simp [intOf] <;> omega⟩
            | (refine ⟨?_, by simp [intOf] <;> omega⟩; (repeat apply Exists.intro); exact ⟨⟨j + 1, by omega, by omega, (by first | rfl | go_num | (congr 1; omega)), hri2, hnx⟩, rfl⟩)
      · have hR : Hid (R = 0) := by
          show _ = _
          have h := hri.out
          rw [List.take_of_length_le (by simp; omega)] at h
          rw [HR.out, if_pos h]
        have hbF : Below w.heap.size w wr := by rw [hwr]; exact Below.drewN HB.out _
        have j1 : ¬ (j : Int) < (l.length : Int) := by omega
        clear hri HR hwr
        go_wp2
        go_ret
        exact ⟨by rw [hR.out] <;> rfl, hbF⟩
end Go.Proofs.Ytakliplkabgmbaa
