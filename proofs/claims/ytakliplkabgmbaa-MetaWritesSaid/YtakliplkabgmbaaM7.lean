/- Layer 23: the document's id, CheckList. -/
import Derived.Test.YtakliplkabgmbaaM6
set_option maxRecDepth 20000
namespace Go.Proofs.Ytakliplkabgmbaa
open Go.RowKit Go.Hd
attribute [local go_sem ↓] h_ldV h_stV h_alV h_ldID h_stID h_alID
attribute [local go_sem] r_ldV r_stV r_alV r_ldID r_stID r_alID

set_option maxHeartbeats 2000000 in
theorem rid_any (id : List UInt8) (w : World) (hi : id.length = 32) : Calls Try.prog 59 #[.agg (List.toArray (id.map b8))] w (BlobP id w) := by
  have zs := zV_size
  have hO6 := oneC6
  have zi : (List.toArray (id.map b8)).size = 32 := by simp [hi]
  have HI := Lib.hid hi
  go_enter Try.func59, Try.ntmps59
  go_upto_region 1 with (fail)
  have hall : Hid (∀ W, W = (w.alloc (.cells (List.toArray (id.map b8)) 29)).alloc (.cells zV 63) → Blk W w.heap.size 29 (id.map b8) ∧ Blk W (w.heap.size + 1) 63 zV.toList ∧ Below w.heap.size w W ∧ W.heap.size = w.heap.size + 2) := by
    rintro W rfl
    refine ⟨(Blk.new w 29 _).alloc _, ?_, ((Below.refl _ _).alloc (Nat.le_refl _) _).alloc (by simp) _, by simp⟩
    have := Blk.new (w.alloc (.cells (List.toArray (id.map b8)) 29)) 63 zV
    simpa using this
  generalize hW : (w.alloc (.cells (List.toArray (id.map b8)) 29)).alloc (.cells zV 63) = W at *
  obtain ⟨g1, g2, g3, g4⟩ := hall.out W rfl
  have G1 := Lib.hid g1
  have G2 := Lib.hid g2
  have G3 := Lib.hid g3
  have G4 := Lib.hid g4
  clear hall hW g1 g2 g3 g4 hi
  go_wp2
  go_loopw [3, 4] (fun u i wr => ∃ j : Nat, j ≤ 32 ∧ i = .int .i64 j ∧ Hid (wr.ownsRow (w.heap.size + 2) 5 1 u j ((id.take j).map b8)) ∧ Hid (Below W.heap.size W wr)) (fun _ i _ => 32 - (intOf i).toNat)
  case atStart => exact ⟨0, by omega, rfl, Lib.hid (World.ownsRow_nil _ _ _ _), Lib.hid (Below.refl _ _)⟩
  case round =>
    obtain ⟨j, hj, rfl, hO, hb⟩ := hrel
    have j0 : (0 : Int) ≤ (j : Int) := by omega
    have jb : IntKind.i64.wrap ((j : Int) + 1) = (j : Int) + 1 := IntWalk.i64_in _ (by omega)
    obtain ⟨au, cu, rfl, hcu1, hcu2, hru, hou⟩ := owns_rowN hO.out (by decide)
    have HU := Lib.hid (And.intro hcu1 (And.intro hcu2 (And.intro hru hou)))
    clear hcu1 hcu2 hru hou
    by_cases hlt : j < 32
    · have j1 : (j : Int) < 32 := by omega
      have hjl : j < id.length := by rw [HI.out]; exact hlt
      have q1 : wr.cell? ⟨w.heap.size, j, none⟩ = some (.int .u8 ((id[j]'hjl).toNat : Int)) := (G1.out.below hb.out).cell (by rw [List.getElem?_map, List.getElem?_eq_getElem hjl]; rfl)
      have hsz : w.heap.size + 2 ≤ wr.heap.size := by have := hb.out.size; have := G4.out; omega
      obtain ⟨a', c', w', hrun, ho', hG⟩ := own_app1 (ty := 35) eB hO.out (.int .u8 ((id[j]'hjl).toNat : Int)) rfl (by unfold maxLen; omega) (by omega) hsz
      have hlt' := World.ownsRow.lt hO.out
      have hb' : Hid (Below W.heap.size W w') := hb.out.trans (hG.below (base := w.heap.size + 2) (fun k hk => (hlt' k hk).1) (by have := G4.out; omega) hb.out.size)
      have hO' : Hid (w'.ownsRow (w.heap.size + 2) 5 1 (.slice a' (j + 1) c') (j + 1) ((id.take (j + 1)).map b8)) := by
        show World.ownsRow _ _ _ _ _ _ _
        rw [List.take_succ_eq_append_getElem hjl, List.map_append]
        exact ho'
      generalize (id[j]'hjl).toNat = y at *
      clear ho' hG hlt' hO hb HU G1 G2 G3
      go_wp2_with (at_builtin; refine wpList_append_run hrun rfl rfl rfl rfl ?_)
      first
        | exact ⟨⟨j + 1, by omega, (by first | rfl | go_num | (congr 1; omega)), hO', hb'⟩, by simp [intOf] <;> omega⟩
        | (refine ⟨?_, by simp [intOf] <;> omega⟩; (repeat apply Exists.intro); exact ⟨⟨j + 1, by omega, (by first | rfl | go_num | (congr 1; omega)), hO', hb'⟩, rfl⟩)
    · obtain rfl : j = 32 := by omega
      obtain ⟨hcu1, hcu2, hru, hou⟩ := HU.out
      rw [show id.take 32 = id from List.take_of_length_le (by rw [HI.out]; exact Nat.le_refl _)] at hru hou
      have hat := hou (by rw [List.length_map, HI.out]; decide)
      have g5 := G2.out.below hb.out
      have hst2 := st_row g5 (by rfl) (List.toArray (bytC (.slice au 32 cu))) (by rfl) (by unfold OneC bytC; simp [Value.oneCell', strV])
      have hgr := setRow_gr wr (w.heap.size + 1) (List.toArray (bytC (.slice au 32 cu)))
      have hR : Hid (BlobP id w (.returned (.agg (List.toArray (bytC (.slice au 32 cu))))) (wr.setRow (w.heap.size + 1) (List.toArray (bytC (.slice au 32 cu))))) := by
        have hrne : (hd au).block ≠ w.heap.size + 1 := by omega
        refine ⟨au, cu, rfl, hru.grown hgr (fun _ => hrne), hcu1, hcu2, by omega, ?_⟩
        have hb2 : Below w.heap.size w wr := G3.out.trans (hb.out.mono (by have := G4.out; omega))
        exact hb2.trans ⟨hgr.os, hgr.tape, hgr.output, hgr.size, fun k hk => hgr.block k (Nat.lt_of_lt_of_le hk hb2.size) (by simp; omega)⟩
      have hB := setRow_blk g5 (bytC (.slice au 32 cu))
      clear hat hgr G1 G2 G3 G4 g5 hO hb HU hcu1 hcu2 hru hou
      change (stoOp 63 _ (.agg #[.int .i64 4, .int .i64 0, .slice au 32 cu, .string { data := #[] }, .slice none 0 0, .slice none 0 0])).run _ _ = .ok () (wr.setRow _ #[.int .i64 4, .int .i64 0, .slice au 32 cu, .string { data := #[] }, .slice none 0 0, .slice none 0 0]) at hst2
      change Hid (BlobP id w _ (wr.setRow _ #[.int .i64 4, .int .i64 0, .slice au 32 cu, .string { data := #[] }, .slice none 0 0, .slice none 0 0])) at hR
      change Blk (wr.setRow _ #[.int .i64 4, .int .i64 0, .slice au 32 cu, .string { data := #[] }, .slice none 0 0, .slice none 0 0]) _ _ _ at hB
      go_wp2
      refine bodyPost_ret (results_cell_row (fn := Try.f59) (by rfl) _ _ (w.heap.size + 1) 63 _ (0, 0) _ (by rfl) hB Try.underlying63 rfl sizeV) rfl hR.out
set_option maxHeartbeats 2000000 in
theorem rCheckList_any {a : Option Addr} {n c : Nat} {l : List Abt} {w : World} (hn : n = l.length) (hr : Row w a (l.map abtC).flatten) (hok : ∀ x ∈ l, AbtOk x) (hln : ∀ x ∈ l, x.name.length ≤ 1000) (hl : l.length ≤ 1000) :
    Calls Try.prog 31 #[.slice a n c] w fun e w' => e = .returned (.int .i64 (checkL l)) ∧ Below w.heap.size w w' := by
  subst hn
  have HC : Hid (checkL l = if 64 < l.length then 16 else if scanE l ≠ 0 then scanE l else if risesT (l.map (·.name)) = true then 0 else 18) := rfl
  have HL := Lib.hid hl
  have HOK := Lib.hid hok
  have HLN := Lib.hid hln
  clear hl hok hln
  by_cases h64 : 64 < l.length
  · have i1 : (64 : Int) < (l.length : Int) := by omega
    have hR : Hid (checkL l = 16) := by show _ = _; rw [HC.out, if_pos h64]
    clear h64 HC
    go_enter Try.func31, Try.ntmps31
    go_wp2
    go_ret
    exact ⟨by rw [hR.out] <;> rfl, Below.refl _ _⟩
  have i1 : ¬ (64 : Int) < (l.length : Int) := by omega
  have HC2 : Hid (checkL l = if scanE l ≠ 0 then scanE l else if risesT (l.map (·.name)) = true then 0 else 18) := by show _ = _; rw [HC.out, if_neg h64]
  have HS0 : Hid (scanE (l.drop 0) = scanE l) := rfl
  generalize checkL l = R at *
  generalize scanE l = SE at *
  clear HC h64
  go_enter Try.func31, Try.ntmps31
  go_upto_block 0 with (fail)
  go_cut [3] (fun _ wx => SE = 0 ∧ wx = w)
  case first =>
    go_wp2
    go_loopw [3] (fun i wr => ∃ j : Nat, j ≤ l.length ∧ i = .int .i64 j ∧ Hid (scanE (l.drop j) = SE) ∧ Hid (wr = w)) (fun i _ => l.length - (intOf i).toNat)
    case atStart => exact ⟨0, Nat.zero_le _, rfl, HS0, Lib.hid rfl⟩
    case round =>
      obtain ⟨j, hj, rfl, hE, hwr⟩ := hrel
      have hwr := hwr.out
      subst hwr
      have j0 : (0 : Int) ≤ (j : Int) := by omega
      have jb : IntKind.i64.wrap ((j : Int) + 1) = (j : Int) + 1 := IntWalk.i64_in _ (by have := HL.out; omega)
      clear HS0
      by_cases hlt : j < l.length
      · have j1 : (j : Int) < (l.length : Int) := by omega
        have s1 := hr.elemSome (s := 37) (abts37 HOK.out) (by decide) (i := j) (by simpa using hlt)
        have hxo := HOK.out _ (List.getElem_mem hlt)
        have hxl := HLN.out _ (List.getElem_mem hlt)
        have q1 := abt_cell hr HOK.out hlt (abtC_0 l[j])
        have q2 := cell_fld (abt_cell hr HOK.out hlt (abtC_33 hxo))
        rw [addr_add0] at q1
        unfold strV at q1
        have hE2 : Hid ((if nameB l[j].name = true then (if timelyB l[j].time = true then scanE (l.drop (j + 1)) else 2) else 7) = SE) := by
          show _ = _
          rw [← hE.out, List.drop_eq_getElem_cons hlt]; rfl
        have hnm := fun w' => rname_any l[j].name w' (by omega)
        have htm := fun w' => rtimely_any l[j].time w'
        generalize l[j] = x at *
        clear hE hxl hxo
        generalize nameB x.name = nb at *
        cases nb
        · have hE3 : Hid (7 = SE) := hE2.out
          have hR : Hid (R = 7) := by show _ = _; rw [HC2.out, ← hE3.out]; rfl
          clear hE2 HC2 hE3
          go_wp2_with fail
          refine (hnm _).mono ?_
          rintro e w2 ⟨rfl, hw2⟩
          subst hw2
          go_wp2
          go_ret
          exact ⟨by rw [hR.out] <;> rfl, Below.refl _ _⟩
        · have hE3 : Hid ((if timelyB x.time = true then scanE (l.drop (j + 1)) else 2) = SE) := hE2.out
          clear hE2
          go_wp2_with fail
          refine (hnm _).mono ?_
          rintro e w2 ⟨rfl, hw2⟩
          subst hw2
          generalize timelyB x.time = tb at *
          cases tb
          · have hE4 : Hid (2 = SE) := hE3.out
            have hR : Hid (R = 2) := by show _ = _; rw [HC2.out, ← hE4.out]; rfl
            clear hE3 HC2 hE4
            go_wp2_with fail
            refine (htm _).mono ?_
            rintro e w3 ⟨rfl, hw3⟩
            subst hw3
            go_wp2
            go_ret
            exact ⟨by rw [hR.out] <;> rfl, Below.refl _ _⟩
          · have hE4 : Hid (scanE (l.drop (j + 1)) = SE) := hE3.out
            clear hE3
            go_wp2_with fail
            refine (htm _).mono ?_
            rintro e w3 ⟨rfl, hw3⟩
            subst hw3
            go_wp2
            first
              | exact ⟨⟨j + 1, by omega, (by first | rfl | go_num | (congr 1; omega)), hE4, (by first | exact Lib.hid rfl | exact Lib.hid trivial)⟩, by simp [intOf] <;> omega⟩
              | (refine ⟨?_, by simp [intOf] <;> omega⟩; (repeat apply Exists.intro); exact ⟨⟨j + 1, by omega, (by first | rfl | go_num | (congr 1; omega)), hE4, (by first | exact Lib.hid rfl | exact Lib.hid trivial)⟩, rfl⟩)
      · have hSE : SE = 0 := by rw [← hE.out, List.drop_eq_nil_of_le (by omega)]; rfl
        have j1 : ¬ (j : Int) < (l.length : Int) := by omega
        have hh := Lib.hid hSE
        clear hSE
        go_wp2
        go_meet
        exact ⟨hh.out, rfl⟩
  case rest =>
    obtain ⟨hSE, hwc⟩ := hcut
    subst hwc
    have HR : Hid (R = if risesT (l.map (·.name)) = true then 0 else 18) := by show _ = _; rw [HC2.out, if_neg (by rw [hSE]; simp)]
    clear HC2 hSE HS0
    go_wp2
    go_loopw [4] (fun i wr => ∃ j : Nat, 1 ≤ j ∧ j ≤ l.length + 1 ∧ i = .int .i64 j ∧ Hid (risesT ((l.map (·.name)).take j) = true) ∧ Hid (∃ n, wr = wc.drewN n)) (fun i _ => l.length + 1 - (intOf i).toNat)
    case atStart => exact ⟨1, Nat.le_refl _, by omega, rfl, Lib.hid (risesT_one _), Lib.hid ⟨0, by rw [World.drewN_zero]⟩⟩
    case round =>
      obtain ⟨j, hj1, hj, rfl, hri, hwr⟩ := hrel
      obtain ⟨nn, hwr⟩ := hwr.out
      have j0 : (0 : Int) ≤ (j : Int) := by omega
      have jb : IntKind.i64.wrap ((j : Int) + 1) = (j : Int) + 1 := IntWalk.i64_in _ (by have := HL.out; omega)
      by_cases hlt : j < l.length
      · have j1 : (j : Int) < (l.length : Int) := by omega
        have hrw : Row wr a (l.map abtC).flatten := by rw [hwr]; exact hr.drewN nn
        obtain ⟨k, hk⟩ : ∃ k, k = j - 1 := ⟨_, rfl⟩
        have hkl : k < l.length := by omega
        have im : IntKind.i64.wrap ((j : Int) - 1) = (k : Int) := by rw [IntWalk.i64_in _ (by have := HL.out; omega)]; omega
        have k0 : (0 : Int) ≤ (k : Int) := by omega
        have k1 : (k : Int) < (l.length : Int) := by omega
        have s1 := hrw.elemSome (s := 37) (abts37 HOK.out) (by decide) (i := j) (by simpa using hlt)
        have q1 := abt_cell hrw HOK.out hlt (abtC_0 l[j])
        have q2 := abt_cell hrw HOK.out hkl (abtC_0 l[k])
        have hbF : Hid (∀ n, Below wc.heap.size wc (wr.drewN n)) := fun n => by rw [hwr, World.drewN_drewN]; exact Below.drewN (Below.refl _ _) _
        have hNX : Hid (∀ n, ∃ m, wr.drewN n = wc.drewN m) := fun n => ⟨nn + n, by rw [hwr, World.drewN_drewN]⟩
        have hRT : Hid (risesT ((l.map (·.name)).take (j + 1)) = !leT (l[j]).name (l[k]).name) := by
          show _ = _
          obtain rfl : j = k + 1 := by omega
          rw [risesT_take _ k (by simpa using hlt), hri.out]
          simp
        have hNR : Hid (risesT ((l.map (·.name)).take (j + 1)) = false → risesT (l.map (·.name)) = false) := risesT_not
        unfold strV at q1 q2
        rw [addr_add0] at q1 q2
        generalize l[j].name = y at *
        generalize l[k].name = z at *
        clear hk hwr hrw hri
        go_wp2
        go_quiet (fail)
        have HLT : Hid (leT y z = (Op.bytesLess (str y).toList (str z).toList || (str y).toList == (str z).toList)) := rfl
        have fin18 : Hid (leT y z = true → R = 18) := fun h => by
          rw [HR.out, if_neg]
          rw [hNR.out (by rw [hRT.out, h]; rfl)]; decide
        have fin0 : Hid (leT y z = false → risesT ((l.map (·.name)).take (j + 1)) = true) := fun h => by rw [hRT.out, h]; rfl
        have hnx := Lib.hid (hNX.out nq)
        clear hRT hNR hNX HR
        obtain ⟨gg, hgg⟩ : ∃ gg : Bool, gg = (Op.bytesLess (str y).toList (str z).toList || (str y).toList == (str z).toList) := ⟨_, rfl⟩
        rw [← hgg] at HLT ⊢
        clear hgg q1 q2
        cases gg
        · have hri2 := Lib.hid (fin0.out HLT.out)
          clear fin18 fin0 HLT hbF
          go_wp2
          first
            | exact ⟨⟨j + 1, by omega, by omega, (by first | rfl | go_num | (congr 1; omega)), hri2, hnx⟩, by simp [intOf] <;> omega⟩
            | (refine ⟨?_, by simp [intOf] <;> omega⟩; (repeat apply Exists.intro); exact ⟨⟨j + 1, by omega, by omega, (by first | rfl | go_num | (congr 1; omega)), hri2, hnx⟩, rfl⟩)
        · have hR := Lib.hid (fin18.out HLT.out)
          clear fin18 fin0 HLT hnx
          go_wp2
          go_ret
          exact ⟨by rw [hR.out] <;> rfl, hbF.out nq⟩
      · have hR : Hid (R = 0) := by
          show _ = _
          have h := hri.out
          rw [List.take_of_length_le (by simp; omega)] at h
          rw [HR.out, if_pos h]
        have hbF : Below wc.heap.size wc wr := by rw [hwr]; exact Below.drewN (Below.refl _ _) _
        have j1 : ¬ (j : Int) < (l.length : Int) := by omega
        clear hri HR hwr
        go_wp2
        go_ret
        exact ⟨by rw [hR.out] <;> rfl, hbF⟩
end Go.Proofs.Ytakliplkabgmbaa
