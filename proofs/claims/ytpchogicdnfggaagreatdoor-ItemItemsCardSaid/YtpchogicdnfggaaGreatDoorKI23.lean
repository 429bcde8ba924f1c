/- Joined: what one statement of this layer stands on, part 23 of 26; nothing is assumed. -/
import Derived.Deep.CutBlock
import Derived.Test.YtpchogicdnfggaaGreatDoorKI22
set_option maxRecDepth 20000
namespace Go.Proofs.YtpchogicdnfggaaGreatDoor
open Go.RowKit Go.Hd
attribute [local go_sem ↓] h_ldV h_stV h_alV h_bsV
attribute [local go_sem] r_ldV r_stV r_alV r_bsV

/-- What Value answers, at a depth (the step of an induction). -/
def RValH (d : Nat) : Prop := ∀ (B g : Nat) (L : List UInt8) (w : World) (s : Rs Unit) (D : Int), D = 17 - (d : Int) → RRs B w g L s → B ≤ w.heap.size → Calls Tryz.prog 32 #[.pointer (some ⟨g, 0, none⟩), .int .i64 D] w (RValP B g L w (s.bind fun _ r => decV d r))
set_option maxHeartbeats 4000000 in
theorem rrlist_any {d : Nat} (hd : d ≤ 16) (HV : RValH d) {B g n : Nat} {L : List UInt8} {w : World} {s : Rs Unit} (h : RRs B w g L s) (hB : B ≤ w.heap.size) (hn : n ≤ 65536) :
    Calls Tryz.prog 57 #[.pointer (some ⟨g, 0, none⟩), .int .i64 (n : Int), .int .i64 (16 - (d : Int))] w (RValP B g L w (s.bind fun _ r => (listR (decV d) n r).bind fun l r2 => .ok (pList l) r2)) := by
  have hg1 := h.lt
  have zs := zV_size
  have hO6 := oneC6
  have HR : Hid ((s.bind fun _ r => (listR (decV d) n r).bind fun l r2 => .ok (pList l) r2) = (restR (decV d) n (s.bind fun _ r => .ok [] r)).bind fun l r2 => .ok (pList l) r2) := by
    show _ = _
    unfold restR
    cases s with
    | no c => rfl
    | ok x r =>
      simp only [Rs.bind_ok, List.nil_append]
      cases listR (decV d) n r <;> rfl
  obtain ⟨W, hW⟩ : ∃ W, W = (w.alloc (.cells zV 50)).alloc (.cells (List.toArray (α := Value) [.int .i64 6, .int .i64 0, .slice none 0 0, .string { data := #[] }, .slice none 0 0, .slice none 0 0]) 50) := ⟨_, rfl⟩
  have hbW : Below w.heap.size w W := by rw [hW]; exact ((Below.refl _ _).alloc (Nat.le_refl _) _).alloc (by simp) _
  have R0 : Blk W w.heap.size 50 zV.toList := by rw [hW]; exact (Blk.new w 50 zV).alloc _
  have B0 : Blk W (w.heap.size + 1) 50 [.int .i64 6, .int .i64 0, .slice none 0 0, strV [], .slice none 0 0, .slice none 0 0] := by
    have := Blk.new (w.alloc (.cells zV 50)) 50 (List.toArray (α := Value) [.int .i64 6, .int .i64 0, .slice none 0 0, .string { data := #[] }, .slice none 0 0, .slice none 0 0])
    rw [drew_alloc_size, ← hW] at this
    exact this
  have hWs : W.heap.size = w.heap.size + 2 := by rw [hW]; simp
  have hI0 : RJ B g L w W 6 (.slice none 0 0) (.slice none 0 0) [] [] (s.bind fun _ r => .ok ([] : List PV) r) :=
    ⟨R0, VB.new (b := []) (t := []) B0 (Nat.le_refl _) (by omega) (by unfold in64; omega) (by unfold in64; omega) (Nat.zero_le _) ⟨Nat.le_refl _, Nat.zero_le _⟩ (Row.nil _ _) (by simp), (h.keep hbW).cast (fun _ _ hh => by cases s <;> exact hh), Dk.ofBelow hbW⟩
  have hgot0 : ∀ ps r, (s.bind fun _ r => .ok ([] : List PV) r) = .ok ps r → ([] : List PV) = ps := fun ps r hv => by cases s <;> cases hv; rfl
  generalize (s.bind fun _ r => (listR (decV d) n r).bind fun l r2 => .ok (pList l) r2) = R at *
  generalize (s.bind fun _ r => (.ok [] r : Rs (List PV))) = T0 at *
  have HVd := Lib.hid HV
  have HW := Lib.hid hWs
  have HD := Lib.hid hd
  have wd : IntKind.i64.wrap ((16 : Int) - (d : Int) + 1) = 17 - (d : Int) := by rw [IntWalk.i64_in _ (by omega)]; omega
  clear HV hWs h R0 B0 hbW hd
  generalize (16 : Int) - (d : Int) = D at *
  go_enter Tryz.func57, Tryz.ntmps57
  go_upto_region 2 with (fail)
  rw [← hW]
  clear hW
  go_upto_block 0 with (fail)
  go_cut [8] (fun _ wx => ∃ (vs : List PV) (uK uL : Value) (T : Rs (List PV)), RJ B g L w wx 6 uK uL [] vs T ∧ (∀ ps r, T = .ok ps r → vs = ps) ∧ R = T.bind fun ps r2 => .ok (pList ps) r2)
  case first =>
    go_wp2
    go_loopw [8] (fun i wr => ∃ (j : Nat) (vs : List PV) (uK uL : Value) (T : Rs (List PV)), j ≤ n ∧ i = .int .i64 j ∧ vs.length = j ∧ RJ B g L w wr 6 uK uL [] vs T ∧ (∀ ps r, T = .ok ps r → vs = ps) ∧ R = (restR (decV d) (n - j) T).bind fun ps r2 => .ok (pList ps) r2) (fun i _ => n - (intOf i).toNat)
    case atStart => exact ⟨0, [], _, _, T0, Nat.zero_le _, rfl, rfl, hI0, hgot0, HR.out⟩
    case round =>
      clear hI0 HR hgot0
      obtain ⟨j, vs, uK, uL, T, hj, rfl, hvl, hI, hgot, hR⟩ := hrel
      have HVL := Lib.hid hvl
      have HGOT := Lib.hid hgot
      have HR := Lib.hid hR
      clear hR hvl hgot
      by_cases hlt : j < n
      · have j1 : (j : Int) < (n : Int) := by omega
        cases T with
        | no cc =>
          obtain ⟨q1, q2⟩ := hI.st.noC
          have e1 : (cc == 0) = false := by simpa using q2
          go_wp2
          go_meet
          exact ⟨vs, uK, uL, _, hI, HGOT.out, by rw [HR.out, restR_no]⟩
        | ok v0 r =>
          have q1 := hI.st.ok0
          have HSTEP : Hid (R = (restR (decV d) (n - (j + 1)) (stepR (decV d) (.ok v0 r))).bind fun ps r2 => .ok (pList ps) r2) := by
            show _ = _
            rw [HR.out, show n - j = (n - (j + 1)) + 1 by omega, restR_succ]
          have hId := hI.drew
          have hval := HVd.out B g L _ _ (17 - (d : Int)) rfl hId.st.unit (Nat.le_trans hB hId.dk.size)
          have q5 : wr.cell? ⟨w.heap.size + 1, 5, none⟩ = some uL := hI.vb.blk.cell rfl
          have HIK := Lib.hid hId
          clear HR hI hId
          go_upto_region 5 with (fail)
          go_region_law ((first
            | (go_simp; go_at_call 32; refine hval.mono ?_; rintro e7 w7 ⟨cs7, v7, rfl, hv7, hv70, hP7, hk7⟩; have hI7 := RJ.call HIK.out hg1 hP7 hk7; obtain ⟨a8, c8, w8, hrun8, d8, f8, hVB8, hG8, hGs8⟩ := VB.stepL (ty := 48) hI7.vb (hv7.mono (fun z hz _ => fresh_okB HIK.out.vb hz)) (by have := HVL.out; omega); have q7 : w7.cell? ⟨w.heap.size + 1, 5, none⟩ = some uL := hI7.vb.blk.cell rfl; have hql7 := hI7.vb.blk.lt; have q7b : (w7.alloc (.cells (List.toArray cs7) 50)).cell? ⟨w.heap.size + 1, 5, none⟩ = some uL := Eq.trans (((Below.refl w7.heap.size w7).alloc (Nat.le_refl _) (.cells (List.toArray cs7) 50)).cell hql7) q7; have x6 : (List.toArray cs7).size = 6 := hv7.len)
            | (refine step_append_run hrun8 rfl rfl rfl rfl ?_)))
          all_goals
            have hI9 := RJ.after hI7 hB hg1 (.inr hG8) hVB8
            have hI10 : RJ B g L w (w8.setCell ⟨w.heap.size + 1, 5, none⟩ (.slice a8 (vs.length + 1) c8)) 6 uK (.slice a8 (vs.length + 1) c8) [] (vs ++ [v7]) (stepR (decV d) (.ok v0 r)) := hI9.cast (fun p e hh => by
              unfold stepR
              have hh : RSst (decV d r) L p e := hh
              rw [Rs.bind_ok]
              cases hd : decV d r with
              | no c => rw [hd] at hh; exact hh
              | ok v r3 => rw [hd] at hh; exact hh)
            have hgot : ∀ ps2 r2, stepR (decV d) (.ok v0 r) = .ok ps2 r2 → vs ++ [v7] = ps2 := fun ps2 r2 h => by
              unfold stepR at h
              rw [Rs.bind_ok] at h
              cases hd : decV d r with
              | no c => rw [hd] at h; cases h
              | ok v r4 =>
                rw [hd] at h
                cases h
                have e2 := hv70 v r2 (by show decV d r = _; exact hd)
                rw [HGOT.out v0 r rfl, e2]
            have hl2 : (vs ++ [v7]).length = j + 1 := by have := HVL.out; simp; omega
            have HL12 := Lib.hid hl2
            have HGG := Lib.hid hgot
            have jb : IntKind.i64.wrap ((j : Int) + 1) = (j : Int) + 1 := IntWalk.i64_in _ (by omega)
            clear hl2 hgot hI9 hI7 hrun8 d8 f8 hVB8 hG8 hGs8 q7 q7b hql7 hP7 hk7 hv7 hv70 hval q5 x6
            go_wp2
            first
              | exact ⟨⟨j + 1, vs ++ [v7], _, _, _, by omega, (by first | rfl | go_num | (congr 1; omega)), HL12.out, hI10, HGG.out, HSTEP.out⟩, by simp [intOf] <;> omega⟩
              | (refine ⟨?_, by simp [intOf] <;> omega⟩; (repeat apply Exists.intro); exact ⟨⟨j + 1, vs ++ [v7], _, _, _, by omega, (by first | rfl | go_num | (congr 1; omega)), HL12.out, hI10, HGG.out, HSTEP.out⟩, rfl⟩)
      · obtain rfl : j = n := by omega
        go_wp2
        go_meet
        refine ⟨vs, uK, uL, T, hI, HGOT.out, ?_⟩
        have hr := HR.out
        rw [Nat.sub_self, restR_zero] at hr
        exact hr
  case rest =>
    clear hI0 hgot0 HR
    obtain ⟨vs, uK, uL, T, hI, hgot, hR⟩ := hcut
    obtain ⟨q1, a1, a2, HV⟩ := RJ.done (R := R) hI hB hg1 (fun p e hh => by rw [hR]; cases T <;> exact hh) (fun v0 r hv => by
      rw [hR] at hv
      cases T with
      | no c => cases hv
      | ok ps r' => cases hv; rw [hgot _ _ rfl]; rfl)
    clear hI hgot hR
    generalize strV [] = sT at *
    go_wp2
    exact bodyPost_ret (results_cell_row (fn := Tryz.f57) (by rfl) _ _ w.heap.size 50 _ (0, 0) _ (by rfl) a2 Tryz.underlying50 rfl sizeV) rfl HV.out
end Go.Proofs.YtpchogicdnfggaaGreatDoor
