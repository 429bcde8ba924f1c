/- Joined: what one statement of this layer stands on, part 10 of 25; nothing is assumed. -/
import Derived.BigQuiet
import Derived.Test.YtakliplkabgmbaaKR8
import Derived.Test.YtakliplkabgmbaaKR9
set_option maxRecDepth 20000
namespace Go.Proofs.Ytakliplkabgmbaa
open Go.RowKit Go.Hd
attribute [local go_sem ↓] h_ldV h_stV h_alV
attribute [local go_sem] r_ldV r_stV r_alV
def findK : List (List UInt8) → List PV → List UInt8 → Option PV
  | k :: ks, v :: vs, key => if k = key then some v else findK ks vs key
  | _, _, _ => none
def fldV (v : PV) (key : List UInt8) : PV := if v.kind = 7 then (findK v.keys v.list key).getD pv0 else pv0
def getV (v : PV) (key : List UInt8) : PV := if v.kind = 7 then ((findK v.keys v.list key).map normV).getD pv0 else pv0
theorem findK_step {ks : List (List UInt8)} {vs : List PV} {key : List UInt8} {j : Nat} (h1 : j < ks.length) (h2 : ¬ (ks[j] = key ∧ j < vs.length)) : findK (ks.drop j) (vs.drop j) key = findK (ks.drop (j + 1)) (vs.drop (j + 1)) key := by
  rw [List.drop_eq_getElem_cons h1]
  by_cases hv : j < vs.length
  · rw [List.drop_eq_getElem_cons hv, findK, if_neg (fun e => h2 ⟨e, hv⟩)]
  · rw [List.drop_of_length_le (l := vs) (i := j) (by omega), List.drop_of_length_le (l := vs) (i := j + 1) (by omega)]
    cases ks.drop (j + 1) <;> rfl
theorem findK_hit {ks : List (List UInt8)} {vs : List PV} {key : List UInt8} {j : Nat} (h1 : j < ks.length) (h2 : j < vs.length) (h : ks[j] = key) : findK (ks.drop j) (vs.drop j) key = some vs[j] := by
  rw [List.drop_eq_getElem_cons h1, List.drop_eq_getElem_cons h2, findK, if_pos h]
theorem findK_end {ks : List (List UInt8)} {vs : List PV} {key : List UInt8} : findK (ks.drop ks.length) (vs.drop ks.length) key = none := by
  rw [List.drop_length]; cases vs.drop ks.length <;> rfl
theorem fldV_mk (k n : Int) (b t : List UInt8) (ks : List (List UInt8)) (l : List PV) (key : List UInt8) : fldV (.mk k n b t ks l) key = if k = 7 then (findK ks l key).getD pv0 else pv0 := rfl
theorem getV_mk (k n : Int) (b t : List UInt8) (ks : List (List UInt8)) (l : List PV) (key : List UInt8) : getV (.mk k n b t ks l) key = if k = 7 then ((findK ks l key).map normV).getD pv0 else pv0 := rfl
def ResP (w : World) (r : Nat) (W : World) (c2 : List Value) (v : PV) : Prop :=
  ∃ W2, (stoOp 63 (.pointer (some ⟨r, 0, none⟩)) (.agg c2.toArray)).run Try.prog W = .ok () W2 ∧ Blk W2 r 63 c2 ∧ VAtP (fun b => w.heap.size ≤ b) W2 c2 v ∧ Below w.heap.size w W2
theorem res_any {w W : World} {r : Nat} {old cs : List Value} {v : PV} (hR : Blk W r 63 old) (ho : old.length = 6) (hr : w.heap.size ≤ r) (hv : VAtP (fun b => w.heap.size ≤ b ∧ b ≠ r) W cs v) (hb : Below w.heap.size w W) : ResP w r W cs v := by
  have h6 := hv.len
  have hgr := setRow_gr W r cs.toArray
  refine ⟨W.setRow r cs.toArray, st_row hR ho cs.toArray (by simpa using h6) (by exact all_oneCell_toArray hv.one), setRow_blk hR cs, ?_, ?_⟩
  · exact (hv.same (w' := W.setRow r cs.toArray) (fun b hb hlt => hgr.block b hlt (by simp; omega))).mono (fun b hb _ => by omega)
  · exact hb.trans ⟨hgr.os, hgr.tape, hgr.output, hgr.size, fun k hk => hgr.block k (Nat.lt_of_lt_of_le hk hb.size) (by simp; omega)⟩
theorem res_zero {w W : World} {r : Nat} {old : List Value} (hR : Blk W r 63 old) (ho : old.length = 6) (hr : w.heap.size ≤ r) (hb : Below w.heap.size w W) : ResP w r W [.int .i64 0, .int .i64 0, .slice none 0 0, .string { data := #[] }, .slice none 0 0, .slice none 0 0] pv0 :=
  res_any hR ho hr (VAtP.plain (k := 0) (n := 0) (t := []) _ (by unfold in64; omega) (by unfold in64; omega) (Nat.zero_le _)) hb
def GetP (w : World) (v : PV) (e : Ending) (w' : World) : Prop := ∃ ds f, e = .returned (.tuple #[.agg (List.toArray ds), .bool f]) ∧ VAtP (fun b => w.heap.size ≤ b) w' ds v ∧ Below w.heap.size w w'
set_option maxHeartbeats 1000000 in
theorem vget_any {w0 : World} {cs : List Value} {v : PV} (key : List UInt8) (h : VAt w0 cs v) (hsm : Sm v) (w : World) (hbw : Below w0.heap.size w0 w) : Calls Try.prog 39 #[.agg cs.toArray, .string (str key)] w (GetP w (getV v key)) := by
  cases h with
  | @mk k n b t ks l ab ak al cb ck cl css hk hn hb hbc ht hks hkc hkt hl hlc hcs h6 sub =>
  have hsz := hbw.size
  obtain ⟨s1, s2, s3, s4⟩ := hsm.parts
  obtain ⟨box, hbox⟩ : ∃ box : List Value, box = [.int .i64 k, .int .i64 n, .slice ab b.length cb, strV t, .slice ak ks.length ck, .slice al l.length cl] := ⟨_, rfl⟩
  have hall : Hid (∀ W, W = (w.alloc (.cells (List.toArray (α := Value) box) 63)).alloc (.cells zV 63) → Blk W w.heap.size 63 box ∧ Blk W (w.heap.size + 1) 63 zV.toList ∧ Below w.heap.size w W ∧ W.heap.size = w.heap.size + 2) := by
    rintro W rfl
    refine ⟨?_, ?_, ((Below.refl _ _).alloc (Nat.le_refl _) _).alloc (by simp) _, by simp⟩
    · simpa using (Blk.new w 63 box.toArray).alloc (.cells zV 63)
    · have := Blk.new (w.alloc (.cells (List.toArray (α := Value) box) 63)) 63 zV
      simpa using this
  have zs := zV_size
  have hO6 := oneC6
  rw [← hbox]
  have HB := Lib.hid hbox
  clear hbox
  go_enter Try.func39, Try.ntmps39
  go_upto_region 1 with (fail)
  generalize hW : (w.alloc (.cells (List.toArray (α := Value) box) 63)).alloc (.cells zV 63) = W at *
  obtain ⟨A0, R0, hbW, S0⟩ := hall.out W rfl
  clear hall hW
  have a0 : W.cell? ⟨w.heap.size, 0, none⟩ = some (.int .i64 k) := A0.cell (by rw [HB.out]; rfl)
  have a4 : W.cell? ⟨w.heap.size, 4, none⟩ = some (.slice ak ks.length ck) := A0.cell (by rw [HB.out]; rfl)
  have a5 : W.cell? ⟨w.heap.size, 5, none⟩ = some (.slice al l.length cl) := A0.cell (by rw [HB.out]; rfl)
  obtain ⟨Wz, z1, z2, z3, z4⟩ := res_zero R0 (by rfl) (by omega) hbW
  by_cases h7 : k = 7
  · subst h7
    have HG : Hid (getV (.mk 7 n b t ks l) key = ((findK ks l key).map normV).getD pv0) := by show _ = _; rw [getV_mk, if_pos rfl]
    have j65 : (ks.length : Int) ≤ 65536 := by omega
    go_wp2
    go_loopw [15] (fun i wr => ∃ j : Nat, j ≤ ks.length ∧ i = .int .i64 j ∧ wr = W ∧ Hid (findK ks l key = findK (ks.drop j) (l.drop j) key)) (fun i _ => ks.length - (intOf i).toNat)
    case atStart => exact ⟨0, Nat.zero_le _, rfl, rfl, Lib.hid (by rw [List.drop_zero, List.drop_zero])⟩
    case round =>
      obtain ⟨j, hj, rfl, rfl, hF⟩ := hrel
      have j0 : (0 : Int) ≤ (j : Int) := by omega
      have jb : IntKind.i64.wrap ((j : Int) + 1) = (j : Int) + 1 := IntWalk.i64_in _ (by omega)
      by_cases hlt : j < ks.length
      · have j1 : (j : Int) < (ks.length : Int) := by omega
        have hkW := hks.below (hbw.trans (hbW.mono hsz))
        have s5 := hkW.isSome (i := j) (by simpa using hlt)
        have c5 : wr.cell? ((hd ak).add j) = some (.string (str ks[j])) := hkW.cell (i := j) (u := strV ks[j]) (by simp [hlt])
        have hsb := str_beq ks[j] key
        by_cases hhit : ks[j] = key ∧ j < l.length
        · obtain ⟨hk1, hk2⟩ := hhit
          have hk3 : ((str ks[j]).toList == (str key).toList) = true := by rw [hsb]; simpa using hk1
          have j2 : (j : Int) < (l.length : Int) := by omega
          have hr2 := hl.below (hbw.trans (hbW.mono hsz))
          have s6 := hr2.elemSome (s := 6) h6 (by decide) (i := j) (by omega)
          have hxc := sub j css[j] l[j] (by simp [hcs, hk2]) (by simp [hk2])
          have q1 := ldOp_at (P := Try.prog) (ty := 63) (hr2.elem (s := 6) h6 (i := j) (c := css[j]) (by simp [hcs, hk2])) Try.underlying63 rfl (by rw [hxc.len]; exact sizeV)
          have HE : Hid (getV (.mk 7 n b t ks l) key = normV l[j]) := by show _ = _; rw [HG.out, hF.out, findK_hit hlt hk2 hk1]; rfl
          have hcl := vclone_any hxc wr (hbw.trans (hbW.mono hsz)) (s4 _ (List.getElem_mem hk2))
          clear HG hF hsb hr2
          generalize ks[j] = kj at *
          generalize l[j] = x at *
          generalize css[j] = cx at *
          go_wp2_with fail
          refine hcl.mono ?_
          rintro e w2 ⟨ds, rfl, hds, hb2⟩
          obtain ⟨W2, y1, y2, y3, y4⟩ := res_any (w := w) (R0.below hb2) (by rfl) (by omega) (hds.mono (fun b hb _ => by omega)) (hbW.trans (hb2.mono hbW.size))
          have hd6 : (List.toArray ds).size = 6 := by simpa using hds.len
          go_wp2
          refine bodyPost_ret (results_cell_tmp (fn := Try.f39) (p := 4) (t := 5) (by rfl) _ _ (w.heap.size + 1) 63 _ (0, 0) _ (by rfl) y2 Try.underlying63 rfl (by rw [hd6]; exact sizeV)) rfl ⟨_, _, rfl, by rw [HE.out]; exact y3, y4⟩
        · have HF2 : Hid (findK ks l key = findK (ks.drop (j + 1)) (l.drop (j + 1)) key) := hF.out.trans (findK_step hlt hhit)
          by_cases hk1 : ks[j] = key
          · have hk3 : ((str ks[j]).toList == (str key).toList) = true := by rw [hsb]; simpa using hk1
            have j2 : ¬ (j : Int) < (l.length : Int) := fun h => hhit ⟨hk1, by omega⟩
            clear hhit hsb
            generalize ks[j] = kj at *
            go_wp2
            first
              | exact ⟨⟨j + 1, by omega, (by first | rfl | go_num | (congr 1; omega)), (by first | rfl | trivial), HF2⟩, by simp [intOf] <;> omega⟩
              | (refine ⟨?_, by simp [intOf] <;> omega⟩; (repeat apply Exists.intro); exact ⟨⟨j + 1, by omega, (by first | rfl | go_num | (congr 1; omega)), (by first | rfl | trivial), HF2⟩, rfl⟩)
          · have hk3 : ((str ks[j]).toList == (str key).toList) = false := by rw [hsb]; simpa using hk1
            clear hhit hsb
            generalize ks[j] = kj at *
            go_wp2
            first
              | exact ⟨⟨j + 1, by omega, (by first | rfl | go_num | (congr 1; omega)), (by first | rfl | trivial), HF2⟩, by simp [intOf] <;> omega⟩
              | (refine ⟨?_, by simp [intOf] <;> omega⟩; (repeat apply Exists.intro); exact ⟨⟨j + 1, by omega, (by first | rfl | go_num | (congr 1; omega)), (by first | rfl | trivial), HF2⟩, rfl⟩)
      · obtain rfl : j = ks.length := by omega
        have j1 : ¬ (ks.length : Int) < (ks.length : Int) := by omega
        have HE : Hid (getV (.mk 7 n b t ks l) key = pv0) := by show _ = _; rw [HG.out, hF.out, findK_end]; rfl
        go_wp2
        refine bodyPost_ret (results_cell_tmp (fn := Try.f39) (p := 4) (t := 5) (by rfl) _ _ (w.heap.size + 1) 63 _ (0, 0) _ (by rfl) z2 Try.underlying63 rfl sizeV) rfl ⟨_, _, rfl, by rw [HE.out]; exact z3, z4⟩
  · have t7 : (k != 7) = true := by simpa using h7
    have HE : Hid (getV (.mk k n b t ks l) key = pv0) := by show _ = _; rw [getV_mk, if_neg h7]
    go_wp2
    refine bodyPost_ret (results_cell_tmp (fn := Try.f39) (p := 4) (t := 5) (by rfl) _ _ (w.heap.size + 1) 63 _ (0, 0) _ (by rfl) z2 Try.underlying63 rfl sizeV) rfl ⟨_, _, rfl, by rw [HE.out]; exact z3, z4⟩
end Go.Proofs.Ytakliplkabgmbaa
set_option maxRecDepth 20000
namespace Go.Proofs.Ytakliplkabgmbaa
open Go.RowKit Go.Hd
attribute [local go_sem ↓] h_ldV h_stV h_alV
attribute [local go_sem] r_ldV r_stV r_alV
def ResA (w : World) (r : Nat) (W : World) (c2 : List Value) (v : PV) : Prop :=
  ∃ W2, (stoOp 63 (.pointer (some ⟨r, 0, none⟩)) (.agg c2.toArray)).run Try.prog W = .ok () W2 ∧ Blk W2 r 63 c2 ∧ VAt W2 c2 v ∧ Below w.heap.size w W2
theorem resA_any {w W : World} {r : Nat} {old cs : List Value} {v : PV} (hR : Blk W r 63 old) (ho : old.length = 6) (hr : w.heap.size ≤ r) (hv : VAt w cs v) (hb : Below w.heap.size w W) : ResA w r W cs v := by
  have h6 := hv.len
  have hgr := setRow_gr W r cs.toArray
  have hb2 : Below w.heap.size w (W.setRow r cs.toArray) := hb.trans ⟨hgr.os, hgr.tape, hgr.output, hgr.size, fun k hk => hgr.block k (Nat.lt_of_lt_of_le hk hb.size) (by simp; omega)⟩
  exact ⟨W.setRow r cs.toArray, st_row hR ho cs.toArray (by simpa using h6) (by exact all_oneCell_toArray hv.one), setRow_blk hR cs, hv.keep hb2, hb2⟩
theorem resA_zero {w W : World} {r : Nat} {old : List Value} (hR : Blk W r 63 old) (ho : old.length = 6) (hr : w.heap.size ≤ r) (hb : Below w.heap.size w W) : ResA w r W [.int .i64 0, .int .i64 0, .slice none 0 0, .string { data := #[] }, .slice none 0 0, .slice none 0 0] pv0 :=
  resA_any hR ho hr (VAt.zero w) hb
def FldP (w : World) (v : PV) (e : Ending) (w' : World) : Prop := ∃ ds, e = .returned (.agg (List.toArray ds)) ∧ VAt w' ds v ∧ Below w.heap.size w w'
theorem findK_nil {ks : List (List UInt8)} {vs : List PV} {key : List UInt8} {j : Nat} (h : ¬ j < vs.length) : findK (ks.drop j) (vs.drop j) key = none := by
  rw [List.drop_of_length_le (l := vs) (by omega)]; cases ks.drop j <;> rfl
set_option maxHeartbeats 1000000 in
theorem field_any {w0 : World} {cs : List Value} {v : PV} (key : List UInt8) (h : VAt w0 cs v) (hsm : Sm v) (w : World) (hbw : Below w0.heap.size w0 w) : Calls Try.prog 43 #[.agg cs.toArray, .string (str key)] w (FldP w (fldV v key)) := by
  cases h with
  | @mk k n b t ks l ab ak al cb ck cl css hk hn hb hbc ht hks hkc hkt hl hlc hcs h6 sub =>
  have hsz := hbw.size
  obtain ⟨s1, s2, s3, s4⟩ := hsm.parts
  obtain ⟨box, hbox⟩ : ∃ box : List Value, box = [.int .i64 k, .int .i64 n, .slice ab b.length cb, strV t, .slice ak ks.length ck, .slice al l.length cl] := ⟨_, rfl⟩
  have hall : Hid (∀ W, W = (w.alloc (.cells (List.toArray (α := Value) box) 63)).alloc (.cells zV 63) → Blk W w.heap.size 63 box ∧ Blk W (w.heap.size + 1) 63 zV.toList ∧ Below w.heap.size w W ∧ W.heap.size = w.heap.size + 2) := by
    rintro W rfl
    refine ⟨?_, ?_, ((Below.refl _ _).alloc (Nat.le_refl _) _).alloc (by simp) _, by simp⟩
    · simpa using (Blk.new w 63 box.toArray).alloc (.cells zV 63)
    · have := Blk.new (w.alloc (.cells (List.toArray (α := Value) box) 63)) 63 zV
      simpa using this
  have zs := zV_size
  have hO6 := oneC6
  rw [← hbox]
  have HB := Lib.hid hbox
  clear hbox
  go_enter Try.func43, Try.ntmps43
  go_upto_region 1 with (fail)
  generalize hW : (w.alloc (.cells (List.toArray (α := Value) box) 63)).alloc (.cells zV 63) = W at *
  obtain ⟨A0, R0, hbW, S0⟩ := hall.out W rfl
  clear hall hW
  have a0 : W.cell? ⟨w.heap.size, 0, none⟩ = some (.int .i64 k) := A0.cell (by rw [HB.out]; rfl)
  have a4 : W.cell? ⟨w.heap.size, 4, none⟩ = some (.slice ak ks.length ck) := A0.cell (by rw [HB.out]; rfl)
  have a5 : W.cell? ⟨w.heap.size, 5, none⟩ = some (.slice al l.length cl) := A0.cell (by rw [HB.out]; rfl)
  obtain ⟨Wz, z1, z2, z3, z4⟩ := resA_zero R0 (by rfl) (by omega) hbW
  by_cases h7 : k = 7
  · subst h7
    have HG : Hid (fldV (.mk 7 n b t ks l) key = (findK ks l key).getD pv0) := by show _ = _; rw [fldV_mk, if_pos rfl]
    have j65 : (ks.length : Int) ≤ 65536 := by omega
    go_wp2
    go_loopw [5] (fun i wr => ∃ j : Nat, j ≤ ks.length ∧ i = .int .i64 j ∧ wr = W ∧ Hid (findK ks l key = findK (ks.drop j) (l.drop j) key)) (fun i _ => ks.length - (intOf i).toNat)
    case atStart => exact ⟨0, Nat.zero_le _, rfl, rfl, Lib.hid (by rw [List.drop_zero, List.drop_zero])⟩
    case round =>
      obtain ⟨j, hj, rfl, rfl, hF⟩ := hrel
      have j0 : (0 : Int) ≤ (j : Int) := by omega
      have jb : IntKind.i64.wrap ((j : Int) + 1) = (j : Int) + 1 := IntWalk.i64_in _ (by omega)
      by_cases hlt : j < ks.length
      · have j1 : (j : Int) < (ks.length : Int) := by omega
        have hkW := hks.below (hbw.trans (hbW.mono hsz))
        have s5 := hkW.isSome (i := j) (by simpa using hlt)
        have c5 : wr.cell? ((hd ak).add j) = some (.string (str ks[j])) := hkW.cell (i := j) (u := strV ks[j]) (by simp [hlt])
        have hsb := str_beq ks[j] key
        by_cases hk2 : j < l.length
        · have j2 : (j : Int) < (l.length : Int) := by omega
          by_cases hk1 : ks[j] = key
          · have hk3 : ((str ks[j]).toList == (str key).toList) = true := by rw [hsb]; simpa using hk1
            have hr2 := hl.below (hbw.trans (hbW.mono hsz))
            have s6 := hr2.elemSome (s := 6) h6 (by decide) (i := j) (by omega)
            have hxc := sub j css[j] l[j] (by simp [hcs, hk2]) (by simp [hk2])
            have q1 := ldOp_at (P := Try.prog) (ty := 63) (hr2.elem (s := 6) h6 (i := j) (c := css[j]) (by simp [hcs, hk2])) Try.underlying63 rfl (by rw [hxc.len]; exact sizeV)
            have HE : Hid (fldV (.mk 7 n b t ks l) key = l[j]) := by show _ = _; rw [HG.out, hF.out, findK_hit hlt hk2 hk1]; rfl
            clear HG hF hsb hr2
            generalize ks[j] = kj at *
            generalize l[j] = x at *
            generalize css[j] = cx at *
            obtain ⟨W2, y1, y2, y3, y4⟩ := resA_any (w := w) R0 (by rfl) (by omega) (hxc.keep hbw) hbW
            have hd6 : (List.toArray cx).size = 6 := by simpa using hxc.len
            go_wp2
            refine bodyPost_ret (results_cell_row (fn := Try.f43) (by rfl) _ _ (w.heap.size + 1) 63 _ (0, 0) _ (by rfl) y2 Try.underlying63 rfl (by rw [hd6]; exact sizeV)) rfl ⟨_, rfl, by rw [HE.out]; exact y3, y4⟩
          · have hk3 : ((str ks[j]).toList == (str key).toList) = false := by rw [hsb]; simpa using hk1
            have HF2 : Hid (findK ks l key = findK (ks.drop (j + 1)) (l.drop (j + 1)) key) := hF.out.trans (findK_step hlt (fun h => hk1 h.1))
            clear hsb
            generalize ks[j] = kj at *
            go_wp2
            first
              | exact ⟨⟨j + 1, by omega, (by first | rfl | go_num | (congr 1; omega)), (by first | rfl | trivial), HF2⟩, by simp [intOf] <;> omega⟩
              | (refine ⟨?_, by simp [intOf] <;> omega⟩; (repeat apply Exists.intro); exact ⟨⟨j + 1, by omega, (by first | rfl | go_num | (congr 1; omega)), (by first | rfl | trivial), HF2⟩, rfl⟩)
        · have j2 : ¬ (j : Int) < (l.length : Int) := by omega
          have HE : Hid (fldV (.mk 7 n b t ks l) key = pv0) := by show _ = _; rw [HG.out, hF.out, findK_nil hk2]; rfl
          go_wp2
          refine bodyPost_ret (results_cell_row (fn := Try.f43) (by rfl) _ _ (w.heap.size + 1) 63 _ (0, 0) _ (by rfl) z2 Try.underlying63 rfl sizeV) rfl ⟨_, rfl, by rw [HE.out]; exact z3, z4⟩
      · obtain rfl : j = ks.length := by omega
        have j1 : ¬ (ks.length : Int) < (ks.length : Int) := by omega
        have HE : Hid (fldV (.mk 7 n b t ks l) key = pv0) := by show _ = _; rw [HG.out, hF.out, findK_end]; rfl
        go_wp2
        refine bodyPost_ret (results_cell_row (fn := Try.f43) (by rfl) _ _ (w.heap.size + 1) 63 _ (0, 0) _ (by rfl) z2 Try.underlying63 rfl sizeV) rfl ⟨_, rfl, by rw [HE.out]; exact z3, z4⟩
  · have t7 : (k == 7) = false := by simpa using h7
    have HE : Hid (fldV (.mk k n b t ks l) key = pv0) := by show _ = _; rw [fldV_mk, if_neg h7]
    go_wp2
    go_loopw [5] (fun i wr => i = .int .i64 0 ∧ wr = W) (fun _ _ => 0)
    case atStart => exact ⟨rfl, rfl⟩
    case round =>
      obtain ⟨rfl, rfl⟩ := hrel
      by_cases hlt : 0 < ks.length
      · have j1 : (0 : Int) < (ks.length : Int) := by omega
        by_cases hlt2 : 0 < l.length
        · have j2 : (0 : Int) < (l.length : Int) := by omega
          go_wp2
          refine bodyPost_ret (results_cell_row (fn := Try.f43) (by rfl) _ _ (w.heap.size + 1) 63 _ (0, 0) _ (by rfl) z2 Try.underlying63 rfl sizeV) rfl ⟨_, rfl, by rw [HE.out]; exact z3, z4⟩
        · have j2 : ¬ (0 : Int) < (l.length : Int) := by omega
          go_wp2
          refine bodyPost_ret (results_cell_row (fn := Try.f43) (by rfl) _ _ (w.heap.size + 1) 63 _ (0, 0) _ (by rfl) z2 Try.underlying63 rfl sizeV) rfl ⟨_, rfl, by rw [HE.out]; exact z3, z4⟩
      · have j1 : ¬ (0 : Int) < (ks.length : Int) := by omega
        go_wp2
        refine bodyPost_ret (results_cell_row (fn := Try.f43) (by rfl) _ _ (w.heap.size + 1) 63 _ (0, 0) _ (by rfl) z2 Try.underlying63 rfl sizeV) rfl ⟨_, rfl, by rw [HE.out]; exact z3, z4⟩
def atV (v : PV) (i : Nat) : PV := v.list.getD i pv0
theorem at_any {w0 : World} {cs : List Value} {v : PV} (i : Nat) (h : VAt w0 cs v) (w : World) (hbw : Below w0.heap.size w0 w) (hi : i ≤ 1000) : Calls Try.prog 44 #[.agg cs.toArray, .int .i64 (i : Int)] w (FldP w (atV v i)) := by
  cases h with
  | @mk k n b t ks l ab ak al cb ck cl css hk hn hb hbc ht hks hkc hkt hl hlc hcs h6 sub =>
  have hsz := hbw.size
  obtain ⟨box, hbox⟩ : ∃ box : List Value, box = [.int .i64 k, .int .i64 n, .slice ab b.length cb, strV t, .slice ak ks.length ck, .slice al l.length cl] := ⟨_, rfl⟩
  have hall : Hid (∀ W, W = (w.alloc (.cells (List.toArray (α := Value) box) 63)).alloc (.cells zV 63) → Blk W w.heap.size 63 box ∧ Blk W (w.heap.size + 1) 63 zV.toList ∧ Below w.heap.size w W ∧ W.heap.size = w.heap.size + 2) := by
    rintro W rfl
    refine ⟨?_, ?_, ((Below.refl _ _).alloc (Nat.le_refl _) _).alloc (by simp) _, by simp⟩
    · simpa using (Blk.new w 63 box.toArray).alloc (.cells zV 63)
    · have := Blk.new (w.alloc (.cells (List.toArray (α := Value) box) 63)) 63 zV
      simpa using this
  have zs := zV_size
  have hO6 := oneC6
  rw [← hbox]
  have HB := Lib.hid hbox
  clear hbox
  go_enter Try.func44, Try.ntmps44
  go_upto_region 1 with (fail)
  generalize hW : (w.alloc (.cells (List.toArray (α := Value) box) 63)).alloc (.cells zV 63) = W at *
  obtain ⟨A0, R0, hbW, S0⟩ := hall.out W rfl
  clear hall hW
  have a5 : W.cell? ⟨w.heap.size, 5, none⟩ = some (.slice al l.length cl) := A0.cell (by rw [HB.out]; rfl)
  by_cases hk2 : i < l.length
  · have j2 : (i : Int) < (l.length : Int) := by omega
    have i0 : (0 : Int) ≤ (i : Int) := by omega
    have hr2 := hl.below (hbw.trans (hbW.mono hsz))
    have s6 := hr2.elemSome (s := 6) h6 (by decide) (i := i) (by omega)
    have hxc := sub i css[i] l[i] (by simp [hcs, hk2]) (by simp [hk2])
    have q1 := ldOp_at (P := Try.prog) (ty := 63) (hr2.elem (s := 6) h6 (i := i) (c := css[i]) (by simp [hcs, hk2])) Try.underlying63 rfl (by rw [hxc.len]; exact sizeV)
    have HE : Hid (atV (.mk k n b t ks l) i = l[i]) := by show _ = _; unfold atV PV.list; simp [hk2]
    clear hr2
    generalize l[i] = x at *
    generalize css[i] = cx at *
    obtain ⟨W2, y1, y2, y3, y4⟩ := resA_any (w := w) R0 (by rfl) (by omega) (hxc.keep hbw) hbW
    have hd6 : (List.toArray cx).size = 6 := by simpa using hxc.len
    go_wp2
    refine bodyPost_ret (results_cell_row (fn := Try.f44) (by rfl) _ _ (w.heap.size + 1) 63 _ (0, 0) _ (by rfl) y2 Try.underlying63 rfl (by rw [hd6]; exact sizeV)) rfl ⟨_, rfl, by rw [HE.out]; exact y3, y4⟩
  · have j2 : ¬ (i : Int) < (l.length : Int) := by omega
    have HE : Hid (atV (.mk k n b t ks l) i = pv0) := by show _ = _; unfold atV PV.list; simp [hk2]
    obtain ⟨Wz, z1, z2, z3, z4⟩ := resA_zero R0 (by rfl) (by omega) hbW
    go_wp2
    refine bodyPost_ret (results_cell_row (fn := Try.f44) (by rfl) _ _ (w.heap.size + 1) 63 _ (0, 0) _ (by rfl) z2 Try.underlying63 rfl sizeV) rfl ⟨_, rfl, by rw [HE.out]; exact z3, z4⟩
end Go.Proofs.Ytakliplkabgmbaa
set_option maxRecDepth 20000
namespace Go.Proofs.Ytakliplkabgmbaa
open Go.RowKit Go.Hd
attribute [local go_sem ↓] h_ldV h_stV h_alV h_ldID h_stID h_alID
attribute [local go_sem] r_ldV r_stV r_alV r_ldID r_stID r_alID
def padT (b : List UInt8) (t : Nat) : List UInt8 := b.take t ++ List.replicate (32 - t) 0
def keyV (b : List UInt8) : List UInt8 := padT b (min 32 b.length)
theorem padT_len {b : List UInt8} {t : Nat} (h : t ≤ b.length) (h2 : t ≤ 32) : (padT b t).length = 32 := by simp [padT]; omega
theorem keyV_len (b : List UInt8) : (keyV b).length = 32 := padT_len (Nat.min_le_right _ _) (Nat.min_le_left _ _)
theorem keyV_32 {b : List UInt8} (h : b.length = 32) : keyV b = b := by simp [keyV, padT, h, List.take_of_length_le (show b.length ≤ 32 by omega)]
theorem key_end {w W : World} {K : List UInt8} (hK : K.length = 32) (hR : Blk W (w.heap.size + 1) 29 zID.toList) (hX : Blk W (w.heap.size + 2) 29 (K.map b8)) (hb : Below w.heap.size w W) :
    (List.toArray (K.map b8)).size = 32 ∧ (ldOp 29 (.pointer (some ⟨w.heap.size + 2, 0, none⟩))).run Try.prog W = .ok (.agg (List.toArray (K.map b8))) W ∧ ∃ W2, (stoOp 29 (.pointer (some ⟨w.heap.size + 1, 0, none⟩)) (.agg (List.toArray (K.map b8)))).run Try.prog W = .ok () W2 ∧ Blk W2 (w.heap.size + 1) 29 (K.map b8) ∧ Below w.heap.size w W2 := by
  have h32 : (K.map b8).length = 32 := by rw [List.length_map, hK]
  refine ⟨by simp [hK], ldOp_all (P := Try.prog) (ty := 29) hX Try.underlying29 rfl (by rw [h32]; exact sizeID), ?_⟩
  obtain ⟨w3, hst, B3, hg3⟩ := stOp_blk (P := Try.prog) (ty := 29) (o := 0) (cs := K.map b8) hR (by rw [h32]; simp [zID]) (by rw [h32]; exact sizeID) (b8_one _)
  have e3 : zID.toList.take 0 ++ K.map b8 ++ zID.toList.drop (0 + (K.map b8).length) = K.map b8 := by
    rw [List.drop_of_length_le (by rw [h32]; simp [zID])]
    simp
  rw [e3] at B3
  exact ⟨w3, hst, B3, hb.trans ⟨hg3.os, hg3.tape, hg3.output, hg3.size, fun k hk => hg3.block k (Nat.lt_of_lt_of_le hk hb.size) (by simp; omega)⟩⟩
theorem padT_step {b : List UInt8} {t : Nat} (h : t < b.length) (h2 : t < 32) : ((padT b t).map b8).set t (b8 b[t]) = (padT b (t + 1)).map b8 := by
  unfold padT
  rw [List.map_append, List.set_append_right _ _ (by simp; omega), List.take_succ_eq_append_getElem h, List.map_append, List.map_append, List.append_assoc]
  congr 1
  have e : t - ((b.take t).map b8).length = 0 := by simp; omega
  rw [e]
  obtain ⟨m, hm⟩ : ∃ m, 32 - t = m + 1 := ⟨31 - t, by omega⟩
  have hm2 : 32 - (t + 1) = m := by omega
  rw [hm, hm2]
  rfl
set_option maxHeartbeats 1000000 in
theorem key_any {w0 : World} {cs : List Value} {v : PV} (h : VAt w0 cs v) (w : World) (hbw : Below w0.heap.size w0 w) (hsm : v.bytes.length ≤ 65536) : Calls Try.prog 45 #[.agg cs.toArray] w fun e w' => e = .returned (.agg (List.toArray ((keyV v.bytes).map b8))) ∧ Below w.heap.size w w' := by
  cases h with
  | @mk k n b t ks l ab ak al cb ck cl css hk hn hb hbc ht hks hkc hkt hl hlc hcs h6 sub =>
  have hsz := hbw.size
  have hs : b.length ≤ 65536 := hsm
  obtain ⟨box, hbox⟩ : ∃ box : List Value, box = [.int .i64 k, .int .i64 n, .slice ab b.length cb, strV t, .slice ak ks.length ck, .slice al l.length cl] := ⟨_, rfl⟩
  have zi := zID_size
  have hall : Hid (∀ W, W = ((w.alloc (.cells (List.toArray (α := Value) box) 63)).alloc (.cells zID 29)).alloc (.cells zID 29) → Blk W w.heap.size 63 box ∧ Blk W (w.heap.size + 1) 29 zID.toList ∧ Blk W (w.heap.size + 2) 29 ((padT b 0).map b8) ∧ Below w.heap.size w W ∧ W.heap.size = w.heap.size + 3) := by
    rintro W rfl
    refine ⟨?_, ?_, ?_, (((Below.refl _ _).alloc (Nat.le_refl _) _).alloc (by simp) _).alloc (by simp; omega) _, by simp⟩
    · simpa using ((Blk.new w 63 box.toArray).alloc (.cells zID 29)).alloc (.cells zID 29)
    · have := (Blk.new (w.alloc (.cells (List.toArray (α := Value) box) 63)) 29 zID).alloc (.cells zID 29)
      simpa using this
    · have := Blk.new ((w.alloc (.cells (List.toArray (α := Value) box) 63)).alloc (.cells zID 29)) 29 zID
      have e : (padT b 0).map b8 = zID.toList := by simp [padT, zID, b8]
      rw [e]
      simpa using this
  show Calls _ _ _ _ fun e w' => e = .returned (.agg (List.toArray ((keyV b).map b8))) ∧ _
  rw [← hbox]
  have HB := Lib.hid hbox
  clear hbox
  go_enter Try.func45, Try.ntmps45
  go_upto_region 2 with (fail)
  generalize hW : ((w.alloc (.cells (List.toArray (α := Value) box) 63)).alloc (.cells zID 29)).alloc (.cells zID 29) = W at *
  obtain ⟨A0, R0, X0, hbW, S0⟩ := hall.out W rfl
  clear hall hW
  go_wp2
  go_loopw [4] (fun i wr => ∃ t : Nat, t ≤ 32 ∧ t ≤ b.length ∧ i = .int .i64 t ∧ Hid (Blk wr w.heap.size 63 box) ∧ Hid (Blk wr (w.heap.size + 1) 29 zID.toList) ∧ Hid (Blk wr (w.heap.size + 2) 29 ((padT b t).map b8)) ∧ Hid (Below w.heap.size w wr)) (fun i _ => 32 - (intOf i).toNat)
  case atStart => exact ⟨0, by omega, Nat.zero_le _, rfl, A0, R0, X0, hbW⟩
  case round =>
    clear A0 R0 X0 hbW
    obtain ⟨t, ht32, htb, rfl, hA, hR, hX, hbb⟩ := hrel
    have j0 : (0 : Int) ≤ (t : Int) := by omega
    have jb : IntKind.i64.wrap ((t : Int) + 1) = (t : Int) + 1 := IntWalk.i64_in _ (by omega)
    have a2 : wr.cell? ⟨w.heap.size, 2, none⟩ = some (.slice ab b.length cb) := hA.out.cell (by rw [HB.out]; rfl)
    by_cases h1 : t < 32
    · have j1 : (t : Int) < 32 := by omega
      by_cases h2 : t < b.length
      · have j2 : (t : Int) < (b.length : Int) := by omega
        have hrow := hb.below (hbw.trans (hbb.out.mono hsz))
        have cb' := hrow.byte (i := t) h2
        have sb := hrow.byteSome (i := t) h2
        have ck : ∃ v, wr.cell? ⟨w.heap.size + 2, t, none⟩ = some v := by
          have hl : t < ((padT b t).map b8).length := by rw [List.length_map, padT_len htb ht32]; omega
          exact ⟨_, hX.out.cell (List.getElem?_eq_getElem hl)⟩
        obtain ⟨zz, ck⟩ := ck
        have fk := hX.out.free t
        have HN : Hid (Blk (wr.setCell ⟨w.heap.size + 2, t, none⟩ (b8 b[t])) (w.heap.size + 2) 29 ((padT b (t + 1)).map b8)) := by
          show Blk _ _ _ _
          rw [← padT_step h2 h1]; exact hX.out.set t _
        have HR2 : Hid (Blk (wr.setCell ⟨w.heap.size + 2, t, none⟩ (b8 b[t])) (w.heap.size + 1) 29 zID.toList) := setCell_blk hR.out (by omega)
        have HA2 : Hid (Blk (wr.setCell ⟨w.heap.size + 2, t, none⟩ (b8 b[t])) w.heap.size 63 box) := setCell_blk hA.out (by omega)
        have HB2 : Hid (Below w.heap.size w (wr.setCell ⟨w.heap.size + 2, t, none⟩ (b8 b[t]))) := setCell_below hbb.out (by omega)
        generalize b[t] = y at *
        clear hA hR hX hbb hrow
        go_wp2
        first
          | exact ⟨⟨t + 1, by omega, by omega, (by first | rfl | go_num | (congr 1; omega)), HA2, HR2, HN, HB2⟩, by simp [intOf] <;> omega⟩
          | (refine ⟨?_, by simp [intOf] <;> omega⟩; (repeat apply Exists.intro); exact ⟨⟨t + 1, by omega, by omega, (by first | rfl | go_num | (congr 1; omega)), HA2, HR2, HN, HB2⟩, rfl⟩)
      · obtain rfl : t = b.length := by omega
        have j2 : ¬ (b.length : Int) < (b.length : Int) := by omega
        obtain ⟨e0, e1, W2, e2, e3, e4⟩ := key_end (K := keyV b) (keyV_len b) hR.out (by have := hX.out; rwa [show padT b b.length = keyV b by rw [keyV, Nat.min_eq_right ht32]] at this) hbb.out
        clear hA hR hX hbb
        obtain ⟨kc, hkc⟩ : ∃ kc, kc = (keyV b).map b8 := ⟨_, rfl⟩
        rw [← hkc] at e0 e1 e2 e3
        have HK := Lib.hid hkc
        clear hkc
        go_wp2
        refine bodyPost_ret (results_cell_row (fn := Try.f45) (by rfl) _ _ (w.heap.size + 1) 29 _ (0, 0) _ (by rfl) e3 Try.underlying29 rfl (by rw [e0]; exact sizeID)) rfl ⟨by rw [← HK.out], e4⟩
    · obtain rfl : t = 32 := by omega
      have j1 : ¬ (32 : Int) < 32 := by omega
      obtain ⟨e0, e1, W2, e2, e3, e4⟩ := key_end (K := keyV b) (keyV_len b) hR.out (by have := hX.out; rwa [show padT b 32 = keyV b by rw [keyV, Nat.min_eq_left htb]] at this) hbb.out
      clear hA hR hX hbb
      obtain ⟨kc, hkc⟩ : ∃ kc, kc = (keyV b).map b8 := ⟨_, rfl⟩
      rw [← hkc] at e0 e1 e2 e3
      have HK := Lib.hid hkc
      clear hkc
      go_wp2
      refine bodyPost_ret (results_cell_row (fn := Try.f45) (by rfl) _ _ (w.heap.size + 1) 29 _ (0, 0) _ (by rfl) e3 Try.underlying29 rfl (by rw [e0]; exact sizeID)) rfl ⟨by rw [← HK.out], e4⟩
def isL : List PV → List Int → Bool
  | x :: l, k :: ks => decide (x.kind = k) && !(decide (k = 4) && !decide (x.bytes.length = 32)) && isL l ks
  | _, _ => true
def isV (v : PV) (ks : List Int) : Bool := decide (v.kind = 6) && decide (v.list.length = ks.length) && isL v.list ks
theorem VAt.parts {w : World} {cs : List Value} {v : PV} (h : VAt w cs v) : ∃ ab cb u3 u4 u5, cs = [.int .i64 v.kind, .int .i64 v.int, .slice ab v.bytes.length cb, u3, u4, u5] := by
  cases h with
  | @mk k n b t ks l ab ak al cb ck cl css hk hn hb hbc ht hks hkc hkt hl hlc hcs h6 sub => exact ⟨_, _, _, _, _, rfl⟩
set_option maxHeartbeats 1000000 in
theorem is_any {w0 : World} {cs : List Value} {v : PV} {a : Option Addr} {c m : Nat} {ks : List Int} (h : VAt w0 cs v) (hm : m = ks.length) (hm2 : ks.length ≤ 1000) (w : World) (hbw : Below w0.heap.size w0 w) (hr : Row w a (ks.map (.int .i64))) : Calls Try.prog 40 #[.agg cs.toArray, .slice a m c] w fun e w' => e = .returned (.bool (isV v ks)) ∧ Below w.heap.size w w' := by
  subst hm
  cases h with
  | @mk k n b t kys l ab ak al cb ck cl css hk hn hb hbc ht hks hkc hkt hl hlc hcs h6 sub =>
  have hsz := hbw.size
  have zs := zV_size
  obtain ⟨box, hbox⟩ : ∃ box : List Value, box = [.int .i64 k, .int .i64 n, .slice ab b.length cb, strV t, .slice ak kys.length ck, .slice al l.length cl] := ⟨_, rfl⟩
  have A0 : Blk (w.alloc (.cells (List.toArray (α := Value) box) 63)) w.heap.size 63 box := Blk.new _ _ _
  have hb0 : Below w.heap.size w (w.alloc (.cells (List.toArray (α := Value) box) 63)) := (Below.refl _ _).alloc (Nat.le_refl _) _
  have hr0 := hr.below hb0
  have HS : Hid (isV (.mk k n b t kys l) ks = (decide (k = 6) && decide (l.length = ks.length) && isL l ks)) := rfl
  rw [← hbox]
  have HB := Lib.hid hbox
  clear hbox
  go_enter Try.func40, Try.ntmps40
  go_upto_region 1 with (fail)
  generalize w.alloc (.cells (List.toArray (α := Value) box) 63) = W at *
  have a0 : W.cell? ⟨w.heap.size, 0, none⟩ = some (.int .i64 k) := A0.cell (by rw [HB.out]; rfl)
  have a5 : W.cell? ⟨w.heap.size, 5, none⟩ = some (.slice al l.length cl) := A0.cell (by rw [HB.out]; rfl)
  by_cases h6' : k = 6
  case neg =>
    have t6 : (k != 6) = true := by simpa using h6'
    have HE : Hid (isV (.mk k n b t kys l) ks = false) := by show _ = _; rw [HS.out, decide_eq_false h6']; rfl
    go_wp2
    go_ret
    exact ⟨by rw [HE.out]; rfl, hb0⟩
  case pos =>
  subst h6'
  by_cases hlen : l.length = ks.length
  case neg =>
    have t6 : ((l.length : Int) != (ks.length : Int)) = true := by simpa using fun h => hlen (by omega)
    have HE : Hid (isV (.mk 6 n b t kys l) ks = false) := by show _ = _; rw [HS.out, decide_eq_false hlen]; rfl
    go_wp2
    go_ret
    exact ⟨by rw [HE.out]; rfl, hb0⟩
  case pos =>
  have t6 : ((l.length : Int) != (ks.length : Int)) = false := by simp [hlen]
  have HE : Hid (isV (.mk 6 n b t kys l) ks = isL l ks) := by show _ = _; rw [HS.out, decide_eq_true hlen]; rfl
  have HL := Lib.hid hlen
  have hl1000 : l.length ≤ 1000 := by omega
  clear hlen HS
  have G2 := Lib.hid hb0
  go_wp2
  go_loopw [21] (fun i wr => ∃ j : Nat, j ≤ l.length ∧ i = .int .i64 j ∧ Hid (isL l ks = isL (l.drop j) (ks.drop j)) ∧ Hid (Below w.heap.size w wr)) (fun i _ => l.length - (intOf i).toNat)
  case atStart => exact ⟨0, Nat.zero_le _, rfl, Lib.hid (by rw [List.drop_zero, List.drop_zero]), G2⟩
  case round =>
    clear G2 hb0 A0 hr0
    obtain ⟨j, hj, rfl, hI, hbr⟩ := hrel
    have j0 : (0 : Int) ≤ (j : Int) := by omega
    have jb : IntKind.i64.wrap ((j : Int) + 1) = (j : Int) + 1 := IntWalk.i64_in _ (by omega)
    by_cases hlt : j < l.length
    · have j1 : (j : Int) < (l.length : Int) := by omega
      have hjk : j < ks.length := by have := HL.out; omega
      have j2 : (j : Int) < (ks.length : Int) := by omega
      have hrk := hr.below hbr.out
      have hr2 := hl.below (hbw.trans (hbr.out.mono hsz))
      have s6 := hr2.elemSome (s := 6) h6 (by decide) (i := j) (by omega)
      have hxc := sub j css[j] l[j] (by simp [hcs, hlt]) (by simp [hlt])
      have q1 := ldOp_at (P := Try.prog) (ty := 63) (hr2.elem (s := 6) h6 (i := j) (c := css[j]) (by simp [hcs, hlt])) Try.underlying63 rfl (by rw [hxc.len]; exact sizeV)
      have HI : Hid (isL l ks = (decide (l[j].kind = ks[j]) && !(decide (ks[j] = 4) && !decide (l[j].bytes.length = 32)) && isL (l.drop (j + 1)) (ks.drop (j + 1)))) := by
        show _ = _
        rw [hI.out, List.drop_eq_getElem_cons hlt, List.drop_eq_getElem_cons hjk, isL]
      have s7 := hrk.isSome (i := j) (by simpa using hjk)
      have c7 : ∀ {o : Obj}, (wr.alloc o).cell? ((hd a).add j) = some (.int .i64 ks[j]) := fun {o} => (hrk.below ((Below.refl _ _).alloc (Nat.le_refl _) o)).cell (i := j) (u := .int .i64 ks[j]) (by simp [hjk])
      have y1 : (List.toArray css[j]).size = 6 := by simpa using hxc.len
      have y2 : OneC (List.toArray css[j]) := all_oneCell_toArray hxc.one
      have hB2 : Hid (Below w.heap.size w (wr.alloc (.cells (List.toArray css[j]) 63))) := hbr.out.alloc hbr.out.size _
      have hXB := Blk.new wr 63 (List.toArray css[j])
      obtain ⟨ab', cb', u3, u4, u5, hcx⟩ := VAt.parts hxc
      have c8 : (wr.alloc (.cells (List.toArray css[j]) 63)).cell? ⟨wr.heap.size, 0, none⟩ = some (.int .i64 l[j].kind) := hXB.cell (by simp [hcx])
      have c9 : (wr.alloc (.cells (List.toArray css[j]) 63)).cell? ⟨wr.heap.size, 2, none⟩ = some (.slice ab' l[j].bytes.length cb') := hXB.cell (by simp [hcx])
      have c7' := c7 (o := .cells (List.toArray css[j]) 63)
      clear hr2 hrk hXB hcx c7 hxc
      generalize css[j] = cx at *
      generalize l[j].kind = xk at *
      generalize l[j].bytes.length = xb at *
      generalize ks[j] = kk at *
      have hret : Hid (∀ B : Bool, B = false → isV (.mk 6 n b t kys l) ks = (B && isL (l.drop (j + 1)) (ks.drop (j + 1))) → isV (.mk 6 n b t kys l) ks = false) := fun B h1 h2 => by rw [h2, h1]; rfl
      have hI2 : Hid (isV (.mk 6 n b t kys l) ks = (decide (xk = kk) && !(decide (kk = 4) && !decide (xb = 32)) && isL (l.drop (j + 1)) (ks.drop (j + 1)))) := HE.out.trans HI.out
      by_cases e1 : xk = kk
      · subst e1
        have t1 : (xk != xk) = false := by simp
        by_cases e2 : xk = 4
        · subst e2
          by_cases e3 : xb = 32
          · subst e3
            have HF2 : Hid (isL l ks = isL (l.drop (j + 1)) (ks.drop (j + 1))) := by show _ = _; rw [HI.out]; simp
            clear hI2 hret HI hI
            go_upto_region 6 with (fail)
            go_quiet (fail)
            go_wp2
            first
              | exact ⟨⟨j + 1, by omega, (by first | rfl | go_num | (congr 1; omega)), HF2, Below.drewN hB2.out _⟩, by simp [intOf] <;> omega⟩
              | (refine ⟨?_, by simp [intOf] <;> omega⟩; (repeat apply Exists.intro); exact ⟨⟨j + 1, by omega, (by first | rfl | go_num | (congr 1; omega)), HF2, Below.drewN hB2.out _⟩, rfl⟩)
          · have t3 : ((xb : Int) != 32) = true := by simp; omega
            have HF : Hid (isV (.mk 6 n b t kys l) ks = false) := by show _ = _; rw [hI2.out]; simp [e3]
            clear hI2 hret HI hI
            go_upto_region 6 with (fail)
            go_quiet (fail)
            go_wp2
            go_ret
            exact ⟨by rw [HF.out]; rfl, Below.drewN hB2.out _⟩
        · have t2 : (xk == 4) = false := by simpa using e2
          have HF2 : Hid (isL l ks = isL (l.drop (j + 1)) (ks.drop (j + 1))) := by show _ = _; rw [HI.out]; simp [e2]
          clear hI2 hret HI hI
          go_upto_region 6 with (fail)
          go_quiet (fail)
          go_wp2
          first
            | exact ⟨⟨j + 1, by omega, (by first | rfl | go_num | (congr 1; omega)), HF2, Below.drewN hB2.out _⟩, by simp [intOf] <;> omega⟩
            | (refine ⟨?_, by simp [intOf] <;> omega⟩; (repeat apply Exists.intro); exact ⟨⟨j + 1, by omega, (by first | rfl | go_num | (congr 1; omega)), HF2, Below.drewN hB2.out _⟩, rfl⟩)
      · have t1 : (xk != kk) = true := by simpa using e1
        have HF : Hid (isV (.mk 6 n b t kys l) ks = false) := by show _ = _; rw [hI2.out]; simp [e1]
        clear hI2 hret HI hI
        go_upto_region 6 with (fail)
        go_quiet (fail)
        go_wp2
        go_ret
        exact ⟨by rw [HF.out]; rfl, Below.drewN hB2.out _⟩
    · obtain rfl : j = l.length := by omega
      have j1 : ¬ (l.length : Int) < (l.length : Int) := by omega
      have HT : Hid (isV (.mk 6 n b t kys l) ks = true) := by show _ = _; rw [HE.out, hI.out, List.drop_length]; cases ks.drop l.length <;> rfl
      go_wp2
      go_ret
      exact ⟨by rw [HT.out]; rfl, hbr.out⟩
end Go.Proofs.Ytakliplkabgmbaa
set_option maxRecDepth 20000
namespace Go.Proofs.Ytakliplkabgmbaa
open Go.RowKit Go.Hd
theorem takeR_inv {n : Nat} {l b r : List UInt8} (h : takeR n l = .ok b r) : l = b ++ r ∧ b.length = n := by
  unfold takeR at h
  split at h
  · cases h
  · cases h
    exact ⟨(List.take_append_drop n l).symm, by simp; omega⟩
theorem bigR_inv {n x : Nat} {l r : List UInt8} (h : bigR n l = .ok x r) : l = bigB x n ++ r ∧ x < 256 ^ n := by
  unfold bigR at h
  cases h1 : takeR n l with
  | no c => rw [h1] at h; cases h
  | ok b r1 =>
    rw [h1] at h
    cases h
    obtain ⟨h2, h3⟩ := takeR_inv h1
    have e : bigB (getL b.reverse) n = b := by
      unfold bigB
      have := putL_getL b.reverse
      rw [List.length_reverse, h3] at this
      rw [this, List.reverse_reverse]
    refine ⟨by rw [e]; exact h2, ?_⟩
    have := getL_lt b.reverse
    rw [List.length_reverse, h3] at this
    exact this
theorem leastR_inv {n lo x : Nat} {l r : List UInt8} (h : leastR n lo l = .ok x r) : l = bigB x n ++ r ∧ x < 256 ^ n ∧ lo ≤ x := by
  unfold leastR at h
  cases h1 : bigR n l with
  | no c => rw [h1] at h; cases h
  | ok y r1 =>
    rw [h1, Rs.bind_ok] at h
    split at h
    · cases h
    · cases h
      obtain ⟨h2, h3⟩ := bigR_inv h1
      exact ⟨h2, h3, by omega⟩
theorem signedR_inv {n : Nat} {below z : Int} {l r : List UInt8} (h : signedR n below l = .ok z r) : ∃ u, l = bigB u n ++ r ∧ u < 256 ^ n ∧ z = sext n u ∧ z < below := by
  unfold signedR at h
  cases h1 : bigR n l with
  | no c => rw [h1] at h; cases h
  | ok u r1 =>
    rw [h1, Rs.bind_ok] at h
    split at h
    · cases h
    · cases h
      obtain ⟨h2, h3⟩ := bigR_inv h1
      exact ⟨u, h2, h3, rfl, by omega⟩
theorem bigB_mod {x y n : Nat} (h : x % 256 ^ n = y % 256 ^ n) : bigB x n = bigB y n := by
  unfold bigB
  have e : ∀ z, putL z n = putL (z % 256 ^ n) n := fun z => by
    have h1 := putL_getL (putL z n)
    rw [getL_putL, putL_length] at h1
    exact h1.symm
  rw [e x, e y, h]
theorem u64Of_nat {x : Nat} (h : x < 18446744073709551616) : u64Of (x : Int) = x := by unfold u64Of; omega
theorem intB_of {c : Nat} {n : Int} {l r : List UInt8} (hc : 0xcc ≤ c ∧ c ≤ 0xd3) (h : intR c l = .ok n r) : ∃ e, l = e ++ r ∧ intB n = UInt8.ofNat c :: e ∧ in64 n := by
  rcases (by omega : c = 0xcc ∨ c = 0xcd ∨ c = 0xce ∨ c = 0xcf ∨ c = 0xd0 ∨ c = 0xd1 ∨ c = 0xd2 ∨ c = 0xd3) with rfl | rfl | rfl | rfl | rfl | rfl | rfl | rfl
  · have h : (leastR 1 128 l).bind (fun x r => (.ok (x : Int) r : Rs Int)) = .ok n r := h
    cases h1 : leastR 1 128 l with
    | no c => rw [h1] at h; cases h
    | ok x r1 =>
      rw [h1] at h
      cases h
      obtain ⟨g1, g2, g3⟩ := leastR_inv h1
      have g2 : x < 256 := g2
      refine ⟨_, g1, ?_, by unfold in64; omega⟩
      unfold intB
      rw [if_neg (by omega), if_pos (by omega), if_pos (by omega), u64Of_nat (by omega)]; rfl
  · have h : (leastR 2 256 l).bind (fun x r => (.ok (x : Int) r : Rs Int)) = .ok n r := h
    cases h1 : leastR 2 256 l with
    | no c => rw [h1] at h; cases h
    | ok x r1 =>
      rw [h1] at h
      cases h
      obtain ⟨g1, g2, g3⟩ := leastR_inv h1
      have g2 : x < 65536 := g2
      refine ⟨_, g1, ?_, by unfold in64; omega⟩
      unfold intB
      rw [if_neg (by omega), if_pos (by omega), if_neg (by omega), if_pos (by omega), u64Of_nat (by omega)]; rfl
  · have h : (leastR 4 65536 l).bind (fun x r => (.ok (x : Int) r : Rs Int)) = .ok n r := h
    cases h1 : leastR 4 65536 l with
    | no c => rw [h1] at h; cases h
    | ok x r1 =>
      rw [h1] at h
      cases h
      obtain ⟨g1, g2, g3⟩ := leastR_inv h1
      have g2 : x < 4294967296 := g2
      refine ⟨_, g1, ?_, by unfold in64; omega⟩
      unfold intB
      rw [if_neg (by omega), if_pos (by omega), if_neg (by omega), if_neg (by omega), if_pos (by omega), u64Of_nat (by omega)]; rfl
  · rw [intR_cf] at h
    cases h1 : leastR 8 4294967296 l with
    | no c => rw [h1] at h; cases h
    | ok x r1 =>
      rw [h1, Rs.bind_ok] at h
      split at h
      · cases h
      · cases h
        obtain ⟨g1, g2, g3⟩ := leastR_inv h1
        refine ⟨_, g1, ?_, by unfold in64; omega⟩
        unfold intB
        rw [if_neg (by omega), if_pos (by omega), if_neg (by omega), if_neg (by omega), if_neg (by omega), u64Of_nat (by omega)]; rfl
  · rw [intR_208] at h
    obtain ⟨u, g1, g2, g3, g4⟩ := signedR_inv h
    have g2 : u < 256 := g2
    have hz : -128 ≤ n ∧ n < 0 ∧ u64Of n % 256 ^ 1 = u % 256 ^ 1 ∧ ¬ 0 ≤ n := by
      unfold sext at g3
      unfold u64Of
      simp only [Nat.reduceMul, Nat.reduceSub, Nat.reducePow, Int.reducePow] at g3 ⊢
      split at g3 <;> omega
    refine ⟨_, g1, ?_, by unfold in64; omega⟩
    unfold intB
    rw [if_neg (by omega), if_neg (by omega), if_pos (by omega), bigB_mod hz.2.2.1]; rfl
  · rw [intR_209] at h
    obtain ⟨u, g1, g2, g3, g4⟩ := signedR_inv h
    have g2 : u < 65536 := g2
    have hz : -32768 ≤ n ∧ n < 0 ∧ u64Of n % 256 ^ 2 = u % 256 ^ 2 ∧ ¬ 0 ≤ n := by
      unfold sext at g3
      unfold u64Of
      simp only [Nat.reduceMul, Nat.reduceSub, Nat.reducePow, Int.reducePow] at g3 ⊢
      split at g3 <;> omega
    refine ⟨_, g1, ?_, by unfold in64; omega⟩
    unfold intB
    rw [if_neg (by omega), if_neg (by omega), if_neg (by omega), if_pos (by omega), bigB_mod hz.2.2.1]; rfl
  · rw [intR_210] at h
    obtain ⟨u, g1, g2, g3, g4⟩ := signedR_inv h
    have g2 : u < 4294967296 := g2
    have hz : -2147483648 ≤ n ∧ n < 0 ∧ u64Of n % 256 ^ 4 = u % 256 ^ 4 ∧ ¬ 0 ≤ n := by
      unfold sext at g3
      unfold u64Of
      simp only [Nat.reduceMul, Nat.reduceSub, Nat.reducePow, Int.reducePow] at g3 ⊢
      split at g3 <;> omega
    refine ⟨_, g1, ?_, by unfold in64; omega⟩
    unfold intB
    rw [if_neg (by omega), if_neg (by omega), if_neg (by omega), if_neg (by omega), if_pos (by omega), bigB_mod hz.2.2.1]; rfl
  · rw [intR_211] at h
    obtain ⟨u, g1, g2, g3, g4⟩ := signedR_inv h
    have g2 : u < 18446744073709551616 := g2
    have hz : -9223372036854775808 ≤ n ∧ n < 0 ∧ u64Of n % 256 ^ 8 = u % 256 ^ 8 ∧ ¬ 0 ≤ n := by
      unfold sext at g3
      unfold u64Of
      simp only [Nat.reduceMul, Nat.reduceSub, Nat.reducePow, Int.reducePow] at g3 ⊢
      split at g3 <;> omega
    refine ⟨_, g1, ?_, by unfold in64; omega⟩
    unfold intB
    rw [if_neg (by omega), if_neg (by omega), if_neg (by omega), if_neg (by omega), if_neg (by omega), bigB_mod hz.2.2.1]; rfl
theorem putO_fit {l m : List UInt8} (h : (l ++ m).length ≤ 65536) : putO (some l) m = some (l ++ m) := by
  rw [putO_some, if_neg (by rw [List.length_append] at h; omega)]
theorem ofNat_toNat (c : UInt8) : UInt8.ofNat c.toNat = c := by simp
theorem text_of_read {c : UInt8} {l k r : List UInt8} (ht : isText c.toNat = true) (h : textR c.toNat l = .ok k r) : ∃ e, l = e ++ r ∧ ∀ l0, (l0 ++ (c :: e)).length ≤ 65536 → textO (some l0) k = some (l0 ++ (c :: e)) := by
  have hc := c.toNat_lt
  unfold textR at h
  by_cases h5 : c.toNat / 32 = 5
  · rw [if_pos h5] at h
    obtain ⟨g1, g2⟩ := takeR_inv h
    refine ⟨k, g1, fun l0 hf => ?_⟩
    have e : (0xa0 ||| UInt8.ofNat k.length) = c := by
      rw [or_ofNat 0xa0 31 k.length (by decide) (by omega), show (0xa0 : UInt8).toNat = 160 from rfl, show 160 + k.length = c.toNat by omega, ofNat_toNat]
    unfold textO
    rw [if_pos (by omega), e, putO_fit hf]
  rw [if_neg h5] at h
  by_cases h9 : c.toNat = 0xd9
  · rw [if_pos h9] at h
    cases h1 : leastR 1 32 l with
    | no c => rw [h1] at h; cases h
    | ok x r1 =>
      rw [h1, Rs.bind_ok] at h
      obtain ⟨g1, g2, g3⟩ := leastR_inv h1
      obtain ⟨k1, k2⟩ := takeR_inv h
      have g2 : x < 256 := g2
      subst k2
      have ec : c = 0xd9 := by rw [← ofNat_toNat c, h9]; rfl
      subst ec
      refine ⟨bigB k.length 1 ++ k, by rw [g1, k1, List.append_assoc], fun l0 hf => ?_⟩
      unfold textO
      rw [if_neg (by omega), if_pos (by omega), putO_fit hf]
  rw [if_neg h9] at h
  have ha : c.toNat = 0xda := by
    unfold isText at ht
    simp at ht; omega
  cases h1 : leastR 2 256 l with
  | no c => rw [h1] at h; cases h
  | ok x r1 =>
    rw [h1, Rs.bind_ok] at h
    obtain ⟨g1, g2, g3⟩ := leastR_inv h1
    obtain ⟨k1, k2⟩ := takeR_inv h
    have g2 : x < 65536 := g2
    subst k2
    have ec : c = 0xda := by rw [← ofNat_toNat c, ha]; rfl
    subst ec
    refine ⟨bigB k.length 2 ++ k, by rw [g1, k1, List.append_assoc], fun l0 hf => ?_⟩
    unfold textO
    rw [if_neg (by omega), if_neg (by omega), if_pos (by omega), putO_fit hf]
theorem zip_back : ∀ ps : PsL, (ps.map (·.1)).zip (ps.map (·.2)) = ps
  | [] => rfl
  | (k, v) :: ps => by simp only [List.map_cons, List.zip_cons_cons, zip_back ps]
/-! Why not: too short, or of no form. -/
def NoC {α : Type} (f : List UInt8 → Rs α) : Prop := ∀ l c, f l = .no c → c = 3 ∨ c = 4
theorem NoC.pure {α : Type} (x : α) : NoC (fun r => .ok x r) := fun l c h => by cases h
theorem NoC.no {α : Type} : NoC (fun _ => (.no 4 : Rs α)) := fun l c h => by cases h; exact .inr rfl
theorem NoC.bind {α β : Type} {f : List UInt8 → Rs α} {g : α → List UInt8 → Rs β} (hf : NoC f) (hg : ∀ x, NoC (g x)) : NoC (fun l => (f l).bind g) := by
  intro l c h
  cases h1 : f l with
  | no c1 => simp only [h1, Rs.bind_no] at h; cases h; exact hf l c h1
  | ok x r => simp only [h1, Rs.bind_ok] at h; exact hg x r c h
theorem NoC.ite {α : Type} {c : Prop} [Decidable c] {f g : List UInt8 → Rs α} (hf : NoC f) (hg : NoC g) : NoC (fun l => if c then f l else g l) := by
  by_cases h : c
  · simp only [h, if_true]; exact hf
  · simp only [h, if_false]; exact hg
theorem NoC.guard {α β : Type} {f : List UInt8 → Rs α} (c : α → Prop) [DecidablePred c] (k : α → β) (hf : NoC f) : NoC (fun l => (f l).bind fun x r => if c x then .no 4 else .ok (k x) r) :=
  hf.bind (fun x => by
    by_cases h : c x
    · simp only [h, if_true]; exact NoC.no
    · simp only [h, if_false]; exact NoC.pure _)
theorem NoC.take (n : Nat) : NoC (takeR n) := by
  intro l c h
  unfold takeR at h
  split at h
  · cases h; exact .inl rfl
  · cases h
theorem NoC.big (n : Nat) : NoC (bigR n) := (NoC.take n).bind (fun b => NoC.pure _)
theorem NoC.least (n lo : Nat) : NoC (leastR n lo) := NoC.guard (fun x => x < lo) id (NoC.big n)
theorem NoC.signed (n : Nat) (below : Int) : NoC (signedR n below) := NoC.guard (fun u => below ≤ sext n u) (fun u => sext n u) (NoC.big n)
theorem NoC.int (c : Nat) : NoC (intR c) := by
  unfold intR
  refine NoC.ite ((NoC.least _ _).bind fun x => NoC.pure _) (NoC.ite ((NoC.least _ _).bind fun x => NoC.pure _) (NoC.ite ((NoC.least _ _).bind fun x => NoC.pure _) (NoC.ite (NoC.guard (fun x : Nat => 9223372036854775807 < x) (fun x : Nat => (x : Int)) (NoC.least _ _)) (NoC.ite (NoC.signed _ _) (NoC.ite (NoC.signed _ _) (NoC.ite (NoC.signed _ _) (NoC.signed _ _)))))))
theorem NoC.text (c : Nat) : NoC (textR c) := by
  unfold textR
  exact NoC.ite (NoC.take _) (NoC.ite ((NoC.least _ _).bind NoC.take) ((NoC.least _ _).bind NoC.take))
theorem NoC.byte : NoC byteR := by
  have : byteR = fun l => (takeR 1 l).bind fun b r => .ok (getL b) r := by funext l; exact byteR_take l
  rw [this]
  exact (NoC.take 1).bind fun b => NoC.pure _
theorem NoC.key (prev : Option (List UInt8)) : NoC (keyR prev) := by
  have : keyR prev = fun l => (byteR l).bind fun c r => if isText c = false then .no 4 else (textR c r).bind fun k r2 => if (match prev with | none => false | some p => leT k p) = true then .no 4 else .ok k r2 := by
    funext l; exact keyR_byte prev l
  rw [this]
  exact NoC.byte.bind fun c => NoC.ite NoC.no (NoC.guard (fun k => (match prev with | none => false | some p => leT k p) = true) id (NoC.text c))
theorem NoC.list {f : List UInt8 → Rs PV} (hf : NoC f) : ∀ n, NoC (listR f n)
  | 0 => by
    have : listR f 0 = fun l => .ok [] l := by funext l; rfl
    rw [this]; exact NoC.pure _
  | n + 1 => by
    have : listR f (n + 1) = fun l => (f l).bind fun v r => (listR f n r).bind fun vs r2 => .ok (v :: vs) r2 := by funext l; rfl
    rw [this]
    exact hf.bind fun v => (NoC.list hf n).bind fun vs => NoC.pure _
theorem NoC.dict {f : List UInt8 → Rs PV} (hf : NoC f) : ∀ n prev, NoC (dictR f n prev)
  | 0, prev => by
    have : dictR f 0 prev = fun l => .ok [] l := by funext l; rfl
    rw [this]; exact NoC.pure _
  | n + 1, prev => by
    have : dictR f (n + 1) prev = fun l => (keyR prev l).bind fun k r => (f r).bind fun v r2 => (dictR f n (some k) r2).bind fun vs r3 => .ok ((k, v) :: vs) r3 := by funext l; rfl
    rw [this]
    exact (NoC.key prev).bind fun k => hf.bind fun v => (NoC.dict hf n (some k)).bind fun vs => NoC.pure _
theorem NoC.lead {f : List UInt8 → Rs PV} (hf : NoC f) (c : Nat) : NoC (leadR f c) := by
  unfold leadR
  refine NoC.ite ((NoC.text c).bind fun t => NoC.pure _) (NoC.ite (NoC.pure _) (NoC.ite ((NoC.list hf _).bind fun l => NoC.pure _) (NoC.ite ((NoC.dict hf _ _).bind fun l => NoC.pure _) (NoC.ite ((NoC.int c).bind fun n => NoC.pure _) (NoC.ite (NoC.pure _) (NoC.ite (NoC.pure _) (NoC.ite (NoC.pure _) (NoC.ite (((NoC.big 1).bind NoC.take).bind fun b => NoC.pure _) (NoC.ite (((NoC.least 2 256).bind NoC.take).bind fun b => NoC.pure _) (NoC.ite ((NoC.least 2 16).bind fun n => (NoC.list hf n).bind fun l => NoC.pure _) (NoC.ite ((NoC.least 2 16).bind fun n => (NoC.dict hf n none).bind fun l => NoC.pure _) NoC.no)))))))))))
theorem NoC.dec : ∀ d, NoC (decV d)
  | 0 => by
    have : decV 0 = fun l => (byteR l).bind fun c r => bodyR 0 c r := by funext l; exact decV_byte 0 l
    rw [this]
    exact NoC.byte.bind fun c => NoC.no
  | d + 1 => by
    have : decV (d + 1) = fun l => (byteR l).bind fun c r => bodyR (d + 1) c r := by funext l; exact decV_byte (d + 1) l
    rw [this]
    exact NoC.byte.bind fun c => NoC.lead (NoC.dec d) c
theorem decV_no (d : Nat) (l : List UInt8) : decV d l ≠ .no 0 := fun h => by
  rcases NoC.dec d l 0 h with h | h <;> cases h
def ED (d : Nat) : Prop := ∀ l v r, decV d l = .ok v r → ∃ e, l = e ++ r ∧ canF d v = true ∧ OkV v ∧ ∀ l0, (l0 ++ e).length ≤ 65536 → encO d (some l0) v = some (l0 ++ e)
theorem list_of_read {d : Nat} (hd : ED d) : ∀ (n : Nat) (l : List UInt8) (vs : List PV) (r : List UInt8), listR (decV d) n l = .ok vs r → vs.length = n ∧ (∀ v ∈ vs, canF d v = true ∧ OkV v) ∧ ∃ e, l = e ++ r ∧ ∀ l0, (l0 ++ e).length ≤ 65536 → vs.foldl (encO d) (some l0) = some (l0 ++ e)
  | 0, l, vs, r, h => by
    cases h
    exact ⟨rfl, by simp, [], rfl, fun l0 _ => by simp⟩
  | n + 1, l, vs, r, h => by
    have h : (decV d l).bind (fun v r => (listR (decV d) n r).bind fun vs r2 => .ok (v :: vs) r2) = .ok vs r := h
    cases h1 : decV d l with
    | no c => rw [h1] at h; cases h
    | ok v r1 =>
      rw [h1, Rs.bind_ok] at h
      cases h2 : listR (decV d) n r1 with
      | no c => rw [h2] at h; cases h
      | ok ws r2 =>
        rw [h2] at h
        cases h
        obtain ⟨e1, g1, g2, g3, g4⟩ := hd l v r1 h1
        obtain ⟨f1, f2, e2, f3, f4⟩ := list_of_read hd n r1 ws r h2
        refine ⟨by simp [f1], fun w hw => ?_, e1 ++ e2, by rw [g1, f3, List.append_assoc], fun l0 hf => ?_⟩
        · rcases List.mem_cons.1 hw with rfl | hw
          · exact ⟨g2, g3⟩
          · exact f2 w hw
        · rw [List.foldl_cons, g4 l0 (by simp at hf ⊢; omega), f4 (l0 ++ e1) (by simpa using hf), List.append_assoc]
theorem dict_of_read {d : Nat} (hd : ED d) : ∀ (n : Nat) (prev : Option (List UInt8)) (l : List UInt8) (ps : PsL) (r : List UInt8), dictR (decV d) n prev l = .ok ps r →
    ps.length = n ∧ (∀ v ∈ ps.map (·.2), canF d v = true ∧ OkV v) ∧ risesT (ps.map (·.1)) = true ∧ (∀ p k, prev = some p → (ps.map (·.1)).head? = some k → leT k p = false) ∧ ∃ e, l = e ++ r ∧ ∀ l0, (l0 ++ e).length ≤ 65536 → ps.foldl (fun o x => encO d (textO o x.1) x.2) (some l0) = some (l0 ++ e)
  | 0, prev, l, ps, r, h => by
    cases h
    exact ⟨rfl, by simp, rfl, fun _ _ _ h => by simp at h, [], rfl, fun l0 _ => by simp⟩
  | n + 1, prev, l, ps, r, h => by
    have h : (keyR prev l).bind (fun k r => (decV d r).bind fun v r2 => (dictR (decV d) n (some k) r2).bind fun vs r3 => .ok ((k, v) :: vs) r3) = .ok ps r := h
    cases h0 : keyR prev l with
    | no c => rw [h0] at h; cases h
    | ok k r0 =>
      rw [h0, Rs.bind_ok] at h
      cases h1 : decV d r0 with
      | no c => rw [h1] at h; cases h
      | ok v r1 =>
        rw [h1, Rs.bind_ok] at h
        cases h2 : dictR (decV d) n (some k) r1 with
        | no c => rw [h2] at h; cases h
        | ok ws r2 =>
          rw [h2] at h
          cases h
          obtain ⟨e1, g1, g2, g3, g4⟩ := hd r0 v r1 h1
          obtain ⟨f1, f2, f3, f4, e2, f5, f6⟩ := dict_of_read hd n (some k) r1 ws r h2
          have hkey : ∃ e0, l = e0 ++ r0 ∧ (∀ l0, (l0 ++ e0).length ≤ 65536 → textO (some l0) k = some (l0 ++ e0)) ∧ ∀ p, prev = some p → leT k p = false := by
            cases l with
            | nil => cases h0
            | cons c l =>
              unfold keyR at h0
              simp only at h0
              split at h0
              · cases h0
              · rename_i ht
                have ht : isText c.toNat = true := by simpa using ht
                cases h3 : textR c.toNat l with
                | no c => rw [h3] at h0; cases h0
                | ok k2 r2 =>
                  rw [h3, Rs.bind_ok] at h0
                  obtain ⟨e, a1, a2⟩ := text_of_read ht h3
                  cases prev with
                  | none =>
                    have h0 : (Rs.ok k2 r2 : Rs (List UInt8)) = .ok k r0 := h0
                    cases h0
                    exact ⟨c :: e, by rw [a1]; rfl, a2, fun p hp => by cases hp⟩
                  | some p0 =>
                    have h0 : (if leT k2 p0 = true then (Rs.no 4 : Rs (List UInt8)) else .ok k2 r2) = .ok k r0 := h0
                    by_cases hle : leT k2 p0 = true
                    · rw [if_pos hle] at h0; cases h0
                    · rw [if_neg hle] at h0
                      cases h0
                      refine ⟨c :: e, by rw [a1]; rfl, a2, fun p hp => ?_⟩
                      cases hp
                      simpa using hle
          obtain ⟨e0, a1, a2, a3⟩ := hkey
          refine ⟨by simp [f1], fun w hw => ?_, ?_, fun p k' hp hk => ?_, e0 ++ e1 ++ e2, by rw [a1, g1, f5]; simp, fun l0 hf => ?_⟩
          · rw [List.map_cons] at hw
            rcases List.mem_cons.1 hw with rfl | hw
            · exact ⟨g2, g3⟩
            · exact f2 w hw
          · rw [List.map_cons]
            cases hws : ws.map (·.1) with
            | nil => rfl
            | cons k2 ks =>
              rw [hws] at f3 f4
              simp only [risesT, Bool.and_eq_true, Bool.not_eq_true']
              exact ⟨f4 k k2 rfl rfl, f3⟩
          · simp at hk
            subst hk
            exact a3 p hp
          · rw [List.foldl_cons]
            simp only
            rw [a2 l0 (by simp at hf ⊢; omega), g4 (l0 ++ e0) (by simp at hf ⊢; omega), f6 (l0 ++ e0 ++ e1) (by simp at hf ⊢; omega)]
            simp
theorem canF_mk {d : Nat} {k n : Int} {b t : List UInt8} {ks : List (List UInt8)} {l : List PV} (h0 : 0 ≤ k) (h7 : k ≤ 7) (hm : k = 7 → ks.length = l.length ∧ risesT ks = true) (hl : 6 ≤ k → ∀ v ∈ l, canF d v = true) : canF (d + 1) (.mk k n b t ks l) = true := by
  by_cases h6 : 6 ≤ k
  · rw [canF_many h6 h7 hm, List.all_eq_true]
    exact hl h6
  · exact canF_flat h0 (by omega)
theorem enc_dec : ∀ d, ED d
  | 0 => fun l v r h => by
    unfold decV at h
    split at h <;> cases h
  | d + 1 => fun l v r hh => by
    have hd := enc_dec d
    cases l with
    | nil => cases hh
    | cons c l =>
    have h : leadR (decV d) c.toNat l = .ok v r := hh
    clear hh
    have hc := c.toNat_lt
    have flat : ∀ (k n : Int) (b t : List UInt8), 0 ≤ k → k < 6 → canF (d + 1) (.mk k n b t [] []) = true := fun k n b t h0 h6 => canF_flat h0 h6
    unfold leadR at h
    by_cases ht : isText c.toNat = true
    · rw [if_pos ht] at h
      cases h1 : textR c.toNat l with
      | no c => rw [h1] at h; cases h
      | ok k r1 =>
        rw [h1] at h
        cases h
        obtain ⟨e, a1, a2⟩ := text_of_read ht h1
        exact ⟨c :: e, by rw [a1]; rfl, flat _ _ _ _ (by decide) (by decide), .mk (by unfold in64; omega) (by simp), a2⟩
    rw [if_neg ht] at h
    by_cases hn : c.toNat ≤ 0x7f ∨ 0xe0 ≤ c.toNat
    · rw [if_pos hn] at h
      cases h
      have hi : in64 (int8 c.toNat) := int8_in _ hc
      have hb : intB (int8 c.toNat) = [c] := by
        have : -32 ≤ int8 c.toNat ∧ int8 c.toNat ≤ 127 ∧ (int8 c.toNat % 256).toNat = c.toNat := by unfold int8; split <;> omega
        unfold intB
        rw [if_pos ⟨this.1, this.2.1⟩, this.2.2, ofNat_toNat]
      refine ⟨[c], rfl, flat _ _ _ _ (by decide) (by decide), .mk hi (by simp), fun l0 hf => ?_⟩
      show putO (some l0) (intB (int8 c.toNat)) = _
      rw [hb, putO_fit hf]
    rw [if_neg hn] at h
    by_cases h9 : c.toNat / 16 = 9
    · rw [if_pos h9] at h
      cases h1 : listR (decV d) (c.toNat % 16) l with
      | no c => rw [h1] at h; cases h
      | ok vs r1 =>
        rw [h1] at h
        cases h
        obtain ⟨f1, f2, e, f3, f4⟩ := list_of_read hd _ l vs r h1
        have ec : (0x90 ||| UInt8.ofNat vs.length) = c := by
          rw [or_ofNat 0x90 15 vs.length (by decide) (by omega), show (0x90 : UInt8).toNat = 144 from rfl, show 144 + vs.length = c.toNat by omega, ofNat_toNat]
        refine ⟨c :: e, by rw [f3]; rfl, canF_mk (by decide) (by decide) (fun h => absurd h (by decide)) (fun _ v hv => (f2 v hv).1), .mk (by unfold in64; omega) (fun v hv => (f2 v hv).2), fun l0 hf => ?_⟩
        show vs.foldl (encO d) (manyO 0x90 0xdc (some l0) vs.length) = _
        unfold manyO
        rw [if_pos (by omega), ec, putO_fit (by simp at hf ⊢; omega), f4 _ (by simp at hf ⊢; omega)]
        simp
    rw [if_neg h9] at h
    by_cases h8 : c.toNat / 16 = 8
    · rw [if_pos h8] at h
      cases h1 : dictR (decV d) (c.toNat % 16) none l with
      | no c => rw [h1] at h; cases h
      | ok ps r1 =>
        rw [h1] at h
        cases h
        obtain ⟨f1, f2, f3, _, e, f5, f6⟩ := dict_of_read hd _ none l ps r h1
        have hlen : (ps.map (·.2)).length = ps.length := by simp
        have ec : (0x80 ||| UInt8.ofNat (ps.map (·.2)).length) = c := by
          rw [or_ofNat 0x80 15 _ (by decide) (by omega), show (0x80 : UInt8).toNat = 128 from rfl, show 128 + (ps.map (·.2)).length = c.toNat by omega, ofNat_toNat]
        refine ⟨c :: e, by rw [f5]; rfl, canF_mk (by decide) (by decide) (fun _ => ⟨by simp, f3⟩) (fun _ v hv => (f2 v hv).1), .mk (by unfold in64; omega) (fun v hv => (f2 v hv).2), fun l0 hf => ?_⟩
        show ((ps.map (·.1)).zip (ps.map (·.2))).foldl (fun o x => encO d (textO o x.1) x.2) (manyO 0x80 0xde (some l0) (ps.map (·.2)).length) = _
        unfold manyO
        rw [if_pos (by omega), ec, putO_fit (by simp at hf ⊢; omega), zip_back, f6 _ (by simp at hf ⊢; omega)]
        simp
    rw [if_neg h8] at h
    by_cases hint : 0xcc ≤ c.toNat ∧ c.toNat ≤ 0xd3
    · rw [if_pos hint] at h
      cases h1 : intR c.toNat l with
      | no c => rw [h1] at h; cases h
      | ok n r1 =>
        rw [h1] at h
        cases h
        obtain ⟨e, a1, a2, a3⟩ := intB_of hint h1
        rw [ofNat_toNat] at a2
        refine ⟨c :: e, by rw [a1]; rfl, flat _ _ _ _ (by decide) (by decide), .mk a3 (by simp), fun l0 hf => ?_⟩
        show putO (some l0) (intB n) = _
        rw [a2, putO_fit hf]
    rw [if_neg hint] at h
    have lead : ∀ x : Nat, c.toNat = x → c = UInt8.ofNat x := fun x hx => by rw [← hx, ofNat_toNat]
    by_cases hx0 : c.toNat = 0xc0
    · rw [if_pos hx0] at h
      cases h
      obtain rfl := lead _ hx0
      exact ⟨[0xc0], rfl, flat _ _ _ _ (by decide) (by decide), .mk (by unfold in64; omega) (by simp), fun l0 hf => putO_fit hf⟩
    rw [if_neg hx0] at h
    by_cases hx1 : c.toNat = 0xc2
    · rw [if_pos hx1] at h
      cases h
      obtain rfl := lead _ hx1
      exact ⟨[0xc2], rfl, flat _ _ _ _ (by decide) (by decide), .mk (by unfold in64; omega) (by simp), fun l0 hf => putO_fit hf⟩
    rw [if_neg hx1] at h
    by_cases hx2 : c.toNat = 0xc3
    · rw [if_pos hx2] at h
      cases h
      obtain rfl := lead _ hx2
      exact ⟨[0xc3], rfl, flat _ _ _ _ (by decide) (by decide), .mk (by unfold in64; omega) (by simp), fun l0 hf => putO_fit hf⟩
    rw [if_neg hx2] at h
    by_cases hx3 : c.toNat = 0xc4
    · rw [if_pos hx3] at h
      obtain rfl := lead _ hx3
      cases h1 : bigR 1 l with
      | no c => rw [h1] at h; cases h
      | ok x r1 =>
        rw [h1, Rs.bind_ok] at h
        cases h2 : takeR x r1 with
        | no c => rw [h2] at h; cases h
        | ok b r2 =>
          rw [h2] at h
          cases h
          obtain ⟨g1, g2⟩ := bigR_inv h1
          obtain ⟨k1, k2⟩ := takeR_inv h2
          have g2 : x < 256 := g2
          subst k2
          refine ⟨0xc4 :: (bigB b.length 1 ++ b), by rw [g1, k1]; simp, flat _ _ _ _ (by decide) (by decide), .mk (by unfold in64; omega) (by simp), fun l0 hf => ?_⟩
          show blobO (some l0) b = _
          unfold blobO
          rw [if_pos (by omega), putO_fit hf]
    rw [if_neg hx3] at h
    by_cases hx4 : c.toNat = 0xc5
    · rw [if_pos hx4] at h
      obtain rfl := lead _ hx4
      cases h1 : leastR 2 256 l with
      | no c => rw [h1] at h; cases h
      | ok x r1 =>
        rw [h1, Rs.bind_ok] at h
        cases h2 : takeR x r1 with
        | no c => rw [h2] at h; cases h
        | ok b r2 =>
          rw [h2] at h
          cases h
          obtain ⟨g1, g2, g3⟩ := leastR_inv h1
          obtain ⟨k1, k2⟩ := takeR_inv h2
          have g2 : x < 65536 := g2
          subst k2
          refine ⟨0xc5 :: (bigB b.length 2 ++ b), by rw [g1, k1]; simp, flat _ _ _ _ (by decide) (by decide), .mk (by unfold in64; omega) (by simp), fun l0 hf => ?_⟩
          show blobO (some l0) b = _
          unfold blobO
          rw [if_neg (by omega), if_pos (by omega), putO_fit hf]
    rw [if_neg hx4] at h
    by_cases hx5 : c.toNat = 0xdc
    · rw [if_pos hx5] at h
      obtain rfl := lead _ hx5
      cases h1 : leastR 2 16 l with
      | no c => rw [h1] at h; cases h
      | ok x r1 =>
        rw [h1, Rs.bind_ok] at h
        cases h2 : listR (decV d) x r1 with
        | no c => rw [h2] at h; cases h
        | ok vs r2 =>
          rw [h2] at h
          cases h
          obtain ⟨g1, g2, g3⟩ := leastR_inv h1
          have g2 : x < 65536 := g2
          obtain ⟨f1, f2, e, f3, f4⟩ := list_of_read hd _ r1 vs r h2
          subst f1
          refine ⟨0xdc :: (bigB vs.length 2 ++ e), by rw [g1, f3]; simp, canF_mk (by decide) (by decide) (fun h => absurd h (by decide)) (fun _ v hv => (f2 v hv).1), .mk (by unfold in64; omega) (fun v hv => (f2 v hv).2), fun l0 hf => ?_⟩
          show vs.foldl (encO d) (manyO 0x90 0xdc (some l0) vs.length) = _
          unfold manyO
          rw [if_neg (by omega), if_pos (by omega), putO_fit (by simp at hf ⊢; omega), f4 _ (by simp at hf ⊢; omega)]
          simp
    rw [if_neg hx5] at h
    by_cases hx6 : c.toNat = 0xde
    · rw [if_pos hx6] at h
      obtain rfl := lead _ hx6
      cases h1 : leastR 2 16 l with
      | no c => rw [h1] at h; cases h
      | ok x r1 =>
        rw [h1, Rs.bind_ok] at h
        cases h2 : dictR (decV d) x none r1 with
        | no c => rw [h2] at h; cases h
        | ok ps r2 =>
          rw [h2] at h
          cases h
          obtain ⟨g1, g2, g3⟩ := leastR_inv h1
          have g2 : x < 65536 := g2
          obtain ⟨f1, f2, f3, _, e, f5, f6⟩ := dict_of_read hd _ none r1 ps r h2
          have hlen : (ps.map (·.2)).length = x := by rw [List.length_map]; exact f1
          subst hlen
          refine ⟨0xde :: (bigB (ps.map (·.2)).length 2 ++ e), by rw [g1, f5]; simp, canF_mk (by decide) (by decide) (fun _ => ⟨by simp, f3⟩) (fun _ v hv => (f2 v hv).1), .mk (by unfold in64; omega) (fun v hv => (f2 v hv).2), fun l0 hf => ?_⟩
          show ((ps.map (·.1)).zip (ps.map (·.2))).foldl (fun o x => encO d (textO o x.1) x.2) (manyO 0x80 0xde (some l0) (ps.map (·.2)).length) = _
          unfold manyO
          rw [if_neg (by omega), if_pos (by omega), putO_fit (by simp at hf ⊢; omega), zip_back, f6 _ (by simp at hf ⊢; omega)]
          simp
    rw [if_neg hx6] at h
    cases h
theorem encF_dec {l : List UInt8} {v : PV} (h : decF l = (v, 0)) : encF v = (l, 0) := by
  unfold decF at h
  split at h
  · simp at h
  · rename_i hl
    split at h
    · rename_i c hc
      have hc0 : c = 0 := by simpa using congrArg Prod.snd h
      subst hc0
      exact absurd hc (decV_no 16 l)
    · rename_i v2 r hv
      split at h
      · rename_i hr
        cases h
        subst hr
        obtain ⟨e, he, hc, _, ha⟩ := enc_dec 16 l v [] hv
        rw [List.append_nil] at he
        subst he
        have := ha [] (by simp; omega)
        unfold encF
        rw [if_neg (by rw [hc]; decide), this]; rfl
      · simp at h
end Go.Proofs.Ytakliplkabgmbaa
