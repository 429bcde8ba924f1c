/- Joined: what one statement of this layer stands on, part 10 of 19; nothing is assumed. -/
import Derived.BigQuiet
import Derived.Test.YtakliplkabgmbaaKB8
import Derived.Test.YtakliplkabgmbaaKB9
set_option maxRecDepth 20000
namespace Go.Proofs.Ytakliplkabgmbaa
open Go.RowKit Go.Hd
attribute [local go_sem ↓] h_ldV h_stV h_alV
attribute [local go_sem] r_ldV r_stV r_alV

theorem results_cell_tmp {P : Program} {fn : Func} {p t : Tmp} {ty : TypeId} (h : fn.results = #[.cell p ty, .tmp t]) (tmps : Array Value) (w : World) (g : Nat) (tt : TypeId) (cs : Array Value) (fr : Nat × Nat) (d : TypeDesc)
    (hp : tmps.getD p undef = .pointer (some ⟨g, 0, none⟩)) (hg : w.heap[g]? = some (.cells cs tt fr))
    (hu : P.underlying ty = some d) (hd : (match d with | .struct _ | .array _ _ => true | _ => false) = true) (hi : (P.info? ty).map (·.size) = some cs.size) :
    (results fn tmps).run P w = .ok (.tuple #[.agg cs, tmps.getD t undef]) w := by
  have hp' : tmps[p]?.getD undef = .pointer (some ⟨g, 0, none⟩) := by simpa using hp
  simp [results, h, hp', asAddr, run_loadVar_row w g tt ty cs fr d hg hu hd hi]
/-- What Decode answers. -/
def DecP (w : World) (l : List UInt8) (e : Ending) (w' : World) : Prop :=
  ∃ cs, e = .returned (.tuple #[.agg (List.toArray cs), .int .i64 (decF l).2]) ∧ VAtP (fun b => w.heap.size ≤ b) w' cs (decF l).1 ∧ Below w.heap.size w w'
theorem dec_zero {w w2 : World} {old : List Value} {l : List UInt8} {c : Int} (hres : Blk w2 w.heap.size 63 old) (ho : old.length = 6) (hb : Below w.heap.size w w2) (hl : decF l = (pv0, c)) :
    (stoOp 63 (.pointer (some ⟨w.heap.size, 0, none⟩)) (.agg (List.toArray [.int .i64 0, .int .i64 0, .slice none 0 0, .string { data := #[] }, .slice none 0 0, .slice none 0 0]))).run Try.prog w2 = .ok () (w2.setRow w.heap.size (List.toArray [.int .i64 0, .int .i64 0, .slice none 0 0, .string { data := #[] }, .slice none 0 0, .slice none 0 0])) ∧
      Blk (w2.setRow w.heap.size (List.toArray [.int .i64 0, .int .i64 0, .slice none 0 0, .string { data := #[] }, .slice none 0 0, .slice none 0 0])) w.heap.size 63 [.int .i64 0, .int .i64 0, .slice none 0 0, .string { data := #[] }, .slice none 0 0, .slice none 0 0] ∧
      DecP w l (.returned (.tuple #[.agg (List.toArray [.int .i64 0, .int .i64 0, .slice none 0 0, .string { data := #[] }, .slice none 0 0, .slice none 0 0]), .int .i64 c])) (w2.setRow w.heap.size (List.toArray [.int .i64 0, .int .i64 0, .slice none 0 0, .string { data := #[] }, .slice none 0 0, .slice none 0 0])) := by
  have hg := setRow_gr w2 w.heap.size (List.toArray [.int .i64 0, .int .i64 0, .slice none 0 0, .string { data := #[] }, .slice none 0 0, .slice none 0 0])
  refine ⟨st_row hres ho _ rfl (oneC6 _ _ _ _ _ _ _ _ _ _ _ _), setRow_blk hres _, _, by rw [hl], ?_, Below.grown hb hg hb.size (fun k hk => by cases hk; exact Nat.le_refl _)⟩
  rw [hl]
  exact VAtP.plain (k := 0) (n := 0) (t := []) _ (by unfold in64; omega) (by unfold in64; omega) (Nat.zero_le _)
set_option maxHeartbeats 2000000 in
theorem dec_any {a : Option Addr} {n c : Nat} {l : List UInt8} {w : World} (hn : n = l.length) (hl : Row w a (l.map b8)) (hm : l.length ≤ maxLen) :
    Calls Try.prog 38 #[.slice a n c] w (DecP w l) := by
  subst hn
  have zs := zV_size
  have hO6 := oneC6
  have hb0 : Below w.heap.size w (w.alloc (.cells zV 63)) := (Below.refl _ _).alloc (Nat.le_refl _) _
  have R0 : Blk (w.alloc (.cells zV 63)) w.heap.size 63 zV.toList := Blk.new _ _ _
  by_cases hbig : 65536 < l.length
  · have i1 : 65536 < (l.length : Int) := by omega
    obtain ⟨HST, HB2, HV⟩ := dec_zero (l := l) (c := 5) R0 (by rfl) hb0 (by unfold decF; rw [if_pos hbig])
    clear R0 hb0
    go_enter Try.func38, Try.ntmps38
    go_wp2
    exact bodyPost_ret (results_cell_tmp (fn := Try.f38) (p := 2) (t := 3) (by rfl) _ _ w.heap.size 63 _ (0, 0) _ (by rfl) HB2 Try.underlying63 rfl sizeV) rfl HV
  · have i1 : ¬ 65536 < (l.length : Int) := by omega
    have HDF : Hid (decF l = match decV 16 l with | .no c => (pv0, c) | .ok v r => if r = [] then (v, 0) else (pv0, 6)) := by show _ = _; unfold decF; rw [if_neg hbig]; cases decV 16 l <;> rfl
    have hop := open_any (c := c) (w := w.alloc (.cells zV 63)) (l := l) rfl (hl.below hb0) (by omega)
    have hsm : l.length ≤ 65536 := by omega
    go_enter Try.func38, Try.ntmps38
    go_wp2_with fail
    refine hop.mono ?_
    rintro ee w1 ⟨g, rfl, hg, hrd, hb1⟩
    have hb2 : Below w1.heap.size w1 (w1.alloc (.cells #[.pointer (some ⟨g, 0, none⟩), .bool false] 99)) := (Below.refl _ _).alloc (Nat.le_refl _) _
    have hPR : PRs w1.heap.size (w1.alloc (.cells #[.pointer (some ⟨g, 0, none⟩), .bool false] 99)) w1.heap.size g (.ok () l) := ⟨l, 0, false, Blk.new _ _ _, hrd.keep hb2, ⟨rfl, rfl, rfl⟩, hsm, by have := hrd.lt; omega⟩
    have hval := val_any 16 (by decide) _ _ _ _ _ hPR (by simp)
    rw [Rs.bind_ok] at hval
    have hbw2 : Below w.heap.size w (w1.alloc (.cells #[.pointer (some ⟨g, 0, none⟩), .bool false] 99)) := Gr.trans (Gr.trans hb0 hb1) hb2
    have hw1 : w.heap.size + 1 ≤ w1.heap.size := by have := hb1.size; simpa using this
    have R2 := (R0.below hb1).below hb2
    have hg' : w.heap.size + 1 ≤ g := by simpa using hg
    generalize decV 16 l = R at *
    clear hop hPR R0 hrd hb1 hb0 hg hbig
    go_wp2_with fail
    refine hval.mono ?_
    rintro ee w3 ⟨cs, v, rfl, hv, hv0, hP, hk⟩
    have x6 : (List.toArray cs).size = 6 := hv.len
    have xo : OneC (List.toArray cs) := all_oneCell_toArray hv.one
    have hb4 : Below w3.heap.size w3 (w3.alloc (.cells (List.toArray cs) 63)) := (Below.refl _ _).alloc (Nat.le_refl _) _
    have R3 := hk.blk R2 (by omega) (by omega)
    have R4 := R3.below hb4
    have hw2s : w1.heap.size + 1 ≤ w3.heap.size := by have := hk.size; simpa using this
    have hbw3 : Below w.heap.size w w3 := hbw2.trans (hk.below hbw2.size (by omega) (by omega))
    have hbw4 : Below w.heap.size w (w3.alloc (.cells (List.toArray cs) 63)) := hbw3.trans (hb4.mono hbw3.size)
    have B5 : Blk (w3.alloc (.cells (List.toArray cs) 63)) w3.heap.size 63 cs := by simpa using Blk.new w3 63 (List.toArray cs)
    have hP4 := hP.keep hb4
    have hv4 := hv.grow hb4
    obtain ⟨l2, e2, bad, k1, k2, k3, _, _⟩ := hP4
    have c0 : (w3.alloc (.cells (List.toArray cs) 63)).cell? ⟨w1.heap.size, 0, none⟩ = some (.pointer (some ⟨g, 0, none⟩)) := k1.cell rfl
    have c1 : (w3.alloc (.cells (List.toArray cs) 63)).cell? ⟨w1.heap.size, 1, none⟩ = some (.bool bad) := k1.cell rfl
    have hend := end_any k2
    have q5 : (ldOp 63 (.pointer (some ⟨w3.heap.size, 0, none⟩))).run Try.prog (w3.alloc (.cells (List.toArray cs) 63)) = .ok (.agg (List.toArray cs)) (w3.alloc (.cells (List.toArray cs) 63)) := ldOp_all (P := Try.prog) (ty := 63) B5 Try.underlying63 rfl (by rw [hv.len]; exact sizeV)
    clear hP hk R2 R3 hb2 hbw2 hbw3 hval hv hb4 B5 k1 k2
    cases R with
    | no c5 =>
      rcases k3 with ⟨rfl, rfl⟩ | ⟨rfl, rfl, hc5⟩
      · obtain ⟨HST, HB2, HV⟩ := dec_zero (l := l) (c := 4) R4 (by rfl) hbw4 HDF.out
        clear R4 hbw4 hend hv4 hv0 HDF
        go_wp2
        exact bodyPost_ret (results_cell_tmp (fn := Try.f38) (p := 2) (t := 3) (by rfl) _ _ w.heap.size 63 _ (0, 0) _ (by rfl) HB2 Try.underlying63 rfl sizeV) rfl HV
      · have he : rdEnd l2 e2 = e2 := by unfold rdEnd; rw [if_pos hc5]
        rw [he] at hend
        have hne : (e2 != 0) = true := by simpa using hc5
        obtain ⟨HST, HB2, HV⟩ := dec_zero (l := l) (c := e2) R4 (by rfl) hbw4 HDF.out
        clear R4 hbw4 hv4 hv0 he hc5 HDF
        go_wp2_with fail
        refine hend.mono ?_
        rintro ee w5 ⟨rfl, rfl⟩
        go_wp2_with fail
        refine hend.mono ?_
        rintro ee w5 ⟨rfl, rfl⟩
        go_wp2
        exact bodyPost_ret (results_cell_tmp (fn := Try.f38) (p := 2) (t := 3) (by rfl) _ _ w.heap.size 63 _ (0, 0) _ (by rfl) HB2 Try.underlying63 rfl sizeV) rfl HV
    | ok v0 r =>
      obtain ⟨rfl, rfl, rfl⟩ := k3
      obtain rfl := hv0 v0 l2 rfl
      by_cases hr : l2 = []
      · have he : rdEnd l2 0 = 0 := by rw [hr]; rfl
        rw [he] at hend
        have HD2 : Hid (decF l = (v, 0)) := by show _ = _; rw [HDF.out]; exact if_pos hr
        have HST := st_row R4 (by rfl) (List.toArray cs) x6 xo
        have HB2 := setRow_blk R4 cs
        have HG2 := setRow_gr (w3.alloc (.cells (List.toArray cs) 63)) w.heap.size (List.toArray cs)
        have HV : Hid (DecP w l (.returned (.tuple #[.agg (List.toArray cs), .int .i64 0])) ((w3.alloc (.cells (List.toArray cs) 63)).setRow w.heap.size (List.toArray cs))) := by
          refine ⟨cs, by rw [HD2.out], ?_, Below.grown hbw4 HG2 hbw4.size (fun k hk => by cases hk; exact Nat.le_refl _)⟩
          rw [HD2.out]
          exact (hv4.same (w' := (w3.alloc (.cells (List.toArray cs) 63)).setRow w.heap.size _) (fun z hz hlt => HG2.block z hlt (by have hz : (w1.alloc (.cells #[.pointer (some ⟨g, 0, none⟩), .bool false] 99)).heap.size ≤ z := hz; simp at hz ⊢; omega))).mono (fun z hz _ => by have hz : (w1.alloc (.cells #[.pointer (some ⟨g, 0, none⟩), .bool false] 99)).heap.size ≤ z := hz; simp at hz; omega)
        clear R4 hbw4 hv4 hv0 he hr HG2 HDF HD2
        go_wp2_with fail
        refine hend.mono ?_
        rintro ee w5 ⟨rfl, rfl⟩
        go_wp2
        exact bodyPost_ret (results_cell_tmp (fn := Try.f38) (p := 2) (t := 3) (by rfl) _ _ w.heap.size 63 _ (0, 0) _ (by rfl) HB2 Try.underlying63 rfl (by rw [x6]; exact sizeV)) rfl HV
      · have he : rdEnd l2 0 = 6 := by
          unfold rdEnd
          rw [if_neg (by simp), if_pos (List.length_pos_iff.2 hr)]
        rw [he] at hend
        obtain ⟨HST, HB2, HV⟩ := dec_zero (l := l) (c := 6) R4 (by rfl) hbw4 (by rw [HDF.out]; exact if_neg hr)
        clear R4 hbw4 hv4 hv0 he hr HDF
        go_wp2_with fail
        refine hend.mono ?_
        rintro ee w5 ⟨rfl, rfl⟩
        go_wp2_with fail
        refine hend.mono ?_
        rintro ee w5 ⟨rfl, rfl⟩
        go_wp2
        exact bodyPost_ret (results_cell_tmp (fn := Try.f38) (p := 2) (t := 3) (by rfl) _ _ w.heap.size 63 _ (0, 0) _ (by rfl) HB2 Try.underlying63 rfl sizeV) rfl HV
end Go.Proofs.Ytakliplkabgmbaa
set_option maxRecDepth 20000
namespace Go.Proofs.Ytakliplkabgmbaa
open Go.RowKit Go.Hd
attribute [local go_sem ↓] h_ldV h_stV h_alV
attribute [local go_sem] r_ldV r_stV r_alV
/-- The first value whose key it is. -/
def findK : List (List UInt8) → List PV → List UInt8 → Option PV
  | k :: ks, v :: vs, key => if k = key then some v else findK ks vs key
  | _, _, _ => none
def fldV (v : PV) (key : List UInt8) : PV := if v.kind = 7 then (findK v.keys v.list key).getD pv0 else pv0
def getV (v : PV) (key : List UInt8) : PV := if v.kind = 7 then ((findK v.keys v.list key).map normV).getD pv0 else pv0
theorem findK_step {ks : List (List UInt8)} {vs : List PV} {key : List UInt8} {j : Nat} (h1 : j < ks.length) (h2 : ¬ (ks[j] = key ∧ j < vs.length)) : findK (ks.drop j) (vs.drop j) key = findK (ks.drop (j + 1)) (vs.drop (j + 1)) key := by
  rw [List.drop_eq_getElem_cons h1]
  by_cases hv : j < vs.length
  · rw [List.drop_eq_getElem_cons hv, findK, if_neg (fun e => h2 ⟨e, hv⟩)]
  · rw [List.drop_of_length_le (l := vs) (i := j) (by omega), List.drop_of_length_le (l := vs) (i := j + 1) (by omega)]
    cases ks.drop (j + 1) <;> rfl
theorem findK_hit {ks : List (List UInt8)} {vs : List PV} {key : List UInt8} {j : Nat} (h1 : j < ks.length) (h2 : j < vs.length) (h : ks[j] = key) : findK (ks.drop j) (vs.drop j) key = some vs[j] := by
  rw [List.drop_eq_getElem_cons h1, List.drop_eq_getElem_cons h2, findK, if_pos h]
theorem findK_end {ks : List (List UInt8)} {vs : List PV} {key : List UInt8} : findK (ks.drop ks.length) (vs.drop ks.length) key = none := by
  rw [List.drop_length]; cases vs.drop ks.length <;> rfl
theorem fldV_mk (k n : Int) (b t : List UInt8) (ks : List (List UInt8)) (l : List PV) (key : List UInt8) : fldV (.mk k n b t ks l) key = if k = 7 then (findK ks l key).getD pv0 else pv0 := rfl
theorem getV_mk (k n : Int) (b t : List UInt8) (ks : List (List UInt8)) (l : List PV) (key : List UInt8) : getV (.mk k n b t ks l) key = if k = 7 then ((findK ks l key).map normV).getD pv0 else pv0 := rfl
/-- A result of six cells in block r. -/
def ResP (w : World) (r : Nat) (W : World) (c2 : List Value) (v : PV) : Prop :=
  ∃ W2, (stoOp 63 (.pointer (some ⟨r, 0, none⟩)) (.agg c2.toArray)).run Try.prog W = .ok () W2 ∧ Blk W2 r 63 c2 ∧ VAtP (fun b => w.heap.size ≤ b) W2 c2 v ∧ Below w.heap.size w W2
theorem res_any {w W : World} {r : Nat} {old cs : List Value} {v : PV} (hR : Blk W r 63 old) (ho : old.length = 6) (hr : w.heap.size ≤ r) (hv : VAtP (fun b => w.heap.size ≤ b ∧ b ≠ r) W cs v) (hb : Below w.heap.size w W) : ResP w r W cs v := by
  have h6 := hv.len
  have hgr := setRow_gr W r cs.toArray
  refine ⟨W.setRow r cs.toArray, st_row hR ho cs.toArray (by simpa using h6) (by exact all_oneCell_toArray hv.one), setRow_blk hR cs, ?_, ?_⟩
  · exact (hv.same (w' := W.setRow r cs.toArray) (fun b hb hlt => hgr.block b hlt (by simp; omega))).mono (fun b hb _ => by omega)
  · exact hb.trans ⟨hgr.os, hgr.tape, hgr.output, hgr.size, fun k hk => hgr.block k (Nat.lt_of_lt_of_le hk hb.size) (by simp; omega)⟩
theorem res_zero {w W : World} {r : Nat} {old : List Value} (hR : Blk W r 63 old) (ho : old.length = 6) (hr : w.heap.size ≤ r) (hb : Below w.heap.size w W) : ResP w r W [.int .i64 0, .int .i64 0, .slice none 0 0, .string { data := #[] }, .slice none 0 0, .slice none 0 0] pv0 :=
  res_any hR ho hr (VAtP.plain (k := 0) (n := 0) (t := []) _ (by unfold in64; omega) (by unfold in64; omega) (Nat.zero_le _)) hb
def GetP (w : World) (v : PV) (e : Ending) (w' : World) : Prop := ∃ ds f, e = .returned (.tuple #[.agg (List.toArray ds), .bool f]) ∧ VAtP (fun b => w.heap.size ≤ b) w' ds v ∧ Below w.heap.size w w'
set_option maxHeartbeats 1000000 in
theorem vget_any {w0 : World} {cs : List Value} {v : PV} (key : List UInt8) (h : VAt w0 cs v) (hsm : Sm v) (w : World) (hbw : Below w0.heap.size w0 w) : Calls Try.prog 39 #[.agg cs.toArray, .string (str key)] w (GetP w (getV v key)) := by
  cases h with
  | @mk k n b t ks l ab ak al cb ck cl css hk hn hb hbc ht hks hkc hkt hl hlc hcs h6 sub =>
  have hsz := hbw.size
  obtain ⟨s1, s2, s3, s4⟩ := hsm.parts
  obtain ⟨box, hbox⟩ : ∃ box : List Value, box = [.int .i64 k, .int .i64 n, .slice ab b.length cb, strV t, .slice ak ks.length ck, .slice al l.length cl] := ⟨_, rfl⟩
  have hall : Hid (∀ W, W = (w.alloc (.cells (List.toArray (α := Value) box) 63)).alloc (.cells zV 63) → Blk W w.heap.size 63 box ∧ Blk W (w.heap.size + 1) 63 zV.toList ∧ Below w.heap.size w W ∧ W.heap.size = w.heap.size + 2) := by
    rintro W rfl
    refine ⟨?_, ?_, ((Below.refl _ _).alloc (Nat.le_refl _) _).alloc (by simp) _, by simp⟩
    · simpa using (Blk.new w 63 box.toArray).alloc (.cells zV 63)
    · have := Blk.new (w.alloc (.cells (List.toArray (α := Value) box) 63)) 63 zV
      simpa using this
  have zs := zV_size
  have hO6 := oneC6
  rw [← hbox]
  have HB := Lib.hid hbox
  clear hbox
  go_enter Try.func39, Try.ntmps39
  go_upto_region 1 with (fail)
  generalize hW : (w.alloc (.cells (List.toArray (α := Value) box) 63)).alloc (.cells zV 63) = W at *
  obtain ⟨A0, R0, hbW, S0⟩ := hall.out W rfl
  clear hall hW
  have a0 : W.cell? ⟨w.heap.size, 0, none⟩ = some (.int .i64 k) := A0.cell (by rw [HB.out]; rfl)
  have a4 : W.cell? ⟨w.heap.size, 4, none⟩ = some (.slice ak ks.length ck) := A0.cell (by rw [HB.out]; rfl)
  have a5 : W.cell? ⟨w.heap.size, 5, none⟩ = some (.slice al l.length cl) := A0.cell (by rw [HB.out]; rfl)
  obtain ⟨Wz, z1, z2, z3, z4⟩ := res_zero R0 (by rfl) (by omega) hbW
  by_cases h7 : k = 7
  · subst h7
    have HG : Hid (getV (.mk 7 n b t ks l) key = ((findK ks l key).map normV).getD pv0) := by show _ = _; rw [getV_mk, if_pos rfl]
    have j65 : (ks.length : Int) ≤ 65536 := by omega
    go_wp2
    go_loopw [15] (fun i wr => ∃ j : Nat, j ≤ ks.length ∧ i = .int .i64 j ∧ wr = W ∧ Hid (findK ks l key = findK (ks.drop j) (l.drop j) key)) (fun i _ => ks.length - (intOf i).toNat)
    case atStart => exact ⟨0, Nat.zero_le _, rfl, rfl, Lib.hid (by rw [List.drop_zero, List.drop_zero])⟩
    case round =>
      obtain ⟨j, hj, rfl, rfl, hF⟩ := hrel
      have j0 : (0 : Int) ≤ (j : Int) := by omega
      have jb : IntKind.i64.wrap ((j : Int) + 1) = (j : Int) + 1 := IntWalk.i64_in _ (by omega)
      by_cases hlt : j < ks.length
      · have j1 : (j : Int) < (ks.length : Int) := by omega
        have hkW := hks.below (hbw.trans (hbW.mono hsz))
        have s5 := hkW.isSome (i := j) (by simpa using hlt)
        have c5 : wr.cell? ((hd ak).add j) = some (.string (str ks[j])) := hkW.cell (i := j) (u := strV ks[j]) (by simp [hlt])
        have hsb := str_beq ks[j] key
        by_cases hhit : ks[j] = key ∧ j < l.length
        · obtain ⟨hk1, hk2⟩ := hhit
          have hk3 : ((str ks[j]).toList == (str key).toList) = true := by rw [hsb]; simpa using hk1
          have j2 : (j : Int) < (l.length : Int) := by omega
          have hr2 := hl.below (hbw.trans (hbW.mono hsz))
          have s6 := hr2.elemSome (s := 6) h6 (by decide) (i := j) (by omega)
          have hxc := sub j css[j] l[j] (by simp [hcs, hk2]) (by simp [hk2])
          have q1 := ldOp_at (P := Try.prog) (ty := 63) (hr2.elem (s := 6) h6 (i := j) (c := css[j]) (by simp [hcs, hk2])) Try.underlying63 rfl (by rw [hxc.len]; exact sizeV)
          have HE : Hid (getV (.mk 7 n b t ks l) key = normV l[j]) := by show _ = _; rw [HG.out, hF.out, findK_hit hlt hk2 hk1]; rfl
          have hcl := vclone_any hxc wr (hbw.trans (hbW.mono hsz)) (s4 _ (List.getElem_mem hk2))
          clear HG hF hsb hr2
          generalize ks[j] = kj at *
          generalize l[j] = x at *
          generalize css[j] = cx at *
          go_wp2_with fail
          refine hcl.mono ?_
          rintro e w2 ⟨ds, rfl, hds, hb2⟩
          obtain ⟨W2, y1, y2, y3, y4⟩ := res_any (w := w) (R0.below hb2) (by rfl) (by omega) (hds.mono (fun b hb _ => by omega)) (hbW.trans (hb2.mono hbW.size))
          have hd6 : (List.toArray ds).size = 6 := by simpa using hds.len
          go_wp2
          refine bodyPost_ret (results_cell_tmp (fn := Try.f39) (p := 4) (t := 5) (by rfl) _ _ (w.heap.size + 1) 63 _ (0, 0) _ (by rfl) y2 Try.underlying63 rfl (by rw [hd6]; exact sizeV)) rfl ⟨_, _, rfl, by rw [HE.out]; exact y3, y4⟩
        · have HF2 : Hid (findK ks l key = findK (ks.drop (j + 1)) (l.drop (j + 1)) key) := hF.out.trans (findK_step hlt hhit)
          by_cases hk1 : ks[j] = key
          · have hk3 : ((str ks[j]).toList == (str key).toList) = true := by rw [hsb]; simpa using hk1
            have j2 : ¬ (j : Int) < (l.length : Int) := fun h => hhit ⟨hk1, by omega⟩
            clear hhit hsb
            generalize ks[j] = kj at *
            go_wp2
            first
              | exact ⟨⟨j + 1, by omega, (by first | rfl | go_num | (congr 1; omega)), (by first | rfl | trivial), HF2⟩, by simp [intOf] <;> omega⟩
              | (refine ⟨?_, by simp [intOf] <;> omega⟩; (repeat apply Exists.intro); exact ⟨⟨j + 1, by omega, (by first | rfl | go_num | (congr 1; omega)), (by first | rfl | trivial), HF2⟩, rfl⟩)
          · have hk3 : ((str ks[j]).toList == (str key).toList) = false := by rw [hsb]; simpa using hk1
            clear hhit hsb
            generalize ks[j] = kj at *
            go_wp2
            first
              | exact ⟨⟨j + 1, by omega, (by first | rfl | go_num | (congr 1; omega)), (by first | rfl | trivial), HF2⟩, by simp [intOf] <;> omega⟩
              | (refine ⟨?_, by simp [intOf] <;> omega⟩; (repeat apply Exists.intro); exact ⟨⟨j + 1, by omega, (by first | rfl | go_num | (congr 1; omega)), (by first | rfl | trivial), HF2⟩, rfl⟩)
      · obtain rfl : j = ks.length := by omega
        have j1 : ¬ (ks.length : Int) < (ks.length : Int) := by omega
        have HE : Hid (getV (.mk 7 n b t ks l) key = pv0) := by show _ = _; rw [HG.out, hF.out, findK_end]; rfl
        go_wp2
        refine bodyPost_ret (results_cell_tmp (fn := Try.f39) (p := 4) (t := 5) (by rfl) _ _ (w.heap.size + 1) 63 _ (0, 0) _ (by rfl) z2 Try.underlying63 rfl sizeV) rfl ⟨_, _, rfl, by rw [HE.out]; exact z3, z4⟩
  · have t7 : (k != 7) = true := by simpa using h7
    have HE : Hid (getV (.mk k n b t ks l) key = pv0) := by show _ = _; rw [getV_mk, if_neg h7]
    go_wp2
    refine bodyPost_ret (results_cell_tmp (fn := Try.f39) (p := 4) (t := 5) (by rfl) _ _ (w.heap.size + 1) 63 _ (0, 0) _ (by rfl) z2 Try.underlying63 rfl sizeV) rfl ⟨_, _, rfl, by rw [HE.out]; exact z3, z4⟩
end Go.Proofs.Ytakliplkabgmbaa
set_option maxRecDepth 20000
namespace Go.Proofs.Ytakliplkabgmbaa
open Go.RowKit Go.Hd
attribute [local go_sem ↓] h_ldV h_stV h_alV
attribute [local go_sem] r_ldV r_stV r_alV
def FldP (w : World) (v : PV) (e : Ending) (w' : World) : Prop := ∃ ds, e = .returned (.agg (List.toArray ds)) ∧ VAt w' ds v ∧ Below w.heap.size w w'
def atV (v : PV) (i : Nat) : PV := v.list.getD i pv0
end Go.Proofs.Ytakliplkabgmbaa
set_option maxRecDepth 20000
namespace Go.Proofs.Ytakliplkabgmbaa
open Go.RowKit Go.Hd
attribute [local go_sem ↓] h_ldV h_stV h_alV h_ldID h_stID h_alID
attribute [local go_sem] r_ldV r_stV r_alV r_ldID r_stID r_alID
def padT (b : List UInt8) (t : Nat) : List UInt8 := b.take t ++ List.replicate (32 - t) 0
def keyV (b : List UInt8) : List UInt8 := padT b (min 32 b.length)
theorem padT_len {b : List UInt8} {t : Nat} (h : t ≤ b.length) (h2 : t ≤ 32) : (padT b t).length = 32 := by simp [padT]; omega
theorem keyV_len (b : List UInt8) : (keyV b).length = 32 := padT_len (Nat.min_le_right _ _) (Nat.min_le_left _ _)
theorem keyV_32 {b : List UInt8} (h : b.length = 32) : keyV b = b := by simp [keyV, padT, h, List.take_of_length_le (show b.length ≤ 32 by omega)]
/-- Whether values are of some kinds. -/
def isL : List PV → List Int → Bool
  | x :: l, k :: ks => decide (x.kind = k) && !(decide (k = 4) && !decide (x.bytes.length = 32)) && isL l ks
  | _, _ => true
def isV (v : PV) (ks : List Int) : Bool := decide (v.kind = 6) && decide (v.list.length = ks.length) && isL v.list ks
theorem VAt.parts {w : World} {cs : List Value} {v : PV} (h : VAt w cs v) : ∃ ab cb u3 u4 u5, cs = [.int .i64 v.kind, .int .i64 v.int, .slice ab v.bytes.length cb, u3, u4, u5] := by
  cases h with
  | @mk k n b t ks l ab ak al cb ck cl css hk hn hb hbc ht hks hkc hkt hl hlc hcs h6 sub => exact ⟨_, _, _, _, _, rfl⟩
set_option maxHeartbeats 1000000 in
theorem is_any {w0 : World} {cs : List Value} {v : PV} {a : Option Addr} {c m : Nat} {ks : List Int} (h : VAt w0 cs v) (hm : m = ks.length) (hm2 : ks.length ≤ 1000) (w : World) (hbw : Below w0.heap.size w0 w) (hr : Row w a (ks.map (.int .i64))) : Calls Try.prog 40 #[.agg cs.toArray, .slice a m c] w fun e w' => e = .returned (.bool (isV v ks)) ∧ Below w.heap.size w w' := by
  subst hm
  cases h with
  | @mk k n b t kys l ab ak al cb ck cl css hk hn hb hbc ht hks hkc hkt hl hlc hcs h6 sub =>
  have hsz := hbw.size
  have zs := zV_size
  obtain ⟨box, hbox⟩ : ∃ box : List Value, box = [.int .i64 k, .int .i64 n, .slice ab b.length cb, strV t, .slice ak kys.length ck, .slice al l.length cl] := ⟨_, rfl⟩
  have A0 : Blk (w.alloc (.cells (List.toArray (α := Value) box) 63)) w.heap.size 63 box := Blk.new _ _ _
  have hb0 : Below w.heap.size w (w.alloc (.cells (List.toArray (α := Value) box) 63)) := (Below.refl _ _).alloc (Nat.le_refl _) _
  have hr0 := hr.below hb0
  have HS : Hid (isV (.mk k n b t kys l) ks = (decide (k = 6) && decide (l.length = ks.length) && isL l ks)) := rfl
  rw [← hbox]
  have HB := Lib.hid hbox
  clear hbox
  go_enter Try.func40, Try.ntmps40
  go_upto_region 1 with (fail)
  generalize w.alloc (.cells (List.toArray (α := Value) box) 63) = W at *
  have a0 : W.cell? ⟨w.heap.size, 0, none⟩ = some (.int .i64 k) := A0.cell (by rw [HB.out]; rfl)
  have a5 : W.cell? ⟨w.heap.size, 5, none⟩ = some (.slice al l.length cl) := A0.cell (by rw [HB.out]; rfl)
  by_cases h6' : k = 6
  case neg =>
    have t6 : (k != 6) = true := by simpa using h6'
    have HE : Hid (isV (.mk k n b t kys l) ks = false) := by show _ = _; rw [HS.out, decide_eq_false h6']; rfl
    go_wp2
    go_ret
    exact ⟨by rw [HE.out]; rfl, hb0⟩
  case pos =>
  subst h6'
  by_cases hlen : l.length = ks.length
  case neg =>
    have t6 : ((l.length : Int) != (ks.length : Int)) = true := by simpa using fun h => hlen (by omega)
    have HE : Hid (isV (.mk 6 n b t kys l) ks = false) := by show _ = _; rw [HS.out, decide_eq_false hlen]; rfl
    go_wp2
    go_ret
    exact ⟨by rw [HE.out]; rfl, hb0⟩
  case pos =>
  have t6 : ((l.length : Int) != (ks.length : Int)) = false := by simp [hlen]
  have HE : Hid (isV (.mk 6 n b t kys l) ks = isL l ks) := by show _ = _; rw [HS.out, decide_eq_true hlen]; rfl
  have HL := Lib.hid hlen
  have hl1000 : l.length ≤ 1000 := by omega
  clear hlen HS
  have G2 := Lib.hid hb0
  go_wp2
  go_loopw [21] (fun i wr => ∃ j : Nat, j ≤ l.length ∧ i = .int .i64 j ∧ Hid (isL l ks = isL (l.drop j) (ks.drop j)) ∧ Hid (Below w.heap.size w wr)) (fun i _ => l.length - (intOf i).toNat)
  case atStart => exact ⟨0, Nat.zero_le _, rfl, Lib.hid (by rw [List.drop_zero, List.drop_zero]), G2⟩
  case round =>
    clear G2 hb0 A0 hr0
    obtain ⟨j, hj, rfl, hI, hbr⟩ := hrel
    have j0 : (0 : Int) ≤ (j : Int) := by omega
    have jb : IntKind.i64.wrap ((j : Int) + 1) = (j : Int) + 1 := IntWalk.i64_in _ (by omega)
    by_cases hlt : j < l.length
    · have j1 : (j : Int) < (l.length : Int) := by omega
      have hjk : j < ks.length := by have := HL.out; omega
      have j2 : (j : Int) < (ks.length : Int) := by omega
      have hrk := hr.below hbr.out
      have hr2 := hl.below (hbw.trans (hbr.out.mono hsz))
      have s6 := hr2.elemSome (s := 6) h6 (by decide) (i := j) (by omega)
      have hxc := sub j css[j] l[j] (by simp [hcs, hlt]) (by simp [hlt])
      have q1 := ldOp_at (P := Try.prog) (ty := 63) (hr2.elem (s := 6) h6 (i := j) (c := css[j]) (by simp [hcs, hlt])) Try.underlying63 rfl (by rw [hxc.len]; exact sizeV)
      have HI : Hid (isL l ks = (decide (l[j].kind = ks[j]) && !(decide (ks[j] = 4) && !decide (l[j].bytes.length = 32)) && isL (l.drop (j + 1)) (ks.drop (j + 1)))) := by
        show _ = _
        rw [hI.out, List.drop_eq_getElem_cons hlt, List.drop_eq_getElem_cons hjk, isL]
      have s7 := hrk.isSome (i := j) (by simpa using hjk)
      have c7 : ∀ {o : Obj}, (wr.alloc o).cell? ((hd a).add j) = some (.int .i64 ks[j]) := fun {o} => (hrk.below ((Below.refl _ _).alloc (Nat.le_refl _) o)).cell (i := j) (u := .int .i64 ks[j]) (by simp [hjk])
      have y1 : (List.toArray css[j]).size = 6 := by simpa using hxc.len
      have y2 : OneC (List.toArray css[j]) := all_oneCell_toArray hxc.one
      have hB2 : Hid (Below w.heap.size w (wr.alloc (.cells (List.toArray css[j]) 63))) := hbr.out.alloc hbr.out.size _
      have hXB := Blk.new wr 63 (List.toArray css[j])
      obtain ⟨ab', cb', u3, u4, u5, hcx⟩ := VAt.parts hxc
      have c8 : (wr.alloc (.cells (List.toArray css[j]) 63)).cell? ⟨wr.heap.size, 0, none⟩ = some (.int .i64 l[j].kind) := hXB.cell (by simp [hcx])
      have c9 : (wr.alloc (.cells (List.toArray css[j]) 63)).cell? ⟨wr.heap.size, 2, none⟩ = some (.slice ab' l[j].bytes.length cb') := hXB.cell (by simp [hcx])
      have c7' := c7 (o := .cells (List.toArray css[j]) 63)
      clear hr2 hrk hXB hcx c7 hxc
      generalize css[j] = cx at *
      generalize l[j].kind = xk at *
      generalize l[j].bytes.length = xb at *
      generalize ks[j] = kk at *
      have hret : Hid (∀ B : Bool, B = false → isV (.mk 6 n b t kys l) ks = (B && isL (l.drop (j + 1)) (ks.drop (j + 1))) → isV (.mk 6 n b t kys l) ks = false) := fun B h1 h2 => by rw [h2, h1]; rfl
      have hI2 : Hid (isV (.mk 6 n b t kys l) ks = (decide (xk = kk) && !(decide (kk = 4) && !decide (xb = 32)) && isL (l.drop (j + 1)) (ks.drop (j + 1)))) := HE.out.trans HI.out
      by_cases e1 : xk = kk
      · subst e1
        have t1 : (xk != xk) = false := by simp
        by_cases e2 : xk = 4
        · subst e2
          by_cases e3 : xb = 32
          · subst e3
            have HF2 : Hid (isL l ks = isL (l.drop (j + 1)) (ks.drop (j + 1))) := by show _ = _; rw [HI.out]; simp
            clear hI2 hret HI hI
            go_upto_region 6 with (fail)
            go_quiet (fail)
            go_wp2
            first
              | exact ⟨⟨j + 1, by omega, (by first | rfl | go_num | (congr 1; omega)), HF2, Below.drewN hB2.out _⟩, by simp [intOf] <;> omega⟩
              | (refine ⟨?_, by simp [intOf] <;> omega⟩; (repeat apply Exists.intro); exact ⟨⟨j + 1, by omega, (by first | rfl | go_num | (congr 1; omega)), HF2, Below.drewN hB2.out _⟩, rfl⟩)
          · have t3 : ((xb : Int) != 32) = true := by simp; omega
            have HF : Hid (isV (.mk 6 n b t kys l) ks = false) := by show _ = _; rw [hI2.out]; simp [e3]
            clear hI2 hret HI hI
            go_upto_region 6 with (fail)
            go_quiet (fail)
            go_wp2
            go_ret
            exact ⟨by rw [HF.out]; rfl, Below.drewN hB2.out _⟩
        · have t2 : (xk == 4) = false := by simpa using e2
          have HF2 : Hid (isL l ks = isL (l.drop (j + 1)) (ks.drop (j + 1))) := by show _ = _; rw [HI.out]; simp [e2]
          clear hI2 hret HI hI
          go_upto_region 6 with (fail)
          go_quiet (fail)
          go_wp2
          first
            | exact ⟨⟨j + 1, by omega, (by first | rfl | go_num | (congr 1; omega)), HF2, Below.drewN hB2.out _⟩, by simp [intOf] <;> omega⟩
            | (refine ⟨?_, by simp [intOf] <;> omega⟩; (repeat apply Exists.intro); exact ⟨⟨j + 1, by omega, (by first | rfl | go_num | (congr 1; omega)), HF2, Below.drewN hB2.out _⟩, rfl⟩)
      · have t1 : (xk != kk) = true := by simpa using e1
        have HF : Hid (isV (.mk 6 n b t kys l) ks = false) := by show _ = _; rw [hI2.out]; simp [e1]
        clear hI2 hret HI hI
        go_upto_region 6 with (fail)
        go_quiet (fail)
        go_wp2
        go_ret
        exact ⟨by rw [HF.out]; rfl, Below.drewN hB2.out _⟩
    · obtain rfl : j = l.length := by omega
      have j1 : ¬ (l.length : Int) < (l.length : Int) := by omega
      have HT : Hid (isV (.mk 6 n b t kys l) ks = true) := by show _ = _; rw [HE.out, hI.out, List.drop_length]; cases ks.drop l.length <;> rfl
      go_wp2
      go_ret
      exact ⟨by rw [HT.out]; rfl, hbr.out⟩
end Go.Proofs.Ytakliplkabgmbaa
