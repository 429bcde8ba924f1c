/- Joined: what one statement of this layer stands on, part 17 of 19; nothing is assumed. -/
import Derived.Deep.CutBlock
import Derived.Deep.RegionLaw
import Derived.Test.YtakliplkabgmbaaKB10
import Derived.Test.YtakliplkabgmbaaKB13
import Derived.Test.YtakliplkabgmbaaKB14
import Derived.Test.YtakliplkabgmbaaKB16
set_option maxRecDepth 20000
namespace Go.Proofs.Ytakliplkabgmbaa
open Go.RowKit Go.Hd

/-- The state as the document's own reader has it: place, error. -/
def RSst {α : Type} (s : Rs α) (L : List UInt8) (p : Nat) (e : Int) : Prop := match s with
  | .ok _ r => r = L.drop p ∧ e = 0
  | .no c => e = c ∧ c ≠ 0
def RRs {α : Type} (B : Nat) (w : World) (g : Nat) (L : List UInt8) (s : Rs α) : Prop :=
  ∃ (a : Option Addr) (c p : Nat) (e : Int), Blk w g 106 [.slice a L.length c, .int .i64 (p : Int), .int .i64 e] ∧ Row w a (L.map b8) ∧ (L.length ≤ c ∧ c ≤ maxLen) ∧ (0 < L.length → (hd a).block < B) ∧ B ≤ g ∧ p ≤ L.length ∧ L.length ≤ 65536 ∧ RSst s L p e
attribute [local go_sem ↓] h_ldV h_stV h_alV
attribute [local go_sem] r_ldV r_stV r_alV

/-- The state of a list's, a map's loop. -/
structure RJ {α : Type} (B g : Nat) (L : List UInt8) (w wr : World) (k : Int) (uK uL : Value) (ks : List (List UInt8)) (vs : List PV) (S : Rs α) : Prop where
  res : Blk wr w.heap.size 63 zV.toList
  vb : VB (w.heap.size + 1) (w.heap.size + 1) wr (.mk k 0 [] [] ks vs) (.slice none 0 0) uK uL
  st : RRs B wr g L S
  dk : Dk g g w wr
end Go.Proofs.Ytakliplkabgmbaa
set_option maxRecDepth 20000
namespace Go.Proofs.Ytakliplkabgmbaa
open Go.RowKit Go.Hd
attribute [local go_sem ↓] h_ldV h_stV h_alV
attribute [local go_sem] r_ldV r_stV r_alV

/-- Fields that play no part are zero. -/
inductive Pln : PV → Prop
  | mk {k n : Int} {b t : List UInt8} {ks : List (List UInt8)} {l : List PV} (h3 : k ≠ 3 → n = 0) (h4 : k ≠ 4 → b = []) (h5 : k ≠ 5 → t = []) (h7 : k ≠ 7 → ks = []) (h6 : k < 6 → l = []) (hl : ∀ v ∈ l, Pln v) : Pln (.mk k n b t ks l)
end Go.Proofs.Ytakliplkabgmbaa
set_option maxRecDepth 20000
namespace Go.Proofs.Ytakliplkabgmbaa
open Go.RowKit Go.Hd
attribute [local go_sem ↓] h_ldV h_stV h_alV h_ldID h_stID h_alID h_ldAB h_stAB h_alAB h_bsAB h_bdAB
attribute [local go_sem] r_ldV r_stV r_alV r_ldID r_stID r_alID r_ldAB r_stAB r_alAB r_bsAB
theorem fieldV3 {a0 a1 a2 a4 a5 : Value} {s : ByteArray} {w : World} : (Instr.field 63 (.agg #[a0, a1, a2, .string s, a4, a5]) 3).run Try.prog w = .ok (.string s) w := by
  unfold Instr.field
  have hu := Try.underlying63
  simp [Sem.run_bind, Go.underlying, Go.Sem.run_pure, hu, asAgg, part]
theorem fieldV1 {a0 a2 a3 a4 a5 : Value} {n : Int} {w : World} : (Instr.field 63 (.agg #[a0, .int .i64 n, a2, a3, a4, a5]) 1).run Try.prog w = .ok (.int .i64 n) w := by
  unfold Instr.field
  have hu := Try.underlying63
  simp [Sem.run_bind, Go.underlying, Go.Sem.run_pure, hu, asAgg, part]
attribute [local go_sem] fieldV3 fieldV1
theorem atV_txt {x : PV} (h : Sm x) (i : Nat) : (atV x i).text.length ≤ 65536 := by
  by_cases hi : i < x.list.length
  · have h1 : atV x i = x.list[i] := by unfold atV; simp [hi]
    rw [h1]
    exact Sm.text (Sm.sub h _ (List.getElem_mem hi))
  · have h1 : atV x i = pv0 := by unfold atV; simp [hi]
    rw [h1]
    exact Nat.zero_le _
end Go.Proofs.Ytakliplkabgmbaa
set_option maxRecDepth 20000
namespace Go.Proofs.Ytakliplkabgmbaa
open Go.RowKit Go.Hd
def zidL : List UInt8 := List.replicate 32 0
def prtOf (x : PV) : Prt := ⟨keyV (atV x 0).bytes, (atV x 1).int⟩
def arcX (v : PV) : Abt := ⟨(fldV v [110]).text, zidL, (fldV v [116]).int, (fldV v [99]).text, (fldV v [113]).int, (fldV v [98]).int⟩
def arcL (v : PV) : List Prt := ((fldV v [105]).list.take 70).map prtOf
def arcOk (v : PV) : Bool := decide (checkA (arcX v) (arcL v) = 0) && sameV (archV (arcX v) (arcL v)) v
def abt0 : Abt := ⟨[], zidL, 0, [], 0, 0⟩
/-- The archive that bytes are, or why none. -/
def arcR (l : List UInt8) : Abt × List Prt × Int := if (decF l).2 ≠ 0 then (abt0, [], (decF l).2) else if arcOk (decF l).1 = true then (arcX (decF l).1, arcL (decF l).1, 0) else (abt0, [], 4)
theorem norm_prt (p : Prt) : normV (prtV p) = prtV p := by
  unfold prtV
  rw [norm_list]
  simp only [normL, norm_byt, norm_num]
theorem norm_archV (x : Abt) (l : List Prt) : normV (archV x l) = archV x l := by
  unfold archV
  rw [normV_mk]
  show PV.mk 7 0 [] [] _ (normL _) = _
  simp only [normL, norm_list, norm_num, norm_txt]
  rw [normL_id (l := l.map prtV) (fun x hx => by obtain ⟨y, _, rfl⟩ := List.mem_map.1 hx; exact norm_prt y)]
theorem same_arch {x : Abt} {l : List Prt} {v : PV} (hn : normV v = v) (h : sameV (archV x l) v = true) : v = archV x l := by
  have := (sameV_norm _ _).1 h
  rw [norm_archV, hn] at this
  exact this.symm
theorem fld_archV (x : Abt) (l : List Prt) : fldV (archV x l) [105] = pList (l.map prtV) := by
  unfold archV
  rw [fldV_mk, if_pos rfl, findK, if_neg (by decide), findK, if_neg (by decide), findK, if_pos rfl]
  rfl
theorem isV_prt {p : Prt} (h : p.id.length = 32) : isV (prtV p) [4, 3] = true := by
  simp [isV, prtV, pList, isL, pByt, pNum, PV.kind, PV.list, PV.bytes, h]
theorem arcL_ids (v : PV) : ∀ x ∈ arcL v, x.id.length = 32 := fun x hx => by
  obtain ⟨y, _, rfl⟩ := List.mem_map.1 hx
  exact keyV_len _
theorem checkA_long {x : Abt} {l : List Prt} (h : 64 < l.length) : checkA x l ≠ 0 := by
  unfold checkA
  by_cases h1 : nameB x.name = true
  · rw [if_pos h1, if_neg (by unfold limB; simp; intros; omega)]; decide
  · rw [if_neg h1]; decide
theorem arcOk_short {v : PV} (h : arcOk v = true) : (fldV v [105]).list.length ≤ 64 := by
  unfold arcOk at h
  rw [Bool.and_eq_true, decide_eq_true_eq] at h
  by_cases h1 : 64 < (arcL v).length
  · exact absurd h.1 (checkA_long h1)
  · have : (arcL v).length = min 70 (fldV v [105]).list.length := by simp [arcL]
    omega
/-- Some element is not of these kinds: no archive. -/
theorem ard_bad {v : PV} (hn : normV v = v) {x : PV} (hx : x ∈ (fldV v [105]).list) (hb : isV x [4, 3] = false) : arcOk v = false := by
  by_cases h : arcOk v = true
  · have hv : v = archV (arcX v) (arcL v) := by
      unfold arcOk at h
      rw [Bool.and_eq_true] at h
      exact same_arch hn h.2
    have h1 : (fldV v [105]).list = (arcL v).map prtV := by
      have := fld_archV (arcX v) (arcL v)
      rw [← hv] at this
      rw [this]; rfl
    rw [h1] at hx
    obtain ⟨y, hy, rfl⟩ := List.mem_map.1 hx
    rw [isV_prt (arcL_ids v y hy)] at hb
    cases hb
  · simpa using h
theorem arcL_all {v : PV} (h : (fldV v [105]).list.length ≤ 70) : arcL v = (fldV v [105]).list.map prtOf := by
  unfold arcL; rw [List.take_of_length_le h]
/-- All are read, more than 70 perhaps: as told of the first 70. -/
theorem arcOk_all (v : PV) : arcOk v = (decide (checkA (arcX v) ((fldV v [105]).list.map prtOf) = 0) && sameV (archV (arcX v) ((fldV v [105]).list.map prtOf)) v) := by
  by_cases h : (fldV v [105]).list.length ≤ 70
  · unfold arcOk; rw [arcL_all h]
  · unfold arcOk
    rw [decide_eq_false (checkA_long (l := arcL v) (by simp [arcL]; omega)), decide_eq_false (checkA_long (l := (fldV v [105]).list.map prtOf) (by simp; omega))]
    simp
theorem isV_parts2 {x : PV} (h : isV x [4, 3] = true) : ∃ x0 x1, x.list = [x0, x1] ∧ x0.bytes.length = 32 := by
  unfold isV at h
  rw [Bool.and_eq_true, Bool.and_eq_true, decide_eq_true_eq, decide_eq_true_eq] at h
  obtain ⟨⟨_, h1⟩, h2⟩ := h
  match hx : x.list, h1 with
  | [x0, x1], _ =>
    rw [hx] at h2
    simp [isL] at h2
    exact ⟨x0, x1, rfl, h2.1.2⟩
end Go.Proofs.Ytakliplkabgmbaa
set_option maxRecDepth 20000
namespace Go.Proofs.Ytakliplkabgmbaa
open Go.RowKit Go.Hd
attribute [local go_sem ↓] h_ldV h_stV h_alV
attribute [local go_sem] r_ldV r_stV r_alV
theorem fieldV5 {a0 a1 a2 a3 a4 : Value} {a : Option Addr} {n c : Nat} {w : World} : (Instr.field 63 (.agg #[a0, a1, a2, a3, a4, .slice a n c]) 5).run Try.prog w = .ok (.slice a n c) w := by
  unfold Instr.field
  have hu := Try.underlying63
  simp [Sem.run_bind, Go.underlying, Go.Sem.run_pure, hu, asAgg, part]
theorem results_cell_tmp2 {P : Program} {fn : Func} {p t u : Tmp} {ty : TypeId} (h : fn.results = #[.cell p ty, .tmp t, .tmp u]) (tmps : Array Value) (w : World) (g : Nat) (tt : TypeId) (cs : Array Value) (fr : Nat × Nat) (d : TypeDesc)
    (hp : tmps.getD p undef = .pointer (some ⟨g, 0, none⟩)) (hg : w.heap[g]? = some (.cells cs tt fr))
    (hu : P.underlying ty = some d) (hd : (match d with | .struct _ | .array _ _ => true | _ => false) = true) (hi : (P.info? ty).map (·.size) = some cs.size) :
    (results fn tmps).run P w = .ok (.tuple #[.agg cs, tmps.getD t undef, tmps.getD u undef]) w := by
  have hp' : tmps[p]?.getD undef = .pointer (some ⟨g, 0, none⟩) := by simpa using hp
  simp [results, h, hp', asAddr, run_loadVar_row w g tt ty cs fr d hg hu hd hi]
theorem bd_arc {nm cm : List UInt8} {tm it bs : Int} {w : World} : (bdOp 31 #[(0, .string (str nm)), (2, .int .i64 tm), (3, .string (str cm)), (4, .int .i64 it), (5, .int .i64 bs)]).run Try.prog w = .ok (.agg (List.toArray (abtC ⟨nm, zidL, tm, cm, it, bs⟩))) w := by
  refine run_build w _ _ _ ?_
  rw [built_struct Try.underlying31 zeroAB (places := [(0, 1), (1, 32), (33, 1), (34, 1), (35, 1), (36, 1)]) (by kernel_rfl)]
  have hz : zAB.toList = .string .empty :: (List.replicate 32 (.int .u8 0) ++ [.int .i64 0, .string .empty, .int .i64 0, .int .i64 0]) := rfl
  have hzs := zAB_size
  rw [fill_cons (off := 0) (size := 1) (by rfl) rfl (by simp [Value.cells, hzs]), fill_cons (off := 33) (size := 1) (by rfl) rfl (by simp [Value.cells, hzs]), fill_cons (off := 34) (size := 1) (by rfl) rfl (by simp [Value.cells, hzs]), fill_cons (off := 35) (size := 1) (by rfl) rfl (by simp [Value.cells, hzs]), fill_cons (off := 36) (size := 1) (by rfl) rfl (by simp [Value.cells, hzs]), fill_nil]
  congr 2
theorem bd_abt0 {w : World} : (bdOp 31 #[]).run Try.prog w = .ok (.agg (List.toArray (abtC abt0))) w := by
  rw [bdOp_none (P := Try.prog) (w := w) Try.underlying31 zeroAB (places := [(0, 1), (1, 32), (33, 1), (34, 1), (35, 1), (36, 1)]) (by kernel_rfl)]
  rfl
theorem bd_prt {id : List UInt8} {n : Int} {w : World} (h : id.length = 32) : (bdOp 83 #[(0, .agg (List.toArray (id.map b8))), (1, .int .i64 n)]).run Try.prog w = .ok (.agg (List.toArray (prtC ⟨id, n⟩))) w := by
  have := bdOp_two (P := Try.prog) (u := .agg (List.toArray (id.map b8))) (v := .int .i64 n) (w := w) Try.underlying83 zeroPA (m := 32) (n := 1) (by kernel_rfl) (by exact zPA_size) (by simp [Value.cells, h]) rfl
  simpa [prtC, Value.cells] using this
theorem abt0_ok : AbtOk abt0 := ⟨rfl, by show in64 0; unfold in64; omega, by show in64 0; unfold in64; omega, by show in64 0; unfold in64; omega, Nat.zero_le _, Nat.zero_le _⟩
/-- The result's cell takes an archive. -/
theorem res_abt {w W : World} {r : Nat} {old : List Value} {x : Abt} (hR : Blk W r 31 old) (ho : old.length = 37) (hx : AbtOk x) (hr : w.heap.size ≤ r) (hb : Below w.heap.size w W) :
    ∃ W2, (stoOp 31 (.pointer (some ⟨r, 0, none⟩)) (.agg (List.toArray (abtC x)))).run Try.prog W = .ok () W2 ∧ Blk W2 r 31 (abtC x) ∧ W.grownBy W2 (some r) ∧ Below w.heap.size w W2 := by
  have hl := abtC_len hx
  obtain ⟨w4, qs, hB4, hg4⟩ := stOp_blk (P := Try.prog) (ty := 31) (o := 0) (cs := abtC x) hR (by rw [hl, ho]; decide) (by rw [hl]; exact sizeAB) (abtC_one x)
  have e : old.take 0 ++ abtC x ++ old.drop (0 + (abtC x).length) = abtC x := by
    rw [List.drop_of_length_le (by rw [hl, ho]; decide)]; simp
  rw [e] at hB4
  exact ⟨w4, qs, hB4, hg4, hb.trans ⟨hg4.os, hg4.tape, hg4.output, hg4.size, fun i hi => hg4.block i (Nat.lt_of_lt_of_le hi hb.size) (fun e => by cases e; omega)⟩⟩
/-- A field of the value that archive's reader holds, by its function literal. -/
theorem aget_any {w : World} {q : Nat} {cs : List Value} {v : PV} (key : List UInt8) (hB : Blk w q 63 cs) (hv : VAt w cs v) (hsm : Sm v) (hnv : normV v = v) :
    Calls Try.prog 47 #[.string (str key), .pointer (some ⟨q, 0, none⟩)] w (FldP w (fldV v key)) := by
  have hb0 : Below w.heap.size w (w.alloc (.cells zV 63)) := (Below.refl _ _).alloc (Nat.le_refl _) _
  have R0 : Blk (w.alloc (.cells zV 63)) w.heap.size 63 zV.toList := Blk.new _ _ _
  have q1 := ldOp_all (P := Try.prog) (ty := 63) (hB.below hb0) Try.underlying63 rfl (by rw [hv.len]; exact sizeV)
  have hg := vget_any key hv hsm (w.alloc (.cells zV 63)) hb0
  rw [fld_norm hnv key] at hg
  have zs := zV_size
  clear hB hsm hnv hv
  go_enter Try.func47, Try.ntmps47
  go_wp2_with fail
  refine hg.mono ?_
  rintro e w2 ⟨ds, f, rfl, hds, hb2⟩
  have d6 : (List.toArray ds).size = 6 := hds.len
  have do_ : OneC (List.toArray ds) := all_oneCell_toArray hds.one
  have hb3 : Below w2.heap.size w2 (w2.alloc (.cells (List.toArray ds) 63)) := (Below.refl _ _).alloc (Nat.le_refl _) _
  have hds3 := hds.grow hb3
  have hbW : Below w.heap.size w w2 := Gr.trans hb0 hb2
  obtain ⟨W2, y1, y2, y3, y4⟩ := res_any (w := w) ((R0.below hb2).below hb3) (by rfl) (by omega) (hds3.mono (fun b hb _ => by have h1 : (w.alloc (.cells zV 63)).heap.size ≤ b := hb; simp at h1; omega)) (hbW.trans (hb3.mono hbW.size))
  go_wp2
  refine bodyPost_ret (results_cell_row (fn := Try.f47) (by rfl) _ _ w.heap.size 63 _ (0, 0) _ (by rfl) y2 Try.underlying63 rfl (by rw [d6]; exact sizeV)) rfl ⟨_, rfl, y3.at, y4⟩
end Go.Proofs.Ytakliplkabgmbaa
