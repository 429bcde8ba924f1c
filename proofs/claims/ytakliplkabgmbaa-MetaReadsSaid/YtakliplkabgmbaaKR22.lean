/- Joined: what one statement of this layer stands on, part 22 of 25; nothing is assumed. -/
import Derived.Test.YtakliplkabgmbaaKR21
set_option maxRecDepth 20000
namespace Go.Proofs.Ytakliplkabgmbaa
open Go.RowKit Go.Hd
attribute [local go_sem ↓] h_ldV h_stV h_alV
attribute [local go_sem] r_ldV r_stV r_alV
theorem fieldV5 {a0 a1 a2 a3 a4 : Value} {a : Option Addr} {n c : Nat} {w : World} : (Instr.field 63 (.agg #[a0, a1, a2, a3, a4, .slice a n c]) 5).run Try.prog w = .ok (.slice a n c) w := by
  unfold Instr.field
  have hu := Try.underlying63
  simp [Sem.run_bind, Go.underlying, Go.Sem.run_pure, hu, asAgg, part]
theorem results_cell_tmp2 {P : Program} {fn : Func} {p t u : Tmp} {ty : TypeId} (h : fn.results = #[.cell p ty, .tmp t, .tmp u]) (tmps : Array Value) (w : World) (g : Nat) (tt : TypeId) (cs : Array Value) (fr : Nat × Nat) (d : TypeDesc)
    (hp : tmps.getD p undef = .pointer (some ⟨g, 0, none⟩)) (hg : w.heap[g]? = some (.cells cs tt fr))
    (hu : P.underlying ty = some d) (hd : (match d with | .struct _ | .array _ _ => true | _ => false) = true) (hi : (P.info? ty).map (·.size) = some cs.size) :
    (results fn tmps).run P w = .ok (.tuple #[.agg cs, tmps.getD t undef, tmps.getD u undef]) w := by
  have hp' : tmps[p]?.getD undef = .pointer (some ⟨g, 0, none⟩) := by simpa using hp
  simp [results, h, hp', asAddr, run_loadVar_row w g tt ty cs fr d hg hu hd hi]
theorem bd_arc {nm cm : List UInt8} {tm it bs : Int} {w : World} : (bdOp 31 #[(0, .string (str nm)), (2, .int .i64 tm), (3, .string (str cm)), (4, .int .i64 it), (5, .int .i64 bs)]).run Try.prog w = .ok (.agg (List.toArray (abtC ⟨nm, zidL, tm, cm, it, bs⟩))) w := by
  refine run_build w _ _ _ ?_
  rw [built_struct Try.underlying31 zeroAB (places := [(0, 1), (1, 32), (33, 1), (34, 1), (35, 1), (36, 1)]) (by kernel_rfl)]
  have hz : zAB.toList = .string .empty :: (List.replicate 32 (.int .u8 0) ++ [.int .i64 0, .string .empty, .int .i64 0, .int .i64 0]) := rfl
  have hzs := zAB_size
  rw [fill_cons (off := 0) (size := 1) (by rfl) rfl (by simp [Value.cells, hzs]), fill_cons (off := 33) (size := 1) (by rfl) rfl (by simp [Value.cells, hzs]), fill_cons (off := 34) (size := 1) (by rfl) rfl (by simp [Value.cells, hzs]), fill_cons (off := 35) (size := 1) (by rfl) rfl (by simp [Value.cells, hzs]), fill_cons (off := 36) (size := 1) (by rfl) rfl (by simp [Value.cells, hzs]), fill_nil]
  congr 2
theorem bd_abt0 {w : World} : (bdOp 31 #[]).run Try.prog w = .ok (.agg (List.toArray (abtC abt0))) w := by
  rw [bdOp_none (P := Try.prog) (w := w) Try.underlying31 zeroAB (places := [(0, 1), (1, 32), (33, 1), (34, 1), (35, 1), (36, 1)]) (by kernel_rfl)]
  rfl
theorem bd_prt {id : List UInt8} {n : Int} {w : World} (h : id.length = 32) : (bdOp 83 #[(0, .agg (List.toArray (id.map b8))), (1, .int .i64 n)]).run Try.prog w = .ok (.agg (List.toArray (prtC ⟨id, n⟩))) w := by
  have := bdOp_two (P := Try.prog) (u := .agg (List.toArray (id.map b8))) (v := .int .i64 n) (w := w) Try.underlying83 zeroPA (m := 32) (n := 1) (by kernel_rfl) (by exact zPA_size) (by simp [Value.cells, h]) rfl
  simpa [prtC, Value.cells] using this
theorem abt0_ok : AbtOk abt0 := ⟨rfl, by show in64 0; unfold in64; omega, by show in64 0; unfold in64; omega, by show in64 0; unfold in64; omega, Nat.zero_le _, Nat.zero_le _⟩
theorem res_abt {w W : World} {r : Nat} {old : List Value} {x : Abt} (hR : Blk W r 31 old) (ho : old.length = 37) (hx : AbtOk x) (hr : w.heap.size ≤ r) (hb : Below w.heap.size w W) :
    ∃ W2, (stoOp 31 (.pointer (some ⟨r, 0, none⟩)) (.agg (List.toArray (abtC x)))).run Try.prog W = .ok () W2 ∧ Blk W2 r 31 (abtC x) ∧ W.grownBy W2 (some r) ∧ Below w.heap.size w W2 := by
  have hl := abtC_len hx
  obtain ⟨w4, qs, hB4, hg4⟩ := stOp_blk (P := Try.prog) (ty := 31) (o := 0) (cs := abtC x) hR (by rw [hl, ho]; decide) (by rw [hl]; exact sizeAB) (abtC_one x)
  have e : old.take 0 ++ abtC x ++ old.drop (0 + (abtC x).length) = abtC x := by
    rw [List.drop_of_length_le (by rw [hl, ho]; decide)]; simp
  rw [e] at hB4
  exact ⟨w4, qs, hB4, hg4, hb.trans ⟨hg4.os, hg4.tape, hg4.output, hg4.size, fun i hi => hg4.block i (Nat.lt_of_lt_of_le hi hb.size) (fun e => by cases e; omega)⟩⟩
theorem aget_any {w : World} {q : Nat} {cs : List Value} {v : PV} (key : List UInt8) (hB : Blk w q 63 cs) (hv : VAt w cs v) (hsm : Sm v) (hnv : normV v = v) :
    Calls Try.prog 47 #[.string (str key), .pointer (some ⟨q, 0, none⟩)] w (FldP w (fldV v key)) := by
  have hb0 : Below w.heap.size w (w.alloc (.cells zV 63)) := (Below.refl _ _).alloc (Nat.le_refl _) _
  have R0 : Blk (w.alloc (.cells zV 63)) w.heap.size 63 zV.toList := Blk.new _ _ _
  have q1 := ldOp_all (P := Try.prog) (ty := 63) (hB.below hb0) Try.underlying63 rfl (by rw [hv.len]; exact sizeV)
  have hg := vget_any key hv hsm (w.alloc (.cells zV 63)) hb0
  rw [fld_norm hnv key] at hg
  have zs := zV_size
  clear hB hsm hnv hv
  go_enter Try.func47, Try.ntmps47
  go_wp2_with fail
  refine hg.mono ?_
  rintro e w2 ⟨ds, f, rfl, hds, hb2⟩
  have d6 : (List.toArray ds).size = 6 := hds.len
  have do_ : OneC (List.toArray ds) := all_oneCell_toArray hds.one
  have hb3 : Below w2.heap.size w2 (w2.alloc (.cells (List.toArray ds) 63)) := (Below.refl _ _).alloc (Nat.le_refl _) _
  have hds3 := hds.grow hb3
  have hbW : Below w.heap.size w w2 := Gr.trans hb0 hb2
  obtain ⟨W2, y1, y2, y3, y4⟩ := res_any (w := w) ((R0.below hb2).below hb3) (by rfl) (by omega) (hds3.mono (fun b hb _ => by have h1 : (w.alloc (.cells zV 63)).heap.size ≤ b := hb; simp at h1; omega)) (hbW.trans (hb3.mono hbW.size))
  go_wp2
  refine bodyPost_ret (results_cell_row (fn := Try.f47) (by rfl) _ _ w.heap.size 63 _ (0, 0) _ (by rfl) y2 Try.underlying63 rfl (by rw [d6]; exact sizeV)) rfl ⟨_, rfl, y3.at, y4⟩
end Go.Proofs.Ytakliplkabgmbaa
