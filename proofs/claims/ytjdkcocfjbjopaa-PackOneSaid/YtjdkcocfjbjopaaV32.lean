/- Layer 05: Decode. -/
import Derived.Test.YtjdkcocfjbjopaaV31
set_option maxRecDepth 20000
namespace Go.Proofs.Ytjdkcocfjbjopaa
open Go.RowKit Go.Hd
attribute [local go_sem ↓] h_ldV h_stV h_alV
attribute [local go_sem] r_ldV r_stV r_alV

theorem results_cell_tmp {P : Program} {fn : Func} {p t : Tmp} {ty : TypeId} (h : fn.results = #[.cell p ty, .tmp t]) (tmps : Array Value) (w : World) (g : Nat) (tt : TypeId) (cs : Array Value) (fr : Nat × Nat) (d : TypeDesc)
    (hp : tmps.getD p undef = .pointer (some ⟨g, 0, none⟩)) (hg : w.heap[g]? = some (.cells cs tt fr))
    (hu : P.underlying ty = some d) (hd : (match d with | .struct _ | .array _ _ => true | _ => false) = true) (hi : (P.info? ty).map (·.size) = some cs.size) :
    (results fn tmps).run P w = .ok (.tuple #[.agg cs, tmps.getD t undef]) w := by
  have hp' : tmps[p]?.getD undef = .pointer (some ⟨g, 0, none⟩) := by simpa using hp
  simp [results, h, hp', asAddr, run_loadVar_row w g tt ty cs fr d hg hu hd hi]
/-- What Decode answers. -/
def DecP (w : World) (l : List UInt8) (e : Ending) (w' : World) : Prop :=
  ∃ cs, e = .returned (.tuple #[.agg (List.toArray cs), .int .i64 (decF l).2]) ∧ VAtP (fun b => w.heap.size ≤ b) w' cs (decF l).1 ∧ Below w.heap.size w w'
theorem dec_zero {w w2 : World} {old : List Value} {l : List UInt8} {c : Int} (hres : Blk w2 w.heap.size 26 old) (ho : old.length = 6) (hb : Below w.heap.size w w2) (hl : decF l = (pv0, c)) :
    (stoOp 26 (.pointer (some ⟨w.heap.size, 0, none⟩)) (.agg (List.toArray [.int .i64 0, .int .i64 0, .slice none 0 0, .string { data := #[] }, .slice none 0 0, .slice none 0 0]))).run Try.prog w2 = .ok () (w2.setRow w.heap.size (List.toArray [.int .i64 0, .int .i64 0, .slice none 0 0, .string { data := #[] }, .slice none 0 0, .slice none 0 0])) ∧
      Blk (w2.setRow w.heap.size (List.toArray [.int .i64 0, .int .i64 0, .slice none 0 0, .string { data := #[] }, .slice none 0 0, .slice none 0 0])) w.heap.size 26 [.int .i64 0, .int .i64 0, .slice none 0 0, .string { data := #[] }, .slice none 0 0, .slice none 0 0] ∧
      DecP w l (.returned (.tuple #[.agg (List.toArray [.int .i64 0, .int .i64 0, .slice none 0 0, .string { data := #[] }, .slice none 0 0, .slice none 0 0]), .int .i64 c])) (w2.setRow w.heap.size (List.toArray [.int .i64 0, .int .i64 0, .slice none 0 0, .string { data := #[] }, .slice none 0 0, .slice none 0 0])) := by
  have hg := setRow_gr w2 w.heap.size (List.toArray [.int .i64 0, .int .i64 0, .slice none 0 0, .string { data := #[] }, .slice none 0 0, .slice none 0 0])
  refine ⟨st_row hres ho _ rfl (oneC6 _ _ _ _ _ _ _ _ _ _ _ _), setRow_blk hres _, _, by rw [hl], ?_, Below.grown hb hg hb.size (fun k hk => by cases hk; exact Nat.le_refl _)⟩
  rw [hl]
  exact VAtP.plain (k := 0) (n := 0) (t := []) _ (by unfold in64; omega) (by unfold in64; omega) (Nat.zero_le _)
set_option maxHeartbeats 2000000 in
theorem dec_any {a : Option Addr} {n c : Nat} {l : List UInt8} {w : World} (hn : n = l.length) (hl : Row w a (l.map b8)) (hm : l.length ≤ maxLen) :
    Calls Try.prog 19 #[.slice a n c] w (DecP w l) := by
  subst hn
  have zs := zV_size
  have hO6 := oneC6
  have hb0 : Below w.heap.size w (w.alloc (.cells zV 26)) := (Below.refl _ _).alloc (Nat.le_refl _) _
  have R0 : Blk (w.alloc (.cells zV 26)) w.heap.size 26 zV.toList := Blk.new _ _ _
  by_cases hbig : 65536 < l.length
  · have i1 : 65536 < (l.length : Int) := by omega
    obtain ⟨HST, HB2, HV⟩ := dec_zero (l := l) (c := 5) R0 (by rfl) hb0 (by unfold decF; rw [if_pos hbig])
    clear R0 hb0
    go_enter Try.func19, Try.ntmps19
    go_wp2
    exact bodyPost_ret (results_cell_tmp (fn := Try.f19) (p := 2) (t := 3) (by rfl) _ _ w.heap.size 26 _ (0, 0) _ (by rfl) HB2 Try.underlying26 rfl sizeV) rfl HV
  · have i1 : ¬ 65536 < (l.length : Int) := by omega
    have HDF : Hid (decF l = match decV 16 l with | .no c => (pv0, c) | .ok v r => if r = [] then (v, 0) else (pv0, 6)) := by show _ = _; unfold decF; rw [if_neg hbig]; cases decV 16 l <;> rfl
    have hop := open_any (c := c) (w := w.alloc (.cells zV 26)) (l := l) rfl (hl.below hb0) (by omega)
    have hsm : l.length ≤ 65536 := by omega
    go_enter Try.func19, Try.ntmps19
    go_wp2_with fail
    refine hop.mono ?_
    rintro ee w1 ⟨g, rfl, hg, hrd, hb1⟩
    have hb2 : Below w1.heap.size w1 (w1.alloc (.cells #[.pointer (some ⟨g, 0, none⟩), .bool false] 63)) := (Below.refl _ _).alloc (Nat.le_refl _) _
    have hPR : PRs w1.heap.size (w1.alloc (.cells #[.pointer (some ⟨g, 0, none⟩), .bool false] 63)) w1.heap.size g (.ok () l) := ⟨l, 0, false, Blk.new _ _ _, hrd.keep hb2, ⟨rfl, rfl, rfl⟩, hsm, by have := hrd.lt; omega⟩
    have hval := val_any 16 (by decide) _ _ _ _ _ hPR (by simp)
    rw [Rs.bind_ok] at hval
    have hbw2 : Below w.heap.size w (w1.alloc (.cells #[.pointer (some ⟨g, 0, none⟩), .bool false] 63)) := Gr.trans (Gr.trans hb0 hb1) hb2
    have hw1 : w.heap.size + 1 ≤ w1.heap.size := by have := hb1.size; simpa using this
    have R2 := (R0.below hb1).below hb2
    have hg' : w.heap.size + 1 ≤ g := by simpa using hg
    generalize decV 16 l = R at *
    clear hop hPR R0 hrd hb1 hb0 hg hbig
    go_wp2_with fail
    refine hval.mono ?_
    rintro ee w3 ⟨cs, v, rfl, hv, hv0, hP, hk⟩
    have x6 : (List.toArray cs).size = 6 := hv.len
    have xo : OneC (List.toArray cs) := all_oneCell_toArray hv.one
    have hb4 : Below w3.heap.size w3 (w3.alloc (.cells (List.toArray cs) 26)) := (Below.refl _ _).alloc (Nat.le_refl _) _
    have R3 := hk.blk R2 (by omega) (by omega)
    have R4 := R3.below hb4
    have hw2s : w1.heap.size + 1 ≤ w3.heap.size := by have := hk.size; simpa using this
    have hbw3 : Below w.heap.size w w3 := hbw2.trans (hk.below hbw2.size (by omega) (by omega))
    have hbw4 : Below w.heap.size w (w3.alloc (.cells (List.toArray cs) 26)) := hbw3.trans (hb4.mono hbw3.size)
    have B5 : Blk (w3.alloc (.cells (List.toArray cs) 26)) w3.heap.size 26 cs := by simpa using Blk.new w3 26 (List.toArray cs)
    have hP4 := hP.keep hb4
    have hv4 := hv.grow hb4
    obtain ⟨l2, e2, bad, k1, k2, k3, _, _⟩ := hP4
    have c0 : (w3.alloc (.cells (List.toArray cs) 26)).cell? ⟨w1.heap.size, 0, none⟩ = some (.pointer (some ⟨g, 0, none⟩)) := k1.cell rfl
    have c1 : (w3.alloc (.cells (List.toArray cs) 26)).cell? ⟨w1.heap.size, 1, none⟩ = some (.bool bad) := k1.cell rfl
    have hend := end_any k2
    have q5 : (ldOp 26 (.pointer (some ⟨w3.heap.size, 0, none⟩))).run Try.prog (w3.alloc (.cells (List.toArray cs) 26)) = .ok (.agg (List.toArray cs)) (w3.alloc (.cells (List.toArray cs) 26)) := ldOp_all (P := Try.prog) (ty := 26) B5 Try.underlying26 rfl (by rw [hv.len]; exact sizeV)
    clear hP hk R2 R3 hb2 hbw2 hbw3 hval hv hb4 B5 k1 k2
    cases R with
    | no c5 =>
      rcases k3 with ⟨rfl, rfl⟩ | ⟨rfl, rfl, hc5⟩
      · obtain ⟨HST, HB2, HV⟩ := dec_zero (l := l) (c := 4) R4 (by rfl) hbw4 HDF.out
        clear R4 hbw4 hend hv4 hv0 HDF
        go_wp2
        exact bodyPost_ret (results_cell_tmp (fn := Try.f19) (p := 2) (t := 3) (by rfl) _ _ w.heap.size 26 _ (0, 0) _ (by rfl) HB2 Try.underlying26 rfl sizeV) rfl HV
      · have he : rdEnd l2 e2 = e2 := by unfold rdEnd; rw [if_pos hc5]
        rw [he] at hend
        have hne : (e2 != 0) = true := by simpa using hc5
        obtain ⟨HST, HB2, HV⟩ := dec_zero (l := l) (c := e2) R4 (by rfl) hbw4 HDF.out
        clear R4 hbw4 hv4 hv0 he hc5 HDF
        go_wp2_with fail
        refine hend.mono ?_
        rintro ee w5 ⟨rfl, rfl⟩
        go_wp2_with fail
        refine hend.mono ?_
        rintro ee w5 ⟨rfl, rfl⟩
        go_wp2
        exact bodyPost_ret (results_cell_tmp (fn := Try.f19) (p := 2) (t := 3) (by rfl) _ _ w.heap.size 26 _ (0, 0) _ (by rfl) HB2 Try.underlying26 rfl sizeV) rfl HV
    | ok v0 r =>
      obtain ⟨rfl, rfl, rfl⟩ := k3
      obtain rfl := hv0 v0 l2 rfl
      by_cases hr : l2 = []
      · have he : rdEnd l2 0 = 0 := by rw [hr]; rfl
        rw [he] at hend
        have HD2 : Hid (decF l = (v, 0)) := by show _ = _; rw [HDF.out]; exact if_pos hr
        have HST := st_row R4 (by rfl) (List.toArray cs) x6 xo
        have HB2 := setRow_blk R4 cs
        have HG2 := setRow_gr (w3.alloc (.cells (List.toArray cs) 26)) w.heap.size (List.toArray cs)
        have HV : Hid (DecP w l (.returned (.tuple #[.agg (List.toArray cs), .int .i64 0])) ((w3.alloc (.cells (List.toArray cs) 26)).setRow w.heap.size (List.toArray cs))) := by
          refine ⟨cs, by rw [HD2.out], ?_, Below.grown hbw4 HG2 hbw4.size (fun k hk => by cases hk; exact Nat.le_refl _)⟩
          rw [HD2.out]
          exact (hv4.same (w' := (w3.alloc (.cells (List.toArray cs) 26)).setRow w.heap.size _) (fun z hz hlt => HG2.block z hlt (by have hz : (w1.alloc (.cells #[.pointer (some ⟨g, 0, none⟩), .bool false] 63)).heap.size ≤ z := hz; simp at hz ⊢; omega))).mono (fun z hz _ => by have hz : (w1.alloc (.cells #[.pointer (some ⟨g, 0, none⟩), .bool false] 63)).heap.size ≤ z := hz; simp at hz; omega)
        clear R4 hbw4 hv4 hv0 he hr HG2 HDF HD2
        go_wp2_with fail
        refine hend.mono ?_
        rintro ee w5 ⟨rfl, rfl⟩
        go_wp2
        exact bodyPost_ret (results_cell_tmp (fn := Try.f19) (p := 2) (t := 3) (by rfl) _ _ w.heap.size 26 _ (0, 0) _ (by rfl) HB2 Try.underlying26 rfl (by rw [x6]; exact sizeV)) rfl HV
      · have he : rdEnd l2 0 = 6 := by
          unfold rdEnd
          rw [if_neg (by simp), if_pos (List.length_pos_iff.2 hr)]
        rw [he] at hend
        obtain ⟨HST, HB2, HV⟩ := dec_zero (l := l) (c := 6) R4 (by rfl) hbw4 (by rw [HDF.out]; exact if_neg hr)
        clear R4 hbw4 hv4 hv0 he hr HDF
        go_wp2_with fail
        refine hend.mono ?_
        rintro ee w5 ⟨rfl, rfl⟩
        go_wp2_with fail
        refine hend.mono ?_
        rintro ee w5 ⟨rfl, rfl⟩
        go_wp2
        exact bodyPost_ret (results_cell_tmp (fn := Try.f19) (p := 2) (t := 3) (by rfl) _ _ w.heap.size 26 _ (0, 0) _ (by rfl) HB2 Try.underlying26 rfl sizeV) rfl HV
end Go.Proofs.Ytjdkcocfjbjopaa
