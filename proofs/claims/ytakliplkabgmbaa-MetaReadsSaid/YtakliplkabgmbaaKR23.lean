/- Joined: what one statement of this layer stands on, part 23 of 25; nothing is assumed. -/
import Derived.Test.YtakliplkabgmbaaKR22
set_option maxRecDepth 20000
namespace Go.Proofs.Ytakliplkabgmbaa
open Go.RowKit Go.Hd
attribute [local go_sem ↓] h_ldV h_stV h_alV h_ldID h_stID h_alID h_ldAB h_stAB h_alAB h_bdAB h_ldPA h_stPA h_alPA h_bsPA h_bdPA h_ap
attribute [local go_sem] r_ldV r_stV r_alV r_ldID r_stID r_alID r_ldAB r_stAB r_alAB r_ldPA r_stPA r_alPA r_bsPA fieldV1 fieldV3 fieldV5
theorem prtOf_ok {w : World} {cs : List Value} {x : PV} (h : VAt w cs x) : PrtOk (prtOf x) where
  id := keyV_len _
  size := (atV_lims h 1).1
def RdArcP (w : World) (l : List UInt8) (e : Ending) (w' : World) : Prop :=
  ∃ a c, e = .returned (.tuple #[.agg (List.toArray (abtC (arcR l).1)), .slice a (arcR l).2.1.length c, .int .i64 (arcR l).2.2]) ∧ Row w' a ((arcR l).2.1.map prtC).flatten ∧ Below w.heap.size w w' ∧ (0 < ((arcR l).2.1.map prtC).flatten.length → w.heap.size ≤ (hd a).block)
set_option maxHeartbeats 2000000 in
theorem readArchive_any {a : Option Addr} {n c : Nat} {l : List UInt8} {w : World} (hn : n = l.length) (hl : Row w a (l.map b8)) (hm : l.length ≤ maxLen) :
    Calls Try.prog 23 #[.slice a n c] w (RdArcP w l) := by
  have zs := zV_size
  have zab := zAB_size
  have hb0 : Below w.heap.size w (w.alloc (.cells zAB 31)) := (Below.refl _ _).alloc (Nat.le_refl _) _
  have R0 : Blk (w.alloc (.cells zAB 31)) w.heap.size 31 zAB.toList := Blk.new _ _ _
  have hdec := dec_any (c := c) hn (hl.below hb0) hm
  have zl : zAB.toList.length = 37 := rfl
  clear hn hl hm
  have hSm := decF_sm l
  have hRL : Hid (arcR l = if (decF l).2 ≠ 0 then (abt0, [], (decF l).2) else if arcOk (decF l).1 = true then (arcX (decF l).1, arcL (decF l).1, 0) else (abt0, [], 4)) := rfl
  have hbd0 := fun {w : World} => bd_abt0 (w := w)
  obtain ⟨Z0, hZ0⟩ : ∃ Z0, Z0 = abtC abt0 := ⟨_, rfl⟩
  have HZ := Lib.hid hZ0
  have z6 : (List.toArray Z0).size = 37 := by rw [hZ0]; rfl
  have hres0 := fun (W : World) (old : List Value) (hR : Blk W w.heap.size 31 old) (ho : old.length = 37) (hb : Below w.heap.size w W) => res_abt hR ho abt0_ok (Nat.le_refl _) hb
  rw [← hZ0] at hbd0 hres0
  clear hZ0
  go_enter Try.func23, Try.ntmps23
  go_wp2_with fail
  refine hdec.mono ?_
  rintro e w1 ⟨cs, rfl, hv, hb1⟩
  have x6 : (List.toArray cs).size = 6 := hv.len
  have xo : OneC (List.toArray cs) := all_oneCell_toArray hv.one
  have hnorm : (decF l).2 = 0 → normV (decF l).1 = (decF l).1 := decF_norm (VAt.okV hv.at)
  have R1 := R0.below hb1
  have hbw1 : Below w.heap.size w w1 := Gr.trans hb0 hb1
  generalize decF l = D at *
  obtain ⟨v, E⟩ := D
  simp only at hv hSm hnorm hRL ⊢
  have hB1 : Blk (w1.alloc (.cells (List.toArray cs) 63)) w1.heap.size 63 cs := Blk.new _ _ _
  have hb1' : Below w1.heap.size w1 (w1.alloc (.cells (List.toArray cs) 63)) := (Below.refl _ _).alloc (Nat.le_refl _) _
  have R2 := R1.below hb1'
  have hbw2 : Below w.heap.size w (w1.alloc (.cells (List.toArray cs) 63)) := hbw1.trans (hb1'.mono hbw1.size)
  by_cases hE : E = 0
  case neg =>
    have t1 : (E != 0) = true := by simpa using hE
    have hR : Hid (arcR l = (abt0, [], E)) := by show _ = _; rw [hRL.out, if_pos hE]
    obtain ⟨W2, y1, y2, _, y4⟩ := hres0 _ _ R2 zl hbw2
    go_wp2
    refine bodyPost_ret (results_cell_tmp2 (fn := Try.f23) (p := 2) (t := 3) (u := 4) (by rfl) _ _ w.heap.size 31 _ (0, 0) _ (by rfl) y2 Try.underlying31 rfl (by rw [z6]; exact sizeAB)) rfl ?_
    exact ⟨none, 0, by rw [hR.out, HZ.out]; rfl, by rw [hR.out]; exact Row.nil _ _, y4, by rw [hR.out]; intro h; simp at h⟩
  case pos =>
  subst hE
  have hR : Hid (arcR l = if arcOk v = true then (arcX v, arcL v, 0) else (abt0, [], 4)) := by show _ = _; rw [hRL.out, if_neg (by simp)]
  have hnv := hnorm rfl
  have hvat := hv.at
  have hget := fun (w' : World) (hB : Blk w' w1.heap.size 63 cs) (hb : Below w1.heap.size w1 w') (key : List UInt8) => aget_any key hB (hvat.keep hb) hSm hnv
  clear hnorm hRL hdec
  have hg := hget _ hB1 hb1'
  obtain ⟨nm, hnm⟩ : ∃ nm, Hid (nm = (fldV v [110]).text) := ⟨_, Lib.hid rfl⟩
  obtain ⟨tm, htm⟩ : ∃ tm, Hid (tm = (fldV v [116]).int) := ⟨_, Lib.hid rfl⟩
  obtain ⟨cm, hcm⟩ : ∃ cm, Hid (cm = (fldV v [99]).text) := ⟨_, Lib.hid rfl⟩
  obtain ⟨it, hit⟩ : ∃ it, Hid (it = (fldV v [113]).int) := ⟨_, Lib.hid rfl⟩
  obtain ⟨bs, hbs⟩ : ∃ bs, Hid (bs = (fldV v [98]).int) := ⟨_, Lib.hid rfl⟩
  have hXd : arcX v = ⟨nm, zidL, tm, cm, it, bs⟩ := by rw [hnm.out, htm.out, hcm.out, hit.out, hbs.out]; rfl
  have hbd := fun {w : World} => bd_arc (nm := nm) (cm := cm) (tm := tm) (it := it) (bs := bs) (w := w)
  obtain ⟨XC, hXC⟩ : ∃ XC, XC = abtC (arcX v) := ⟨_, rfl⟩
  rw [← hXd, ← hXC] at hbd
  have X1 : (List.toArray XC).size = 37 := by rw [hXC, hXd]; simp [abtC, zidL]
  have X2 : OneC (List.toArray XC) := by rw [hXC]; exact all_oneCell_toArray (abtC_one _)
  have hXCh := Lib.hid hXC
  have hXdh := Lib.hid hXd
  clear hXC hXd
  go_wp2_with fail
  refine (hg [110]).mono ?_
  rintro e w2 ⟨g0, rfl, hg0, hb2⟩
  have lm0 := VAt.lims hg0
  obtain ⟨p0, p0a, p0b, p0c, rfl, _⟩ := VAt.all hg0
  have hk2 := hb2
  have hg := hget _ (hB1.below hk2) (hb1'.trans (hk2.mono hb1'.size))
  rw [← hnm.out] at lm0
  rw [← hnm.out]
  go_wp2_with fail
  refine (hg [116]).mono ?_
  rintro e w3 ⟨g1, rfl, hg1, hb3⟩
  have lm1 := VAt.lims hg1
  obtain ⟨p1, p1a, p1b, p1c, rfl, _⟩ := VAt.all hg1
  have hk3 := Gr.trans hk2 hb3
  have hg := hget _ (hB1.below hk3) (hb1'.trans (hk3.mono hb1'.size))
  rw [← htm.out] at lm1
  rw [← htm.out]
  go_wp2_with fail
  refine (hg [99]).mono ?_
  rintro e w4 ⟨g2, rfl, hg2, hb4⟩
  have lm2 := VAt.lims hg2
  obtain ⟨p2, p2a, p2b, p2c, rfl, _⟩ := VAt.all hg2
  have hk4 := Gr.trans hk3 hb4
  have hg := hget _ (hB1.below hk4) (hb1'.trans (hk4.mono hb1'.size))
  rw [← hcm.out] at lm2
  rw [← hcm.out]
  go_wp2_with fail
  refine (hg [113]).mono ?_
  rintro e w5 ⟨g3, rfl, hg3, hb5⟩
  have lm3 := VAt.lims hg3
  obtain ⟨p3, p3a, p3b, p3c, rfl, _⟩ := VAt.all hg3
  have hk5 := Gr.trans hk4 hb5
  have hg := hget _ (hB1.below hk5) (hb1'.trans (hk5.mono hb1'.size))
  rw [← hit.out] at lm3
  rw [← hit.out]
  go_wp2_with fail
  refine (hg [98]).mono ?_
  rintro e w6 ⟨g4, rfl, hg4, hb6⟩
  have lm4 := VAt.lims hg4
  obtain ⟨p4, p4a, p4b, p4c, rfl, _⟩ := VAt.all hg4
  have hk6 := Gr.trans hk5 hb6
  have hg := hget _ (hB1.below hk6) (hb1'.trans (hk6.mono hb1'.size))
  rw [← hbs.out] at lm4
  rw [← hbs.out]
  go_upto_region 7 with (fail)
  generalize Value.agg #[.int .i64 (fldV v [110]).kind, .int .i64 (fldV v [110]).int, .slice p0 (fldV v [110]).bytes.length p0a, .string (str nm), p0b, p0c] = V0
  generalize Value.agg #[.int .i64 (fldV v [116]).kind, .int .i64 tm, .slice p1 (fldV v [116]).bytes.length p1a, .string (str (fldV v [116]).text), p1b, p1c] = V1
  generalize Value.agg #[.int .i64 (fldV v [99]).kind, .int .i64 (fldV v [99]).int, .slice p2 (fldV v [99]).bytes.length p2a, .string (str cm), p2b, p2c] = V2
  generalize Value.agg #[.int .i64 (fldV v [113]).kind, .int .i64 it, .slice p3 (fldV v [113]).bytes.length p3a, .string (str (fldV v [113]).text), p3b, p3c] = V3
  generalize Value.agg #[.int .i64 (fldV v [98]).kind, .int .i64 bs, .slice p4 (fldV v [98]).bytes.length p4a, .string (str (fldV v [98]).text), p4b, p4c] = V4
  have hbx : Below w6.heap.size w6 (w6.alloc (.cells (List.toArray XC) 31)) := (Below.refl _ _).alloc (Nat.le_refl _) _
  have hx8 : Blk (w6.alloc (.cells (List.toArray XC) 31)) w6.heap.size 31 XC := by simpa using Blk.new w6 31 (List.toArray XC)
  have hk7 := Gr.trans hk6 hbx
  have hg := hget _ (hB1.below hk7) (hb1'.trans (hk7.mono hb1'.size))
  have hsmI := getV_sm hSm [105] (fld_norm hnv [105])
  rw [fld_norm hnv [105]] at hsmI
  generalize w6.alloc (.cells (List.toArray XC) 31) = w7 at *
  generalize w6.heap.size = nx at *
  go_wp2_with fail
  refine (hg [105]).mono ?_
  rintro e W3 ⟨ds, rfl, hds, hb8⟩
  obtain ⟨L, hL⟩ : ∃ L, L = (fldV v [105]).list := ⟨_, rfl⟩
  obtain ⟨d0, d1, d2, d3, d4, al, cl, css, rfl, hcs, hal, h6, sub⟩ := VAt.cellsL hds
  have hLs := Sm.list hsmI
  have hsubS := Sm.sub hsmI
  rw [← hL] at hcs sub hLs hsubS ⊢
  have hk8 := Gr.trans hk7 hb8
  have HR0 := Lib.hid (R2.below hk8)
  have HBV := Lib.hid (hB1.below hk8)
  have HBX := Lib.hid (hx8.below hb8)
  have HV3 := Lib.hid (hvat.keep (hb1'.trans (hk8.mono hb1'.size)))
  have HAL := Lib.hid hal
  have G0 := Lib.hid (hbw2.trans (hk8.mono hbw2.size))
  have HLd := Lib.hid hL
  have hXok : Hid (AbtOk (arcX v)) := by
    show _
    rw [hXdh.out]
    exact ⟨rfl, lm1.1, lm3.1, lm4.1, lm0.2, lm2.2⟩
  have HL := Lib.hid hLs
  clear hal hds hb8 hk8 hk7 hk6 hk5 hk4 hk3 hk2 hb2 hb3 hb4 hb5 hb6 hg hg0 hg1 hg2 hg3 hg4 hbx hx8 hsmI hL hget hB1 hb1' hbw2 hbw1 R2 R1 R0 hb0 hb1 hv hvat hSm xo x6 hLs lm0 lm1 lm2 lm3 lm4 X2 hbd hnm htm hcm hit hbs
  generalize w1.heap.size = nv at *
  go_wp2
  generalize (Value.func (Fn.func 47) #[] #[.pointer (some ⟨nv, 0, none⟩)]) = FN
  generalize (Value.agg #[d0, d1, d2, d3, d4, .slice al L.length cl]) = V5
  go_loopw [9, 42] (fun u i wr => ∃ j : Nat, j ≤ L.length ∧ i = .int .i64 j ∧ Hid (wr.ownsRow W3.heap.size 83 33 u j (((L.take j).map fun x => prtC (prtOf x)).flatten)) ∧ Hid (Below W3.heap.size W3 wr)) (fun _ i _ => L.length - (intOf i).toNat)
  case atStart => exact ⟨0, Nat.zero_le _, rfl, Lib.hid ⟨rfl, .inl ⟨rfl, rfl⟩⟩, Lib.hid (Below.refl _ _)⟩
  case round =>
    obtain ⟨j, hj, rfl, hO, hbr⟩ := hrel
    have j0 : (0 : Int) ≤ (j : Int) := by omega
    have j6 : (j : Int) ≤ 65536 := by have := HL.out; omega
    have jb : IntKind.i64.wrap ((j : Int) + 1) = (j : Int) + 1 := IntWalk.i64_in _ (by omega)
    have hRr := HR0.out.below hbr.out
    have hGr := G0.out.trans (hbr.out.mono G0.out.size)
    by_cases hlt : j < L.length
    · have j1 : (j : Int) < (L.length : Int) := by omega
      have hr2 := HAL.out.below hbr.out
      have s6 := hr2.elemSome (s := 6) h6 (by decide) (i := j) (by omega)
      have hxc := sub j css[j] L[j] (by simp [hcs, hlt]) (by simp [hlt])
      have q1 := ldOp_at (P := Try.prog) (ty := 63) (hr2.elem (s := 6) h6 (i := j) (c := css[j]) (by simp [hcs, hlt])) Try.underlying63 rfl (by rw [hxc.len]; exact sizeV)
      have hT : Hid (((L.take (j + 1)).map fun x => prtC (prtOf x)).flatten = ((L.take j).map fun x => prtC (prtOf x)).flatten ++ prtC (prtOf L[j])) := by
        show _ = _
        rw [List.take_succ_eq_append_getElem hlt, List.map_append, List.flatten_append]; simp
      have hxm : L[j] ∈ L := List.getElem_mem hlt
      have hxs := hsubS _ hxm
      generalize L[j] = x at *
      generalize css[j] = cx at *
      have y1 : (List.toArray cx).size = 6 := by simpa using hxc.len
      have y2 : OneC (List.toArray cx) := all_oneCell_toArray hxc.one
      have hXB := Blk.new wr 63 (List.toArray cx)
      have hbx : Below wr.heap.size wr (wr.alloc (.cells (List.toArray cx) 63)) := (Below.refl _ _).alloc (Nat.le_refl _) _
      have hbx3 := hbr.out.trans (hbx.mono hbr.out.size)
      have hOx := ownsRow_below hO.out hbx
      have hOlt := World.ownsRow.lt hO.out
      clear hr2
      go_upto_region 10 with (fail)
      generalize hqx : wr.heap.size = qx at *
      generalize wr.alloc (.cells (List.toArray cx) 63) = W5 at *
      have hXB' : Blk W5 qx 63 cx := by simpa using hXB
      have q2 := ldOp_all (P := Try.prog) (ty := 63) hXB' Try.underlying63 rfl (by rw [hxc.len]; exact sizeV)
      have his := fun w' (hb : Below W5.heap.size W5 w') (a : Option Addr) (hr : Row w' a ([4, 3].map (.int .i64))) => is_any (c := 2) (ks := [4, 3]) (hxc.keep hbx3) rfl (by decide) w' hb hr
      go_wp2_with fail
      have hbk : Below W5.heap.size W5 (W5.alloc (.cells #[.int .i64 4, .int .i64 3] 3)) := (Below.refl _ _).alloc (Nat.le_refl _) _
      refine (his _ hbk _ (by have := (Blk.new W5 3 #[.int .i64 4, .int .i64 3]).row; simpa using this)).mono ?_
      rintro e W6 ⟨rfl, hb6⟩
      have hb56 : Below W5.heap.size W5 W6 := hbk.trans (hb6.mono (by simp))
      by_cases hI : isV x [4, 3] = true
      case neg =>
        have hI' : isV x [4, 3] = false := by simpa using hI
        rw [hI']
        have hRR : Hid (arcR l = (abt0, [], 4)) := by show _ = _; rw [hR.out, ard_bad hnv (by rw [← HLd.out]; exact hxm) hI']; rfl
        have hb36 := hbx3.trans (hb56.mono hbx3.size)
        obtain ⟨W2, y1, y2, _, y4⟩ := hres0 _ _ (HR0.out.below hb36) zl (G0.out.trans (hb36.mono G0.out.size))
        go_wp2
        refine bodyPost_ret (results_cell_tmp2 (fn := Try.f23) (p := 2) (t := 3) (u := 4) (by rfl) _ _ w.heap.size 31 _ (0, 0) _ (by rfl) y2 Try.underlying31 rfl (by rw [z6]; exact sizeAB)) rfl ?_
        exact ⟨none, 0, by rw [hRR.out, HZ.out]; rfl, by rw [hRR.out]; exact Row.nil _ _, y4, by rw [hRR.out]; intro h; simp at h⟩
      case pos =>
      rw [hI]
      obtain ⟨x0, x1, hxl, hx32⟩ := isV_parts2 hI
      obtain ⟨v0, v1, v2, v3, v4, ax0, cx2, css2, hcx, hcs2, hrow2, h62, sub2⟩ := VAt.cellsL hxc
      rw [hxl] at hcs2 sub2 hcx
      obtain ⟨e0, e1, rfl⟩ : ∃ e0 e1, css2 = [e0, e1] := by
        match css2, hcs2 with
        | [e0, e1], _ => exact ⟨e0, e1, rfl⟩
      have hs2 := hrow2.elemSome (s := 6) h62 (by decide) (i := 0) (by simp)
      obtain ⟨ax, rfl⟩ := Option.isSome_iff_exists.1 hs2
      obtain ⟨ab0, cb, _, _, p0, hrb⟩ := VAt.all (sub2 0 e0 x0 rfl rfl)
      obtain ⟨_, _, _, _, p1, _⟩ := VAt.all (sub2 1 e1 x1 rfl rfl)
      have hab := hrb.isSome (i := 0) (by simp [hx32])
      obtain ⟨ab, rfl⟩ := Option.isSome_iff_exists.1 hab
      have lax : ax.block < W3.heap.size := hrow2.block_lt (by rw [p0]; simp)
      have lab : ab.block < W3.heap.size := hrb.block_lt (by simp [hx32])
      have hXB6 := hXB'.below hb56
      have hrow6 := (hrow2.below hbx3).below hb56
      have hrb6 := (hrb.below hbx3).below hb56
      have hxt : ∀ w', (Blk w' qx 63 cx ∧ Row w' (some ax) (List.flatten [e0, e1]) ∧ Row w' (some ab) (x0.bytes.map b8)) → w'.cell? ⟨qx, 5, none⟩ = some (.slice (some ax) 2 cx2) ∧ w'.cell? ⟨ax.block, ax.off + 2, none⟩ = some (.slice (some ab) 32 cb) ∧ w'.cell? ⟨ax.block, ax.off + 6 + 1, none⟩ = some (.int .i64 x1.int) ∧ (ldOp 29 (.pointer (some ab))).run Try.prog w' = .ok (.agg (List.toArray (x0.bytes.map b8))) w' := fun w' hS => by
        obtain ⟨hB, hr, hrb'⟩ := hS
        refine ⟨hB.cell (by rw [hcx]; rfl), ?_, ?_, ?_⟩
        · exact cell_field (i := 0) (j := 2) (hr.field (s := 6) h62 (i := 0) (j := 2) (c := e0) rfl (by rw [p0, hx32]; rfl))
        · exact cell_field (i := 6) (j := 1) (hr.field (s := 6) h62 (i := 1) (j := 1) (c := e1) rfl (by rw [p1]; rfl))
        · exact ldOp_at (P := Try.prog) (ty := 29) (fun j v hv => hrb'.2 j v hv) Try.underlying29 rfl (by rw [List.length_map, hx32]; exact sizeID)
      have hXa : prtC ⟨x0.bytes, x1.int⟩ = prtC (prtOf x) := by
        unfold prtOf atV; rw [hxl]; simp [keyV_32 hx32]
      have hbd := fun {w' : World} => bd_prt (id := x0.bytes) (n := x1.int) (w := w') hx32
      obtain ⟨PC, hPCd⟩ : ∃ PC, PC = prtC ⟨x0.bytes, x1.int⟩ := ⟨_, rfl⟩
      rw [← hPCd] at hbd
      have hPCd' := hPCd.symm
      have hPC : (List.toArray PC).size = 33 := by rw [hPCd]; simp [prtC, hx32]
      have hO6 := ownsRow_below hOx hb56
      have hb36 := hbx3.trans (hb56.mono hbx3.size)
      clear hxc his hI hb56 hXB hXB' q2 hrow2 hs2 hab hrb hbx3 hOx hbx sub2 p0 p1 hcx hb6 hbk hxl hGr hRr
      generalize W5.heap.size = qk at *
      go_upto_region 12 with (fail)
      have hSm : ∀ (L : Array Bool) (w1 w2 : World), (Blk w1 qx 63 cx ∧ Row w1 (some ax) (List.flatten [e0, e1]) ∧ Row w1 (some ab) (x0.bytes.map b8)) → Mo w1 w2 → (Blk w2 qx 63 cx ∧ Row w2 (some ax) (List.flatten [e0, e1]) ∧ Row w2 (some ab) (x0.bytes.map b8)) := fun _ w1 w2 h hm => ⟨h.1.below hm, h.2.1.below hm, h.2.2.below hm⟩
      have hSi : ∀ i, i ≠ 99 → ∀ (L : Array Bool) (w1 : World), (Blk w1 qx 63 cx ∧ Row w1 (some ax) (List.flatten [e0, e1]) ∧ Row w1 (some ab) (x0.bytes.map b8)) ↔ (Blk w1 qx 63 cx ∧ Row w1 (some ax) (List.flatten [e0, e1]) ∧ Row w1 (some ab) (x0.bytes.map b8)) := fun _ _ _ _ => Iff.rfl
      have hS0 : (Blk (W6.drewN 1) qx 63 cx ∧ Row (W6.drewN 1) (some ax) (List.flatten [e0, e1]) ∧ Row (W6.drewN 1) (some ab) (x0.bytes.map b8)) := ⟨hXB6, hrow6, hrb6⟩
      refine wp_region_upN (S := fun _ w1 => (Blk w1 qx 63 cx ∧ Row w1 (some ax) (List.flatten [e0, e1]) ∧ Row w1 (some ab) (x0.bytes.map b8))) 17 rfl (by kernel_rfl) ?_
      refine wpAnyU_take (i := 0) (A := fun _ => True) (v := u9) (a' := ⟨#[.slice a n c, undef, .pointer (some ⟨w.heap.size, 0, none⟩), u3, u4, .pointer (some ⟨nv, 0, none⟩), .int .i64 0, FN, .pointer (some ⟨nx, 0, none⟩), u9, undef, .pointer (some ⟨qx, 0, none⟩), .tuple #[.agg (List.toArray cs), .int .i64 0], .slice a n c, .tuple #[.agg (List.toArray cs), .int .i64 0], .agg (List.toArray cs), .int .i64 0, .int .i64 0, .bool false, undef, undef, FN, FN, V0, .string (str nm), FN, V1, .int .i64 tm, FN, V2, .string (str cm), FN, V3, .int .i64 it, FN, V4, .int .i64 bs, .agg (List.toArray XC), FN, V5, .slice al L.length cl, .int .i64 (L.length : Int), .int .i64 (j : Int), .bool true, .pointer (some ((hd al).add (j * 6))), .agg (List.toArray cx), .agg (List.toArray cx), .slice (some ⟨qk, 0, none⟩) 2 2, .bool true, .bool false, u50, u9, u52, u53, u54, u55, u56, u57, u58, u59, u60, u61, u62, u63, u64, u65, u66, u67, undef, undef, undef, undef, undef, undef, undef, undef, undef, undef, undef, undef, undef, undef, undef], []⟩) hSm (hSi 0 (by decide)) (fun _ _ _ => trivial) rfl (by kernel_rfl) (by kernel_rfl) (by kernel_rfl) (fun _ _ _ h => h) hS0 (Tame.val rfl (fun w' hA => by go_simp)) rfl ?_
      refine wpAnyU_take (i := 1) (A := fun _ => True) (v := .pointer (some ⟨qx, 5, none⟩)) (a' := ⟨#[.slice a n c, undef, .pointer (some ⟨w.heap.size, 0, none⟩), u3, u4, .pointer (some ⟨nv, 0, none⟩), .int .i64 0, FN, .pointer (some ⟨nx, 0, none⟩), u9, undef, .pointer (some ⟨qx, 0, none⟩), .tuple #[.agg (List.toArray cs), .int .i64 0], .slice a n c, .tuple #[.agg (List.toArray cs), .int .i64 0], .agg (List.toArray cs), .int .i64 0, .int .i64 0, .bool false, undef, undef, FN, FN, V0, .string (str nm), FN, V1, .int .i64 tm, FN, V2, .string (str cm), FN, V3, .int .i64 it, FN, V4, .int .i64 bs, .agg (List.toArray XC), FN, V5, .slice al L.length cl, .int .i64 (L.length : Int), .int .i64 (j : Int), .bool true, .pointer (some ((hd al).add (j * 6))), .agg (List.toArray cx), .agg (List.toArray cx), .slice (some ⟨qk, 0, none⟩) 2 2, .bool true, .bool false, u50, u9, .pointer (some ⟨qx, 5, none⟩), u53, u54, u55, u56, u57, u58, u59, u60, u61, u62, u63, u64, u65, u66, u67, undef, undef, undef, undef, undef, undef, undef, undef, undef, undef, undef, undef, undef, undef, undef], []⟩) hSm (hSi 1 (by decide)) (fun _ _ _ => trivial) rfl (by kernel_rfl) (by kernel_rfl) (by kernel_rfl) (fun _ _ _ h => h) hS0 (Tame.val rfl (fun w' hA => by go_simp)) rfl ?_
      refine wpAnyU_take (i := 2) (A := fun w1 => (Blk w1 qx 63 cx ∧ Row w1 (some ax) (List.flatten [e0, e1]) ∧ Row w1 (some ab) (x0.bytes.map b8))) (v := .slice (some ax) 2 cx2) (a' := ⟨#[.slice a n c, undef, .pointer (some ⟨w.heap.size, 0, none⟩), u3, u4, .pointer (some ⟨nv, 0, none⟩), .int .i64 0, FN, .pointer (some ⟨nx, 0, none⟩), u9, undef, .pointer (some ⟨qx, 0, none⟩), .tuple #[.agg (List.toArray cs), .int .i64 0], .slice a n c, .tuple #[.agg (List.toArray cs), .int .i64 0], .agg (List.toArray cs), .int .i64 0, .int .i64 0, .bool false, undef, undef, FN, FN, V0, .string (str nm), FN, V1, .int .i64 tm, FN, V2, .string (str cm), FN, V3, .int .i64 it, FN, V4, .int .i64 bs, .agg (List.toArray XC), FN, V5, .slice al L.length cl, .int .i64 (L.length : Int), .int .i64 (j : Int), .bool true, .pointer (some ((hd al).add (j * 6))), .agg (List.toArray cx), .agg (List.toArray cx), .slice (some ⟨qk, 0, none⟩) 2 2, .bool true, .bool false, u50, u9, .pointer (some ⟨qx, 5, none⟩), .slice (some ax) 2 cx2, u54, u55, u56, u57, u58, u59, u60, u61, u62, u63, u64, u65, u66, u67, undef, undef, undef, undef, undef, undef, undef, undef, undef, undef, undef, undef, undef, undef, undef], []⟩) hSm (hSi 2 (by decide)) (fun _ _ h => h) rfl (by kernel_rfl) (by kernel_rfl) (by kernel_rfl) (fun _ _ _ h => h) hS0 (Tame.val rfl (fun w' hA => by have h1 := (hxt _ hA).1; go_simp)) rfl ?_
      refine wpAnyU_take (i := 3) (A := fun _ => True) (v := .pointer (some ax)) (a' := ⟨#[.slice a n c, undef, .pointer (some ⟨w.heap.size, 0, none⟩), u3, u4, .pointer (some ⟨nv, 0, none⟩), .int .i64 0, FN, .pointer (some ⟨nx, 0, none⟩), u9, undef, .pointer (some ⟨qx, 0, none⟩), .tuple #[.agg (List.toArray cs), .int .i64 0], .slice a n c, .tuple #[.agg (List.toArray cs), .int .i64 0], .agg (List.toArray cs), .int .i64 0, .int .i64 0, .bool false, undef, undef, FN, FN, V0, .string (str nm), FN, V1, .int .i64 tm, FN, V2, .string (str cm), FN, V3, .int .i64 it, FN, V4, .int .i64 bs, .agg (List.toArray XC), FN, V5, .slice al L.length cl, .int .i64 (L.length : Int), .int .i64 (j : Int), .bool true, .pointer (some ((hd al).add (j * 6))), .agg (List.toArray cx), .agg (List.toArray cx), .slice (some ⟨qk, 0, none⟩) 2 2, .bool true, .bool false, u50, u9, .pointer (some ⟨qx, 5, none⟩), .slice (some ax) 2 cx2, .pointer (some ax), u55, u56, u57, u58, u59, u60, u61, u62, u63, u64, u65, u66, u67, undef, undef, undef, undef, undef, undef, undef, undef, undef, undef, undef, undef, undef, undef, undef], []⟩) hSm (hSi 3 (by decide)) (fun _ _ _ => trivial) rfl (by kernel_rfl) (by kernel_rfl) (by kernel_rfl) (fun _ _ _ h => h) hS0 (Tame.val rfl (fun w' hA => by go_simp)) rfl ?_
      refine wpAnyU_take (i := 4) (A := fun _ => True) (v := .pointer (some ⟨ax.block, ax.off + 2, none⟩)) (a' := ⟨#[.slice a n c, undef, .pointer (some ⟨w.heap.size, 0, none⟩), u3, u4, .pointer (some ⟨nv, 0, none⟩), .int .i64 0, FN, .pointer (some ⟨nx, 0, none⟩), u9, undef, .pointer (some ⟨qx, 0, none⟩), .tuple #[.agg (List.toArray cs), .int .i64 0], .slice a n c, .tuple #[.agg (List.toArray cs), .int .i64 0], .agg (List.toArray cs), .int .i64 0, .int .i64 0, .bool false, undef, undef, FN, FN, V0, .string (str nm), FN, V1, .int .i64 tm, FN, V2, .string (str cm), FN, V3, .int .i64 it, FN, V4, .int .i64 bs, .agg (List.toArray XC), FN, V5, .slice al L.length cl, .int .i64 (L.length : Int), .int .i64 (j : Int), .bool true, .pointer (some ((hd al).add (j * 6))), .agg (List.toArray cx), .agg (List.toArray cx), .slice (some ⟨qk, 0, none⟩) 2 2, .bool true, .bool false, u50, u9, .pointer (some ⟨qx, 5, none⟩), .slice (some ax) 2 cx2, .pointer (some ax), .pointer (some ⟨ax.block, ax.off + 2, none⟩), u56, u57, u58, u59, u60, u61, u62, u63, u64, u65, u66, u67, undef, undef, undef, undef, undef, undef, undef, undef, undef, undef, undef, undef, undef, undef, undef], []⟩) hSm (hSi 4 (by decide)) (fun _ _ _ => trivial) rfl (by kernel_rfl) (by kernel_rfl) (by kernel_rfl) (fun _ _ _ h => h) hS0 (Tame.val rfl (fun w' hA => by go_simp)) rfl ?_
      refine wpAnyU_take (i := 5) (A := fun w1 => (Blk w1 qx 63 cx ∧ Row w1 (some ax) (List.flatten [e0, e1]) ∧ Row w1 (some ab) (x0.bytes.map b8))) (v := .slice (some ab) 32 cb) (a' := ⟨#[.slice a n c, undef, .pointer (some ⟨w.heap.size, 0, none⟩), u3, u4, .pointer (some ⟨nv, 0, none⟩), .int .i64 0, FN, .pointer (some ⟨nx, 0, none⟩), u9, undef, .pointer (some ⟨qx, 0, none⟩), .tuple #[.agg (List.toArray cs), .int .i64 0], .slice a n c, .tuple #[.agg (List.toArray cs), .int .i64 0], .agg (List.toArray cs), .int .i64 0, .int .i64 0, .bool false, undef, undef, FN, FN, V0, .string (str nm), FN, V1, .int .i64 tm, FN, V2, .string (str cm), FN, V3, .int .i64 it, FN, V4, .int .i64 bs, .agg (List.toArray XC), FN, V5, .slice al L.length cl, .int .i64 (L.length : Int), .int .i64 (j : Int), .bool true, .pointer (some ((hd al).add (j * 6))), .agg (List.toArray cx), .agg (List.toArray cx), .slice (some ⟨qk, 0, none⟩) 2 2, .bool true, .bool false, u50, u9, .pointer (some ⟨qx, 5, none⟩), .slice (some ax) 2 cx2, .pointer (some ax), .pointer (some ⟨ax.block, ax.off + 2, none⟩), .slice (some ab) 32 cb, u57, u58, u59, u60, u61, u62, u63, u64, u65, u66, u67, undef, undef, undef, undef, undef, undef, undef, undef, undef, undef, undef, undef, undef, undef, undef], []⟩) hSm (hSi 5 (by decide)) (fun _ _ h => h) rfl (by kernel_rfl) (by kernel_rfl) (by kernel_rfl) (fun _ _ _ h => h) hS0 (Tame.val rfl (fun w' hA => by have h1 := (hxt _ hA).2.1; go_simp)) rfl ?_
      refine wpAnyU_take (i := 6) (A := fun w1 => (Blk w1 qx 63 cx ∧ Row w1 (some ax) (List.flatten [e0, e1]) ∧ Row w1 (some ab) (x0.bytes.map b8))) (v := .pointer (some ab)) (a' := ⟨#[.slice a n c, undef, .pointer (some ⟨w.heap.size, 0, none⟩), u3, u4, .pointer (some ⟨nv, 0, none⟩), .int .i64 0, FN, .pointer (some ⟨nx, 0, none⟩), u9, undef, .pointer (some ⟨qx, 0, none⟩), .tuple #[.agg (List.toArray cs), .int .i64 0], .slice a n c, .tuple #[.agg (List.toArray cs), .int .i64 0], .agg (List.toArray cs), .int .i64 0, .int .i64 0, .bool false, undef, undef, FN, FN, V0, .string (str nm), FN, V1, .int .i64 tm, FN, V2, .string (str cm), FN, V3, .int .i64 it, FN, V4, .int .i64 bs, .agg (List.toArray XC), FN, V5, .slice al L.length cl, .int .i64 (L.length : Int), .int .i64 (j : Int), .bool true, .pointer (some ((hd al).add (j * 6))), .agg (List.toArray cx), .agg (List.toArray cx), .slice (some ⟨qk, 0, none⟩) 2 2, .bool true, .bool false, u50, u9, .pointer (some ⟨qx, 5, none⟩), .slice (some ax) 2 cx2, .pointer (some ax), .pointer (some ⟨ax.block, ax.off + 2, none⟩), .slice (some ab) 32 cb, .pointer (some ab), u58, u59, u60, u61, u62, u63, u64, u65, u66, u67, undef, undef, undef, undef, undef, undef, undef, undef, undef, undef, undef, undef, undef, undef, undef], []⟩) hSm (hSi 6 (by decide)) (fun _ _ h => h) rfl (by kernel_rfl) (by kernel_rfl) (by kernel_rfl) (fun _ _ _ h => h) hS0 (Tame.val rfl (fun w' hA => by have h1 : (Instr.arrayAt 29 (.slice (some ab) 32 cb)).run Try.prog w' = .ok (.pointer (some ab)) w' := r_ap; go_simp)) rfl ?_
      refine wpAnyU_take (i := 7) (A := fun w1 => (Blk w1 qx 63 cx ∧ Row w1 (some ax) (List.flatten [e0, e1]) ∧ Row w1 (some ab) (x0.bytes.map b8))) (v := .agg (List.toArray (x0.bytes.map b8))) (a' := ⟨#[.slice a n c, undef, .pointer (some ⟨w.heap.size, 0, none⟩), u3, u4, .pointer (some ⟨nv, 0, none⟩), .int .i64 0, FN, .pointer (some ⟨nx, 0, none⟩), u9, undef, .pointer (some ⟨qx, 0, none⟩), .tuple #[.agg (List.toArray cs), .int .i64 0], .slice a n c, .tuple #[.agg (List.toArray cs), .int .i64 0], .agg (List.toArray cs), .int .i64 0, .int .i64 0, .bool false, undef, undef, FN, FN, V0, .string (str nm), FN, V1, .int .i64 tm, FN, V2, .string (str cm), FN, V3, .int .i64 it, FN, V4, .int .i64 bs, .agg (List.toArray XC), FN, V5, .slice al L.length cl, .int .i64 (L.length : Int), .int .i64 (j : Int), .bool true, .pointer (some ((hd al).add (j * 6))), .agg (List.toArray cx), .agg (List.toArray cx), .slice (some ⟨qk, 0, none⟩) 2 2, .bool true, .bool false, u50, u9, .pointer (some ⟨qx, 5, none⟩), .slice (some ax) 2 cx2, .pointer (some ax), .pointer (some ⟨ax.block, ax.off + 2, none⟩), .slice (some ab) 32 cb, .pointer (some ab), .agg (List.toArray (x0.bytes.map b8)), u59, u60, u61, u62, u63, u64, u65, u66, u67, undef, undef, undef, undef, undef, undef, undef, undef, undef, undef, undef, undef, undef, undef, undef], []⟩) hSm (hSi 7 (by decide)) (fun _ _ h => h) rfl (by kernel_rfl) (by kernel_rfl) (by kernel_rfl) (fun _ _ _ h => h) hS0 (Tame.val rfl (fun w' hA => run_ldOp (hxt _ hA).2.2.2)) rfl ?_
      refine wpAnyU_take (i := 8) (A := fun _ => True) (v := .pointer (some ⟨qx, 5, none⟩)) (a' := ⟨#[.slice a n c, undef, .pointer (some ⟨w.heap.size, 0, none⟩), u3, u4, .pointer (some ⟨nv, 0, none⟩), .int .i64 0, FN, .pointer (some ⟨nx, 0, none⟩), u9, undef, .pointer (some ⟨qx, 0, none⟩), .tuple #[.agg (List.toArray cs), .int .i64 0], .slice a n c, .tuple #[.agg (List.toArray cs), .int .i64 0], .agg (List.toArray cs), .int .i64 0, .int .i64 0, .bool false, undef, undef, FN, FN, V0, .string (str nm), FN, V1, .int .i64 tm, FN, V2, .string (str cm), FN, V3, .int .i64 it, FN, V4, .int .i64 bs, .agg (List.toArray XC), FN, V5, .slice al L.length cl, .int .i64 (L.length : Int), .int .i64 (j : Int), .bool true, .pointer (some ((hd al).add (j * 6))), .agg (List.toArray cx), .agg (List.toArray cx), .slice (some ⟨qk, 0, none⟩) 2 2, .bool true, .bool false, u50, u9, .pointer (some ⟨qx, 5, none⟩), .slice (some ax) 2 cx2, .pointer (some ax), .pointer (some ⟨ax.block, ax.off + 2, none⟩), .slice (some ab) 32 cb, .pointer (some ab), .agg (List.toArray (x0.bytes.map b8)), .pointer (some ⟨qx, 5, none⟩), u60, u61, u62, u63, u64, u65, u66, u67, undef, undef, undef, undef, undef, undef, undef, undef, undef, undef, undef, undef, undef, undef, undef], []⟩) hSm (hSi 8 (by decide)) (fun _ _ _ => trivial) rfl (by kernel_rfl) (by kernel_rfl) (by kernel_rfl) (fun _ _ _ h => h) hS0 (Tame.val rfl (fun w' hA => by go_simp)) rfl ?_
      refine wpAnyU_take (i := 9) (A := fun w1 => (Blk w1 qx 63 cx ∧ Row w1 (some ax) (List.flatten [e0, e1]) ∧ Row w1 (some ab) (x0.bytes.map b8))) (v := .slice (some ax) 2 cx2) (a' := ⟨#[.slice a n c, undef, .pointer (some ⟨w.heap.size, 0, none⟩), u3, u4, .pointer (some ⟨nv, 0, none⟩), .int .i64 0, FN, .pointer (some ⟨nx, 0, none⟩), u9, undef, .pointer (some ⟨qx, 0, none⟩), .tuple #[.agg (List.toArray cs), .int .i64 0], .slice a n c, .tuple #[.agg (List.toArray cs), .int .i64 0], .agg (List.toArray cs), .int .i64 0, .int .i64 0, .bool false, undef, undef, FN, FN, V0, .string (str nm), FN, V1, .int .i64 tm, FN, V2, .string (str cm), FN, V3, .int .i64 it, FN, V4, .int .i64 bs, .agg (List.toArray XC), FN, V5, .slice al L.length cl, .int .i64 (L.length : Int), .int .i64 (j : Int), .bool true, .pointer (some ((hd al).add (j * 6))), .agg (List.toArray cx), .agg (List.toArray cx), .slice (some ⟨qk, 0, none⟩) 2 2, .bool true, .bool false, u50, u9, .pointer (some ⟨qx, 5, none⟩), .slice (some ax) 2 cx2, .pointer (some ax), .pointer (some ⟨ax.block, ax.off + 2, none⟩), .slice (some ab) 32 cb, .pointer (some ab), .agg (List.toArray (x0.bytes.map b8)), .pointer (some ⟨qx, 5, none⟩), .slice (some ax) 2 cx2, u61, u62, u63, u64, u65, u66, u67, undef, undef, undef, undef, undef, undef, undef, undef, undef, undef, undef, undef, undef, undef, undef], []⟩) hSm (hSi 9 (by decide)) (fun _ _ h => h) rfl (by kernel_rfl) (by kernel_rfl) (by kernel_rfl) (fun _ _ _ h => h) hS0 (Tame.val rfl (fun w' hA => by have h1 := (hxt _ hA).1; go_simp)) rfl ?_
      refine wpAnyU_take (i := 10) (A := fun _ => True) (v := .pointer (some (ax.add 6))) (a' := ⟨#[.slice a n c, undef, .pointer (some ⟨w.heap.size, 0, none⟩), u3, u4, .pointer (some ⟨nv, 0, none⟩), .int .i64 0, FN, .pointer (some ⟨nx, 0, none⟩), u9, undef, .pointer (some ⟨qx, 0, none⟩), .tuple #[.agg (List.toArray cs), .int .i64 0], .slice a n c, .tuple #[.agg (List.toArray cs), .int .i64 0], .agg (List.toArray cs), .int .i64 0, .int .i64 0, .bool false, undef, undef, FN, FN, V0, .string (str nm), FN, V1, .int .i64 tm, FN, V2, .string (str cm), FN, V3, .int .i64 it, FN, V4, .int .i64 bs, .agg (List.toArray XC), FN, V5, .slice al L.length cl, .int .i64 (L.length : Int), .int .i64 (j : Int), .bool true, .pointer (some ((hd al).add (j * 6))), .agg (List.toArray cx), .agg (List.toArray cx), .slice (some ⟨qk, 0, none⟩) 2 2, .bool true, .bool false, u50, u9, .pointer (some ⟨qx, 5, none⟩), .slice (some ax) 2 cx2, .pointer (some ax), .pointer (some ⟨ax.block, ax.off + 2, none⟩), .slice (some ab) 32 cb, .pointer (some ab), .agg (List.toArray (x0.bytes.map b8)), .pointer (some ⟨qx, 5, none⟩), .slice (some ax) 2 cx2, .pointer (some (ax.add 6)), u62, u63, u64, u65, u66, u67, undef, undef, undef, undef, undef, undef, undef, undef, undef, undef, undef, undef, undef, undef, undef], []⟩) hSm (hSi 10 (by decide)) (fun _ _ _ => trivial) rfl (by kernel_rfl) (by kernel_rfl) (by kernel_rfl) (fun _ _ _ h => h) hS0 (Tame.val rfl (fun w' hA => by go_simp)) rfl ?_
      refine wpAnyU_take (i := 11) (A := fun _ => True) (v := .pointer (some ⟨ax.block, ax.off + 6 + 1, none⟩)) (a' := ⟨#[.slice a n c, undef, .pointer (some ⟨w.heap.size, 0, none⟩), u3, u4, .pointer (some ⟨nv, 0, none⟩), .int .i64 0, FN, .pointer (some ⟨nx, 0, none⟩), u9, undef, .pointer (some ⟨qx, 0, none⟩), .tuple #[.agg (List.toArray cs), .int .i64 0], .slice a n c, .tuple #[.agg (List.toArray cs), .int .i64 0], .agg (List.toArray cs), .int .i64 0, .int .i64 0, .bool false, undef, undef, FN, FN, V0, .string (str nm), FN, V1, .int .i64 tm, FN, V2, .string (str cm), FN, V3, .int .i64 it, FN, V4, .int .i64 bs, .agg (List.toArray XC), FN, V5, .slice al L.length cl, .int .i64 (L.length : Int), .int .i64 (j : Int), .bool true, .pointer (some ((hd al).add (j * 6))), .agg (List.toArray cx), .agg (List.toArray cx), .slice (some ⟨qk, 0, none⟩) 2 2, .bool true, .bool false, u50, u9, .pointer (some ⟨qx, 5, none⟩), .slice (some ax) 2 cx2, .pointer (some ax), .pointer (some ⟨ax.block, ax.off + 2, none⟩), .slice (some ab) 32 cb, .pointer (some ab), .agg (List.toArray (x0.bytes.map b8)), .pointer (some ⟨qx, 5, none⟩), .slice (some ax) 2 cx2, .pointer (some (ax.add 6)), .pointer (some ⟨ax.block, ax.off + 6 + 1, none⟩), u63, u64, u65, u66, u67, undef, undef, undef, undef, undef, undef, undef, undef, undef, undef, undef, undef, undef, undef, undef], []⟩) hSm (hSi 11 (by decide)) (fun _ _ _ => trivial) rfl (by kernel_rfl) (by kernel_rfl) (by kernel_rfl) (fun _ _ _ h => h) hS0 (Tame.val rfl (fun w' hA => by go_simp)) rfl ?_
      refine wpAnyU_take (i := 12) (A := fun w1 => (Blk w1 qx 63 cx ∧ Row w1 (some ax) (List.flatten [e0, e1]) ∧ Row w1 (some ab) (x0.bytes.map b8))) (v := .int .i64 x1.int) (a' := ⟨#[.slice a n c, undef, .pointer (some ⟨w.heap.size, 0, none⟩), u3, u4, .pointer (some ⟨nv, 0, none⟩), .int .i64 0, FN, .pointer (some ⟨nx, 0, none⟩), u9, undef, .pointer (some ⟨qx, 0, none⟩), .tuple #[.agg (List.toArray cs), .int .i64 0], .slice a n c, .tuple #[.agg (List.toArray cs), .int .i64 0], .agg (List.toArray cs), .int .i64 0, .int .i64 0, .bool false, undef, undef, FN, FN, V0, .string (str nm), FN, V1, .int .i64 tm, FN, V2, .string (str cm), FN, V3, .int .i64 it, FN, V4, .int .i64 bs, .agg (List.toArray XC), FN, V5, .slice al L.length cl, .int .i64 (L.length : Int), .int .i64 (j : Int), .bool true, .pointer (some ((hd al).add (j * 6))), .agg (List.toArray cx), .agg (List.toArray cx), .slice (some ⟨qk, 0, none⟩) 2 2, .bool true, .bool false, u50, u9, .pointer (some ⟨qx, 5, none⟩), .slice (some ax) 2 cx2, .pointer (some ax), .pointer (some ⟨ax.block, ax.off + 2, none⟩), .slice (some ab) 32 cb, .pointer (some ab), .agg (List.toArray (x0.bytes.map b8)), .pointer (some ⟨qx, 5, none⟩), .slice (some ax) 2 cx2, .pointer (some (ax.add 6)), .pointer (some ⟨ax.block, ax.off + 6 + 1, none⟩), .int .i64 x1.int, u64, u65, u66, u67, undef, undef, undef, undef, undef, undef, undef, undef, undef, undef, undef, undef, undef, undef, undef], []⟩) hSm (hSi 12 (by decide)) (fun _ _ h => h) rfl (by kernel_rfl) (by kernel_rfl) (by kernel_rfl) (fun _ _ _ h => h) hS0 (Tame.val rfl (fun w' hA => by have h1 := (hxt _ hA).2.2.1; go_simp)) rfl ?_
      refine wpAnyU_take (i := 13) (A := fun w1 => (Blk w1 qx 63 cx ∧ Row w1 (some ax) (List.flatten [e0, e1]) ∧ Row w1 (some ab) (x0.bytes.map b8))) (v := .agg (List.toArray PC)) (a' := ⟨#[.slice a n c, undef, .pointer (some ⟨w.heap.size, 0, none⟩), u3, u4, .pointer (some ⟨nv, 0, none⟩), .int .i64 0, FN, .pointer (some ⟨nx, 0, none⟩), u9, undef, .pointer (some ⟨qx, 0, none⟩), .tuple #[.agg (List.toArray cs), .int .i64 0], .slice a n c, .tuple #[.agg (List.toArray cs), .int .i64 0], .agg (List.toArray cs), .int .i64 0, .int .i64 0, .bool false, undef, undef, FN, FN, V0, .string (str nm), FN, V1, .int .i64 tm, FN, V2, .string (str cm), FN, V3, .int .i64 it, FN, V4, .int .i64 bs, .agg (List.toArray XC), FN, V5, .slice al L.length cl, .int .i64 (L.length : Int), .int .i64 (j : Int), .bool true, .pointer (some ((hd al).add (j * 6))), .agg (List.toArray cx), .agg (List.toArray cx), .slice (some ⟨qk, 0, none⟩) 2 2, .bool true, .bool false, u50, u9, .pointer (some ⟨qx, 5, none⟩), .slice (some ax) 2 cx2, .pointer (some ax), .pointer (some ⟨ax.block, ax.off + 2, none⟩), .slice (some ab) 32 cb, .pointer (some ab), .agg (List.toArray (x0.bytes.map b8)), .pointer (some ⟨qx, 5, none⟩), .slice (some ax) 2 cx2, .pointer (some (ax.add 6)), .pointer (some ⟨ax.block, ax.off + 6 + 1, none⟩), .int .i64 x1.int, .agg (List.toArray PC), u65, u66, u67, undef, undef, undef, undef, undef, undef, undef, undef, undef, undef, undef, undef, undef, undef, undef], []⟩) hSm (hSi 13 (by decide)) (fun _ _ h => h) rfl (by kernel_rfl) (by kernel_rfl) (by kernel_rfl) (fun _ _ _ h => h) hS0 (Tame.val rfl (fun w' hA => run_bdOp (vals := #[(0, .agg (List.toArray (x0.bytes.map b8))), (1, .int .i64 x1.int)]) (by first | rfl | go_simp | simp [Act.eval]) hbd)) rfl ?_
      refine wpAnyU_all (rs := [14]) (by kernel_rfl) (by decide) ?_
      intro w7 hm7 i hi
      obtain rfl : i = 14 := by simpa using hi
      refine wpOp_val (v := .slice (some ⟨w7.heap.size, 0, none⟩) 1 1) (w' := w7.alloc (.cells (List.toArray PC) 83)) (a' := ⟨#[.slice a n c, undef, .pointer (some ⟨w.heap.size, 0, none⟩), u3, u4, .pointer (some ⟨nv, 0, none⟩), .int .i64 0, FN, .pointer (some ⟨nx, 0, none⟩), u9, undef, .pointer (some ⟨qx, 0, none⟩), .tuple #[.agg (List.toArray cs), .int .i64 0], .slice a n c, .tuple #[.agg (List.toArray cs), .int .i64 0], .agg (List.toArray cs), .int .i64 0, .int .i64 0, .bool false, undef, undef, FN, FN, V0, .string (str nm), FN, V1, .int .i64 tm, FN, V2, .string (str cm), FN, V3, .int .i64 it, FN, V4, .int .i64 bs, .agg (List.toArray XC), FN, V5, .slice al L.length cl, .int .i64 (L.length : Int), .int .i64 (j : Int), .bool true, .pointer (some ((hd al).add (j * 6))), .agg (List.toArray cx), .agg (List.toArray cx), .slice (some ⟨qk, 0, none⟩) 2 2, .bool true, .bool false, u50, u9, .pointer (some ⟨qx, 5, none⟩), .slice (some ax) 2 cx2, .pointer (some ax), .pointer (some ⟨ax.block, ax.off + 2, none⟩), .slice (some ab) 32 cb, .pointer (some ab), .agg (List.toArray (x0.bytes.map b8)), .pointer (some ⟨qx, 5, none⟩), .slice (some ax) 2 cx2, .pointer (some (ax.add 6)), .pointer (some ⟨ax.block, ax.off + 6 + 1, none⟩), .int .i64 x1.int, .agg (List.toArray PC), .slice (some ⟨w7.heap.size, 0, none⟩) 1 1, u66, u67, undef, undef, undef, undef, undef, undef, undef, undef, undef, undef, undef, undef, undef, undef, undef], []⟩) rfl rfl (run_bsOp (vals := #[(0, .agg (List.toArray PC))]) (by first | rfl | go_simp | simp [Act.eval]) (r_bsPA hPC)) rfl ?_
      have hm8 : Mo w7 (w7.alloc (.cells (List.toArray PC) 83)) := (Below.refl _ _).alloc (Nat.le_refl _) _
      have hm68 := Mo.trans hm7 hm8
      refine ⟨hSm #[] _ _ hS0 hm68, ?_⟩
      have hB8 : Blk (w7.alloc (.cells (List.toArray PC) 83)) w7.heap.size 83 PC := by simpa using Blk.new w7 83 (List.toArray PC)
      generalize w7.alloc (.cells (List.toArray PC) 83) = w8 at *
      generalize w7.heap.size = g at *
      refine wpAnyU_all (rs := [15]) (by kernel_rfl) (by decide) ?_
      intro w9 hm9 i hi
      obtain rfl : i = 15 := by simpa using hi
      have hm69 := Mo.trans hm68 hm9
      have hO9 := ownsRow_below hO6 (Below.drewN' hm69)
      have hB9 := hB8.below hm9
      have hsrc : Src Try.prog 33 32 (.slice (some ⟨g, 0, none⟩) 1 1) 1 PC w9 := Src.ofRow ePA.ht _ 1 1 PC (by decide) (by simpa using hPC) hB9.row (by rw [hPCd]; exact prtC_one _)
      obtain ⟨v', w10, hrun, hO10, hG10, hK10⟩ := append_srcK (ty := 32) ePA hO9 hsrc (by have := HL.out; unfold maxLen; omega) (by have := HL.out; omega) (by have h1 := hb36.size; have h2 : W6.heap.size ≤ w9.heap.size := hm69.size; omega)
      obtain ⟨a', c', rfl, _⟩ := owns_rowN hO10 (by decide)
      refine wpOp_val (v := .slice a' (j + 1) c') (w' := w10) (a' := ⟨#[.slice a n c, undef, .pointer (some ⟨w.heap.size, 0, none⟩), u3, u4, .pointer (some ⟨nv, 0, none⟩), .int .i64 0, FN, .pointer (some ⟨nx, 0, none⟩), u9, undef, .pointer (some ⟨qx, 0, none⟩), .tuple #[.agg (List.toArray cs), .int .i64 0], .slice a n c, .tuple #[.agg (List.toArray cs), .int .i64 0], .agg (List.toArray cs), .int .i64 0, .int .i64 0, .bool false, undef, undef, FN, FN, V0, .string (str nm), FN, V1, .int .i64 tm, FN, V2, .string (str cm), FN, V3, .int .i64 it, FN, V4, .int .i64 bs, .agg (List.toArray XC), FN, V5, .slice al L.length cl, .int .i64 (L.length : Int), .int .i64 (j : Int), .bool true, .pointer (some ((hd al).add (j * 6))), .agg (List.toArray cx), .agg (List.toArray cx), .slice (some ⟨qk, 0, none⟩) 2 2, .bool true, .bool false, u50, u9, .pointer (some ⟨qx, 5, none⟩), .slice (some ax) 2 cx2, .pointer (some ax), .pointer (some ⟨ax.block, ax.off + 2, none⟩), .slice (some ab) 32 cb, .pointer (some ab), .agg (List.toArray (x0.bytes.map b8)), .pointer (some ⟨qx, 5, none⟩), .slice (some ax) 2 cx2, .pointer (some (ax.add 6)), .pointer (some ⟨ax.block, ax.off + 6 + 1, none⟩), .int .i64 x1.int, .agg (List.toArray PC), .slice (some ⟨g, 0, none⟩) 1 1, .slice a' (j + 1) c', u67, undef, undef, undef, undef, undef, undef, undef, undef, undef, undef, undef, undef, undef, undef, undef], []⟩) rfl rfl (run_append hrun rfl rfl rfl) rfl ?_
      have hG : Gro w9 w10 u9 (.slice a' (j + 1) c') := ⟨hG10, hK10⟩
      have hb39 := hb36.trans ((Below.drewN' hm69).mono hb36.size)
      have hb310 := hb39.trans (hG.below (base := W3.heap.size) (fun k hk => (hOlt k hk).1) (Nat.le_refl _) hb39.size)
      have hS9 := hSm #[] _ _ hS0 hm69
      have hS10 : (Blk w10 qx 63 cx ∧ Row w10 (some ax) (List.flatten [e0, e1]) ∧ Row w10 (some ab) (x0.bytes.map b8)) := ⟨(hG.blk hS9.1 (fun e => Nat.lt_irrefl _ (Nat.lt_of_lt_of_le (hOlt _ e).2 (Nat.le_refl _)))).1, hS9.2.1.keptFar hG10 (fun _ e => absurd (hOlt _ e).1 (Nat.not_le_of_lt lax)), hS9.2.2.keptFar hG10 (fun _ e => absurd (hOlt _ e).1 (Nat.not_le_of_lt lab))⟩
      refine ⟨hS10, ?_⟩
      refine wpAnyU_take (i := 16) (A := fun _ => True) (v := .slice a' (j + 1) c') (a' := ⟨#[.slice a n c, undef, .pointer (some ⟨w.heap.size, 0, none⟩), u3, u4, .pointer (some ⟨nv, 0, none⟩), .int .i64 0, FN, .pointer (some ⟨nx, 0, none⟩), .slice a' (j + 1) c', undef, .pointer (some ⟨qx, 0, none⟩), .tuple #[.agg (List.toArray cs), .int .i64 0], .slice a n c, .tuple #[.agg (List.toArray cs), .int .i64 0], .agg (List.toArray cs), .int .i64 0, .int .i64 0, .bool false, undef, undef, FN, FN, V0, .string (str nm), FN, V1, .int .i64 tm, FN, V2, .string (str cm), FN, V3, .int .i64 it, FN, V4, .int .i64 bs, .agg (List.toArray XC), FN, V5, .slice al L.length cl, .int .i64 (L.length : Int), .int .i64 (j : Int), .bool true, .pointer (some ((hd al).add (j * 6))), .agg (List.toArray cx), .agg (List.toArray cx), .slice (some ⟨qk, 0, none⟩) 2 2, .bool true, .bool false, u50, u9, .pointer (some ⟨qx, 5, none⟩), .slice (some ax) 2 cx2, .pointer (some ax), .pointer (some ⟨ax.block, ax.off + 2, none⟩), .slice (some ab) 32 cb, .pointer (some ab), .agg (List.toArray (x0.bytes.map b8)), .pointer (some ⟨qx, 5, none⟩), .slice (some ax) 2 cx2, .pointer (some (ax.add 6)), .pointer (some ⟨ax.block, ax.off + 6 + 1, none⟩), .int .i64 x1.int, .agg (List.toArray PC), .slice (some ⟨g, 0, none⟩) 1 1, .slice a' (j + 1) c', u67, undef, undef, undef, undef, undef, undef, undef, undef, undef, undef, undef, undef, undef, undef, undef], []⟩) hSm (hSi 16 (by decide)) (fun _ _ _ => trivial) rfl (by kernel_rfl) (by kernel_rfl) (by kernel_rfl) (fun _ _ _ h => h) hS10 (Tame.val rfl (fun w' hA => by go_simp)) rfl ?_
      refine wpAnyU_done (by kernel_rfl) ?_ _
      intro w12 hm12
      have hb312 := Lib.hid (hb310.trans (hm12.mono hb310.size))
      have hO12 : Hid (w12.ownsRow W3.heap.size 83 33 (.slice a' (j + 1) c') (j + 1) (((L.take (j + 1)).map fun x => prtC (prtOf x)).flatten)) := by
        show _
        rw [hT.out, ← hXa, hPCd']
        exact ownsRow_below hO10 hm12
      clear hm12 hb310 hb39 hG hG10 hK10 hO10 hrun hsrc hB9 hO9 hm69 hm68 hS0 hS9 hS10 hSm hSi hxt
      go_wp2
      first
        | exact ⟨⟨j + 1, by omega, (by first | rfl | go_num | (congr 1; omega)), hO12, hb312⟩, by simp [intOf] <;> omega⟩
        | (refine ⟨?_, by simp [intOf] <;> omega⟩; (repeat apply Exists.intro); exact ⟨⟨j + 1, by omega, (by first | rfl | go_num | (congr 1; omega)), hO12, hb312⟩, rfl⟩)
    · obtain rfl : j = L.length := by omega
      have j1 : ¬ (L.length : Int) < (L.length : Int) := by omega
      have hO1 := hO.out
      rw [List.take_length] at hO1
      obtain ⟨ao, co, rfl, _, _, hrow, hfar⟩ := owns_rowN hO1 (by decide)
      obtain ⟨OUT, hOUT⟩ : ∃ OUT, OUT = L.map prtOf := ⟨_, rfl⟩
      have hrowO : Row wr ao (OUT.map prtC).flatten := by rw [hOUT, List.map_map]; exact hrow
      have hlenO : L.length = OUT.length := by simp [hOUT]
      have hfr : Hid (0 < (OUT.map prtC).flatten.length → w.heap.size < (hd ao).block) := by
        show _ → _
        intro h
        rw [hOUT, List.map_map] at h
        have h1 := (hfar h).2.1
        have h2 := HR0.out.lt
        omega
      have hokO : ∀ x ∈ OUT, PrtOk x := by
        rw [hOUT]
        intro y hy
        obtain ⟨x, hx, rfl⟩ := List.mem_map.1 hy
        obtain ⟨i, hi, rfl⟩ := List.mem_iff_getElem.1 hx
        exact prtOf_ok (sub i css[i] L[i] (by simp [hcs, hi]) (by simp [hi]))
      have hok : Hid (arcOk v = (decide (checkA (arcX v) OUT = 0) && sameV (archV (arcX v) OUT) v)) := by show _ = _; rw [arcOk_all, ← HLd.out, hOUT]
      have hout : Hid (OUT.length ≤ 70 → arcL v = OUT) := by
        show _ → _
        intro h
        rw [hOUT, HLd.out]
        exact arcL_all (by rw [← HLd.out, hlenO]; exact h)
      have hck := fun w' (hb : Below wr.heap.size wr w') => checkArchive_wide (a := ao) (c := co) hlenO (hrowO.below hb) hokO hXok.out (by have := HL.out; omega)
      rw [← hXCh.out] at hck
      have hB := HBV.out.below hbr.out
      have hBX := HBX.out.below hbr.out
      have hVr := HV3.out.keep hbr.out
      have hXl : XC.length = 37 := by simpa using X1
      have hq := fun w' (hb : Below wr.heap.size wr w') => ldOp_all (P := Try.prog) (ty := 63) (hB.below hb) Try.underlying63 rfl (by rw [hVr.len]; exact sizeV)
      have hqx := fun w' (hb : Below wr.heap.size wr w') => ldOp_all (P := Try.prog) (ty := 31) (hBX.below hb) Try.underlying31 rfl (by rw [hXl]; exact sizeAB)
      have hcur : Below wr.heap.size wr wr.drew := Gr.drewN wr 1
      have s1 := hq _ hcur
      have s2 := hqx _ hcur
      have HROW := Lib.hid hrowO
      clear hO1 hO hrow hOUT hfar
      by_cases hc0 : checkA (arcX v) OUT = 0
      case neg =>
        have hRR : Hid (arcR l = (abt0, [], 4)) := by show _ = _; rw [hR.out, hok.out, decide_eq_false hc0]; rfl
        have t1 : (checkA (arcX v) OUT != 0) = true := by simpa using hc0
        generalize checkA (arcX v) OUT = C at *
        clear hrowO hlenO hokO hok hout hB hVr hcur s1 s2 hq hqx
        go_upto_region 14 with (fail)
        have hSm : ∀ (L : Array Bool) (w1 w2 : World), (Blk w1 nx 31 XC ∧ Mo (wr.drewN 1) w1) → Mo w1 w2 → (Blk w2 nx 31 XC ∧ Mo (wr.drewN 1) w2) := fun _ w1 w2 h hm => ⟨h.1.below hm, Mo.trans h.2 hm⟩
        have hSi : ∀ i, i ≠ 99 → ∀ (L : Array Bool) (w1 : World), (Blk w1 nx 31 XC ∧ Mo (wr.drewN 1) w1) ↔ (Blk w1 nx 31 XC ∧ Mo (wr.drewN 1) w1) := fun _ _ _ _ => Iff.rfl
        have hS0 : (Blk (wr.drewN 1) nx 31 XC ∧ Mo (wr.drewN 1) (wr.drewN 1)) := ⟨hBX, Mo.refl (wr.drewN 1)⟩
        refine wp_region_upN (S := fun _ w1 => (Blk w1 nx 31 XC ∧ Mo (wr.drewN 1) w1)) 12 rfl (by kernel_rfl) ?_
        refine wpAnyU_take (i := 0) (A := fun w1 => (Blk w1 nx 31 XC ∧ Mo (wr.drewN 1) w1)) (v := .agg (List.toArray XC)) (a' := ⟨#[.slice a n c, undef, .pointer (some ⟨w.heap.size, 0, none⟩), u3, u4, .pointer (some ⟨nv, 0, none⟩), .int .i64 0, FN, .pointer (some ⟨nx, 0, none⟩), .slice ao L.length co, undef, u11, .tuple #[.agg (List.toArray cs), .int .i64 0], .slice a n c, .tuple #[.agg (List.toArray cs), .int .i64 0], .agg (List.toArray cs), .int .i64 0, .int .i64 0, .bool false, undef, undef, FN, FN, V0, .string (str nm), FN, V1, .int .i64 tm, FN, V2, .string (str cm), FN, V3, .int .i64 it, FN, V4, .int .i64 bs, .agg (List.toArray XC), FN, V5, .slice al L.length cl, .int .i64 (L.length : Int), .int .i64 (L.length : Int), .bool false, u44, u45, u46, u47, u48, u49, u50, u51, u52, u53, u54, u55, u56, u57, u58, u59, u60, u61, u62, u63, u64, u65, u66, u67, .agg (List.toArray XC), undef, undef, undef, undef, undef, undef, undef, undef, undef, undef, undef, undef, undef, undef], []⟩) hSm (hSi 0 (by decide)) (fun _ _ h => h) rfl (by kernel_rfl) (by kernel_rfl) (by kernel_rfl) (fun _ _ _ h => h) hS0 (Tame.val rfl (fun w' hA => run_ldOp (ldOp_all hA.1 Try.underlying31 rfl (by rw [hXl]; exact sizeAB)))) rfl ?_
        refine wpAnyU_take (i := 1) (A := fun _ => True) (v := .slice ao L.length co) (a' := ⟨#[.slice a n c, undef, .pointer (some ⟨w.heap.size, 0, none⟩), u3, u4, .pointer (some ⟨nv, 0, none⟩), .int .i64 0, FN, .pointer (some ⟨nx, 0, none⟩), .slice ao L.length co, undef, u11, .tuple #[.agg (List.toArray cs), .int .i64 0], .slice a n c, .tuple #[.agg (List.toArray cs), .int .i64 0], .agg (List.toArray cs), .int .i64 0, .int .i64 0, .bool false, undef, undef, FN, FN, V0, .string (str nm), FN, V1, .int .i64 tm, FN, V2, .string (str cm), FN, V3, .int .i64 it, FN, V4, .int .i64 bs, .agg (List.toArray XC), FN, V5, .slice al L.length cl, .int .i64 (L.length : Int), .int .i64 (L.length : Int), .bool false, u44, u45, u46, u47, u48, u49, u50, u51, u52, u53, u54, u55, u56, u57, u58, u59, u60, u61, u62, u63, u64, u65, u66, u67, .agg (List.toArray XC), .slice ao L.length co, undef, undef, undef, undef, undef, undef, undef, undef, undef, undef, undef, undef, undef], []⟩) hSm (hSi 1 (by decide)) (fun _ _ _ => trivial) rfl (by kernel_rfl) (by kernel_rfl) (by kernel_rfl) (fun _ _ _ h => h) hS0 (Tame.val rfl (fun w' hA => by go_simp)) rfl ?_
        refine wpAnyU_take (i := 2) (A := fun w1 => (Blk w1 nx 31 XC ∧ Mo (wr.drewN 1) w1)) (v := .int .i64 C) (a' := ⟨#[.slice a n c, undef, .pointer (some ⟨w.heap.size, 0, none⟩), u3, u4, .pointer (some ⟨nv, 0, none⟩), .int .i64 0, FN, .pointer (some ⟨nx, 0, none⟩), .slice ao L.length co, undef, u11, .tuple #[.agg (List.toArray cs), .int .i64 0], .slice a n c, .tuple #[.agg (List.toArray cs), .int .i64 0], .agg (List.toArray cs), .int .i64 0, .int .i64 0, .bool false, undef, undef, FN, FN, V0, .string (str nm), FN, V1, .int .i64 tm, FN, V2, .string (str cm), FN, V3, .int .i64 it, FN, V4, .int .i64 bs, .agg (List.toArray XC), FN, V5, .slice al L.length cl, .int .i64 (L.length : Int), .int .i64 (L.length : Int), .bool false, u44, u45, u46, u47, u48, u49, u50, u51, u52, u53, u54, u55, u56, u57, u58, u59, u60, u61, u62, u63, u64, u65, u66, u67, .agg (List.toArray XC), .slice ao L.length co, .int .i64 C, undef, undef, undef, undef, undef, undef, undef, undef, undef, undef, undef, undef], []⟩) hSm (hSi 2 (by decide)) (fun _ _ h => h) rfl (by kernel_rfl) (by kernel_rfl) (by kernel_rfl) (fun _ _ _ h => h) hS0 (Tame.enter rfl (fun w' => by go_simp) (fun w' hA => hck w' (Below.drewN' hA.2))) rfl ?_
        refine wpAnyU_take (i := 3) (A := fun _ => True) (v := .bool true) (a' := ⟨#[.slice a n c, undef, .pointer (some ⟨w.heap.size, 0, none⟩), u3, u4, .pointer (some ⟨nv, 0, none⟩), .int .i64 0, FN, .pointer (some ⟨nx, 0, none⟩), .slice ao L.length co, undef, u11, .tuple #[.agg (List.toArray cs), .int .i64 0], .slice a n c, .tuple #[.agg (List.toArray cs), .int .i64 0], .agg (List.toArray cs), .int .i64 0, .int .i64 0, .bool false, undef, undef, FN, FN, V0, .string (str nm), FN, V1, .int .i64 tm, FN, V2, .string (str cm), FN, V3, .int .i64 it, FN, V4, .int .i64 bs, .agg (List.toArray XC), FN, V5, .slice al L.length cl, .int .i64 (L.length : Int), .int .i64 (L.length : Int), .bool false, u44, u45, u46, u47, u48, u49, u50, u51, u52, u53, u54, u55, u56, u57, u58, u59, u60, u61, u62, u63, u64, u65, u66, u67, .agg (List.toArray XC), .slice ao L.length co, .int .i64 C, .bool true, undef, undef, undef, undef, undef, undef, undef, undef, undef, undef, undef], []⟩) hSm (hSi 3 (by decide)) (fun _ _ _ => trivial) rfl (by kernel_rfl) (by kernel_rfl) (by kernel_rfl) (fun _ _ _ h => h) hS0 (Tame.val rfl (fun w' hA => by go_simp)) rfl ?_
        refine wpAnyU_take (i := 4) (A := fun _ => True) (v := .bool true) (a' := ⟨#[.slice a n c, undef, .pointer (some ⟨w.heap.size, 0, none⟩), u3, u4, .pointer (some ⟨nv, 0, none⟩), .int .i64 0, FN, .pointer (some ⟨nx, 0, none⟩), .slice ao L.length co, undef, u11, .tuple #[.agg (List.toArray cs), .int .i64 0], .slice a n c, .tuple #[.agg (List.toArray cs), .int .i64 0], .agg (List.toArray cs), .int .i64 0, .int .i64 0, .bool false, undef, undef, FN, FN, V0, .string (str nm), FN, V1, .int .i64 tm, FN, V2, .string (str cm), FN, V3, .int .i64 it, FN, V4, .int .i64 bs, .agg (List.toArray XC), FN, V5, .slice al L.length cl, .int .i64 (L.length : Int), .int .i64 (L.length : Int), .bool false, u44, u45, u46, u47, u48, u49, u50, u51, u52, u53, u54, u55, u56, u57, u58, u59, u60, u61, u62, u63, u64, u65, u66, u67, .agg (List.toArray XC), .slice ao L.length co, .int .i64 C, .bool true, .bool true, undef, undef, undef, undef, undef, undef, undef, undef, undef, undef], []⟩) hSm (hSi 4 (by decide)) (fun _ _ _ => trivial) rfl (by kernel_rfl) (by kernel_rfl) (by kernel_rfl) (fun _ _ _ h => h) hS0 (Tame.val rfl (fun w' hA => by go_simp)) rfl ?_
        refine wpAnyU_take (i := 5) (A := fun _ => True) (v := undef) (a' := ⟨#[.slice a n c, undef, .pointer (some ⟨w.heap.size, 0, none⟩), u3, u4, .pointer (some ⟨nv, 0, none⟩), .int .i64 0, FN, .pointer (some ⟨nx, 0, none⟩), .slice ao L.length co, undef, u11, .tuple #[.agg (List.toArray cs), .int .i64 0], .slice a n c, .tuple #[.agg (List.toArray cs), .int .i64 0], .agg (List.toArray cs), .int .i64 0, .int .i64 0, .bool false, undef, undef, FN, FN, V0, .string (str nm), FN, V1, .int .i64 tm, FN, V2, .string (str cm), FN, V3, .int .i64 it, FN, V4, .int .i64 bs, .agg (List.toArray XC), FN, V5, .slice al L.length cl, .int .i64 (L.length : Int), .int .i64 (L.length : Int), .bool false, u44, u45, u46, u47, u48, u49, u50, u51, u52, u53, u54, u55, u56, u57, u58, u59, u60, u61, u62, u63, u64, u65, u66, u67, .agg (List.toArray XC), .slice ao L.length co, .int .i64 C, .bool true, .bool true, undef, undef, undef, undef, undef, undef, undef, undef, undef, undef], []⟩) hSm (hSi 5 (by decide)) (fun _ _ _ => trivial) rfl (by kernel_rfl) (by kernel_rfl) (by kernel_rfl) (fun _ _ _ h => h) hS0 (.inr ⟨by rfl, rfl⟩) rfl ?_
        refine wpAnyU_take (i := 6) (A := fun _ => True) (v := undef) (a' := ⟨#[.slice a n c, undef, .pointer (some ⟨w.heap.size, 0, none⟩), u3, u4, .pointer (some ⟨nv, 0, none⟩), .int .i64 0, FN, .pointer (some ⟨nx, 0, none⟩), .slice ao L.length co, undef, u11, .tuple #[.agg (List.toArray cs), .int .i64 0], .slice a n c, .tuple #[.agg (List.toArray cs), .int .i64 0], .agg (List.toArray cs), .int .i64 0, .int .i64 0, .bool false, undef, undef, FN, FN, V0, .string (str nm), FN, V1, .int .i64 tm, FN, V2, .string (str cm), FN, V3, .int .i64 it, FN, V4, .int .i64 bs, .agg (List.toArray XC), FN, V5, .slice al L.length cl, .int .i64 (L.length : Int), .int .i64 (L.length : Int), .bool false, u44, u45, u46, u47, u48, u49, u50, u51, u52, u53, u54, u55, u56, u57, u58, u59, u60, u61, u62, u63, u64, u65, u66, u67, .agg (List.toArray XC), .slice ao L.length co, .int .i64 C, .bool true, .bool true, undef, undef, undef, undef, undef, undef, undef, undef, undef, undef], []⟩) hSm (hSi 6 (by decide)) (fun _ _ _ => trivial) rfl (by kernel_rfl) (by kernel_rfl) (by kernel_rfl) (fun _ _ _ h => h) hS0 (.inr ⟨by rfl, rfl⟩) rfl ?_
        refine wpAnyU_take (i := 7) (A := fun _ => True) (v := undef) (a' := ⟨#[.slice a n c, undef, .pointer (some ⟨w.heap.size, 0, none⟩), u3, u4, .pointer (some ⟨nv, 0, none⟩), .int .i64 0, FN, .pointer (some ⟨nx, 0, none⟩), .slice ao L.length co, undef, u11, .tuple #[.agg (List.toArray cs), .int .i64 0], .slice a n c, .tuple #[.agg (List.toArray cs), .int .i64 0], .agg (List.toArray cs), .int .i64 0, .int .i64 0, .bool false, undef, undef, FN, FN, V0, .string (str nm), FN, V1, .int .i64 tm, FN, V2, .string (str cm), FN, V3, .int .i64 it, FN, V4, .int .i64 bs, .agg (List.toArray XC), FN, V5, .slice al L.length cl, .int .i64 (L.length : Int), .int .i64 (L.length : Int), .bool false, u44, u45, u46, u47, u48, u49, u50, u51, u52, u53, u54, u55, u56, u57, u58, u59, u60, u61, u62, u63, u64, u65, u66, u67, .agg (List.toArray XC), .slice ao L.length co, .int .i64 C, .bool true, .bool true, undef, undef, undef, undef, undef, undef, undef, undef, undef, undef], []⟩) hSm (hSi 7 (by decide)) (fun _ _ _ => trivial) rfl (by kernel_rfl) (by kernel_rfl) (by kernel_rfl) (fun _ _ _ h => h) hS0 (.inr ⟨by rfl, rfl⟩) rfl ?_
        refine wpAnyU_take (i := 8) (A := fun _ => True) (v := undef) (a' := ⟨#[.slice a n c, undef, .pointer (some ⟨w.heap.size, 0, none⟩), u3, u4, .pointer (some ⟨nv, 0, none⟩), .int .i64 0, FN, .pointer (some ⟨nx, 0, none⟩), .slice ao L.length co, undef, u11, .tuple #[.agg (List.toArray cs), .int .i64 0], .slice a n c, .tuple #[.agg (List.toArray cs), .int .i64 0], .agg (List.toArray cs), .int .i64 0, .int .i64 0, .bool false, undef, undef, FN, FN, V0, .string (str nm), FN, V1, .int .i64 tm, FN, V2, .string (str cm), FN, V3, .int .i64 it, FN, V4, .int .i64 bs, .agg (List.toArray XC), FN, V5, .slice al L.length cl, .int .i64 (L.length : Int), .int .i64 (L.length : Int), .bool false, u44, u45, u46, u47, u48, u49, u50, u51, u52, u53, u54, u55, u56, u57, u58, u59, u60, u61, u62, u63, u64, u65, u66, u67, .agg (List.toArray XC), .slice ao L.length co, .int .i64 C, .bool true, .bool true, undef, undef, undef, undef, undef, undef, undef, undef, undef, undef], []⟩) hSm (hSi 8 (by decide)) (fun _ _ _ => trivial) rfl (by kernel_rfl) (by kernel_rfl) (by kernel_rfl) (fun _ _ _ h => h) hS0 (.inr ⟨by rfl, rfl⟩) rfl ?_
        refine wpAnyU_take (i := 9) (A := fun _ => True) (v := undef) (a' := ⟨#[.slice a n c, undef, .pointer (some ⟨w.heap.size, 0, none⟩), u3, u4, .pointer (some ⟨nv, 0, none⟩), .int .i64 0, FN, .pointer (some ⟨nx, 0, none⟩), .slice ao L.length co, undef, u11, .tuple #[.agg (List.toArray cs), .int .i64 0], .slice a n c, .tuple #[.agg (List.toArray cs), .int .i64 0], .agg (List.toArray cs), .int .i64 0, .int .i64 0, .bool false, undef, undef, FN, FN, V0, .string (str nm), FN, V1, .int .i64 tm, FN, V2, .string (str cm), FN, V3, .int .i64 it, FN, V4, .int .i64 bs, .agg (List.toArray XC), FN, V5, .slice al L.length cl, .int .i64 (L.length : Int), .int .i64 (L.length : Int), .bool false, u44, u45, u46, u47, u48, u49, u50, u51, u52, u53, u54, u55, u56, u57, u58, u59, u60, u61, u62, u63, u64, u65, u66, u67, .agg (List.toArray XC), .slice ao L.length co, .int .i64 C, .bool true, .bool true, undef, undef, undef, undef, undef, undef, undef, undef, undef, undef], []⟩) hSm (hSi 9 (by decide)) (fun _ _ _ => trivial) rfl (by kernel_rfl) (by kernel_rfl) (by kernel_rfl) (fun _ _ _ h => h) hS0 (.inr ⟨by rfl, rfl⟩) rfl ?_
        refine wpAnyU_take (i := 10) (A := fun _ => True) (v := undef) (a' := ⟨#[.slice a n c, undef, .pointer (some ⟨w.heap.size, 0, none⟩), u3, u4, .pointer (some ⟨nv, 0, none⟩), .int .i64 0, FN, .pointer (some ⟨nx, 0, none⟩), .slice ao L.length co, undef, u11, .tuple #[.agg (List.toArray cs), .int .i64 0], .slice a n c, .tuple #[.agg (List.toArray cs), .int .i64 0], .agg (List.toArray cs), .int .i64 0, .int .i64 0, .bool false, undef, undef, FN, FN, V0, .string (str nm), FN, V1, .int .i64 tm, FN, V2, .string (str cm), FN, V3, .int .i64 it, FN, V4, .int .i64 bs, .agg (List.toArray XC), FN, V5, .slice al L.length cl, .int .i64 (L.length : Int), .int .i64 (L.length : Int), .bool false, u44, u45, u46, u47, u48, u49, u50, u51, u52, u53, u54, u55, u56, u57, u58, u59, u60, u61, u62, u63, u64, u65, u66, u67, .agg (List.toArray XC), .slice ao L.length co, .int .i64 C, .bool true, .bool true, undef, undef, undef, undef, undef, undef, undef, undef, undef, undef], []⟩) hSm (hSi 10 (by decide)) (fun _ _ _ => trivial) rfl (by kernel_rfl) (by kernel_rfl) (by kernel_rfl) (fun _ _ _ h => h) hS0 (.inr ⟨by rfl, rfl⟩) rfl ?_
        refine wpAnyU_take (i := 11) (A := fun _ => True) (v := .bool true) (a' := ⟨#[.slice a n c, undef, .pointer (some ⟨w.heap.size, 0, none⟩), u3, u4, .pointer (some ⟨nv, 0, none⟩), .int .i64 0, FN, .pointer (some ⟨nx, 0, none⟩), .slice ao L.length co, undef, u11, .tuple #[.agg (List.toArray cs), .int .i64 0], .slice a n c, .tuple #[.agg (List.toArray cs), .int .i64 0], .agg (List.toArray cs), .int .i64 0, .int .i64 0, .bool false, undef, undef, FN, FN, V0, .string (str nm), FN, V1, .int .i64 tm, FN, V2, .string (str cm), FN, V3, .int .i64 it, FN, V4, .int .i64 bs, .agg (List.toArray XC), FN, V5, .slice al L.length cl, .int .i64 (L.length : Int), .int .i64 (L.length : Int), .bool false, u44, u45, u46, u47, u48, u49, u50, u51, u52, u53, u54, u55, u56, u57, u58, u59, u60, u61, u62, u63, u64, u65, u66, u67, .agg (List.toArray XC), .slice ao L.length co, .int .i64 C, .bool true, .bool true, undef, undef, undef, undef, undef, undef, .bool true, undef, undef, undef], []⟩) hSm (hSi 11 (by decide)) (fun _ _ _ => trivial) rfl (by kernel_rfl) (by kernel_rfl) (by kernel_rfl) (fun _ _ _ h => h) hS0 (Tame.val rfl (fun w' hA => by go_simp)) rfl ?_
        refine wpAnyU_done (by kernel_rfl) ?_ _
        intro w12 hm12
        have hcur := Below.drewN' hm12
        clear hSm hSi hS0 hm12
        obtain ⟨W2, y1, y2, _, y4⟩ := hres0 _ _ (hRr.below hcur) zl (hGr.trans (hcur.mono hGr.size))
        go_wp2
        refine bodyPost_ret (results_cell_tmp2 (fn := Try.f23) (p := 2) (t := 3) (u := 4) (by rfl) _ _ w.heap.size 31 _ (0, 0) _ (by rfl) y2 Try.underlying31 rfl (by rw [z6]; exact sizeAB)) rfl ?_
        exact ⟨none, 0, by rw [hRR.out, HZ.out]; rfl, by rw [hRR.out]; exact Row.nil _ _, y4, by rw [hRR.out]; intro h; simp at h⟩
      case pos =>
        have h64 : OUT.length ≤ 64 := by
          rcases Nat.lt_or_ge 64 OUT.length with h | h
          · exact absurd hc0 (checkA_long h)
          · exact h
        have hlv := fun w' (hb : Below wr.heap.size wr w') => archiveValue_any (c := co) hlenO (hrowO.below hb) hokO hXok.out (by omega)
        rw [← hXCh.out] at hlv
        have hvw := fun w' (hb : Below wr.heap.size wr w') => hVr.keep hb
        have hRR : Hid (arcR l = if sameV (archV (arcX v) OUT) v = true then (arcX v, OUT, 0) else (abt0, [], 4)) := by
          show _ = _
          rw [hR.out, hok.out, decide_eq_true hc0, hout.out (by omega)]; rfl
        have HLO := Lib.hid hlenO
        have hresX := fun (W : World) (old : List Value) (hR : Blk W w.heap.size 31 old) (ho : old.length = 37) (hb : Below w.heap.size w W) => res_abt hR ho hXok.out (Nat.le_refl _) hb
        rw [← hXCh.out] at hresX
        rw [hc0] at hck
        obtain ⟨S, hS⟩ : ∃ S, S = sameV (archV (arcX v) OUT) v := ⟨_, rfl⟩
        have hps := fun (w' : World) (c2 : List Value) (h : VAt w' c2 (archV (arcX v) OUT)) (hb : Below wr.heap.size wr w') => psame_any h _ _ w' (hvw _ hb) (Below.refl _ _)
        rw [← hS] at hRR hps
        clear hS hrowO hlenO hokO hok hout hc0 hB hBX hVr hvw
        generalize archV (arcX v) OUT = lo at *
        go_upto_region 14 with (fail)
        cases S
        all_goals
          go_region_held3 (fun w' => (ldOp 63 (.pointer (some ⟨nv, 0, none⟩))).run Try.prog w' = .ok (.agg (List.toArray cs)) w' ∧ (ldOp 31 (.pointer (some ⟨nx, 0, none⟩))).run Try.prog w' = .ok (.agg (List.toArray XC)) w') (first | exact ⟨by assumption, by assumption⟩ | go_keep) (first
            | (go_at_call 34; refine (hck _ hcur).mono ?_; rintro e ws ⟨rfl, hbs⟩; have hcur := hcur.trans (hbs.mono hcur.size); have s1 := hq _ hcur; have s2 := hqx _ hcur)
            | (go_at_call 35; refine (hlv _ hcur).mono ?_; rintro e ws ⟨c2, rfl, hc2, hbs⟩; have hcur := hcur.trans (hbs.mono hcur.size); have s1 := hq _ hcur; have s2 := hqx _ hcur; have hc2' := hc2.at)
            | (go_at_call 41; refine (hps _ _ hc2' hcur).mono ?_; rintro e ws ⟨rfl, hbs⟩; have hcur := hcur.trans (hbs.mono hcur.size); have s1 := hq _ hcur; have s2 := hqx _ hcur))
        all_goals
          obtain ⟨W2, y1, y2, _, y4⟩ := hres0 _ _ (hRr.below hcur) zl (hGr.trans (hcur.mono hGr.size))
          obtain ⟨W2', y1', y2', yg', y4'⟩ := hresX _ _ (hRr.below hcur) zl (hGr.trans (hcur.mono hGr.size))
          go_wp2
          first
            | (refine bodyPost_ret (results_cell_tmp2 (fn := Try.f23) (p := 2) (t := 3) (u := 4) (by rfl) _ _ w.heap.size 31 _ (0, 0) _ (by rfl) y2 Try.underlying31 rfl (by rw [z6]; exact sizeAB)) rfl ?_
               exact ⟨none, 0, by rw [hRR.out, HZ.out]; rfl, by rw [hRR.out]; exact Row.nil _ _, y4, by rw [hRR.out]; intro h; simp at h⟩)
            | (refine bodyPost_ret (results_cell_tmp2 (fn := Try.f23) (p := 2) (t := 3) (u := 4) (by rfl) _ _ w.heap.size 31 _ (0, 0) _ (by rfl) y2' Try.underlying31 rfl (by rw [X1]; exact sizeAB)) rfl ?_
               exact ⟨ao, co, by rw [hRR.out, HLO.out, hXCh.out]; rfl, by rw [hRR.out]; exact (HROW.out.below hcur).grown yg' (fun h => Nat.ne_of_gt (hfr.out h)), y4', by rw [hRR.out]; exact fun h => Nat.le_of_lt (hfr.out h)⟩)
end Go.Proofs.Ytakliplkabgmbaa
