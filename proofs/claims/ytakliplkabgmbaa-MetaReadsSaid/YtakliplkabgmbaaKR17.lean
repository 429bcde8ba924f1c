/- Joined: what one statement of this layer stands on, part 17 of 25; nothing is assumed. -/
import Derived.Test.YtakliplkabgmbaaKR13
import Derived.Test.YtakliplkabgmbaaKR15
import Derived.Test.YtakliplkabgmbaaKR16
set_option maxRecDepth 20000
namespace Go.Proofs.Ytakliplkabgmbaa
open Go.RowKit Go.Hd
attribute [local go_sem ↓] h_ldV h_stV h_alV h_ldID h_stID h_alID h_ldAB h_stAB h_alAB h_bsAB h_bdAB h_ap
attribute [local go_sem] r_ldV r_stV r_alV r_ldID r_stID r_alID r_ldAB r_stAB r_alAB r_bsAB
theorem VAt.cellsL {w : World} {cs : List Value} {v : PV} (h : VAt w cs v) : ∃ (u0 u1 u2 u3 u4 : Value) (al : Option Addr) (cl : Nat) (css : List (List Value)), cs = [u0, u1, u2, u3, u4, .slice al v.list.length cl] ∧ css.length = v.list.length ∧ Row w al css.flatten ∧ (∀ c ∈ css, c.length = 6) ∧ ∀ (i : Nat) (c : List Value) (x : PV), css[i]? = some c → v.list[i]? = some x → VAt w c x := by
  cases h with
  | @mk k n b t ks l ab ak al cb ck cl css hk hn hb hbc ht hks hkc hkt hl hlc hcs h6 sub => exact ⟨_, _, _, _, _, al, cl, css, rfl, hcs, hl, h6, sub⟩
theorem Sm.list {v : PV} (h : Sm v) : v.list.length ≤ 65536 := by cases h with | mk a b c d _ => exact c
theorem Sm.sub {v : PV} (h : Sm v) : ∀ x ∈ v.list, Sm x := by cases h with | mk a b c d _ => exact d
theorem getV_sm {v : PV} (h : Sm v) (key : List UInt8) (hn : getV v key = fldV v key) : Sm (getV v key) := by
  rw [hn]
  cases h with
  | @mk k n b t ks l a1 a2 a3 a4 _ =>
    rw [fldV_mk]
    split
    · cases hF : findK ks l key with
      | none => exact sm_zero
      | some x => exact a4 x (findK_mem hF)
    · exact sm_zero
theorem VAt.all {w : World} {cs : List Value} {v : PV} (h : VAt w cs v) : ∃ ab cb u4 u5, cs = [.int .i64 v.kind, .int .i64 v.int, .slice ab v.bytes.length cb, .string (str v.text), u4, u5] ∧ Row w ab (v.bytes.map b8) := by
  cases h with
  | @mk k n b t ks l ab ak al cb ck cl css hk hn hb hbc ht hks hkc hkt hl hlc hcs h6 sub => exact ⟨ab, cb, _, _, rfl, hb⟩
theorem run_bdOp {P : Program} {ρ : Operand → Value} {dst : Option Tmp} {ty : TypeId} {pos : String} {after : Array Edge} {guard : Option (Nat × Bool)} {t : TypeId} {parts : Array (Nat × Operand)} {vals : Array (Nat × Value)} {v : Value} {w w' : World} (hp : (parts.map fun (i, x) => (i, ρ x)) = vals) (h : (bdOp t vals).run P w = .ok v w') :
    (execOp ρ { dst, op := .build t parts, type := ty, pos, after, guard }).run P w = .ok (.value v) w' := by
  rw [ex_bd, hp, Sem.run_bind, h]; rfl
theorem bd_abt {t id : List UInt8} {tm : Int} {w : World} (hi : id.length = 32) : (bdOp 31 #[(0, .string (str t)), (1, .agg (List.toArray (id.map b8))), (2, .int .i64 tm)]).run Try.prog w = .ok (.agg (List.toArray (abtC ⟨t, id, tm, [], 0, 0⟩))) w := by
  refine run_build w _ _ _ ?_
  rw [built_struct Try.underlying31 zeroAB (places := [(0, 1), (1, 32), (33, 1), (34, 1), (35, 1), (36, 1)]) (by kernel_rfl)]
  have hz : zAB.toList = .string .empty :: (List.replicate 32 (.int .u8 0) ++ [.int .i64 0, .string .empty, .int .i64 0, .int .i64 0]) := rfl
  have hzs := zAB_size
  rw [fill_cons (off := 0) (size := 1) (by rfl) rfl (by simp [Value.cells, hzs]), fill_cons (off := 1) (size := 32) (by rfl) (by simp [Value.cells, hi]) (by simp [Value.cells, hzs]), fill_cons (off := 33) (size := 1) (by rfl) rfl (by simp [Value.cells, hzs, hi]), fill_nil]
  congr 2
  simp [Value.cells, hz, hi, abtC, strV, List.drop_append]
  rw [List.drop_of_length_le (by simp [hi])]
  rfl
theorem VAt.lims {w : World} {cs : List Value} {v : PV} (h : VAt w cs v) : in64 v.int ∧ v.text.length ≤ maxLen := by
  cases h with
  | @mk k n b t ks l ab ak al cb ck cl css hk hn hb hbc ht hks hkc hkt hl hlc hcs h6 sub => exact ⟨hn, ht⟩
theorem atV_lims {w : World} {cs : List Value} {x : PV} (h : VAt w cs x) (i : Nat) : in64 (atV x i).int ∧ (atV x i).text.length ≤ maxLen := by
  obtain ⟨_, _, _, _, _, _, _, css, _, hcs, _, _, sub⟩ := VAt.cellsL h
  by_cases hi : i < x.list.length
  · have h1 : atV x i = x.list[i] := by unfold atV; simp [hi]
    rw [h1]
    exact VAt.lims (sub i css[i] x.list[i] (by simp [hcs, hi]) (by simp [hi]))
  · have h1 : atV x i = pv0 := by unfold atV; simp [hi]
    rw [h1]
    exact ⟨by show in64 0; unfold in64; omega, Nat.zero_le _⟩
theorem abtOf_ok {w : World} {cs : List Value} {x : PV} (h : VAt w cs x) : AbtOk (abtOf x) where
  id := keyV_len _
  time := (atV_lims h 2).1
  items := by show in64 0; unfold in64; omega
  bytes := by show in64 0; unfold in64; omega
  name := (atV_lims h 0).2
  comment := Nat.zero_le _
theorem checkList_all {a : Option Addr} {n c : Nat} {l : List Abt} {w : World} (hn : n = l.length) (hr : Row w a (l.map abtC).flatten) (hok : ∀ x ∈ l, AbtOk x) (_hl : l.length ≤ 65536) :
    Calls Try.prog 28 #[.slice a n c] w fun e w' => e = .returned (.int .i64 (checkL l)) ∧ Below w.heap.size w w' := by
  by_cases h : 64 < l.length
  · subst hn
    have h1 : (64 : Int) < (l.length : Int) := by omega
    have hc := Lib.hid (checkL_long h)
    go_enter Try.func28, Try.ntmps28
    go_wp2
    go_ret
    exact ⟨by rw [hc.out]; rfl, Below.refl _ _⟩
  · exact checkList_any hn hr hok (by omega)
def RdListP (w : World) (l : List UInt8) (e : Ending) (w' : World) : Prop :=
  ∃ a c, e = .returned (.tuple #[.slice a (lstR l).1.length c, .int .i64 (lstR l).2]) ∧ Row w' a ((lstR l).1.map abtC).flatten ∧ Below w.heap.size w w'
set_option maxHeartbeats 2000000 in
theorem readList_any {a : Option Addr} {n c : Nat} {l : List UInt8} {w : World} (hn : n = l.length) (hl : Row w a (l.map b8)) (hm : l.length ≤ maxLen) :
    Calls Try.prog 21 #[.slice a n c] w (RdListP w l) := by
  have zs := zV_size
  have hdec := dec_any (c := c) hn hl hm
  clear hn hl hm
  have hSm := decF_sm l
  have hRL : Hid (lstR l = if (decF l).2 ≠ 0 then ([], (decF l).2) else if lstOk (decF l).1 = true then (lstOut (decF l).1, 0) else ([], 4)) := rfl
  go_enter Try.func21, Try.ntmps21
  go_wp2_with fail
  refine hdec.mono ?_
  rintro e w1 ⟨cs, rfl, hv, hb1⟩
  have x6 : (List.toArray cs).size = 6 := hv.len
  have xo : OneC (List.toArray cs) := all_oneCell_toArray hv.one
  have hnorm : (decF l).2 = 0 → normV (decF l).1 = (decF l).1 := decF_norm (VAt.okV hv.at)
  generalize decF l = D at *
  obtain ⟨v, E⟩ := D
  simp only at hv hSm hnorm hRL ⊢
  by_cases hE : E = 0
  case neg =>
    have t1 : (E != 0) = true := by simpa using hE
    have hR : Hid (lstR l = ([], E)) := by show _ = _; rw [hRL.out, if_pos hE]
    go_wp2
    go_ret2
    have hb2 : Below w.heap.size w (w1.alloc (.cells (List.toArray cs) 63)) := hb1.alloc hb1.size _
    exact ⟨none, 0, by rw [hR.out]; rfl, by rw [hR.out]; exact Row.nil _ _, hb2⟩
  case pos =>
  subst hE
  have hR : Hid (lstR l = if lstOk v = true then (lstOut v, 0) else ([], 4)) := by show _ = _; rw [hRL.out, if_neg (by simp)]
  have hnv := hnorm rfl
  have hget := fun w' (hb : Below w1.heap.size w1 w') => vget_any [97] hv.at hSm w' hb
  have hgf := fld_norm hnv [97]
  have hsmA := getV_sm hSm [97] hgf
  clear hnorm hRL hdec
  have hB1 : Blk (w1.alloc (.cells (List.toArray cs) 63)) w1.heap.size 63 cs := Blk.new _ _ _
  have hb1' : Below w1.heap.size w1 (w1.alloc (.cells (List.toArray cs) 63)) := (Below.refl _ _).alloc (Nat.le_refl _) _
  go_wp2_with fail
  refine (hget _ hb1').mono ?_
  rintro e w2 ⟨ds, f, rfl, hds, hb2⟩
  rw [hgf] at hds hsmA
  have d6 : (List.toArray ds).size = 6 := hds.len
  have do_ : OneC (List.toArray ds) := all_oneCell_toArray hds.one
  have hB3 : Blk (w2.alloc (.cells (List.toArray ds) 63)) w2.heap.size 63 ds := Blk.new _ _ _
  have hb3 : Below w2.heap.size w2 (w2.alloc (.cells (List.toArray ds) 63)) := (Below.refl _ _).alloc (Nat.le_refl _) _
  have hbW : Below w1.heap.size w1 (w2.alloc (.cells (List.toArray ds) 63)) := hb1'.trans ((hb2.mono (by simp)).trans (hb3.mono (by have := hb2.size; simp at this; omega)))
  have hB1' := (hB1.below hb2).below hb3
  have hd3 := hds.at.keep hb3
  obtain ⟨L, hL⟩ : ∃ L, L = (fldV v [97]).list := ⟨_, rfl⟩
  obtain ⟨u0, u1, u2, u3, u4, al, cl, css, hcd, hcs, hal, h6, sub⟩ := VAt.cellsL hd3
  have hLs := Sm.list hsmA
  have hsubS := Sm.sub hsmA
  rw [← hL] at hcs sub hLs hsubS hcd
  have c5 : (w2.alloc (.cells (List.toArray ds) 63)).cell? ⟨w2.heap.size, 5, none⟩ = some (.slice al L.length cl) := hB3.cell (by rw [hcd]; rfl)
  have hbw3 : Below w.heap.size w (w2.alloc (.cells (List.toArray ds) 63)) := hb1.trans (hbW.mono hb1.size)
  have HLd := Lib.hid hL
  clear hcd hL
  go_upto_region 5 with (fail)
  generalize w2.alloc (.cells (List.toArray ds) 63) = W3 at *
  have HB1 := Lib.hid hB1'
  have HAL := Lib.hid hal
  have G0 := Lib.hid hbw3
  have HV3 := Lib.hid (hv.at.keep hbW)
  clear hd3 hB3 hb3 hds hb2 hget hb1' hB1 hB1' hal hbw3 hbW hb1 hv do_ d6 xo x6
  generalize w2.heap.size = na at *
  generalize w1.heap.size = nv at *
  have HL := Lib.hid hLs
  go_wp2
  go_loopw [8, 27] (fun u i wr => ∃ j : Nat, j ≤ L.length ∧ i = .int .i64 j ∧ Hid (∀ x ∈ L.take j, isV x [5, 4, 3] = true) ∧ Hid (wr.ownsRow W3.heap.size 31 37 u j (((L.take j).map fun x => abtC (abtOf x)).flatten)) ∧ Hid (Below W3.heap.size W3 wr)) (fun _ i _ => L.length - (intOf i).toNat)
  case atStart => exact ⟨0, Nat.zero_le _, rfl, Lib.hid (by simp), Lib.hid ⟨rfl, .inl ⟨rfl, rfl⟩⟩, Lib.hid (Below.refl _ _)⟩
  case round =>
    obtain ⟨j, hj, rfl, hAll, hO, hbr⟩ := hrel
    have j0 : (0 : Int) ≤ (j : Int) := by omega
    have jb : IntKind.i64.wrap ((j : Int) + 1) = (j : Int) + 1 := IntWalk.i64_in _ (by omega)
    by_cases hlt : j < L.length
    · have j1 : (j : Int) < (L.length : Int) := by omega
      have hr2 := HAL.out.below hbr.out
      have s6 := hr2.elemSome (s := 6) h6 (by decide) (i := j) (by omega)
      have hxc := sub j css[j] L[j] (by simp [hcs, hlt]) (by simp [hlt])
      have q1 := ldOp_at (P := Try.prog) (ty := 63) (hr2.elem (s := 6) h6 (i := j) (c := css[j]) (by simp [hcs, hlt])) Try.underlying63 rfl (by rw [hxc.len]; exact sizeV)
      have hT : Hid (((L.take (j + 1)).map fun x => abtC (abtOf x)).flatten = ((L.take j).map fun x => abtC (abtOf x)).flatten ++ abtC (abtOf L[j])) := by
        show _ = _
        rw [List.take_succ_eq_append_getElem hlt, List.map_append, List.flatten_append]; simp
      have hT2 : Hid (L.take (j + 1) = L.take j ++ [L[j]]) := List.take_succ_eq_append_getElem hlt
      have hxm : L[j] ∈ L := List.getElem_mem hlt
      have hxs := hsubS _ hxm
      generalize L[j] = x at *
      generalize css[j] = cx at *
      have y1 : (List.toArray cx).size = 6 := by simpa using hxc.len
      have y2 : OneC (List.toArray cx) := all_oneCell_toArray hxc.one
      have hXB := Blk.new wr 63 (List.toArray cx)
      have hbx : Below wr.heap.size wr (wr.alloc (.cells (List.toArray cx) 63)) := (Below.refl _ _).alloc (Nat.le_refl _) _
      have hbx3 := hbr.out.trans (hbx.mono hbr.out.size)
      have hOx := ownsRow_below hO.out hbx
      have hOlt := World.ownsRow.lt hO.out
      clear hr2
      go_upto_region 9 with (fail)
      generalize hqx : wr.heap.size = qx at *
      generalize wr.alloc (.cells (List.toArray cx) 63) = W5 at *
      have hXB' : Blk W5 qx 63 cx := by simpa using hXB
      have q2 := ldOp_all (P := Try.prog) (ty := 63) hXB' Try.underlying63 rfl (by rw [hxc.len]; exact sizeV)
      have his := fun w' (hb : Below W5.heap.size W5 w') (a : Option Addr) (hr : Row w' a ([5, 4, 3].map (.int .i64))) => is_any (c := 3) (ks := [5, 4, 3]) (hxc.keep hbx3) rfl (by decide) w' hb hr
      go_wp2_with fail
      have hbk : Below W5.heap.size W5 (W5.alloc (.cells #[.int .i64 5, .int .i64 4, .int .i64 3] 3)) := (Below.refl _ _).alloc (Nat.le_refl _) _
      refine (his _ hbk _ (by have := (Blk.new W5 3 #[.int .i64 5, .int .i64 4, .int .i64 3]).row; simpa using this)).mono ?_
      rintro e W6 ⟨rfl, hb6⟩
      have hb56 : Below W5.heap.size W5 W6 := hbk.trans (hb6.mono (by simp))
      by_cases hI : isV x [5, 4, 3] = true
      case neg =>
        have hI' : isV x [5, 4, 3] = false := by simpa using hI
        rw [hI']
        have hRR : Hid (lstR l = ([], 4)) := by show _ = _; rw [hR.out, rd_bad hnv (by rw [← HLd.out]; exact hxm) hI']; rfl
        go_wp2
        go_ret2
        exact ⟨none, 0, by rw [hRR.out]; rfl, by rw [hRR.out]; exact Row.nil _ _, G0.out.trans ((hbx3.trans (hb56.mono hbx3.size)).mono G0.out.size)⟩
      case pos =>
      rw [hI]
      obtain ⟨x0, x1, x2, hxl, hx32⟩ := isV_parts hI
      have hIH := Lib.hid hI
      obtain ⟨v0, v1, v2, v3, v4, ax0, cx2, css2, hcx, hcs2, hrow2, h62, sub2⟩ := VAt.cellsL hxc
      rw [hxl] at hcs2 sub2 hcx
      obtain ⟨e0, e1, e2, rfl⟩ : ∃ e0 e1 e2, css2 = [e0, e1, e2] := by
        match css2, hcs2 with
        | [e0, e1, e2], _ => exact ⟨e0, e1, e2, rfl⟩
      have hs2 := hrow2.elemSome (s := 6) h62 (by decide) (i := 0) (by simp)
      obtain ⟨ax, rfl⟩ := Option.isSome_iff_exists.1 hs2
      obtain ⟨_, _, _, _, p0, _⟩ := VAt.all (sub2 0 e0 x0 rfl rfl)
      obtain ⟨ab0, cb, _, _, p1, hrb⟩ := VAt.all (sub2 1 e1 x1 rfl rfl)
      obtain ⟨_, _, _, _, p2, _⟩ := VAt.all (sub2 2 e2 x2 rfl rfl)
      have hab := hrb.isSome (i := 0) (by simp [hx32])
      obtain ⟨ab, rfl⟩ := Option.isSome_iff_exists.1 hab
      have lax : ax.block < W3.heap.size := hrow2.block_lt (by rw [p0]; simp)
      have lab : ab.block < W3.heap.size := hrb.block_lt (by simp [hx32])
      have hXB6 := hXB'.below hb56
      have hrow6 := (hrow2.below hbx3).below hb56
      have hrb6 := (hrb.below hbx3).below hb56
      have hcxo := hcx
      have hxt : ∀ w', (Blk w' qx 63 cx ∧ Row w' (some ax) (List.flatten [e0, e1, e2]) ∧ Row w' (some ab) (x1.bytes.map b8)) → w'.cell? ⟨qx, 5, none⟩ = some (.slice (some ax) 3 cx2) ∧ w'.cell? ⟨ax.block, ax.off + 3, none⟩ = some (.string (str x0.text)) ∧ w'.cell? ⟨ax.block, ax.off + 6 + 2, none⟩ = some (.slice (some ab) 32 cb) ∧ w'.cell? ⟨ax.block, ax.off + 12 + 1, none⟩ = some (.int .i64 x2.int) ∧ (ldOp 29 (.pointer (some ab))).run Try.prog w' = .ok (.agg (List.toArray (x1.bytes.map b8))) w' := fun w' hS => by
        obtain ⟨hB, hr, hrb'⟩ := hS
        refine ⟨hB.cell (by rw [hcx]; rfl), ?_, ?_, ?_, ?_⟩
        · exact cell_field (i := 0) (j := 3) (hr.field (s := 6) h62 (i := 0) (j := 3) (c := e0) rfl (by rw [p0]; rfl))
        · exact cell_field (i := 6) (j := 2) (hr.field (s := 6) h62 (i := 1) (j := 2) (c := e1) rfl (by rw [p1, hx32]; rfl))
        · exact cell_field (i := 12) (j := 1) (hr.field (s := 6) h62 (i := 2) (j := 1) (c := e2) rfl (by rw [p2]; rfl))
        · exact ldOp_at (P := Try.prog) (ty := 29) (fun j v hv => hrb'.2 j v hv) Try.underlying29 rfl (by rw [List.length_map, hx32]; exact sizeID)
      have hXa : abtC ⟨x0.text, x1.bytes, x2.int, [], 0, 0⟩ = abtC (abtOf x) := by
        unfold abtOf atV; rw [hxl]; simp [keyV_32 hx32]
      have hbd := fun {w' : World} => bd_abt (t := x0.text) (id := x1.bytes) (tm := x2.int) (w := w') hx32
      obtain ⟨XC, hXCd⟩ : ∃ XC, XC = abtC ⟨x0.text, x1.bytes, x2.int, [], 0, 0⟩ := ⟨_, rfl⟩
      rw [← hXCd] at hbd
      have hXCd' := hXCd.symm
      have hXC : (List.toArray XC).size = 37 := by rw [hXCd]; simp [abtC, hx32]
      have hO6 := ownsRow_below hOx hb56
      have hb36 := hbx3.trans (hb56.mono hbx3.size)
      clear hxc his hI hb56 hXB hXB' q2 hrow2 hs2 hab hrb hbx3 hOx hbx sub2 p0 p1 p2 hcx hcxo hb6 hbk hxl
      generalize W5.heap.size = qk at *
      go_upto_region 11 with (fail)
      have hSm : ∀ (L : Array Bool) (w1 w2 : World), (Blk w1 qx 63 cx ∧ Row w1 (some ax) (List.flatten [e0, e1, e2]) ∧ Row w1 (some ab) (x1.bytes.map b8)) → Mo w1 w2 → (Blk w2 qx 63 cx ∧ Row w2 (some ax) (List.flatten [e0, e1, e2]) ∧ Row w2 (some ab) (x1.bytes.map b8)) := fun _ w1 w2 h hm => ⟨h.1.below hm, h.2.1.below hm, h.2.2.below hm⟩
      have hSi : ∀ i, i ≠ 99 → ∀ (L : Array Bool) (w1 : World), (Blk w1 qx 63 cx ∧ Row w1 (some ax) (List.flatten [e0, e1, e2]) ∧ Row w1 (some ab) (x1.bytes.map b8)) ↔ (Blk w1 qx 63 cx ∧ Row w1 (some ax) (List.flatten [e0, e1, e2]) ∧ Row w1 (some ab) (x1.bytes.map b8)) := fun _ _ _ _ => Iff.rfl
      have hS0 : (Blk (W6.drewN 1) qx 63 cx ∧ Row (W6.drewN 1) (some ax) (List.flatten [e0, e1, e2]) ∧ Row (W6.drewN 1) (some ab) (x1.bytes.map b8)) := ⟨hXB6, hrow6, hrb6⟩
      refine wp_region_upN (S := fun _ w1 => (Blk w1 qx 63 cx ∧ Row w1 (some ax) (List.flatten [e0, e1, e2]) ∧ Row w1 (some ab) (x1.bytes.map b8))) 22 rfl (by kernel_rfl) ?_
      refine wpAnyU_take (i := 0) (A := fun _ => True) (v := u8) (a' := ⟨#[.slice a n c, undef, u2, u3, .pointer (some ⟨nv, 0, none⟩), .int .i64 0, .pointer (some ⟨na, 0, none⟩), .bool f, u8, undef, .pointer (some ⟨qx, 0, none⟩), .tuple #[.agg (List.toArray cs), .int .i64 0], .slice a n c, .tuple #[.agg (List.toArray cs), .int .i64 0], .agg (List.toArray cs), .int .i64 0, .int .i64 0, .bool false, undef, .tuple #[.agg (List.toArray ds), .bool f], .agg (List.toArray cs), .tuple #[.agg (List.toArray ds), .bool f], .agg (List.toArray ds), .bool f, .pointer (some ⟨na, 5, none⟩), .slice al L.length cl, .int .i64 (L.length : Int), .int .i64 (j : Int), .bool true, .pointer (some ((hd al).add (j * 6))), .agg (List.toArray cx), .agg (List.toArray cx), .slice (some ⟨qk, 0, none⟩) 3 3, .bool true, .bool false, u8, u36, u37, u38, u39, u40, u41, u42, u43, u44, u45, u46, u47, u48, u49, u50, u51, u52, u53, u54, u55, u56, undef, undef, undef, undef, undef, undef, undef, undef, undef, undef, undef], []⟩) hSm (hSi 0 (by decide)) (fun _ _ _ => trivial) rfl (by kernel_rfl) (by kernel_rfl) (by kernel_rfl) (fun _ _ _ h => h) hS0 (Tame.val rfl (fun w' hA => by go_simp)) rfl ?_
      refine wpAnyU_take (i := 1) (A := fun _ => True) (v := .pointer (some ⟨qx, 5, none⟩)) (a' := ⟨#[.slice a n c, undef, u2, u3, .pointer (some ⟨nv, 0, none⟩), .int .i64 0, .pointer (some ⟨na, 0, none⟩), .bool f, u8, undef, .pointer (some ⟨qx, 0, none⟩), .tuple #[.agg (List.toArray cs), .int .i64 0], .slice a n c, .tuple #[.agg (List.toArray cs), .int .i64 0], .agg (List.toArray cs), .int .i64 0, .int .i64 0, .bool false, undef, .tuple #[.agg (List.toArray ds), .bool f], .agg (List.toArray cs), .tuple #[.agg (List.toArray ds), .bool f], .agg (List.toArray ds), .bool f, .pointer (some ⟨na, 5, none⟩), .slice al L.length cl, .int .i64 (L.length : Int), .int .i64 (j : Int), .bool true, .pointer (some ((hd al).add (j * 6))), .agg (List.toArray cx), .agg (List.toArray cx), .slice (some ⟨qk, 0, none⟩) 3 3, .bool true, .bool false, u8, .pointer (some ⟨qx, 5, none⟩), u37, u38, u39, u40, u41, u42, u43, u44, u45, u46, u47, u48, u49, u50, u51, u52, u53, u54, u55, u56, undef, undef, undef, undef, undef, undef, undef, undef, undef, undef, undef], []⟩) hSm (hSi 1 (by decide)) (fun _ _ _ => trivial) rfl (by kernel_rfl) (by kernel_rfl) (by kernel_rfl) (fun _ _ _ h => h) hS0 (Tame.val rfl (fun w' hA => by go_simp)) rfl ?_
      refine wpAnyU_take (i := 2) (A := fun w1 => (Blk w1 qx 63 cx ∧ Row w1 (some ax) (List.flatten [e0, e1, e2]) ∧ Row w1 (some ab) (x1.bytes.map b8))) (v := .slice (some ax) 3 cx2) (a' := ⟨#[.slice a n c, undef, u2, u3, .pointer (some ⟨nv, 0, none⟩), .int .i64 0, .pointer (some ⟨na, 0, none⟩), .bool f, u8, undef, .pointer (some ⟨qx, 0, none⟩), .tuple #[.agg (List.toArray cs), .int .i64 0], .slice a n c, .tuple #[.agg (List.toArray cs), .int .i64 0], .agg (List.toArray cs), .int .i64 0, .int .i64 0, .bool false, undef, .tuple #[.agg (List.toArray ds), .bool f], .agg (List.toArray cs), .tuple #[.agg (List.toArray ds), .bool f], .agg (List.toArray ds), .bool f, .pointer (some ⟨na, 5, none⟩), .slice al L.length cl, .int .i64 (L.length : Int), .int .i64 (j : Int), .bool true, .pointer (some ((hd al).add (j * 6))), .agg (List.toArray cx), .agg (List.toArray cx), .slice (some ⟨qk, 0, none⟩) 3 3, .bool true, .bool false, u8, .pointer (some ⟨qx, 5, none⟩), .slice (some ax) 3 cx2, u38, u39, u40, u41, u42, u43, u44, u45, u46, u47, u48, u49, u50, u51, u52, u53, u54, u55, u56, undef, undef, undef, undef, undef, undef, undef, undef, undef, undef, undef], []⟩) hSm (hSi 2 (by decide)) (fun _ _ h => h) rfl (by kernel_rfl) (by kernel_rfl) (by kernel_rfl) (fun _ _ _ h => h) hS0 (Tame.val rfl (fun w' hA => by have h1 := (hxt _ hA).1; go_simp)) rfl ?_
      refine wpAnyU_take (i := 3) (A := fun _ => True) (v := .pointer (some ax)) (a' := ⟨#[.slice a n c, undef, u2, u3, .pointer (some ⟨nv, 0, none⟩), .int .i64 0, .pointer (some ⟨na, 0, none⟩), .bool f, u8, undef, .pointer (some ⟨qx, 0, none⟩), .tuple #[.agg (List.toArray cs), .int .i64 0], .slice a n c, .tuple #[.agg (List.toArray cs), .int .i64 0], .agg (List.toArray cs), .int .i64 0, .int .i64 0, .bool false, undef, .tuple #[.agg (List.toArray ds), .bool f], .agg (List.toArray cs), .tuple #[.agg (List.toArray ds), .bool f], .agg (List.toArray ds), .bool f, .pointer (some ⟨na, 5, none⟩), .slice al L.length cl, .int .i64 (L.length : Int), .int .i64 (j : Int), .bool true, .pointer (some ((hd al).add (j * 6))), .agg (List.toArray cx), .agg (List.toArray cx), .slice (some ⟨qk, 0, none⟩) 3 3, .bool true, .bool false, u8, .pointer (some ⟨qx, 5, none⟩), .slice (some ax) 3 cx2, .pointer (some ax), u39, u40, u41, u42, u43, u44, u45, u46, u47, u48, u49, u50, u51, u52, u53, u54, u55, u56, undef, undef, undef, undef, undef, undef, undef, undef, undef, undef, undef], []⟩) hSm (hSi 3 (by decide)) (fun _ _ _ => trivial) rfl (by kernel_rfl) (by kernel_rfl) (by kernel_rfl) (fun _ _ _ h => h) hS0 (Tame.val rfl (fun w' hA => by go_simp)) rfl ?_
      refine wpAnyU_take (i := 4) (A := fun _ => True) (v := .pointer (some ⟨ax.block, ax.off + 3, none⟩)) (a' := ⟨#[.slice a n c, undef, u2, u3, .pointer (some ⟨nv, 0, none⟩), .int .i64 0, .pointer (some ⟨na, 0, none⟩), .bool f, u8, undef, .pointer (some ⟨qx, 0, none⟩), .tuple #[.agg (List.toArray cs), .int .i64 0], .slice a n c, .tuple #[.agg (List.toArray cs), .int .i64 0], .agg (List.toArray cs), .int .i64 0, .int .i64 0, .bool false, undef, .tuple #[.agg (List.toArray ds), .bool f], .agg (List.toArray cs), .tuple #[.agg (List.toArray ds), .bool f], .agg (List.toArray ds), .bool f, .pointer (some ⟨na, 5, none⟩), .slice al L.length cl, .int .i64 (L.length : Int), .int .i64 (j : Int), .bool true, .pointer (some ((hd al).add (j * 6))), .agg (List.toArray cx), .agg (List.toArray cx), .slice (some ⟨qk, 0, none⟩) 3 3, .bool true, .bool false, u8, .pointer (some ⟨qx, 5, none⟩), .slice (some ax) 3 cx2, .pointer (some ax), .pointer (some ⟨ax.block, ax.off + 3, none⟩), u40, u41, u42, u43, u44, u45, u46, u47, u48, u49, u50, u51, u52, u53, u54, u55, u56, undef, undef, undef, undef, undef, undef, undef, undef, undef, undef, undef], []⟩) hSm (hSi 4 (by decide)) (fun _ _ _ => trivial) rfl (by kernel_rfl) (by kernel_rfl) (by kernel_rfl) (fun _ _ _ h => h) hS0 (Tame.val rfl (fun w' hA => by go_simp)) rfl ?_
      refine wpAnyU_take (i := 5) (A := fun w1 => (Blk w1 qx 63 cx ∧ Row w1 (some ax) (List.flatten [e0, e1, e2]) ∧ Row w1 (some ab) (x1.bytes.map b8))) (v := .string (str x0.text)) (a' := ⟨#[.slice a n c, undef, u2, u3, .pointer (some ⟨nv, 0, none⟩), .int .i64 0, .pointer (some ⟨na, 0, none⟩), .bool f, u8, undef, .pointer (some ⟨qx, 0, none⟩), .tuple #[.agg (List.toArray cs), .int .i64 0], .slice a n c, .tuple #[.agg (List.toArray cs), .int .i64 0], .agg (List.toArray cs), .int .i64 0, .int .i64 0, .bool false, undef, .tuple #[.agg (List.toArray ds), .bool f], .agg (List.toArray cs), .tuple #[.agg (List.toArray ds), .bool f], .agg (List.toArray ds), .bool f, .pointer (some ⟨na, 5, none⟩), .slice al L.length cl, .int .i64 (L.length : Int), .int .i64 (j : Int), .bool true, .pointer (some ((hd al).add (j * 6))), .agg (List.toArray cx), .agg (List.toArray cx), .slice (some ⟨qk, 0, none⟩) 3 3, .bool true, .bool false, u8, .pointer (some ⟨qx, 5, none⟩), .slice (some ax) 3 cx2, .pointer (some ax), .pointer (some ⟨ax.block, ax.off + 3, none⟩), .string (str x0.text), u41, u42, u43, u44, u45, u46, u47, u48, u49, u50, u51, u52, u53, u54, u55, u56, undef, undef, undef, undef, undef, undef, undef, undef, undef, undef, undef], []⟩) hSm (hSi 5 (by decide)) (fun _ _ h => h) rfl (by kernel_rfl) (by kernel_rfl) (by kernel_rfl) (fun _ _ _ h => h) hS0 (Tame.val rfl (fun w' hA => by have h1 := (hxt _ hA).2.1; go_simp)) rfl ?_
      refine wpAnyU_take (i := 6) (A := fun _ => True) (v := .pointer (some ⟨qx, 5, none⟩)) (a' := ⟨#[.slice a n c, undef, u2, u3, .pointer (some ⟨nv, 0, none⟩), .int .i64 0, .pointer (some ⟨na, 0, none⟩), .bool f, u8, undef, .pointer (some ⟨qx, 0, none⟩), .tuple #[.agg (List.toArray cs), .int .i64 0], .slice a n c, .tuple #[.agg (List.toArray cs), .int .i64 0], .agg (List.toArray cs), .int .i64 0, .int .i64 0, .bool false, undef, .tuple #[.agg (List.toArray ds), .bool f], .agg (List.toArray cs), .tuple #[.agg (List.toArray ds), .bool f], .agg (List.toArray ds), .bool f, .pointer (some ⟨na, 5, none⟩), .slice al L.length cl, .int .i64 (L.length : Int), .int .i64 (j : Int), .bool true, .pointer (some ((hd al).add (j * 6))), .agg (List.toArray cx), .agg (List.toArray cx), .slice (some ⟨qk, 0, none⟩) 3 3, .bool true, .bool false, u8, .pointer (some ⟨qx, 5, none⟩), .slice (some ax) 3 cx2, .pointer (some ax), .pointer (some ⟨ax.block, ax.off + 3, none⟩), .string (str x0.text), .pointer (some ⟨qx, 5, none⟩), u42, u43, u44, u45, u46, u47, u48, u49, u50, u51, u52, u53, u54, u55, u56, undef, undef, undef, undef, undef, undef, undef, undef, undef, undef, undef], []⟩) hSm (hSi 6 (by decide)) (fun _ _ _ => trivial) rfl (by kernel_rfl) (by kernel_rfl) (by kernel_rfl) (fun _ _ _ h => h) hS0 (Tame.val rfl (fun w' hA => by go_simp)) rfl ?_
      refine wpAnyU_take (i := 7) (A := fun w1 => (Blk w1 qx 63 cx ∧ Row w1 (some ax) (List.flatten [e0, e1, e2]) ∧ Row w1 (some ab) (x1.bytes.map b8))) (v := .slice (some ax) 3 cx2) (a' := ⟨#[.slice a n c, undef, u2, u3, .pointer (some ⟨nv, 0, none⟩), .int .i64 0, .pointer (some ⟨na, 0, none⟩), .bool f, u8, undef, .pointer (some ⟨qx, 0, none⟩), .tuple #[.agg (List.toArray cs), .int .i64 0], .slice a n c, .tuple #[.agg (List.toArray cs), .int .i64 0], .agg (List.toArray cs), .int .i64 0, .int .i64 0, .bool false, undef, .tuple #[.agg (List.toArray ds), .bool f], .agg (List.toArray cs), .tuple #[.agg (List.toArray ds), .bool f], .agg (List.toArray ds), .bool f, .pointer (some ⟨na, 5, none⟩), .slice al L.length cl, .int .i64 (L.length : Int), .int .i64 (j : Int), .bool true, .pointer (some ((hd al).add (j * 6))), .agg (List.toArray cx), .agg (List.toArray cx), .slice (some ⟨qk, 0, none⟩) 3 3, .bool true, .bool false, u8, .pointer (some ⟨qx, 5, none⟩), .slice (some ax) 3 cx2, .pointer (some ax), .pointer (some ⟨ax.block, ax.off + 3, none⟩), .string (str x0.text), .pointer (some ⟨qx, 5, none⟩), .slice (some ax) 3 cx2, u43, u44, u45, u46, u47, u48, u49, u50, u51, u52, u53, u54, u55, u56, undef, undef, undef, undef, undef, undef, undef, undef, undef, undef, undef], []⟩) hSm (hSi 7 (by decide)) (fun _ _ h => h) rfl (by kernel_rfl) (by kernel_rfl) (by kernel_rfl) (fun _ _ _ h => h) hS0 (Tame.val rfl (fun w' hA => by have h1 := (hxt _ hA).1; go_simp)) rfl ?_
      refine wpAnyU_take (i := 8) (A := fun _ => True) (v := .pointer (some (ax.add 6))) (a' := ⟨#[.slice a n c, undef, u2, u3, .pointer (some ⟨nv, 0, none⟩), .int .i64 0, .pointer (some ⟨na, 0, none⟩), .bool f, u8, undef, .pointer (some ⟨qx, 0, none⟩), .tuple #[.agg (List.toArray cs), .int .i64 0], .slice a n c, .tuple #[.agg (List.toArray cs), .int .i64 0], .agg (List.toArray cs), .int .i64 0, .int .i64 0, .bool false, undef, .tuple #[.agg (List.toArray ds), .bool f], .agg (List.toArray cs), .tuple #[.agg (List.toArray ds), .bool f], .agg (List.toArray ds), .bool f, .pointer (some ⟨na, 5, none⟩), .slice al L.length cl, .int .i64 (L.length : Int), .int .i64 (j : Int), .bool true, .pointer (some ((hd al).add (j * 6))), .agg (List.toArray cx), .agg (List.toArray cx), .slice (some ⟨qk, 0, none⟩) 3 3, .bool true, .bool false, u8, .pointer (some ⟨qx, 5, none⟩), .slice (some ax) 3 cx2, .pointer (some ax), .pointer (some ⟨ax.block, ax.off + 3, none⟩), .string (str x0.text), .pointer (some ⟨qx, 5, none⟩), .slice (some ax) 3 cx2, .pointer (some (ax.add 6)), u44, u45, u46, u47, u48, u49, u50, u51, u52, u53, u54, u55, u56, undef, undef, undef, undef, undef, undef, undef, undef, undef, undef, undef], []⟩) hSm (hSi 8 (by decide)) (fun _ _ _ => trivial) rfl (by kernel_rfl) (by kernel_rfl) (by kernel_rfl) (fun _ _ _ h => h) hS0 (Tame.val rfl (fun w' hA => by go_simp)) rfl ?_
      refine wpAnyU_take (i := 9) (A := fun _ => True) (v := .pointer (some ⟨ax.block, ax.off + 6 + 2, none⟩)) (a' := ⟨#[.slice a n c, undef, u2, u3, .pointer (some ⟨nv, 0, none⟩), .int .i64 0, .pointer (some ⟨na, 0, none⟩), .bool f, u8, undef, .pointer (some ⟨qx, 0, none⟩), .tuple #[.agg (List.toArray cs), .int .i64 0], .slice a n c, .tuple #[.agg (List.toArray cs), .int .i64 0], .agg (List.toArray cs), .int .i64 0, .int .i64 0, .bool false, undef, .tuple #[.agg (List.toArray ds), .bool f], .agg (List.toArray cs), .tuple #[.agg (List.toArray ds), .bool f], .agg (List.toArray ds), .bool f, .pointer (some ⟨na, 5, none⟩), .slice al L.length cl, .int .i64 (L.length : Int), .int .i64 (j : Int), .bool true, .pointer (some ((hd al).add (j * 6))), .agg (List.toArray cx), .agg (List.toArray cx), .slice (some ⟨qk, 0, none⟩) 3 3, .bool true, .bool false, u8, .pointer (some ⟨qx, 5, none⟩), .slice (some ax) 3 cx2, .pointer (some ax), .pointer (some ⟨ax.block, ax.off + 3, none⟩), .string (str x0.text), .pointer (some ⟨qx, 5, none⟩), .slice (some ax) 3 cx2, .pointer (some (ax.add 6)), .pointer (some ⟨ax.block, ax.off + 6 + 2, none⟩), u45, u46, u47, u48, u49, u50, u51, u52, u53, u54, u55, u56, undef, undef, undef, undef, undef, undef, undef, undef, undef, undef, undef], []⟩) hSm (hSi 9 (by decide)) (fun _ _ _ => trivial) rfl (by kernel_rfl) (by kernel_rfl) (by kernel_rfl) (fun _ _ _ h => h) hS0 (Tame.val rfl (fun w' hA => by go_simp)) rfl ?_
      refine wpAnyU_take (i := 10) (A := fun w1 => (Blk w1 qx 63 cx ∧ Row w1 (some ax) (List.flatten [e0, e1, e2]) ∧ Row w1 (some ab) (x1.bytes.map b8))) (v := .slice (some ab) 32 cb) (a' := ⟨#[.slice a n c, undef, u2, u3, .pointer (some ⟨nv, 0, none⟩), .int .i64 0, .pointer (some ⟨na, 0, none⟩), .bool f, u8, undef, .pointer (some ⟨qx, 0, none⟩), .tuple #[.agg (List.toArray cs), .int .i64 0], .slice a n c, .tuple #[.agg (List.toArray cs), .int .i64 0], .agg (List.toArray cs), .int .i64 0, .int .i64 0, .bool false, undef, .tuple #[.agg (List.toArray ds), .bool f], .agg (List.toArray cs), .tuple #[.agg (List.toArray ds), .bool f], .agg (List.toArray ds), .bool f, .pointer (some ⟨na, 5, none⟩), .slice al L.length cl, .int .i64 (L.length : Int), .int .i64 (j : Int), .bool true, .pointer (some ((hd al).add (j * 6))), .agg (List.toArray cx), .agg (List.toArray cx), .slice (some ⟨qk, 0, none⟩) 3 3, .bool true, .bool false, u8, .pointer (some ⟨qx, 5, none⟩), .slice (some ax) 3 cx2, .pointer (some ax), .pointer (some ⟨ax.block, ax.off + 3, none⟩), .string (str x0.text), .pointer (some ⟨qx, 5, none⟩), .slice (some ax) 3 cx2, .pointer (some (ax.add 6)), .pointer (some ⟨ax.block, ax.off + 6 + 2, none⟩), .slice (some ab) 32 cb, u46, u47, u48, u49, u50, u51, u52, u53, u54, u55, u56, undef, undef, undef, undef, undef, undef, undef, undef, undef, undef, undef], []⟩) hSm (hSi 10 (by decide)) (fun _ _ h => h) rfl (by kernel_rfl) (by kernel_rfl) (by kernel_rfl) (fun _ _ _ h => h) hS0 (Tame.val rfl (fun w' hA => by have h1 := (hxt _ hA).2.2.1; go_simp)) rfl ?_
      refine wpAnyU_take (i := 11) (A := fun w1 => (Blk w1 qx 63 cx ∧ Row w1 (some ax) (List.flatten [e0, e1, e2]) ∧ Row w1 (some ab) (x1.bytes.map b8))) (v := .pointer (some ab)) (a' := ⟨#[.slice a n c, undef, u2, u3, .pointer (some ⟨nv, 0, none⟩), .int .i64 0, .pointer (some ⟨na, 0, none⟩), .bool f, u8, undef, .pointer (some ⟨qx, 0, none⟩), .tuple #[.agg (List.toArray cs), .int .i64 0], .slice a n c, .tuple #[.agg (List.toArray cs), .int .i64 0], .agg (List.toArray cs), .int .i64 0, .int .i64 0, .bool false, undef, .tuple #[.agg (List.toArray ds), .bool f], .agg (List.toArray cs), .tuple #[.agg (List.toArray ds), .bool f], .agg (List.toArray ds), .bool f, .pointer (some ⟨na, 5, none⟩), .slice al L.length cl, .int .i64 (L.length : Int), .int .i64 (j : Int), .bool true, .pointer (some ((hd al).add (j * 6))), .agg (List.toArray cx), .agg (List.toArray cx), .slice (some ⟨qk, 0, none⟩) 3 3, .bool true, .bool false, u8, .pointer (some ⟨qx, 5, none⟩), .slice (some ax) 3 cx2, .pointer (some ax), .pointer (some ⟨ax.block, ax.off + 3, none⟩), .string (str x0.text), .pointer (some ⟨qx, 5, none⟩), .slice (some ax) 3 cx2, .pointer (some (ax.add 6)), .pointer (some ⟨ax.block, ax.off + 6 + 2, none⟩), .slice (some ab) 32 cb, .pointer (some ab), u47, u48, u49, u50, u51, u52, u53, u54, u55, u56, undef, undef, undef, undef, undef, undef, undef, undef, undef, undef, undef], []⟩) hSm (hSi 11 (by decide)) (fun _ _ h => h) rfl (by kernel_rfl) (by kernel_rfl) (by kernel_rfl) (fun _ _ _ h => h) hS0 (Tame.val rfl (fun w' hA => by have h1 : (Instr.arrayAt 29 (.slice (some ab) 32 cb)).run Try.prog w' = .ok (.pointer (some ab)) w' := r_ap; go_simp)) rfl ?_
      refine wpAnyU_take (i := 12) (A := fun w1 => (Blk w1 qx 63 cx ∧ Row w1 (some ax) (List.flatten [e0, e1, e2]) ∧ Row w1 (some ab) (x1.bytes.map b8))) (v := .agg (List.toArray (x1.bytes.map b8))) (a' := ⟨#[.slice a n c, undef, u2, u3, .pointer (some ⟨nv, 0, none⟩), .int .i64 0, .pointer (some ⟨na, 0, none⟩), .bool f, u8, undef, .pointer (some ⟨qx, 0, none⟩), .tuple #[.agg (List.toArray cs), .int .i64 0], .slice a n c, .tuple #[.agg (List.toArray cs), .int .i64 0], .agg (List.toArray cs), .int .i64 0, .int .i64 0, .bool false, undef, .tuple #[.agg (List.toArray ds), .bool f], .agg (List.toArray cs), .tuple #[.agg (List.toArray ds), .bool f], .agg (List.toArray ds), .bool f, .pointer (some ⟨na, 5, none⟩), .slice al L.length cl, .int .i64 (L.length : Int), .int .i64 (j : Int), .bool true, .pointer (some ((hd al).add (j * 6))), .agg (List.toArray cx), .agg (List.toArray cx), .slice (some ⟨qk, 0, none⟩) 3 3, .bool true, .bool false, u8, .pointer (some ⟨qx, 5, none⟩), .slice (some ax) 3 cx2, .pointer (some ax), .pointer (some ⟨ax.block, ax.off + 3, none⟩), .string (str x0.text), .pointer (some ⟨qx, 5, none⟩), .slice (some ax) 3 cx2, .pointer (some (ax.add 6)), .pointer (some ⟨ax.block, ax.off + 6 + 2, none⟩), .slice (some ab) 32 cb, .pointer (some ab), .agg (List.toArray (x1.bytes.map b8)), u48, u49, u50, u51, u52, u53, u54, u55, u56, undef, undef, undef, undef, undef, undef, undef, undef, undef, undef, undef], []⟩) hSm (hSi 12 (by decide)) (fun _ _ h => h) rfl (by kernel_rfl) (by kernel_rfl) (by kernel_rfl) (fun _ _ _ h => h) hS0 (Tame.val rfl (fun w' hA => run_ldOp (hxt _ hA).2.2.2.2)) rfl ?_
      refine wpAnyU_take (i := 13) (A := fun _ => True) (v := .pointer (some ⟨qx, 5, none⟩)) (a' := ⟨#[.slice a n c, undef, u2, u3, .pointer (some ⟨nv, 0, none⟩), .int .i64 0, .pointer (some ⟨na, 0, none⟩), .bool f, u8, undef, .pointer (some ⟨qx, 0, none⟩), .tuple #[.agg (List.toArray cs), .int .i64 0], .slice a n c, .tuple #[.agg (List.toArray cs), .int .i64 0], .agg (List.toArray cs), .int .i64 0, .int .i64 0, .bool false, undef, .tuple #[.agg (List.toArray ds), .bool f], .agg (List.toArray cs), .tuple #[.agg (List.toArray ds), .bool f], .agg (List.toArray ds), .bool f, .pointer (some ⟨na, 5, none⟩), .slice al L.length cl, .int .i64 (L.length : Int), .int .i64 (j : Int), .bool true, .pointer (some ((hd al).add (j * 6))), .agg (List.toArray cx), .agg (List.toArray cx), .slice (some ⟨qk, 0, none⟩) 3 3, .bool true, .bool false, u8, .pointer (some ⟨qx, 5, none⟩), .slice (some ax) 3 cx2, .pointer (some ax), .pointer (some ⟨ax.block, ax.off + 3, none⟩), .string (str x0.text), .pointer (some ⟨qx, 5, none⟩), .slice (some ax) 3 cx2, .pointer (some (ax.add 6)), .pointer (some ⟨ax.block, ax.off + 6 + 2, none⟩), .slice (some ab) 32 cb, .pointer (some ab), .agg (List.toArray (x1.bytes.map b8)), .pointer (some ⟨qx, 5, none⟩), u49, u50, u51, u52, u53, u54, u55, u56, undef, undef, undef, undef, undef, undef, undef, undef, undef, undef, undef], []⟩) hSm (hSi 13 (by decide)) (fun _ _ _ => trivial) rfl (by kernel_rfl) (by kernel_rfl) (by kernel_rfl) (fun _ _ _ h => h) hS0 (Tame.val rfl (fun w' hA => by go_simp)) rfl ?_
      refine wpAnyU_take (i := 14) (A := fun w1 => (Blk w1 qx 63 cx ∧ Row w1 (some ax) (List.flatten [e0, e1, e2]) ∧ Row w1 (some ab) (x1.bytes.map b8))) (v := .slice (some ax) 3 cx2) (a' := ⟨#[.slice a n c, undef, u2, u3, .pointer (some ⟨nv, 0, none⟩), .int .i64 0, .pointer (some ⟨na, 0, none⟩), .bool f, u8, undef, .pointer (some ⟨qx, 0, none⟩), .tuple #[.agg (List.toArray cs), .int .i64 0], .slice a n c, .tuple #[.agg (List.toArray cs), .int .i64 0], .agg (List.toArray cs), .int .i64 0, .int .i64 0, .bool false, undef, .tuple #[.agg (List.toArray ds), .bool f], .agg (List.toArray cs), .tuple #[.agg (List.toArray ds), .bool f], .agg (List.toArray ds), .bool f, .pointer (some ⟨na, 5, none⟩), .slice al L.length cl, .int .i64 (L.length : Int), .int .i64 (j : Int), .bool true, .pointer (some ((hd al).add (j * 6))), .agg (List.toArray cx), .agg (List.toArray cx), .slice (some ⟨qk, 0, none⟩) 3 3, .bool true, .bool false, u8, .pointer (some ⟨qx, 5, none⟩), .slice (some ax) 3 cx2, .pointer (some ax), .pointer (some ⟨ax.block, ax.off + 3, none⟩), .string (str x0.text), .pointer (some ⟨qx, 5, none⟩), .slice (some ax) 3 cx2, .pointer (some (ax.add 6)), .pointer (some ⟨ax.block, ax.off + 6 + 2, none⟩), .slice (some ab) 32 cb, .pointer (some ab), .agg (List.toArray (x1.bytes.map b8)), .pointer (some ⟨qx, 5, none⟩), .slice (some ax) 3 cx2, u50, u51, u52, u53, u54, u55, u56, undef, undef, undef, undef, undef, undef, undef, undef, undef, undef, undef], []⟩) hSm (hSi 14 (by decide)) (fun _ _ h => h) rfl (by kernel_rfl) (by kernel_rfl) (by kernel_rfl) (fun _ _ _ h => h) hS0 (Tame.val rfl (fun w' hA => by have h1 := (hxt _ hA).1; go_simp)) rfl ?_
      refine wpAnyU_take (i := 15) (A := fun _ => True) (v := .pointer (some (ax.add 12))) (a' := ⟨#[.slice a n c, undef, u2, u3, .pointer (some ⟨nv, 0, none⟩), .int .i64 0, .pointer (some ⟨na, 0, none⟩), .bool f, u8, undef, .pointer (some ⟨qx, 0, none⟩), .tuple #[.agg (List.toArray cs), .int .i64 0], .slice a n c, .tuple #[.agg (List.toArray cs), .int .i64 0], .agg (List.toArray cs), .int .i64 0, .int .i64 0, .bool false, undef, .tuple #[.agg (List.toArray ds), .bool f], .agg (List.toArray cs), .tuple #[.agg (List.toArray ds), .bool f], .agg (List.toArray ds), .bool f, .pointer (some ⟨na, 5, none⟩), .slice al L.length cl, .int .i64 (L.length : Int), .int .i64 (j : Int), .bool true, .pointer (some ((hd al).add (j * 6))), .agg (List.toArray cx), .agg (List.toArray cx), .slice (some ⟨qk, 0, none⟩) 3 3, .bool true, .bool false, u8, .pointer (some ⟨qx, 5, none⟩), .slice (some ax) 3 cx2, .pointer (some ax), .pointer (some ⟨ax.block, ax.off + 3, none⟩), .string (str x0.text), .pointer (some ⟨qx, 5, none⟩), .slice (some ax) 3 cx2, .pointer (some (ax.add 6)), .pointer (some ⟨ax.block, ax.off + 6 + 2, none⟩), .slice (some ab) 32 cb, .pointer (some ab), .agg (List.toArray (x1.bytes.map b8)), .pointer (some ⟨qx, 5, none⟩), .slice (some ax) 3 cx2, .pointer (some (ax.add 12)), u51, u52, u53, u54, u55, u56, undef, undef, undef, undef, undef, undef, undef, undef, undef, undef, undef], []⟩) hSm (hSi 15 (by decide)) (fun _ _ _ => trivial) rfl (by kernel_rfl) (by kernel_rfl) (by kernel_rfl) (fun _ _ _ h => h) hS0 (Tame.val rfl (fun w' hA => by go_simp)) rfl ?_
      refine wpAnyU_take (i := 16) (A := fun _ => True) (v := .pointer (some ⟨ax.block, ax.off + 12 + 1, none⟩)) (a' := ⟨#[.slice a n c, undef, u2, u3, .pointer (some ⟨nv, 0, none⟩), .int .i64 0, .pointer (some ⟨na, 0, none⟩), .bool f, u8, undef, .pointer (some ⟨qx, 0, none⟩), .tuple #[.agg (List.toArray cs), .int .i64 0], .slice a n c, .tuple #[.agg (List.toArray cs), .int .i64 0], .agg (List.toArray cs), .int .i64 0, .int .i64 0, .bool false, undef, .tuple #[.agg (List.toArray ds), .bool f], .agg (List.toArray cs), .tuple #[.agg (List.toArray ds), .bool f], .agg (List.toArray ds), .bool f, .pointer (some ⟨na, 5, none⟩), .slice al L.length cl, .int .i64 (L.length : Int), .int .i64 (j : Int), .bool true, .pointer (some ((hd al).add (j * 6))), .agg (List.toArray cx), .agg (List.toArray cx), .slice (some ⟨qk, 0, none⟩) 3 3, .bool true, .bool false, u8, .pointer (some ⟨qx, 5, none⟩), .slice (some ax) 3 cx2, .pointer (some ax), .pointer (some ⟨ax.block, ax.off + 3, none⟩), .string (str x0.text), .pointer (some ⟨qx, 5, none⟩), .slice (some ax) 3 cx2, .pointer (some (ax.add 6)), .pointer (some ⟨ax.block, ax.off + 6 + 2, none⟩), .slice (some ab) 32 cb, .pointer (some ab), .agg (List.toArray (x1.bytes.map b8)), .pointer (some ⟨qx, 5, none⟩), .slice (some ax) 3 cx2, .pointer (some (ax.add 12)), .pointer (some ⟨ax.block, ax.off + 12 + 1, none⟩), u52, u53, u54, u55, u56, undef, undef, undef, undef, undef, undef, undef, undef, undef, undef, undef], []⟩) hSm (hSi 16 (by decide)) (fun _ _ _ => trivial) rfl (by kernel_rfl) (by kernel_rfl) (by kernel_rfl) (fun _ _ _ h => h) hS0 (Tame.val rfl (fun w' hA => by go_simp)) rfl ?_
      refine wpAnyU_take (i := 17) (A := fun w1 => (Blk w1 qx 63 cx ∧ Row w1 (some ax) (List.flatten [e0, e1, e2]) ∧ Row w1 (some ab) (x1.bytes.map b8))) (v := .int .i64 x2.int) (a' := ⟨#[.slice a n c, undef, u2, u3, .pointer (some ⟨nv, 0, none⟩), .int .i64 0, .pointer (some ⟨na, 0, none⟩), .bool f, u8, undef, .pointer (some ⟨qx, 0, none⟩), .tuple #[.agg (List.toArray cs), .int .i64 0], .slice a n c, .tuple #[.agg (List.toArray cs), .int .i64 0], .agg (List.toArray cs), .int .i64 0, .int .i64 0, .bool false, undef, .tuple #[.agg (List.toArray ds), .bool f], .agg (List.toArray cs), .tuple #[.agg (List.toArray ds), .bool f], .agg (List.toArray ds), .bool f, .pointer (some ⟨na, 5, none⟩), .slice al L.length cl, .int .i64 (L.length : Int), .int .i64 (j : Int), .bool true, .pointer (some ((hd al).add (j * 6))), .agg (List.toArray cx), .agg (List.toArray cx), .slice (some ⟨qk, 0, none⟩) 3 3, .bool true, .bool false, u8, .pointer (some ⟨qx, 5, none⟩), .slice (some ax) 3 cx2, .pointer (some ax), .pointer (some ⟨ax.block, ax.off + 3, none⟩), .string (str x0.text), .pointer (some ⟨qx, 5, none⟩), .slice (some ax) 3 cx2, .pointer (some (ax.add 6)), .pointer (some ⟨ax.block, ax.off + 6 + 2, none⟩), .slice (some ab) 32 cb, .pointer (some ab), .agg (List.toArray (x1.bytes.map b8)), .pointer (some ⟨qx, 5, none⟩), .slice (some ax) 3 cx2, .pointer (some (ax.add 12)), .pointer (some ⟨ax.block, ax.off + 12 + 1, none⟩), .int .i64 x2.int, u53, u54, u55, u56, undef, undef, undef, undef, undef, undef, undef, undef, undef, undef, undef], []⟩) hSm (hSi 17 (by decide)) (fun _ _ h => h) rfl (by kernel_rfl) (by kernel_rfl) (by kernel_rfl) (fun _ _ _ h => h) hS0 (Tame.val rfl (fun w' hA => by have h1 := (hxt _ hA).2.2.2.1; go_simp)) rfl ?_
      refine wpAnyU_take (i := 18) (A := fun w1 => (Blk w1 qx 63 cx ∧ Row w1 (some ax) (List.flatten [e0, e1, e2]) ∧ Row w1 (some ab) (x1.bytes.map b8))) (v := .agg (List.toArray XC)) (a' := ⟨#[.slice a n c, undef, u2, u3, .pointer (some ⟨nv, 0, none⟩), .int .i64 0, .pointer (some ⟨na, 0, none⟩), .bool f, u8, undef, .pointer (some ⟨qx, 0, none⟩), .tuple #[.agg (List.toArray cs), .int .i64 0], .slice a n c, .tuple #[.agg (List.toArray cs), .int .i64 0], .agg (List.toArray cs), .int .i64 0, .int .i64 0, .bool false, undef, .tuple #[.agg (List.toArray ds), .bool f], .agg (List.toArray cs), .tuple #[.agg (List.toArray ds), .bool f], .agg (List.toArray ds), .bool f, .pointer (some ⟨na, 5, none⟩), .slice al L.length cl, .int .i64 (L.length : Int), .int .i64 (j : Int), .bool true, .pointer (some ((hd al).add (j * 6))), .agg (List.toArray cx), .agg (List.toArray cx), .slice (some ⟨qk, 0, none⟩) 3 3, .bool true, .bool false, u8, .pointer (some ⟨qx, 5, none⟩), .slice (some ax) 3 cx2, .pointer (some ax), .pointer (some ⟨ax.block, ax.off + 3, none⟩), .string (str x0.text), .pointer (some ⟨qx, 5, none⟩), .slice (some ax) 3 cx2, .pointer (some (ax.add 6)), .pointer (some ⟨ax.block, ax.off + 6 + 2, none⟩), .slice (some ab) 32 cb, .pointer (some ab), .agg (List.toArray (x1.bytes.map b8)), .pointer (some ⟨qx, 5, none⟩), .slice (some ax) 3 cx2, .pointer (some (ax.add 12)), .pointer (some ⟨ax.block, ax.off + 12 + 1, none⟩), .int .i64 x2.int, .agg (List.toArray XC), u54, u55, u56, undef, undef, undef, undef, undef, undef, undef, undef, undef, undef, undef], []⟩) hSm (hSi 18 (by decide)) (fun _ _ h => h) rfl (by kernel_rfl) (by kernel_rfl) (by kernel_rfl) (fun _ _ _ h => h) hS0 (Tame.val rfl (fun w' hA => run_bdOp (vals := #[(0, .string (str x0.text)), (1, .agg (List.toArray (x1.bytes.map b8))), (2, .int .i64 x2.int)]) (by first | rfl | go_simp | simp [Act.eval]) hbd)) rfl ?_
      refine wpAnyU_all (rs := [19]) (by kernel_rfl) (by decide) ?_
      intro w7 hm7 i hi
      obtain rfl : i = 19 := by simpa using hi
      refine wpOp_val (v := .slice (some ⟨w7.heap.size, 0, none⟩) 1 1) (w' := w7.alloc (.cells (List.toArray XC) 31)) (a' := ⟨#[.slice a n c, undef, u2, u3, .pointer (some ⟨nv, 0, none⟩), .int .i64 0, .pointer (some ⟨na, 0, none⟩), .bool f, u8, undef, .pointer (some ⟨qx, 0, none⟩), .tuple #[.agg (List.toArray cs), .int .i64 0], .slice a n c, .tuple #[.agg (List.toArray cs), .int .i64 0], .agg (List.toArray cs), .int .i64 0, .int .i64 0, .bool false, undef, .tuple #[.agg (List.toArray ds), .bool f], .agg (List.toArray cs), .tuple #[.agg (List.toArray ds), .bool f], .agg (List.toArray ds), .bool f, .pointer (some ⟨na, 5, none⟩), .slice al L.length cl, .int .i64 (L.length : Int), .int .i64 (j : Int), .bool true, .pointer (some ((hd al).add (j * 6))), .agg (List.toArray cx), .agg (List.toArray cx), .slice (some ⟨qk, 0, none⟩) 3 3, .bool true, .bool false, u8, .pointer (some ⟨qx, 5, none⟩), .slice (some ax) 3 cx2, .pointer (some ax), .pointer (some ⟨ax.block, ax.off + 3, none⟩), .string (str x0.text), .pointer (some ⟨qx, 5, none⟩), .slice (some ax) 3 cx2, .pointer (some (ax.add 6)), .pointer (some ⟨ax.block, ax.off + 6 + 2, none⟩), .slice (some ab) 32 cb, .pointer (some ab), .agg (List.toArray (x1.bytes.map b8)), .pointer (some ⟨qx, 5, none⟩), .slice (some ax) 3 cx2, .pointer (some (ax.add 12)), .pointer (some ⟨ax.block, ax.off + 12 + 1, none⟩), .int .i64 x2.int, .agg (List.toArray XC), .slice (some ⟨w7.heap.size, 0, none⟩) 1 1, u55, u56, undef, undef, undef, undef, undef, undef, undef, undef, undef, undef, undef], []⟩) rfl rfl (run_bsOp (vals := #[(0, .agg (List.toArray XC))]) (by first | rfl | go_simp | simp [Act.eval]) (r_bsAB hXC)) rfl ?_
      have hm8 : Mo w7 (w7.alloc (.cells (List.toArray XC) 31)) := (Below.refl _ _).alloc (Nat.le_refl _) _
      have hm68 := Mo.trans hm7 hm8
      refine ⟨hSm #[] _ _ hS0 hm68, ?_⟩
      have hB8 : Blk (w7.alloc (.cells (List.toArray XC) 31)) w7.heap.size 31 XC := by simpa using Blk.new w7 31 (List.toArray XC)
      generalize w7.alloc (.cells (List.toArray XC) 31) = w8 at *
      generalize w7.heap.size = g at *
      refine wpAnyU_all (rs := [20]) (by kernel_rfl) (by decide) ?_
      intro w9 hm9 i hi
      obtain rfl : i = 20 := by simpa using hi
      have hm69 := Mo.trans hm68 hm9
      have hO9 := ownsRow_below hO6 (Below.drewN' hm69)
      have hB9 := hB8.below hm9
      have hsrc : Src Try.prog 37 27 (.slice (some ⟨g, 0, none⟩) 1 1) 1 XC w9 := Src.ofRow eAB.ht _ 1 1 XC (by decide) (by simpa using hXC) hB9.row (by rw [hXCd]; exact abtC_one _)
      obtain ⟨v', w10, hrun, hO10, hG10, hK10⟩ := append_srcK (ty := 27) eAB hO9 hsrc (by have := HL.out; unfold maxLen; omega) (by have := HL.out; omega) (by have h1 := hb36.size; have h2 : W6.heap.size ≤ w9.heap.size := hm69.size; omega)
      obtain ⟨a', c', rfl, _⟩ := owns_rowN hO10 (by decide)
      refine wpOp_val (v := .slice a' (j + 1) c') (w' := w10) (a' := ⟨#[.slice a n c, undef, u2, u3, .pointer (some ⟨nv, 0, none⟩), .int .i64 0, .pointer (some ⟨na, 0, none⟩), .bool f, u8, undef, .pointer (some ⟨qx, 0, none⟩), .tuple #[.agg (List.toArray cs), .int .i64 0], .slice a n c, .tuple #[.agg (List.toArray cs), .int .i64 0], .agg (List.toArray cs), .int .i64 0, .int .i64 0, .bool false, undef, .tuple #[.agg (List.toArray ds), .bool f], .agg (List.toArray cs), .tuple #[.agg (List.toArray ds), .bool f], .agg (List.toArray ds), .bool f, .pointer (some ⟨na, 5, none⟩), .slice al L.length cl, .int .i64 (L.length : Int), .int .i64 (j : Int), .bool true, .pointer (some ((hd al).add (j * 6))), .agg (List.toArray cx), .agg (List.toArray cx), .slice (some ⟨qk, 0, none⟩) 3 3, .bool true, .bool false, u8, .pointer (some ⟨qx, 5, none⟩), .slice (some ax) 3 cx2, .pointer (some ax), .pointer (some ⟨ax.block, ax.off + 3, none⟩), .string (str x0.text), .pointer (some ⟨qx, 5, none⟩), .slice (some ax) 3 cx2, .pointer (some (ax.add 6)), .pointer (some ⟨ax.block, ax.off + 6 + 2, none⟩), .slice (some ab) 32 cb, .pointer (some ab), .agg (List.toArray (x1.bytes.map b8)), .pointer (some ⟨qx, 5, none⟩), .slice (some ax) 3 cx2, .pointer (some (ax.add 12)), .pointer (some ⟨ax.block, ax.off + 12 + 1, none⟩), .int .i64 x2.int, .agg (List.toArray XC), .slice (some ⟨g, 0, none⟩) 1 1, .slice a' (j + 1) c', u56, undef, undef, undef, undef, undef, undef, undef, undef, undef, undef, undef], []⟩) rfl rfl (run_append hrun rfl rfl rfl) rfl ?_
      have hG : Gro w9 w10 u8 (.slice a' (j + 1) c') := ⟨hG10, hK10⟩
      have hb39 := hb36.trans ((Below.drewN' hm69).mono hb36.size)
      have hb310 := hb39.trans (hG.below (base := W3.heap.size) (fun k hk => (hOlt k hk).1) (Nat.le_refl _) hb39.size)
      have hS9 := hSm #[] _ _ hS0 hm69
      have hS10 : (Blk w10 qx 63 cx ∧ Row w10 (some ax) (List.flatten [e0, e1, e2]) ∧ Row w10 (some ab) (x1.bytes.map b8)) := ⟨(hG.blk hS9.1 (fun e => Nat.lt_irrefl _ (Nat.lt_of_lt_of_le (hOlt _ e).2 (Nat.le_refl _)))).1, hS9.2.1.keptFar hG10 (fun _ e => absurd (hOlt _ e).1 (Nat.not_le_of_lt lax)), hS9.2.2.keptFar hG10 (fun _ e => absurd (hOlt _ e).1 (Nat.not_le_of_lt lab))⟩
      refine ⟨hS10, ?_⟩
      refine wpAnyU_take (i := 21) (A := fun _ => True) (v := .slice a' (j + 1) c') (a' := ⟨#[.slice a n c, undef, u2, u3, .pointer (some ⟨nv, 0, none⟩), .int .i64 0, .pointer (some ⟨na, 0, none⟩), .bool f, .slice a' (j + 1) c', undef, .pointer (some ⟨qx, 0, none⟩), .tuple #[.agg (List.toArray cs), .int .i64 0], .slice a n c, .tuple #[.agg (List.toArray cs), .int .i64 0], .agg (List.toArray cs), .int .i64 0, .int .i64 0, .bool false, undef, .tuple #[.agg (List.toArray ds), .bool f], .agg (List.toArray cs), .tuple #[.agg (List.toArray ds), .bool f], .agg (List.toArray ds), .bool f, .pointer (some ⟨na, 5, none⟩), .slice al L.length cl, .int .i64 (L.length : Int), .int .i64 (j : Int), .bool true, .pointer (some ((hd al).add (j * 6))), .agg (List.toArray cx), .agg (List.toArray cx), .slice (some ⟨qk, 0, none⟩) 3 3, .bool true, .bool false, u8, .pointer (some ⟨qx, 5, none⟩), .slice (some ax) 3 cx2, .pointer (some ax), .pointer (some ⟨ax.block, ax.off + 3, none⟩), .string (str x0.text), .pointer (some ⟨qx, 5, none⟩), .slice (some ax) 3 cx2, .pointer (some (ax.add 6)), .pointer (some ⟨ax.block, ax.off + 6 + 2, none⟩), .slice (some ab) 32 cb, .pointer (some ab), .agg (List.toArray (x1.bytes.map b8)), .pointer (some ⟨qx, 5, none⟩), .slice (some ax) 3 cx2, .pointer (some (ax.add 12)), .pointer (some ⟨ax.block, ax.off + 12 + 1, none⟩), .int .i64 x2.int, .agg (List.toArray XC), .slice (some ⟨g, 0, none⟩) 1 1, .slice a' (j + 1) c', u56, undef, undef, undef, undef, undef, undef, undef, undef, undef, undef, undef], []⟩) hSm (hSi 21 (by decide)) (fun _ _ _ => trivial) rfl (by kernel_rfl) (by kernel_rfl) (by kernel_rfl) (fun _ _ _ h => h) hS10 (Tame.val rfl (fun w' hA => by go_simp)) rfl ?_
      refine wpAnyU_done (by kernel_rfl) ?_ _
      intro w12 hm12
      have hb312 := Lib.hid (hb310.trans (hm12.mono hb310.size))
      have hO12 : Hid (w12.ownsRow W3.heap.size 31 37 (.slice a' (j + 1) c') (j + 1) (((L.take (j + 1)).map fun x => abtC (abtOf x)).flatten)) := by
        show _
        rw [hT.out, ← hXa, hXCd']
        exact ownsRow_below hO10 hm12
      have hAll2 : Hid (∀ y ∈ L.take (j + 1), isV y [5, 4, 3] = true) := by
        show ∀ y ∈ _, _
        rw [hT2.out]
        intro y hy
        rcases List.mem_append.1 hy with h | h
        · exact hAll.out y h
        · simp at h; subst h; exact hIH.out
      clear hm12 hb310 hb39 hG hG10 hK10 hO10 hrun hsrc hB9 hO9 hm69 hm68 hS0 hS9 hS10 hSm hSi hxt
      go_wp2
      first
        | exact ⟨⟨j + 1, by omega, (by first | rfl | go_num | (congr 1; omega)), hAll2, hO12, hb312⟩, by simp [intOf] <;> omega⟩
        | (refine ⟨?_, by simp [intOf] <;> omega⟩; (repeat apply Exists.intro); exact ⟨⟨j + 1, by omega, (by first | rfl | go_num | (congr 1; omega)), hAll2, hO12, hb312⟩, rfl⟩)
    · obtain rfl : j = L.length := by omega
      have j1 : ¬ (L.length : Int) < (L.length : Int) := by omega
      have hO1 := hO.out
      rw [List.take_length] at hO1
      obtain ⟨ao, co, rfl, _, _, hrow, _⟩ := owns_rowN hO1 (by decide)
      obtain ⟨OUT, hOUT⟩ : ∃ OUT, OUT = L.map abtOf := ⟨_, rfl⟩
      have hrowO : Row wr ao (OUT.map abtC).flatten := by rw [hOUT, List.map_map]; exact hrow
      have hlenO : L.length = OUT.length := by simp [hOUT]
      have hokO : ∀ x ∈ OUT, AbtOk x := by
        rw [hOUT]
        intro y hy
        obtain ⟨x, hx, rfl⟩ := List.mem_map.1 hy
        obtain ⟨i, hi, rfl⟩ := List.mem_iff_getElem.1 hx
        exact abtOf_ok (sub i css[i] L[i] (by simp [hcs, hi]) (by simp [hi]))
      have hok : Hid (lstOk v = (decide (checkL OUT = 0) && sameV (listV OUT) v)) := by show _ = _; rw [lstOk_all, ← HLd.out, hOUT]
      have hout : Hid (OUT.length ≤ 70 → lstOut v = OUT) := by
        show _ → _
        intro h
        rw [hOUT, HLd.out]
        exact lstOut_all (by rw [← HLd.out, hlenO]; exact h)
      have hck := fun w' (hb : Below wr.heap.size wr w') => checkList_all (a := ao) (c := co) hlenO (hrowO.below hb) hokO (by omega)
      have hB := HB1.out.below hbr.out
      have hVr := HV3.out.keep hbr.out
      have hq := fun w' (hb : Below wr.heap.size wr w') => ldOp_all (P := Try.prog) (ty := 63) (hB.below hb) Try.underlying63 rfl (by rw [hVr.len]; exact sizeV)
      have hcur : Below wr.heap.size wr wr.drew := Gr.drewN wr 1
      have s1 := hq _ hcur
      have hbw := G0.out.trans (hbr.out.mono G0.out.size)
      have HROW := Lib.hid hrowO
      clear hO1 hO hrow hOUT hAll
      by_cases hc0 : checkL OUT = 0
      case neg =>
        have hRR : Hid (lstR l = ([], 4)) := by show _ = _; rw [hR.out, hok.out, decide_eq_false hc0]; rfl
        have t1 : (checkL OUT != 0) = true := by simpa using hc0
        generalize checkL OUT = C at *
        clear hrowO hlenO hokO hok hout hB hVr hcur s1 hq
        go_upto_region 13 with (fail)
        have hSm : ∀ (L : Array Bool) (w1 w2 : World), Mo (wr.drewN 1) w1 → Mo w1 w2 → Mo (wr.drewN 1) w2 := fun _ w1 w2 h hm => Mo.trans h hm
        have hSi : ∀ i, i ≠ 99 → ∀ (L : Array Bool) (w1 : World), Mo (wr.drewN 1) w1 ↔ Mo (wr.drewN 1) w1 := fun _ _ _ _ => Iff.rfl
        have hS0 := Mo.refl (wr.drewN 1)
        refine wp_region_upN (S := fun _ w1 => Mo (wr.drewN 1) w1) 10 rfl (by kernel_rfl) ?_
        refine wpAnyU_take (i := 0) (A := fun _ => True) (v := .slice ao L.length co) (a' := ⟨#[.slice a n c, undef, u2, u3, .pointer (some ⟨nv, 0, none⟩), .int .i64 0, .pointer (some ⟨na, 0, none⟩), .bool f, .slice ao L.length co, undef, u10, .tuple #[.agg (List.toArray cs), .int .i64 0], .slice a n c, .tuple #[.agg (List.toArray cs), .int .i64 0], .agg (List.toArray cs), .int .i64 0, .int .i64 0, .bool false, undef, .tuple #[.agg (List.toArray ds), .bool f], .agg (List.toArray cs), .tuple #[.agg (List.toArray ds), .bool f], .agg (List.toArray ds), .bool f, .pointer (some ⟨na, 5, none⟩), .slice al L.length cl, .int .i64 (L.length : Int), .int .i64 (L.length : Int), .bool false, u29, u30, u31, u32, u33, u34, u35, u36, u37, u38, u39, u40, u41, u42, u43, u44, u45, u46, u47, u48, u49, u50, u51, u52, u53, u54, u55, u56, .slice ao L.length co, undef, undef, undef, undef, undef, undef, undef, undef, undef, undef], []⟩) hSm (hSi 0 (by decide)) (fun _ _ _ => trivial) rfl (by kernel_rfl) (by kernel_rfl) (by kernel_rfl) (fun _ _ _ h => h) hS0 (Tame.val rfl (fun w' hA => by go_simp)) rfl ?_
        refine wpAnyU_take (i := 1) (A := fun w1 => Mo (wr.drewN 1) w1) (v := .int .i64 C) (a' := ⟨#[.slice a n c, undef, u2, u3, .pointer (some ⟨nv, 0, none⟩), .int .i64 0, .pointer (some ⟨na, 0, none⟩), .bool f, .slice ao L.length co, undef, u10, .tuple #[.agg (List.toArray cs), .int .i64 0], .slice a n c, .tuple #[.agg (List.toArray cs), .int .i64 0], .agg (List.toArray cs), .int .i64 0, .int .i64 0, .bool false, undef, .tuple #[.agg (List.toArray ds), .bool f], .agg (List.toArray cs), .tuple #[.agg (List.toArray ds), .bool f], .agg (List.toArray ds), .bool f, .pointer (some ⟨na, 5, none⟩), .slice al L.length cl, .int .i64 (L.length : Int), .int .i64 (L.length : Int), .bool false, u29, u30, u31, u32, u33, u34, u35, u36, u37, u38, u39, u40, u41, u42, u43, u44, u45, u46, u47, u48, u49, u50, u51, u52, u53, u54, u55, u56, .slice ao L.length co, .int .i64 C, undef, undef, undef, undef, undef, undef, undef, undef, undef], []⟩) hSm (hSi 1 (by decide)) (fun _ _ h => h) rfl (by kernel_rfl) (by kernel_rfl) (by kernel_rfl) (fun _ _ _ h => h) hS0 (Tame.enter rfl (fun w' => by go_simp) (fun w' hA => hck w' (Below.drewN' hA))) rfl ?_
        refine wpAnyU_take (i := 2) (A := fun _ => True) (v := .bool true) (a' := ⟨#[.slice a n c, undef, u2, u3, .pointer (some ⟨nv, 0, none⟩), .int .i64 0, .pointer (some ⟨na, 0, none⟩), .bool f, .slice ao L.length co, undef, u10, .tuple #[.agg (List.toArray cs), .int .i64 0], .slice a n c, .tuple #[.agg (List.toArray cs), .int .i64 0], .agg (List.toArray cs), .int .i64 0, .int .i64 0, .bool false, undef, .tuple #[.agg (List.toArray ds), .bool f], .agg (List.toArray cs), .tuple #[.agg (List.toArray ds), .bool f], .agg (List.toArray ds), .bool f, .pointer (some ⟨na, 5, none⟩), .slice al L.length cl, .int .i64 (L.length : Int), .int .i64 (L.length : Int), .bool false, u29, u30, u31, u32, u33, u34, u35, u36, u37, u38, u39, u40, u41, u42, u43, u44, u45, u46, u47, u48, u49, u50, u51, u52, u53, u54, u55, u56, .slice ao L.length co, .int .i64 C, .bool true, undef, undef, undef, undef, undef, undef, undef, undef], []⟩) hSm (hSi 2 (by decide)) (fun _ _ _ => trivial) rfl (by kernel_rfl) (by kernel_rfl) (by kernel_rfl) (fun _ _ _ h => h) hS0 (Tame.val rfl (fun w' hA => by go_simp)) rfl ?_
        refine wpAnyU_take (i := 3) (A := fun _ => True) (v := .bool true) (a' := ⟨#[.slice a n c, undef, u2, u3, .pointer (some ⟨nv, 0, none⟩), .int .i64 0, .pointer (some ⟨na, 0, none⟩), .bool f, .slice ao L.length co, undef, u10, .tuple #[.agg (List.toArray cs), .int .i64 0], .slice a n c, .tuple #[.agg (List.toArray cs), .int .i64 0], .agg (List.toArray cs), .int .i64 0, .int .i64 0, .bool false, undef, .tuple #[.agg (List.toArray ds), .bool f], .agg (List.toArray cs), .tuple #[.agg (List.toArray ds), .bool f], .agg (List.toArray ds), .bool f, .pointer (some ⟨na, 5, none⟩), .slice al L.length cl, .int .i64 (L.length : Int), .int .i64 (L.length : Int), .bool false, u29, u30, u31, u32, u33, u34, u35, u36, u37, u38, u39, u40, u41, u42, u43, u44, u45, u46, u47, u48, u49, u50, u51, u52, u53, u54, u55, u56, .slice ao L.length co, .int .i64 C, .bool true, .bool true, undef, undef, undef, undef, undef, undef, undef], []⟩) hSm (hSi 3 (by decide)) (fun _ _ _ => trivial) rfl (by kernel_rfl) (by kernel_rfl) (by kernel_rfl) (fun _ _ _ h => h) hS0 (Tame.val rfl (fun w' hA => by go_simp)) rfl ?_
        refine wpAnyU_take (i := 4) (A := fun _ => True) (v := undef) (a' := ⟨#[.slice a n c, undef, u2, u3, .pointer (some ⟨nv, 0, none⟩), .int .i64 0, .pointer (some ⟨na, 0, none⟩), .bool f, .slice ao L.length co, undef, u10, .tuple #[.agg (List.toArray cs), .int .i64 0], .slice a n c, .tuple #[.agg (List.toArray cs), .int .i64 0], .agg (List.toArray cs), .int .i64 0, .int .i64 0, .bool false, undef, .tuple #[.agg (List.toArray ds), .bool f], .agg (List.toArray cs), .tuple #[.agg (List.toArray ds), .bool f], .agg (List.toArray ds), .bool f, .pointer (some ⟨na, 5, none⟩), .slice al L.length cl, .int .i64 (L.length : Int), .int .i64 (L.length : Int), .bool false, u29, u30, u31, u32, u33, u34, u35, u36, u37, u38, u39, u40, u41, u42, u43, u44, u45, u46, u47, u48, u49, u50, u51, u52, u53, u54, u55, u56, .slice ao L.length co, .int .i64 C, .bool true, .bool true, undef, undef, undef, undef, undef, undef, undef], []⟩) hSm (hSi 4 (by decide)) (fun _ _ _ => trivial) rfl (by kernel_rfl) (by kernel_rfl) (by kernel_rfl) (fun _ _ _ h => h) hS0 (.inr ⟨by rfl, rfl⟩) rfl ?_
        refine wpAnyU_take (i := 5) (A := fun _ => True) (v := undef) (a' := ⟨#[.slice a n c, undef, u2, u3, .pointer (some ⟨nv, 0, none⟩), .int .i64 0, .pointer (some ⟨na, 0, none⟩), .bool f, .slice ao L.length co, undef, u10, .tuple #[.agg (List.toArray cs), .int .i64 0], .slice a n c, .tuple #[.agg (List.toArray cs), .int .i64 0], .agg (List.toArray cs), .int .i64 0, .int .i64 0, .bool false, undef, .tuple #[.agg (List.toArray ds), .bool f], .agg (List.toArray cs), .tuple #[.agg (List.toArray ds), .bool f], .agg (List.toArray ds), .bool f, .pointer (some ⟨na, 5, none⟩), .slice al L.length cl, .int .i64 (L.length : Int), .int .i64 (L.length : Int), .bool false, u29, u30, u31, u32, u33, u34, u35, u36, u37, u38, u39, u40, u41, u42, u43, u44, u45, u46, u47, u48, u49, u50, u51, u52, u53, u54, u55, u56, .slice ao L.length co, .int .i64 C, .bool true, .bool true, undef, undef, undef, undef, undef, undef, undef], []⟩) hSm (hSi 5 (by decide)) (fun _ _ _ => trivial) rfl (by kernel_rfl) (by kernel_rfl) (by kernel_rfl) (fun _ _ _ h => h) hS0 (.inr ⟨by rfl, rfl⟩) rfl ?_
        refine wpAnyU_take (i := 6) (A := fun _ => True) (v := undef) (a' := ⟨#[.slice a n c, undef, u2, u3, .pointer (some ⟨nv, 0, none⟩), .int .i64 0, .pointer (some ⟨na, 0, none⟩), .bool f, .slice ao L.length co, undef, u10, .tuple #[.agg (List.toArray cs), .int .i64 0], .slice a n c, .tuple #[.agg (List.toArray cs), .int .i64 0], .agg (List.toArray cs), .int .i64 0, .int .i64 0, .bool false, undef, .tuple #[.agg (List.toArray ds), .bool f], .agg (List.toArray cs), .tuple #[.agg (List.toArray ds), .bool f], .agg (List.toArray ds), .bool f, .pointer (some ⟨na, 5, none⟩), .slice al L.length cl, .int .i64 (L.length : Int), .int .i64 (L.length : Int), .bool false, u29, u30, u31, u32, u33, u34, u35, u36, u37, u38, u39, u40, u41, u42, u43, u44, u45, u46, u47, u48, u49, u50, u51, u52, u53, u54, u55, u56, .slice ao L.length co, .int .i64 C, .bool true, .bool true, undef, undef, undef, undef, undef, undef, undef], []⟩) hSm (hSi 6 (by decide)) (fun _ _ _ => trivial) rfl (by kernel_rfl) (by kernel_rfl) (by kernel_rfl) (fun _ _ _ h => h) hS0 (.inr ⟨by rfl, rfl⟩) rfl ?_
        refine wpAnyU_take (i := 7) (A := fun _ => True) (v := undef) (a' := ⟨#[.slice a n c, undef, u2, u3, .pointer (some ⟨nv, 0, none⟩), .int .i64 0, .pointer (some ⟨na, 0, none⟩), .bool f, .slice ao L.length co, undef, u10, .tuple #[.agg (List.toArray cs), .int .i64 0], .slice a n c, .tuple #[.agg (List.toArray cs), .int .i64 0], .agg (List.toArray cs), .int .i64 0, .int .i64 0, .bool false, undef, .tuple #[.agg (List.toArray ds), .bool f], .agg (List.toArray cs), .tuple #[.agg (List.toArray ds), .bool f], .agg (List.toArray ds), .bool f, .pointer (some ⟨na, 5, none⟩), .slice al L.length cl, .int .i64 (L.length : Int), .int .i64 (L.length : Int), .bool false, u29, u30, u31, u32, u33, u34, u35, u36, u37, u38, u39, u40, u41, u42, u43, u44, u45, u46, u47, u48, u49, u50, u51, u52, u53, u54, u55, u56, .slice ao L.length co, .int .i64 C, .bool true, .bool true, undef, undef, undef, undef, undef, undef, undef], []⟩) hSm (hSi 7 (by decide)) (fun _ _ _ => trivial) rfl (by kernel_rfl) (by kernel_rfl) (by kernel_rfl) (fun _ _ _ h => h) hS0 (.inr ⟨by rfl, rfl⟩) rfl ?_
        refine wpAnyU_take (i := 8) (A := fun _ => True) (v := undef) (a' := ⟨#[.slice a n c, undef, u2, u3, .pointer (some ⟨nv, 0, none⟩), .int .i64 0, .pointer (some ⟨na, 0, none⟩), .bool f, .slice ao L.length co, undef, u10, .tuple #[.agg (List.toArray cs), .int .i64 0], .slice a n c, .tuple #[.agg (List.toArray cs), .int .i64 0], .agg (List.toArray cs), .int .i64 0, .int .i64 0, .bool false, undef, .tuple #[.agg (List.toArray ds), .bool f], .agg (List.toArray cs), .tuple #[.agg (List.toArray ds), .bool f], .agg (List.toArray ds), .bool f, .pointer (some ⟨na, 5, none⟩), .slice al L.length cl, .int .i64 (L.length : Int), .int .i64 (L.length : Int), .bool false, u29, u30, u31, u32, u33, u34, u35, u36, u37, u38, u39, u40, u41, u42, u43, u44, u45, u46, u47, u48, u49, u50, u51, u52, u53, u54, u55, u56, .slice ao L.length co, .int .i64 C, .bool true, .bool true, undef, undef, undef, undef, undef, undef, undef], []⟩) hSm (hSi 8 (by decide)) (fun _ _ _ => trivial) rfl (by kernel_rfl) (by kernel_rfl) (by kernel_rfl) (fun _ _ _ h => h) hS0 (.inr ⟨by rfl, rfl⟩) rfl ?_
        refine wpAnyU_take (i := 9) (A := fun _ => True) (v := .bool true) (a' := ⟨#[.slice a n c, undef, u2, u3, .pointer (some ⟨nv, 0, none⟩), .int .i64 0, .pointer (some ⟨na, 0, none⟩), .bool f, .slice ao L.length co, undef, u10, .tuple #[.agg (List.toArray cs), .int .i64 0], .slice a n c, .tuple #[.agg (List.toArray cs), .int .i64 0], .agg (List.toArray cs), .int .i64 0, .int .i64 0, .bool false, undef, .tuple #[.agg (List.toArray ds), .bool f], .agg (List.toArray cs), .tuple #[.agg (List.toArray ds), .bool f], .agg (List.toArray ds), .bool f, .pointer (some ⟨na, 5, none⟩), .slice al L.length cl, .int .i64 (L.length : Int), .int .i64 (L.length : Int), .bool false, u29, u30, u31, u32, u33, u34, u35, u36, u37, u38, u39, u40, u41, u42, u43, u44, u45, u46, u47, u48, u49, u50, u51, u52, u53, u54, u55, u56, .slice ao L.length co, .int .i64 C, .bool true, .bool true, undef, undef, undef, undef, undef, .bool true, undef], []⟩) hSm (hSi 9 (by decide)) (fun _ _ _ => trivial) rfl (by kernel_rfl) (by kernel_rfl) (by kernel_rfl) (fun _ _ _ h => h) hS0 (Tame.val rfl (fun w' hA => by go_simp)) rfl ?_
        refine wpAnyU_done (by kernel_rfl) ?_ _
        intro w12 hm12
        have hcur := Below.drewN' hm12
        clear hSm hSi hS0 hm12
        go_wp2
        go_ret2
        exact ⟨none, 0, by rw [hRR.out]; rfl, by rw [hRR.out]; exact Row.nil _ _, hbw.trans (hcur.mono hbw.size)⟩
      case pos =>
        have h64 : OUT.length ≤ 64 := by
          rcases Nat.lt_or_ge 64 OUT.length with h | h
          · rw [checkL_long h] at hc0; exact absurd hc0 (by omega)
          · exact h
        have hlv := fun w' (hb : Below wr.heap.size wr w') => listValue_any (c := co) hlenO (hrowO.below hb) hokO (by omega)
        have hvw := fun w' (hb : Below wr.heap.size wr w') => hVr.keep hb
        have hRR : Hid (lstR l = if sameV (listV OUT) v = true then (OUT, 0) else ([], 4)) := by
          show _ = _
          rw [hR.out, hok.out, decide_eq_true hc0, hout.out (by omega)]; rfl
        have HLO := Lib.hid hlenO
        rw [hc0] at hck
        obtain ⟨S, hS⟩ : ∃ S, S = sameV (listV OUT) v := ⟨_, rfl⟩
        have hps := fun (w' : World) (c2 : List Value) (h : VAt w' c2 (listV OUT)) (hb : Below wr.heap.size wr w') => psame_any h _ _ w' (hvw _ hb) (Below.refl _ _)
        rw [← hS] at hRR hps
        clear hS hrowO hlenO hokO hok hout hc0 hB hVr hvw
        generalize listV OUT = lo at *
        go_upto_region 13 with (fail)
        cases S
        all_goals
          go_region_held3 (fun w' => (ldOp 63 (.pointer (some ⟨nv, 0, none⟩))).run Try.prog w' = .ok (.agg (List.toArray cs)) w') (first | assumption | go_keep) (first
            | (go_at_call 28; refine (hck _ hcur).mono ?_; rintro e ws ⟨rfl, hbs⟩; have hcur := hcur.trans (hbs.mono hcur.size); have s1 := hq _ hcur)
            | (go_at_call 30; refine (hlv _ hcur).mono ?_; rintro e ws ⟨c2, rfl, hc2, hbs⟩; have hcur := hcur.trans (hbs.mono hcur.size); have s1 := hq _ hcur; have hc2' := hc2.at)
            | (go_at_call 41; refine (hps _ _ hc2' hcur).mono ?_; rintro e ws ⟨rfl, hbs⟩; have hcur := hcur.trans (hbs.mono hcur.size); have s1 := hq _ hcur))
        all_goals
          go_wp2
          go_ret2
          first
            | exact ⟨none, 0, by rw [hRR.out]; rfl, by rw [hRR.out]; exact Row.nil _ _, hbw.trans (hcur.mono hbw.size)⟩
            | exact ⟨ao, co, by rw [hRR.out, HLO.out]; rfl, by rw [hRR.out]; exact HROW.out.below hcur, hbw.trans (hcur.mono hbw.size)⟩
end Go.Proofs.Ytakliplkabgmbaa
