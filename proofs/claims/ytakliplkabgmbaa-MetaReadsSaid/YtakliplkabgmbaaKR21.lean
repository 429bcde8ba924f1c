/- Joined: what one statement of this layer stands on, part 21 of 25; nothing is assumed. -/
import Derived.Test.YtakliplkabgmbaaKR13
import Derived.Test.YtakliplkabgmbaaKR14
import Derived.Test.YtakliplkabgmbaaKR17
import Derived.Test.YtakliplkabgmbaaKR20
set_option maxRecDepth 20000
namespace Go.Proofs.Ytakliplkabgmbaa
open Go.RowKit Go.Hd
attribute [local go_sem ↓] h_ldV h_stV h_alV h_ldID h_stID h_alID h_ldAB h_stAB h_alAB h_bsAB h_bdAB
attribute [local go_sem] r_ldV r_stV r_alV r_ldID r_stID r_alID r_ldAB r_stAB r_alAB r_bsAB
theorem fieldV3 {a0 a1 a2 a4 a5 : Value} {s : ByteArray} {w : World} : (Instr.field 63 (.agg #[a0, a1, a2, .string s, a4, a5]) 3).run Try.prog w = .ok (.string s) w := by
  unfold Instr.field
  have hu := Try.underlying63
  simp [Sem.run_bind, Go.underlying, Go.Sem.run_pure, hu, asAgg, part]
theorem fieldV1 {a0 a2 a3 a4 a5 : Value} {n : Int} {w : World} : (Instr.field 63 (.agg #[a0, .int .i64 n, a2, a3, a4, a5]) 1).run Try.prog w = .ok (.int .i64 n) w := by
  unfold Instr.field
  have hu := Try.underlying63
  simp [Sem.run_bind, Go.underlying, Go.Sem.run_pure, hu, asAgg, part]
attribute [local go_sem] fieldV3 fieldV1
theorem atV_sm {x : PV} (h : Sm x) (i : Nat) : (atV x i).bytes.length ≤ 65536 := by
  by_cases hi : i < x.list.length
  · have h1 : atV x i = x.list[i] := by unfold atV; simp [hi]
    rw [h1]
    have := Sm.sub h _ (List.getElem_mem hi)
    generalize x.list[i] = y at *
    cases this with
    | mk a b c d _ => exact a
  · have h1 : atV x i = pv0 := by unfold atV; simp [hi]
    rw [h1]
    exact Nat.zero_le _
theorem atV_txt {x : PV} (h : Sm x) (i : Nat) : (atV x i).text.length ≤ 65536 := by
  by_cases hi : i < x.list.length
  · have h1 : atV x i = x.list[i] := by unfold atV; simp [hi]
    rw [h1]
    exact Sm.text (Sm.sub h _ (List.getElem_mem hi))
  · have h1 : atV x i = pv0 := by unfold atV; simp [hi]
    rw [h1]
    exact Nat.zero_le _
set_option maxHeartbeats 2000000 in
theorem rReadList_any {a : Option Addr} {n c : Nat} {l : List UInt8} {w : World} (hn : n = l.length) (hl : Row w a (l.map b8)) (hc : l.length ≤ c) (hm : c ≤ maxLen) :
    Calls Try.prog 22 #[.slice a n c] w (RdListP w l) := by
  have zs := zV_size
  have hdec := rdec_any (c := c) hn hl hc hm
  clear hn hl hc hm
  have hSm := decF_sm l
  have hRL : Hid (lstR l = if (decF l).2 ≠ 0 then ([], (decF l).2) else if lstOk (decF l).1 = true then (lstOut (decF l).1, 0) else ([], 4)) := rfl
  go_enter Try.func22, Try.ntmps22
  go_wp2_with fail
  refine hdec.mono ?_
  rintro e w1 ⟨cs, rfl, hv, hb1⟩
  have x6 : (List.toArray cs).size = 6 := hv.len
  have xo : OneC (List.toArray cs) := all_oneCell_toArray hv.one
  have hnorm : (decF l).2 = 0 → normV (decF l).1 = (decF l).1 := decF_norm (VAt.okV hv.at)
  generalize decF l = D at *
  obtain ⟨v, E⟩ := D
  simp only at hv hSm hnorm hRL ⊢
  by_cases hE : E = 0
  case neg =>
    have t1 : (E != 0) = true := by simpa using hE
    have hR : Hid (lstR l = ([], E)) := by show _ = _; rw [hRL.out, if_pos hE]
    go_wp2
    go_ret2
    have hb2 : Below w.heap.size w (w1.alloc (.cells (List.toArray cs) 63)) := hb1.alloc hb1.size _
    exact ⟨none, 0, by rw [hR.out]; rfl, by rw [hR.out]; exact Row.nil _ _, hb2⟩
  case pos =>
  subst hE
  have hR : Hid (lstR l = if lstOk v = true then (lstOut v, 0) else ([], 4)) := by show _ = _; rw [hRL.out, if_neg (by simp)]
  have hnv := hnorm rfl
  have hget := fun w' (hb : Below w1.heap.size w1 w') => field_any [97] hv.at hSm w' hb
  have hgf := fld_norm hnv [97]
  have hsmA := getV_sm hSm [97] hgf
  rw [hgf] at hsmA
  clear hnorm hRL hdec
  have hB1 : Blk (w1.alloc (.cells (List.toArray cs) 63)) w1.heap.size 63 cs := Blk.new _ _ _
  have hb1' : Below w1.heap.size w1 (w1.alloc (.cells (List.toArray cs) 63)) := (Below.refl _ _).alloc (Nat.le_refl _) _
  go_wp2_with fail
  refine (hget _ hb1').mono ?_
  rintro e w2 ⟨ds, rfl, hds, hb2⟩
  have d6 : (List.toArray ds).size = 6 := hds.len
  have do_ : OneC (List.toArray ds) := all_oneCell_toArray hds.one
  have hB3 : Blk (w2.alloc (.cells (List.toArray ds) 63)) w2.heap.size 63 ds := Blk.new _ _ _
  have hb3 : Below w2.heap.size w2 (w2.alloc (.cells (List.toArray ds) 63)) := (Below.refl _ _).alloc (Nat.le_refl _) _
  have hbW : Below w1.heap.size w1 (w2.alloc (.cells (List.toArray ds) 63)) := hb1'.trans ((hb2.mono (by simp)).trans (hb3.mono (by have := hb2.size; simp at this; omega)))
  have hB1' := (hB1.below hb2).below hb3
  have hd3 := hds.keep hb3
  obtain ⟨L, hL⟩ : ∃ L, L = (fldV v [97]).list := ⟨_, rfl⟩
  obtain ⟨u0, u1, u2, u3, u4, al, cl, css, hcd, hcs, hal, h6, sub⟩ := VAt.cellsL hd3
  have hLs := Sm.list hsmA
  have hsubS := Sm.sub hsmA
  rw [← hL] at hcs sub hLs hsubS hcd
  have hcdH := Lib.hid hcd
  have hbw3 : Below w.heap.size w (w2.alloc (.cells (List.toArray ds) 63)) := hb1.trans (hbW.mono hb1.size)
  have HLd := Lib.hid hL
  clear hcd hL
  go_upto_region 5 with (fail)
  generalize w2.alloc (.cells (List.toArray ds) 63) = W3 at *
  have HB1 := Lib.hid hB1'
  have HB3 := Lib.hid hB3
  have HAL := Lib.hid hal
  have G0 := Lib.hid hbw3
  have HV3 := Lib.hid (hv.at.keep hbW)
  clear hd3 hB3 hb3 hds hb2 hget hb1' hB1 hB1' hal hbw3 hbW hb1 hv do_ d6 xo x6
  generalize w2.heap.size = na at *
  generalize w1.heap.size = nv at *
  have HL := Lib.hid hLs
  go_wp2
  go_loopw [7, 8] (fun u i wr => ∃ j : Nat, j ≤ L.length ∧ j ≤ 70 ∧ i = .int .i64 j ∧ Hid (wr.ownsRow W3.heap.size 31 37 u j (((L.take j).map fun x => abtC (abtOf x)).flatten)) ∧ Hid (Below W3.heap.size W3 wr)) (fun _ i _ => L.length - (intOf i).toNat)
  case atStart => exact ⟨0, Nat.zero_le _, Nat.zero_le _, rfl, Lib.hid ⟨rfl, .inl ⟨rfl, rfl⟩⟩, Lib.hid (Below.refl _ _)⟩
  case round =>
    obtain ⟨j, hj, hj70, rfl, hO, hbr⟩ := hrel
    have j0 : (0 : Int) ≤ (j : Int) := by omega
    have jb : IntKind.i64.wrap ((j : Int) + 1) = (j : Int) + 1 := IntWalk.i64_in _ (by omega)
    have c5 : wr.cell? ⟨na, 5, none⟩ = some (.slice al L.length cl) := (HB3.out.below hbr.out).cell (by rw [hcdH.out]; rfl)
    by_cases hlt : j < L.length
    case pos =>
      have j1 : (j : Int) < (L.length : Int) := by omega
      by_cases hlt7 : j < 70
      case pos =>
        have j7 : (j : Int) < 70 := by omega
        have hr2 := HAL.out.below hbr.out
        have s6 := hr2.elemSome (s := 6) h6 (by decide) (i := j) (by omega)
        have hxc := sub j css[j] L[j] (by simp [hcs, hlt]) (by simp [hlt])
        have q1 := ldOp_at (P := Try.prog) (ty := 63) (hr2.elem (s := 6) h6 (i := j) (c := css[j]) (by simp [hcs, hlt])) Try.underlying63 rfl (by rw [hxc.len]; exact sizeV)
        have hT : Hid (((L.take (j + 1)).map fun x => abtC (abtOf x)).flatten = ((L.take j).map fun x => abtC (abtOf x)).flatten ++ abtC (abtOf L[j])) := by
          show _ = _
          rw [List.take_succ_eq_append_getElem hlt, List.map_append, List.flatten_append]; simp
        have hxm : L[j] ∈ L := List.getElem_mem hlt
        have hxs := hsubS _ hxm
        generalize L[j] = x at *
        generalize css[j] = cx at *
        have y1 : (List.toArray cx).size = 6 := by simpa using hxc.len
        have y2 : OneC (List.toArray cx) := all_oneCell_toArray hxc.one
        have hXB := Blk.new wr 63 (List.toArray cx)
        have hbx : Below wr.heap.size wr (wr.alloc (.cells (List.toArray cx) 63)) := (Below.refl _ _).alloc (Nat.le_refl _) _
        have hbx3 := hbr.out.trans (hbx.mono hbr.out.size)
        have hOx := ownsRow_below hO.out hbx
        have hOlt := World.ownsRow.lt hO.out
        clear hr2
        go_upto_region 10 with (fail)
        generalize hqx : wr.heap.size = qx at *
        generalize wr.alloc (.cells (List.toArray cx) 63) = W5 at *
        have hXB' : Blk W5 qx 63 cx := by simpa using hXB
        have hbd := fun {w' : World} => bd_abt (t := (atV x 0).text) (id := keyV (atV x 1).bytes) (tm := (atV x 2).int) (w := w') (keyV_len _)
        obtain ⟨XC, hXCd⟩ : ∃ XC, XC = abtC ⟨(atV x 0).text, keyV (atV x 1).bytes, (atV x 2).int, [], 0, 0⟩ := ⟨_, rfl⟩
        rw [← hXCd] at hbd
        have hXC : (List.toArray XC).size = 37 := by rw [hXCd]; simp [abtC, keyV_len]
        have hSm : ∀ (L : Array Bool) (w1 w2 : World), (Blk w1 qx 63 cx ∧ Below W3.heap.size W3 w1) → Mo w1 w2 → (Blk w2 qx 63 cx ∧ Below W3.heap.size W3 w2) := fun _ w1 w2 h hm => ⟨h.1.below hm, h.2.trans (hm.mono h.2.size)⟩
        have hSi : ∀ i, i ≠ 99 → ∀ (L : Array Bool) (w1 : World), (Blk w1 qx 63 cx ∧ Below W3.heap.size W3 w1) ↔ (Blk w1 qx 63 cx ∧ Below W3.heap.size W3 w1) := fun _ _ _ _ => Iff.rfl
        have hS0 : (Blk (W5.drewN 1) qx 63 cx ∧ Below W3.heap.size W3 (W5.drewN 1)) := ⟨hXB', Below.drewN hbx3 1⟩
        refine wp_region_upN (S := fun _ w1 => (Blk w1 qx 63 cx ∧ Below W3.heap.size W3 w1)) 14 rfl (by kernel_rfl) ?_
        refine wpAnyU_take (i := 0) (A := fun _ => True) (v := u7) (a' := ⟨#[.slice a n c, undef, .slice none 0 0, .int .i64 0, .pointer (some ⟨nv, 0, none⟩), .int .i64 0, .pointer (some ⟨na, 0, none⟩), u7, .int .i64 (j : Int), .pointer (some ⟨qx, 0, none⟩), .tuple #[.agg (List.toArray cs), .int .i64 0], .slice a n c, .tuple #[.agg (List.toArray cs), .int .i64 0], .agg (List.toArray cs), .int .i64 0, .int .i64 0, .bool false, undef, .agg (List.toArray cs), .agg (List.toArray ds), .int .i64 (j : Int), .pointer (some ⟨na, 5, none⟩), .slice al L.length cl, .int .i64 (L.length : Int), .bool true, .bool true, .int .i64 (j : Int), .bool true, .bool true, u29, u30, .pointer (some ⟨na, 5, none⟩), .slice al L.length cl, .int .i64 (j : Int), .pointer (some ((hd al).add (j * 6))), .agg (List.toArray cx), u7, u37, u38, u39, u40, u41, u42, u43, u44, u45, u46, u47, u48, undef, undef, undef, undef, undef, undef, undef, undef, undef, undef, undef], []⟩) hSm (hSi 0 (by decide)) (fun _ _ _ => trivial) rfl (by kernel_rfl) (by kernel_rfl) (by kernel_rfl) (fun _ _ _ h => h) hS0 (Tame.val rfl (fun w' hA => by go_simp)) rfl ?_
        refine wpAnyU_take (i := 1) (A := fun w1 => (Blk w1 qx 63 cx ∧ Below W3.heap.size W3 w1)) (v := .agg (List.toArray cx)) (a' := ⟨#[.slice a n c, undef, .slice none 0 0, .int .i64 0, .pointer (some ⟨nv, 0, none⟩), .int .i64 0, .pointer (some ⟨na, 0, none⟩), u7, .int .i64 (j : Int), .pointer (some ⟨qx, 0, none⟩), .tuple #[.agg (List.toArray cs), .int .i64 0], .slice a n c, .tuple #[.agg (List.toArray cs), .int .i64 0], .agg (List.toArray cs), .int .i64 0, .int .i64 0, .bool false, undef, .agg (List.toArray cs), .agg (List.toArray ds), .int .i64 (j : Int), .pointer (some ⟨na, 5, none⟩), .slice al L.length cl, .int .i64 (L.length : Int), .bool true, .bool true, .int .i64 (j : Int), .bool true, .bool true, u29, u30, .pointer (some ⟨na, 5, none⟩), .slice al L.length cl, .int .i64 (j : Int), .pointer (some ((hd al).add (j * 6))), .agg (List.toArray cx), u7, .agg (List.toArray cx), u38, u39, u40, u41, u42, u43, u44, u45, u46, u47, u48, undef, undef, undef, undef, undef, undef, undef, undef, undef, undef, undef], []⟩) hSm (hSi 1 (by decide)) (fun _ _ h => h) rfl (by kernel_rfl) (by kernel_rfl) (by kernel_rfl) (fun _ _ _ h => h) hS0 (Tame.val rfl (fun w' hA => run_ldOp (ldOp_all hA.1 Try.underlying63 rfl (by rw [hxc.len]; exact sizeV)))) rfl ?_
        refine wpAnyU_take (i := 4) (A := fun w1 => (Blk w1 qx 63 cx ∧ Below W3.heap.size W3 w1)) (v := .agg (List.toArray cx)) (a' := ⟨#[.slice a n c, undef, .slice none 0 0, .int .i64 0, .pointer (some ⟨nv, 0, none⟩), .int .i64 0, .pointer (some ⟨na, 0, none⟩), u7, .int .i64 (j : Int), .pointer (some ⟨qx, 0, none⟩), .tuple #[.agg (List.toArray cs), .int .i64 0], .slice a n c, .tuple #[.agg (List.toArray cs), .int .i64 0], .agg (List.toArray cs), .int .i64 0, .int .i64 0, .bool false, undef, .agg (List.toArray cs), .agg (List.toArray ds), .int .i64 (j : Int), .pointer (some ⟨na, 5, none⟩), .slice al L.length cl, .int .i64 (L.length : Int), .bool true, .bool true, .int .i64 (j : Int), .bool true, .bool true, u29, u30, .pointer (some ⟨na, 5, none⟩), .slice al L.length cl, .int .i64 (j : Int), .pointer (some ((hd al).add (j * 6))), .agg (List.toArray cx), u7, .agg (List.toArray cx), u38, u39, .agg (List.toArray cx), u41, u42, u43, u44, u45, u46, u47, u48, undef, undef, undef, undef, undef, undef, undef, undef, undef, undef, undef], []⟩) hSm (hSi 4 (by decide)) (fun _ _ h => h) rfl (by kernel_rfl) (by kernel_rfl) (by kernel_rfl) (fun _ _ _ h => h) hS0 (Tame.val rfl (fun w' hA => run_ldOp (ldOp_all hA.1 Try.underlying63 rfl (by rw [hxc.len]; exact sizeV)))) rfl ?_
        refine wpAnyU_take (i := 7) (A := fun w1 => (Blk w1 qx 63 cx ∧ Below W3.heap.size W3 w1)) (v := .agg (List.toArray cx)) (a' := ⟨#[.slice a n c, undef, .slice none 0 0, .int .i64 0, .pointer (some ⟨nv, 0, none⟩), .int .i64 0, .pointer (some ⟨na, 0, none⟩), u7, .int .i64 (j : Int), .pointer (some ⟨qx, 0, none⟩), .tuple #[.agg (List.toArray cs), .int .i64 0], .slice a n c, .tuple #[.agg (List.toArray cs), .int .i64 0], .agg (List.toArray cs), .int .i64 0, .int .i64 0, .bool false, undef, .agg (List.toArray cs), .agg (List.toArray ds), .int .i64 (j : Int), .pointer (some ⟨na, 5, none⟩), .slice al L.length cl, .int .i64 (L.length : Int), .bool true, .bool true, .int .i64 (j : Int), .bool true, .bool true, u29, u30, .pointer (some ⟨na, 5, none⟩), .slice al L.length cl, .int .i64 (j : Int), .pointer (some ((hd al).add (j * 6))), .agg (List.toArray cx), u7, .agg (List.toArray cx), u38, u39, .agg (List.toArray cx), u41, u42, .agg (List.toArray cx), u44, u45, u46, u47, u48, undef, undef, undef, undef, undef, undef, undef, undef, undef, undef, undef], []⟩) hSm (hSi 7 (by decide)) (fun _ _ h => h) rfl (by kernel_rfl) (by kernel_rfl) (by kernel_rfl) (fun _ _ _ h => h) hS0 (Tame.val rfl (fun w' hA => run_ldOp (ldOp_all hA.1 Try.underlying63 rfl (by rw [hxc.len]; exact sizeV)))) rfl ?_
        refine wpAnyU_all (rs := [2]) (by kernel_rfl) (by decide) ?_
        intro w6 hm6 i hi
        obtain rfl : i = 2 := by simpa using hi
        have hSw6 := hSm #[] _ _ hS0 hm6
        refine wpOp_enter (f := 44) (args := #[.agg (List.toArray cx), .int .i64 0]) rfl rfl (by go_simp) ((at_any 0 hxc w6 hSw6.2 (by decide)).mono ?_)
        rintro e w7 ⟨g0, rfl, hg0, hbw7⟩
        obtain ⟨g0_1, g0_2, g0_3, g0_4, rfl, _⟩ := VAt.all hg0
        have hSw7 := hSm #[] _ _ hSw6 hbw7
        refine ⟨_, rfl, ?_⟩
        show _ ∧ wpAnyU _ _ _ _ _ _ _ (⟨#[.slice a n c, undef, .slice none 0 0, .int .i64 0, .pointer (some ⟨nv, 0, none⟩), .int .i64 0, .pointer (some ⟨na, 0, none⟩), u7, .int .i64 (j : Int), .pointer (some ⟨qx, 0, none⟩), .tuple #[.agg (List.toArray cs), .int .i64 0], .slice a n c, .tuple #[.agg (List.toArray cs), .int .i64 0], .agg (List.toArray cs), .int .i64 0, .int .i64 0, .bool false, undef, .agg (List.toArray cs), .agg (List.toArray ds), .int .i64 (j : Int), .pointer (some ⟨na, 5, none⟩), .slice al L.length cl, .int .i64 (L.length : Int), .bool true, .bool true, .int .i64 (j : Int), .bool true, .bool true, u29, u30, .pointer (some ⟨na, 5, none⟩), .slice al L.length cl, .int .i64 (j : Int), .pointer (some ((hd al).add (j * 6))), .agg (List.toArray cx), u7, .agg (List.toArray cx), .agg #[.int .i64 (atV x 0).kind, .int .i64 (atV x 0).int, .slice g0_1 (atV x 0).bytes.length g0_2, .string (str (atV x 0).text), g0_3, g0_4], u39, .agg (List.toArray cx), u41, u42, .agg (List.toArray cx), u44, u45, u46, u47, u48, undef, undef, undef, undef, undef, undef, undef, undef, undef, undef, undef], []⟩ : Act) _
        refine ⟨hSw7, ?_⟩
        refine wpAnyU_take (i := 3) (A := fun _ => True) (v := .string (str (atV x 0).text)) (a' := ⟨#[.slice a n c, undef, .slice none 0 0, .int .i64 0, .pointer (some ⟨nv, 0, none⟩), .int .i64 0, .pointer (some ⟨na, 0, none⟩), u7, .int .i64 (j : Int), .pointer (some ⟨qx, 0, none⟩), .tuple #[.agg (List.toArray cs), .int .i64 0], .slice a n c, .tuple #[.agg (List.toArray cs), .int .i64 0], .agg (List.toArray cs), .int .i64 0, .int .i64 0, .bool false, undef, .agg (List.toArray cs), .agg (List.toArray ds), .int .i64 (j : Int), .pointer (some ⟨na, 5, none⟩), .slice al L.length cl, .int .i64 (L.length : Int), .bool true, .bool true, .int .i64 (j : Int), .bool true, .bool true, u29, u30, .pointer (some ⟨na, 5, none⟩), .slice al L.length cl, .int .i64 (j : Int), .pointer (some ((hd al).add (j * 6))), .agg (List.toArray cx), u7, .agg (List.toArray cx), .agg #[.int .i64 (atV x 0).kind, .int .i64 (atV x 0).int, .slice g0_1 (atV x 0).bytes.length g0_2, .string (str (atV x 0).text), g0_3, g0_4], .string (str (atV x 0).text), .agg (List.toArray cx), u41, u42, .agg (List.toArray cx), u44, u45, u46, u47, u48, undef, undef, undef, undef, undef, undef, undef, undef, undef, undef, undef], []⟩) hSm (hSi 3 (by decide)) (fun _ _ _ => trivial) rfl (by kernel_rfl) (by kernel_rfl) (by kernel_rfl) (fun _ _ _ h => h) hSw7 (Tame.val rfl (fun w' hA => by go_simp)) rfl ?_
        refine wpAnyU_all (rs := [5]) (by kernel_rfl) (by decide) ?_
        intro w8 hm8 i hi
        obtain rfl : i = 5 := by simpa using hi
        have hSw8 := hSm #[] _ _ hSw7 hm8
        refine wpOp_enter (f := 44) (args := #[.agg (List.toArray cx), .int .i64 1]) rfl rfl (by go_simp) ((at_any 1 hxc w8 hSw8.2 (by decide)).mono ?_)
        rintro e w9 ⟨g1, rfl, hg1, hbw9⟩
        have hSw9 := hSm #[] _ _ hSw8 hbw9
        refine ⟨_, rfl, ?_⟩
        show _ ∧ wpAnyU _ _ _ _ _ _ _ (⟨#[.slice a n c, undef, .slice none 0 0, .int .i64 0, .pointer (some ⟨nv, 0, none⟩), .int .i64 0, .pointer (some ⟨na, 0, none⟩), u7, .int .i64 (j : Int), .pointer (some ⟨qx, 0, none⟩), .tuple #[.agg (List.toArray cs), .int .i64 0], .slice a n c, .tuple #[.agg (List.toArray cs), .int .i64 0], .agg (List.toArray cs), .int .i64 0, .int .i64 0, .bool false, undef, .agg (List.toArray cs), .agg (List.toArray ds), .int .i64 (j : Int), .pointer (some ⟨na, 5, none⟩), .slice al L.length cl, .int .i64 (L.length : Int), .bool true, .bool true, .int .i64 (j : Int), .bool true, .bool true, u29, u30, .pointer (some ⟨na, 5, none⟩), .slice al L.length cl, .int .i64 (j : Int), .pointer (some ((hd al).add (j * 6))), .agg (List.toArray cx), u7, .agg (List.toArray cx), .agg #[.int .i64 (atV x 0).kind, .int .i64 (atV x 0).int, .slice g0_1 (atV x 0).bytes.length g0_2, .string (str (atV x 0).text), g0_3, g0_4], .string (str (atV x 0).text), .agg (List.toArray cx), .agg (List.toArray g1), u42, .agg (List.toArray cx), u44, u45, u46, u47, u48, undef, undef, undef, undef, undef, undef, undef, undef, undef, undef, undef], []⟩ : Act) _
        refine ⟨hSw9, ?_⟩
        refine wpAnyU_all (rs := [6]) (by kernel_rfl) (by decide) ?_
        intro wa hma i hi
        obtain rfl : i = 6 := by simpa using hi
        have hSwa := hSm #[] _ _ hSw9 hma
        refine wpOp_enter (f := 45) (args := #[.agg (List.toArray g1)]) rfl rfl (by go_simp) ((key_any hg1 wa hma (atV_sm hxs 1)).mono ?_)
        rintro e wb ⟨rfl, hbwb⟩
        have hSwb := hSm #[] _ _ hSwa hbwb
        refine ⟨_, rfl, ?_⟩
        show _ ∧ wpAnyU _ _ _ _ _ _ _ (⟨#[.slice a n c, undef, .slice none 0 0, .int .i64 0, .pointer (some ⟨nv, 0, none⟩), .int .i64 0, .pointer (some ⟨na, 0, none⟩), u7, .int .i64 (j : Int), .pointer (some ⟨qx, 0, none⟩), .tuple #[.agg (List.toArray cs), .int .i64 0], .slice a n c, .tuple #[.agg (List.toArray cs), .int .i64 0], .agg (List.toArray cs), .int .i64 0, .int .i64 0, .bool false, undef, .agg (List.toArray cs), .agg (List.toArray ds), .int .i64 (j : Int), .pointer (some ⟨na, 5, none⟩), .slice al L.length cl, .int .i64 (L.length : Int), .bool true, .bool true, .int .i64 (j : Int), .bool true, .bool true, u29, u30, .pointer (some ⟨na, 5, none⟩), .slice al L.length cl, .int .i64 (j : Int), .pointer (some ((hd al).add (j * 6))), .agg (List.toArray cx), u7, .agg (List.toArray cx), .agg #[.int .i64 (atV x 0).kind, .int .i64 (atV x 0).int, .slice g0_1 (atV x 0).bytes.length g0_2, .string (str (atV x 0).text), g0_3, g0_4], .string (str (atV x 0).text), .agg (List.toArray cx), .agg (List.toArray g1), .agg (List.toArray ((keyV (atV x 1).bytes).map b8)), .agg (List.toArray cx), u44, u45, u46, u47, u48, undef, undef, undef, undef, undef, undef, undef, undef, undef, undef, undef], []⟩ : Act) _
        refine ⟨hSwb, ?_⟩
        refine wpAnyU_all (rs := [8]) (by kernel_rfl) (by decide) ?_
        intro wc hmc i hi
        obtain rfl : i = 8 := by simpa using hi
        have hSwc := hSm #[] _ _ hSwb hmc
        refine wpOp_enter (f := 44) (args := #[.agg (List.toArray cx), .int .i64 2]) rfl rfl (by go_simp) ((at_any 2 hxc wc hSwc.2 (by decide)).mono ?_)
        rintro e wd ⟨g2, rfl, hg2, hbwd⟩
        obtain ⟨g2_1, g2_2, g2_3, g2_4, rfl, _⟩ := VAt.all hg2
        have hSwd := hSm #[] _ _ hSwc hbwd
        refine ⟨_, rfl, ?_⟩
        show _ ∧ wpAnyU _ _ _ _ _ _ _ (⟨#[.slice a n c, undef, .slice none 0 0, .int .i64 0, .pointer (some ⟨nv, 0, none⟩), .int .i64 0, .pointer (some ⟨na, 0, none⟩), u7, .int .i64 (j : Int), .pointer (some ⟨qx, 0, none⟩), .tuple #[.agg (List.toArray cs), .int .i64 0], .slice a n c, .tuple #[.agg (List.toArray cs), .int .i64 0], .agg (List.toArray cs), .int .i64 0, .int .i64 0, .bool false, undef, .agg (List.toArray cs), .agg (List.toArray ds), .int .i64 (j : Int), .pointer (some ⟨na, 5, none⟩), .slice al L.length cl, .int .i64 (L.length : Int), .bool true, .bool true, .int .i64 (j : Int), .bool true, .bool true, u29, u30, .pointer (some ⟨na, 5, none⟩), .slice al L.length cl, .int .i64 (j : Int), .pointer (some ((hd al).add (j * 6))), .agg (List.toArray cx), u7, .agg (List.toArray cx), .agg #[.int .i64 (atV x 0).kind, .int .i64 (atV x 0).int, .slice g0_1 (atV x 0).bytes.length g0_2, .string (str (atV x 0).text), g0_3, g0_4], .string (str (atV x 0).text), .agg (List.toArray cx), .agg (List.toArray g1), .agg (List.toArray ((keyV (atV x 1).bytes).map b8)), .agg (List.toArray cx), .agg #[.int .i64 (atV x 2).kind, .int .i64 (atV x 2).int, .slice g2_1 (atV x 2).bytes.length g2_2, .string (str (atV x 2).text), g2_3, g2_4], u45, u46, u47, u48, undef, undef, undef, undef, undef, undef, undef, undef, undef, undef, undef], []⟩ : Act) _
        refine ⟨hSwd, ?_⟩
        refine wpAnyU_take (i := 9) (A := fun _ => True) (v := .int .i64 (atV x 2).int) (a' := ⟨#[.slice a n c, undef, .slice none 0 0, .int .i64 0, .pointer (some ⟨nv, 0, none⟩), .int .i64 0, .pointer (some ⟨na, 0, none⟩), u7, .int .i64 (j : Int), .pointer (some ⟨qx, 0, none⟩), .tuple #[.agg (List.toArray cs), .int .i64 0], .slice a n c, .tuple #[.agg (List.toArray cs), .int .i64 0], .agg (List.toArray cs), .int .i64 0, .int .i64 0, .bool false, undef, .agg (List.toArray cs), .agg (List.toArray ds), .int .i64 (j : Int), .pointer (some ⟨na, 5, none⟩), .slice al L.length cl, .int .i64 (L.length : Int), .bool true, .bool true, .int .i64 (j : Int), .bool true, .bool true, u29, u30, .pointer (some ⟨na, 5, none⟩), .slice al L.length cl, .int .i64 (j : Int), .pointer (some ((hd al).add (j * 6))), .agg (List.toArray cx), u7, .agg (List.toArray cx), .agg #[.int .i64 (atV x 0).kind, .int .i64 (atV x 0).int, .slice g0_1 (atV x 0).bytes.length g0_2, .string (str (atV x 0).text), g0_3, g0_4], .string (str (atV x 0).text), .agg (List.toArray cx), .agg (List.toArray g1), .agg (List.toArray ((keyV (atV x 1).bytes).map b8)), .agg (List.toArray cx), .agg #[.int .i64 (atV x 2).kind, .int .i64 (atV x 2).int, .slice g2_1 (atV x 2).bytes.length g2_2, .string (str (atV x 2).text), g2_3, g2_4], .int .i64 (atV x 2).int, u46, u47, u48, undef, undef, undef, undef, undef, undef, undef, undef, undef, undef, undef], []⟩) hSm (hSi 9 (by decide)) (fun _ _ _ => trivial) rfl (by kernel_rfl) (by kernel_rfl) (by kernel_rfl) (fun _ _ _ h => h) hSwd (Tame.val rfl (fun w' hA => by go_simp)) rfl ?_
        refine wpAnyU_take (i := 10) (A := fun w1 => (Blk w1 qx 63 cx ∧ Below W3.heap.size W3 w1)) (v := .agg (List.toArray XC)) (a' := ⟨#[.slice a n c, undef, .slice none 0 0, .int .i64 0, .pointer (some ⟨nv, 0, none⟩), .int .i64 0, .pointer (some ⟨na, 0, none⟩), u7, .int .i64 (j : Int), .pointer (some ⟨qx, 0, none⟩), .tuple #[.agg (List.toArray cs), .int .i64 0], .slice a n c, .tuple #[.agg (List.toArray cs), .int .i64 0], .agg (List.toArray cs), .int .i64 0, .int .i64 0, .bool false, undef, .agg (List.toArray cs), .agg (List.toArray ds), .int .i64 (j : Int), .pointer (some ⟨na, 5, none⟩), .slice al L.length cl, .int .i64 (L.length : Int), .bool true, .bool true, .int .i64 (j : Int), .bool true, .bool true, u29, u30, .pointer (some ⟨na, 5, none⟩), .slice al L.length cl, .int .i64 (j : Int), .pointer (some ((hd al).add (j * 6))), .agg (List.toArray cx), u7, .agg (List.toArray cx), .agg #[.int .i64 (atV x 0).kind, .int .i64 (atV x 0).int, .slice g0_1 (atV x 0).bytes.length g0_2, .string (str (atV x 0).text), g0_3, g0_4], .string (str (atV x 0).text), .agg (List.toArray cx), .agg (List.toArray g1), .agg (List.toArray ((keyV (atV x 1).bytes).map b8)), .agg (List.toArray cx), .agg #[.int .i64 (atV x 2).kind, .int .i64 (atV x 2).int, .slice g2_1 (atV x 2).bytes.length g2_2, .string (str (atV x 2).text), g2_3, g2_4], .int .i64 (atV x 2).int, .agg (List.toArray XC), u47, u48, undef, undef, undef, undef, undef, undef, undef, undef, undef, undef, undef], []⟩) hSm (hSi 10 (by decide)) (fun _ _ h => h) rfl (by kernel_rfl) (by kernel_rfl) (by kernel_rfl) (fun _ _ _ h => h) hSwd (Tame.val rfl (fun w' hA => run_bdOp (vals := #[(0, .string (str (atV x 0).text)), (1, .agg (List.toArray ((keyV (atV x 1).bytes).map b8))), (2, .int .i64 (atV x 2).int)]) (by first | rfl | go_simp | simp [Act.eval]) hbd)) rfl ?_
        refine wpAnyU_all (rs := [11]) (by kernel_rfl) (by decide) ?_
        intro we hme i hi
        obtain rfl : i = 11 := by simpa using hi
        refine wpOp_val (v := .slice (some ⟨we.heap.size, 0, none⟩) 1 1) (w' := we.alloc (.cells (List.toArray XC) 31)) (a' := ⟨#[.slice a n c, undef, .slice none 0 0, .int .i64 0, .pointer (some ⟨nv, 0, none⟩), .int .i64 0, .pointer (some ⟨na, 0, none⟩), u7, .int .i64 (j : Int), .pointer (some ⟨qx, 0, none⟩), .tuple #[.agg (List.toArray cs), .int .i64 0], .slice a n c, .tuple #[.agg (List.toArray cs), .int .i64 0], .agg (List.toArray cs), .int .i64 0, .int .i64 0, .bool false, undef, .agg (List.toArray cs), .agg (List.toArray ds), .int .i64 (j : Int), .pointer (some ⟨na, 5, none⟩), .slice al L.length cl, .int .i64 (L.length : Int), .bool true, .bool true, .int .i64 (j : Int), .bool true, .bool true, u29, u30, .pointer (some ⟨na, 5, none⟩), .slice al L.length cl, .int .i64 (j : Int), .pointer (some ((hd al).add (j * 6))), .agg (List.toArray cx), u7, .agg (List.toArray cx), .agg #[.int .i64 (atV x 0).kind, .int .i64 (atV x 0).int, .slice g0_1 (atV x 0).bytes.length g0_2, .string (str (atV x 0).text), g0_3, g0_4], .string (str (atV x 0).text), .agg (List.toArray cx), .agg (List.toArray g1), .agg (List.toArray ((keyV (atV x 1).bytes).map b8)), .agg (List.toArray cx), .agg #[.int .i64 (atV x 2).kind, .int .i64 (atV x 2).int, .slice g2_1 (atV x 2).bytes.length g2_2, .string (str (atV x 2).text), g2_3, g2_4], .int .i64 (atV x 2).int, .agg (List.toArray XC), .slice (some ⟨we.heap.size, 0, none⟩) 1 1, u48, undef, undef, undef, undef, undef, undef, undef, undef, undef, undef, undef], []⟩) rfl rfl (run_bsOp (vals := #[(0, .agg (List.toArray XC))]) (by first | rfl | go_simp | simp [Act.eval]) (r_bsAB hXC)) rfl ?_
        have hSwe := hSm #[] _ _ hSwd hme
        have hmf : Mo we (we.alloc (.cells (List.toArray XC) 31)) := (Below.refl _ _).alloc (Nat.le_refl _) _
        have hSwf := hSm #[] _ _ hSwe hmf
        refine ⟨hSwf, ?_⟩
        have hB8 : Blk (we.alloc (.cells (List.toArray XC) 31)) we.heap.size 31 XC := by simpa using Blk.new we 31 (List.toArray XC)
        have hM : Mo (W5.drewN 1) (we.alloc (.cells (List.toArray XC) 31)) := Mo.trans (Mo.trans (Mo.trans (Mo.trans (Mo.trans (Mo.trans (Mo.trans (Mo.trans (Mo.trans hm6 hbw7) hm8) hbw9) hma) hbwb) hmc) hbwd) hme) hmf
        generalize we.alloc (.cells (List.toArray XC) 31) = wf at *
        generalize we.heap.size = g at *
        refine wpAnyU_all (rs := [12]) (by kernel_rfl) (by decide) ?_
        intro wg hmg i hi
        obtain rfl : i = 12 := by simpa using hi
        have hSwg := hSm #[] _ _ hSwf hmg
        have hO9 := ownsRow_below hOx (Below.drewN' (Mo.trans hM hmg))
        have hsrc : Src Try.prog 37 27 (.slice (some ⟨g, 0, none⟩) 1 1) 1 XC wg := Src.ofRow eAB.ht _ 1 1 XC (by decide) (by simpa using hXC) (hB8.below hmg).row (by rw [hXCd]; exact abtC_one _)
        obtain ⟨v', w10, hrun, hO10, hG10, hK10⟩ := append_srcK (ty := 27) eAB hO9 hsrc (by have := HL.out; unfold maxLen; omega) (by have := HL.out; omega) hSwg.2.size
        obtain ⟨a', c', rfl, _⟩ := owns_rowN hO10 (by decide)
        refine wpOp_val (v := .slice a' (j + 1) c') (w' := w10) (a' := ⟨#[.slice a n c, undef, .slice none 0 0, .int .i64 0, .pointer (some ⟨nv, 0, none⟩), .int .i64 0, .pointer (some ⟨na, 0, none⟩), u7, .int .i64 (j : Int), .pointer (some ⟨qx, 0, none⟩), .tuple #[.agg (List.toArray cs), .int .i64 0], .slice a n c, .tuple #[.agg (List.toArray cs), .int .i64 0], .agg (List.toArray cs), .int .i64 0, .int .i64 0, .bool false, undef, .agg (List.toArray cs), .agg (List.toArray ds), .int .i64 (j : Int), .pointer (some ⟨na, 5, none⟩), .slice al L.length cl, .int .i64 (L.length : Int), .bool true, .bool true, .int .i64 (j : Int), .bool true, .bool true, u29, u30, .pointer (some ⟨na, 5, none⟩), .slice al L.length cl, .int .i64 (j : Int), .pointer (some ((hd al).add (j * 6))), .agg (List.toArray cx), u7, .agg (List.toArray cx), .agg #[.int .i64 (atV x 0).kind, .int .i64 (atV x 0).int, .slice g0_1 (atV x 0).bytes.length g0_2, .string (str (atV x 0).text), g0_3, g0_4], .string (str (atV x 0).text), .agg (List.toArray cx), .agg (List.toArray g1), .agg (List.toArray ((keyV (atV x 1).bytes).map b8)), .agg (List.toArray cx), .agg #[.int .i64 (atV x 2).kind, .int .i64 (atV x 2).int, .slice g2_1 (atV x 2).bytes.length g2_2, .string (str (atV x 2).text), g2_3, g2_4], .int .i64 (atV x 2).int, .agg (List.toArray XC), .slice (some ⟨g, 0, none⟩) 1 1, .slice a' (j + 1) c', undef, undef, undef, undef, undef, undef, undef, undef, undef, undef, undef], []⟩) rfl rfl (run_append hrun rfl rfl rfl) rfl ?_
        have hG : Gro wg w10 u7 (.slice a' (j + 1) c') := ⟨hG10, hK10⟩
        have hb310 := hSwg.2.trans (hG.below (base := W3.heap.size) (fun k hk => (hOlt k hk).1) (Nat.le_refl _) hSwg.2.size)
        have hS10 : (Blk w10 qx 63 cx ∧ Below W3.heap.size W3 w10) := ⟨(hG.blk hSwg.1 (fun e => Nat.lt_irrefl _ (Nat.lt_of_lt_of_le (hOlt _ e).2 (Nat.le_refl _)))).1, hb310⟩
        refine ⟨hS10, ?_⟩
        refine wpAnyU_take (i := 13) (A := fun _ => True) (v := .slice a' (j + 1) c') (a' := ⟨#[.slice a n c, undef, .slice none 0 0, .int .i64 0, .pointer (some ⟨nv, 0, none⟩), .int .i64 0, .pointer (some ⟨na, 0, none⟩), .slice a' (j + 1) c', .int .i64 (j : Int), .pointer (some ⟨qx, 0, none⟩), .tuple #[.agg (List.toArray cs), .int .i64 0], .slice a n c, .tuple #[.agg (List.toArray cs), .int .i64 0], .agg (List.toArray cs), .int .i64 0, .int .i64 0, .bool false, undef, .agg (List.toArray cs), .agg (List.toArray ds), .int .i64 (j : Int), .pointer (some ⟨na, 5, none⟩), .slice al L.length cl, .int .i64 (L.length : Int), .bool true, .bool true, .int .i64 (j : Int), .bool true, .bool true, u29, u30, .pointer (some ⟨na, 5, none⟩), .slice al L.length cl, .int .i64 (j : Int), .pointer (some ((hd al).add (j * 6))), .agg (List.toArray cx), u7, .agg (List.toArray cx), .agg #[.int .i64 (atV x 0).kind, .int .i64 (atV x 0).int, .slice g0_1 (atV x 0).bytes.length g0_2, .string (str (atV x 0).text), g0_3, g0_4], .string (str (atV x 0).text), .agg (List.toArray cx), .agg (List.toArray g1), .agg (List.toArray ((keyV (atV x 1).bytes).map b8)), .agg (List.toArray cx), .agg #[.int .i64 (atV x 2).kind, .int .i64 (atV x 2).int, .slice g2_1 (atV x 2).bytes.length g2_2, .string (str (atV x 2).text), g2_3, g2_4], .int .i64 (atV x 2).int, .agg (List.toArray XC), .slice (some ⟨g, 0, none⟩) 1 1, .slice a' (j + 1) c', undef, undef, undef, undef, undef, undef, undef, undef, undef, undef, undef], []⟩) hSm (hSi 13 (by decide)) (fun _ _ _ => trivial) rfl (by kernel_rfl) (by kernel_rfl) (by kernel_rfl) (fun _ _ _ h => h) hS10 (Tame.val rfl (fun w' hA => by go_simp)) rfl ?_
        refine wpAnyU_done (by kernel_rfl) ?_ _
        intro w12 hm12
        have hb312 := Lib.hid (hb310.trans (hm12.mono hb310.size))
        have hO12 : Hid (w12.ownsRow W3.heap.size 31 37 (.slice a' (j + 1) c') (j + 1) (((L.take (j + 1)).map fun x => abtC (abtOf x)).flatten)) := by
          show _
          rw [hT.out, show abtC (abtOf x) = XC from hXCd.symm]
          exact ownsRow_below hO10 hm12
        clear hm12 hb310 hG hG10 hK10 hO10 hrun hsrc hO9 hS0 hS10 hSm hSi hSwg hSwf hSwe hSwd hSwb hSwa hSw9 hSw7 hSw6 hSw8 hSwc hM hB8
        go_wp2
        first
          | exact ⟨⟨j + 1, by omega, by omega, (by first | rfl | go_num | (congr 1; omega)), hO12, hb312⟩, by simp [intOf] <;> omega⟩
          | (refine ⟨?_, by simp [intOf] <;> omega⟩; (repeat apply Exists.intro); exact ⟨⟨j + 1, by omega, by omega, (by first | rfl | go_num | (congr 1; omega)), hO12, hb312⟩, rfl⟩)
      case neg =>
        have j7 : ¬ (j : Int) < 70 := by omega
        obtain ⟨ao, co, rfl, _, _, hrow, _⟩ := owns_rowN hO.out (by decide)
        obtain ⟨OUT, hOUT⟩ : ∃ OUT, OUT = (L.take j).map abtOf := ⟨_, rfl⟩
        have hrowO : Row wr ao (OUT.map abtC).flatten := by rw [hOUT, List.map_map]; exact hrow
        have hlenO : j = OUT.length := by rw [hOUT, List.length_map, List.length_take]; omega
        have hxO : ∀ y ∈ OUT, ∃ i, ∃ h : i < L.length, y = abtOf L[i] := by
          rw [hOUT]
          intro y hy
          obtain ⟨x, hx, rfl⟩ := List.mem_map.1 hy
          obtain ⟨i, hi, rfl⟩ := List.mem_iff_getElem.1 (List.mem_of_mem_take hx)
          exact ⟨i, hi, rfl⟩
        have hokO : ∀ x ∈ OUT, AbtOk x := by
          intro y hy
          obtain ⟨i, hi, rfl⟩ := hxO y hy
          exact abtOf_ok (sub i css[i] L[i] (by simp [hcs, hi]) (by simp [hi]))
        have hnmO : ∀ x ∈ OUT, x.name.length ≤ 100000 := by
          intro y hy
          obtain ⟨i, hi, rfl⟩ := hxO y hy
          have := atV_txt (hsubS _ (List.getElem_mem hi)) 0
          show (atV L[i] 0).text.length ≤ 100000
          omega
        have hout : Hid (lstOut v = OUT) := by
          show _ = _
          rw [hOUT, HLd.out]; obtain rfl : j = 70 := by omega
          rfl
        have hok : Hid (lstOk v = (decide (checkL OUT = 0) && sameV (listV OUT) v)) := by show _ = _; unfold lstOk; rw [hout.out]
        have hck := fun w' (hb : Below wr.heap.size wr w') => rCheckList_any (a := ao) (c := co) hlenO (hrowO.below hb) hokO hnmO (by omega)
        have hB := HB1.out.below hbr.out
        have hVr := HV3.out.keep hbr.out
        have hq := fun w' (hb : Below wr.heap.size wr w') => ldOp_all (P := Try.prog) (ty := 63) (hB.below hb) Try.underlying63 rfl (by rw [hVr.len]; exact sizeV)
        have hcur : Below wr.heap.size wr wr.drew := Gr.drewN wr 1
        have s1 := hq _ hcur
        have hbw := G0.out.trans (hbr.out.mono G0.out.size)
        have HROW := Lib.hid hrowO
        have h70 : OUT.length ≤ 70 := by omega
        clear hO hrow hOUT hxO
        by_cases hc0 : checkL OUT = 0
        case neg =>
          have hRR : Hid (lstR l = ([], 4)) := by show _ = _; rw [hR.out, hok.out, decide_eq_false hc0]; rfl
          have t1 : (checkL OUT != 0) = true := by simpa using hc0
          generalize checkL OUT = C at *
          clear hrowO hlenO hokO hnmO hok hout hB hVr hcur s1 hq
          go_upto_region 11 with (fail)
          have hSm : ∀ (L : Array Bool) (w1 w2 : World), Mo (wr.drewN 1) w1 → Mo w1 w2 → Mo (wr.drewN 1) w2 := fun _ w1 w2 h hm => Mo.trans h hm
          have hSi : ∀ i, i ≠ 99 → ∀ (L : Array Bool) (w1 : World), Mo (wr.drewN 1) w1 ↔ Mo (wr.drewN 1) w1 := fun _ _ _ _ => Iff.rfl
          have hS0 := Mo.refl (wr.drewN 1)
          refine wp_region_upN (S := fun _ w1 => Mo (wr.drewN 1) w1) 10 rfl (by kernel_rfl) ?_
          refine wpAnyU_take (i := 0) (A := fun _ => True) (v := .slice ao j co) (a' := ⟨#[.slice a n c, undef, .slice none 0 0, .int .i64 0, .pointer (some ⟨nv, 0, none⟩), .int .i64 0, .pointer (some ⟨na, 0, none⟩), .slice ao j co, .int .i64 (j : Int), u9, .tuple #[.agg (List.toArray cs), .int .i64 0], .slice a n c, .tuple #[.agg (List.toArray cs), .int .i64 0], .agg (List.toArray cs), .int .i64 0, .int .i64 0, .bool false, undef, .agg (List.toArray cs), .agg (List.toArray ds), .int .i64 (j : Int), .pointer (some ⟨na, 5, none⟩), .slice al L.length cl, .int .i64 (L.length : Int), .bool true, .bool true, .int .i64 (j : Int), .bool false, .bool false, u29, u30, u31, u32, u33, u34, u35, u36, u37, u38, u39, u40, u41, u42, u43, u44, u45, u46, u47, u48, .slice ao j co, undef, undef, undef, undef, undef, undef, undef, undef, undef, undef], []⟩) hSm (hSi 0 (by decide)) (fun _ _ _ => trivial) rfl (by kernel_rfl) (by kernel_rfl) (by kernel_rfl) (fun _ _ _ h => h) hS0 (Tame.val rfl (fun w' hA => by go_simp)) rfl ?_
          refine wpAnyU_take (i := 1) (A := fun w1 => Mo (wr.drewN 1) w1) (v := .int .i64 C) (a' := ⟨#[.slice a n c, undef, .slice none 0 0, .int .i64 0, .pointer (some ⟨nv, 0, none⟩), .int .i64 0, .pointer (some ⟨na, 0, none⟩), .slice ao j co, .int .i64 (j : Int), u9, .tuple #[.agg (List.toArray cs), .int .i64 0], .slice a n c, .tuple #[.agg (List.toArray cs), .int .i64 0], .agg (List.toArray cs), .int .i64 0, .int .i64 0, .bool false, undef, .agg (List.toArray cs), .agg (List.toArray ds), .int .i64 (j : Int), .pointer (some ⟨na, 5, none⟩), .slice al L.length cl, .int .i64 (L.length : Int), .bool true, .bool true, .int .i64 (j : Int), .bool false, .bool false, u29, u30, u31, u32, u33, u34, u35, u36, u37, u38, u39, u40, u41, u42, u43, u44, u45, u46, u47, u48, .slice ao j co, .int .i64 C, undef, undef, undef, undef, undef, undef, undef, undef, undef], []⟩) hSm (hSi 1 (by decide)) (fun _ _ h => h) rfl (by kernel_rfl) (by kernel_rfl) (by kernel_rfl) (fun _ _ _ h => h) hS0 (Tame.enter rfl (fun w' => by go_simp) (fun w' hA => hck w' (Below.drewN' hA))) rfl ?_
          refine wpAnyU_take (i := 2) (A := fun _ => True) (v := .bool true) (a' := ⟨#[.slice a n c, undef, .slice none 0 0, .int .i64 0, .pointer (some ⟨nv, 0, none⟩), .int .i64 0, .pointer (some ⟨na, 0, none⟩), .slice ao j co, .int .i64 (j : Int), u9, .tuple #[.agg (List.toArray cs), .int .i64 0], .slice a n c, .tuple #[.agg (List.toArray cs), .int .i64 0], .agg (List.toArray cs), .int .i64 0, .int .i64 0, .bool false, undef, .agg (List.toArray cs), .agg (List.toArray ds), .int .i64 (j : Int), .pointer (some ⟨na, 5, none⟩), .slice al L.length cl, .int .i64 (L.length : Int), .bool true, .bool true, .int .i64 (j : Int), .bool false, .bool false, u29, u30, u31, u32, u33, u34, u35, u36, u37, u38, u39, u40, u41, u42, u43, u44, u45, u46, u47, u48, .slice ao j co, .int .i64 C, .bool true, undef, undef, undef, undef, undef, undef, undef, undef], []⟩) hSm (hSi 2 (by decide)) (fun _ _ _ => trivial) rfl (by kernel_rfl) (by kernel_rfl) (by kernel_rfl) (fun _ _ _ h => h) hS0 (Tame.val rfl (fun w' hA => by go_simp)) rfl ?_
          refine wpAnyU_take (i := 3) (A := fun _ => True) (v := .bool true) (a' := ⟨#[.slice a n c, undef, .slice none 0 0, .int .i64 0, .pointer (some ⟨nv, 0, none⟩), .int .i64 0, .pointer (some ⟨na, 0, none⟩), .slice ao j co, .int .i64 (j : Int), u9, .tuple #[.agg (List.toArray cs), .int .i64 0], .slice a n c, .tuple #[.agg (List.toArray cs), .int .i64 0], .agg (List.toArray cs), .int .i64 0, .int .i64 0, .bool false, undef, .agg (List.toArray cs), .agg (List.toArray ds), .int .i64 (j : Int), .pointer (some ⟨na, 5, none⟩), .slice al L.length cl, .int .i64 (L.length : Int), .bool true, .bool true, .int .i64 (j : Int), .bool false, .bool false, u29, u30, u31, u32, u33, u34, u35, u36, u37, u38, u39, u40, u41, u42, u43, u44, u45, u46, u47, u48, .slice ao j co, .int .i64 C, .bool true, .bool true, undef, undef, undef, undef, undef, undef, undef], []⟩) hSm (hSi 3 (by decide)) (fun _ _ _ => trivial) rfl (by kernel_rfl) (by kernel_rfl) (by kernel_rfl) (fun _ _ _ h => h) hS0 (Tame.val rfl (fun w' hA => by go_simp)) rfl ?_
          refine wpAnyU_take (i := 4) (A := fun _ => True) (v := undef) (a' := ⟨#[.slice a n c, undef, .slice none 0 0, .int .i64 0, .pointer (some ⟨nv, 0, none⟩), .int .i64 0, .pointer (some ⟨na, 0, none⟩), .slice ao j co, .int .i64 (j : Int), u9, .tuple #[.agg (List.toArray cs), .int .i64 0], .slice a n c, .tuple #[.agg (List.toArray cs), .int .i64 0], .agg (List.toArray cs), .int .i64 0, .int .i64 0, .bool false, undef, .agg (List.toArray cs), .agg (List.toArray ds), .int .i64 (j : Int), .pointer (some ⟨na, 5, none⟩), .slice al L.length cl, .int .i64 (L.length : Int), .bool true, .bool true, .int .i64 (j : Int), .bool false, .bool false, u29, u30, u31, u32, u33, u34, u35, u36, u37, u38, u39, u40, u41, u42, u43, u44, u45, u46, u47, u48, .slice ao j co, .int .i64 C, .bool true, .bool true, undef, undef, undef, undef, undef, undef, undef], []⟩) hSm (hSi 4 (by decide)) (fun _ _ _ => trivial) rfl (by kernel_rfl) (by kernel_rfl) (by kernel_rfl) (fun _ _ _ h => h) hS0 (.inr ⟨by rfl, rfl⟩) rfl ?_
          refine wpAnyU_take (i := 5) (A := fun _ => True) (v := undef) (a' := ⟨#[.slice a n c, undef, .slice none 0 0, .int .i64 0, .pointer (some ⟨nv, 0, none⟩), .int .i64 0, .pointer (some ⟨na, 0, none⟩), .slice ao j co, .int .i64 (j : Int), u9, .tuple #[.agg (List.toArray cs), .int .i64 0], .slice a n c, .tuple #[.agg (List.toArray cs), .int .i64 0], .agg (List.toArray cs), .int .i64 0, .int .i64 0, .bool false, undef, .agg (List.toArray cs), .agg (List.toArray ds), .int .i64 (j : Int), .pointer (some ⟨na, 5, none⟩), .slice al L.length cl, .int .i64 (L.length : Int), .bool true, .bool true, .int .i64 (j : Int), .bool false, .bool false, u29, u30, u31, u32, u33, u34, u35, u36, u37, u38, u39, u40, u41, u42, u43, u44, u45, u46, u47, u48, .slice ao j co, .int .i64 C, .bool true, .bool true, undef, undef, undef, undef, undef, undef, undef], []⟩) hSm (hSi 5 (by decide)) (fun _ _ _ => trivial) rfl (by kernel_rfl) (by kernel_rfl) (by kernel_rfl) (fun _ _ _ h => h) hS0 (.inr ⟨by rfl, rfl⟩) rfl ?_
          refine wpAnyU_take (i := 6) (A := fun _ => True) (v := undef) (a' := ⟨#[.slice a n c, undef, .slice none 0 0, .int .i64 0, .pointer (some ⟨nv, 0, none⟩), .int .i64 0, .pointer (some ⟨na, 0, none⟩), .slice ao j co, .int .i64 (j : Int), u9, .tuple #[.agg (List.toArray cs), .int .i64 0], .slice a n c, .tuple #[.agg (List.toArray cs), .int .i64 0], .agg (List.toArray cs), .int .i64 0, .int .i64 0, .bool false, undef, .agg (List.toArray cs), .agg (List.toArray ds), .int .i64 (j : Int), .pointer (some ⟨na, 5, none⟩), .slice al L.length cl, .int .i64 (L.length : Int), .bool true, .bool true, .int .i64 (j : Int), .bool false, .bool false, u29, u30, u31, u32, u33, u34, u35, u36, u37, u38, u39, u40, u41, u42, u43, u44, u45, u46, u47, u48, .slice ao j co, .int .i64 C, .bool true, .bool true, undef, undef, undef, undef, undef, undef, undef], []⟩) hSm (hSi 6 (by decide)) (fun _ _ _ => trivial) rfl (by kernel_rfl) (by kernel_rfl) (by kernel_rfl) (fun _ _ _ h => h) hS0 (.inr ⟨by rfl, rfl⟩) rfl ?_
          refine wpAnyU_take (i := 7) (A := fun _ => True) (v := undef) (a' := ⟨#[.slice a n c, undef, .slice none 0 0, .int .i64 0, .pointer (some ⟨nv, 0, none⟩), .int .i64 0, .pointer (some ⟨na, 0, none⟩), .slice ao j co, .int .i64 (j : Int), u9, .tuple #[.agg (List.toArray cs), .int .i64 0], .slice a n c, .tuple #[.agg (List.toArray cs), .int .i64 0], .agg (List.toArray cs), .int .i64 0, .int .i64 0, .bool false, undef, .agg (List.toArray cs), .agg (List.toArray ds), .int .i64 (j : Int), .pointer (some ⟨na, 5, none⟩), .slice al L.length cl, .int .i64 (L.length : Int), .bool true, .bool true, .int .i64 (j : Int), .bool false, .bool false, u29, u30, u31, u32, u33, u34, u35, u36, u37, u38, u39, u40, u41, u42, u43, u44, u45, u46, u47, u48, .slice ao j co, .int .i64 C, .bool true, .bool true, undef, undef, undef, undef, undef, undef, undef], []⟩) hSm (hSi 7 (by decide)) (fun _ _ _ => trivial) rfl (by kernel_rfl) (by kernel_rfl) (by kernel_rfl) (fun _ _ _ h => h) hS0 (.inr ⟨by rfl, rfl⟩) rfl ?_
          refine wpAnyU_take (i := 8) (A := fun _ => True) (v := undef) (a' := ⟨#[.slice a n c, undef, .slice none 0 0, .int .i64 0, .pointer (some ⟨nv, 0, none⟩), .int .i64 0, .pointer (some ⟨na, 0, none⟩), .slice ao j co, .int .i64 (j : Int), u9, .tuple #[.agg (List.toArray cs), .int .i64 0], .slice a n c, .tuple #[.agg (List.toArray cs), .int .i64 0], .agg (List.toArray cs), .int .i64 0, .int .i64 0, .bool false, undef, .agg (List.toArray cs), .agg (List.toArray ds), .int .i64 (j : Int), .pointer (some ⟨na, 5, none⟩), .slice al L.length cl, .int .i64 (L.length : Int), .bool true, .bool true, .int .i64 (j : Int), .bool false, .bool false, u29, u30, u31, u32, u33, u34, u35, u36, u37, u38, u39, u40, u41, u42, u43, u44, u45, u46, u47, u48, .slice ao j co, .int .i64 C, .bool true, .bool true, undef, undef, undef, undef, undef, undef, undef], []⟩) hSm (hSi 8 (by decide)) (fun _ _ _ => trivial) rfl (by kernel_rfl) (by kernel_rfl) (by kernel_rfl) (fun _ _ _ h => h) hS0 (.inr ⟨by rfl, rfl⟩) rfl ?_
          refine wpAnyU_take (i := 9) (A := fun _ => True) (v := .bool true) (a' := ⟨#[.slice a n c, undef, .slice none 0 0, .int .i64 0, .pointer (some ⟨nv, 0, none⟩), .int .i64 0, .pointer (some ⟨na, 0, none⟩), .slice ao j co, .int .i64 (j : Int), u9, .tuple #[.agg (List.toArray cs), .int .i64 0], .slice a n c, .tuple #[.agg (List.toArray cs), .int .i64 0], .agg (List.toArray cs), .int .i64 0, .int .i64 0, .bool false, undef, .agg (List.toArray cs), .agg (List.toArray ds), .int .i64 (j : Int), .pointer (some ⟨na, 5, none⟩), .slice al L.length cl, .int .i64 (L.length : Int), .bool true, .bool true, .int .i64 (j : Int), .bool false, .bool false, u29, u30, u31, u32, u33, u34, u35, u36, u37, u38, u39, u40, u41, u42, u43, u44, u45, u46, u47, u48, .slice ao j co, .int .i64 C, .bool true, .bool true, undef, undef, undef, undef, undef, .bool true, undef], []⟩) hSm (hSi 9 (by decide)) (fun _ _ _ => trivial) rfl (by kernel_rfl) (by kernel_rfl) (by kernel_rfl) (fun _ _ _ h => h) hS0 (Tame.val rfl (fun w' hA => by go_simp)) rfl ?_
          refine wpAnyU_done (by kernel_rfl) ?_ _
          intro w12 hm12
          have hcur := Below.drewN' hm12
          clear hSm hSi hS0 hm12
          go_wp2
          go_ret2
          exact ⟨none, 0, by rw [hRR.out]; rfl, by rw [hRR.out]; exact Row.nil _ _, hbw.trans (hcur.mono hbw.size)⟩
        case pos =>
          have hlv := fun w' (hb : Below wr.heap.size wr w') => rListValue_any (c := co) hlenO (hrowO.below hb) hokO (by omega)
          have hvw := fun w' (hb : Below wr.heap.size wr w') => hVr.keep hb
          have hRR : Hid (lstR l = if sameV (listV OUT) v = true then (OUT, 0) else ([], 4)) := by
            show _ = _
            rw [hR.out, hok.out, decide_eq_true hc0, hout.out]; rfl
          have HLO := Lib.hid hlenO
          rw [hc0] at hck
          obtain ⟨S, hS⟩ : ∃ S, S = sameV (listV OUT) v := ⟨_, rfl⟩
          have hps := fun (w' : World) (c2 : List Value) (h : VAt w' c2 (listV OUT)) (hb : Below wr.heap.size wr w') => rsame_any h _ _ w' (hvw _ hb) (Below.refl _ _)
          rw [← hS] at hRR hps
          clear hS hrowO hlenO hokO hnmO hok hout hc0 hB hVr hvw h70
          generalize listV OUT = lo at *
          go_upto_region 11 with (fail)
          cases S
          all_goals
            go_region_held3 (fun w' => (ldOp 63 (.pointer (some ⟨nv, 0, none⟩))).run Try.prog w' = .ok (.agg (List.toArray cs)) w') (first | assumption | go_keep) (first
              | (go_at_call 31; refine (hck _ hcur).mono ?_; rintro e ws ⟨rfl, hbs⟩; have hcur := hcur.trans (hbs.mono hcur.size); have s1 := hq _ hcur)
              | (go_at_call 33; refine (hlv _ hcur).mono ?_; rintro e ws ⟨c2, rfl, hc2, hbs⟩; have hcur := hcur.trans (hbs.mono hcur.size); have s1 := hq _ hcur; have hc2' := hc2.at)
              | (go_at_call 46; refine (hps _ _ hc2' hcur).mono ?_; rintro e ws ⟨rfl, hbs⟩; have hcur := hcur.trans (hbs.mono hcur.size); have s1 := hq _ hcur))
          all_goals
            go_wp2
            go_ret2
            first
              | exact ⟨none, 0, by rw [hRR.out]; rfl, by rw [hRR.out]; exact Row.nil _ _, hbw.trans (hcur.mono hbw.size)⟩
              | exact ⟨ao, co, by rw [hRR.out, HLO.out]; rfl, by rw [hRR.out]; exact HROW.out.below hcur, hbw.trans (hcur.mono hbw.size)⟩
    case neg =>
      obtain rfl : j = L.length := by omega
      have j1 : ¬ (L.length : Int) < (L.length : Int) := by omega
      obtain ⟨ao, co, rfl, _, _, hrow, _⟩ := owns_rowN hO.out (by decide)
      obtain ⟨OUT, hOUT⟩ : ∃ OUT, OUT = (L.take L.length).map abtOf := ⟨_, rfl⟩
      have hrowO : Row wr ao (OUT.map abtC).flatten := by rw [hOUT, List.map_map]; exact hrow
      have hlenO : L.length = OUT.length := by rw [hOUT, List.length_map, List.length_take]; omega
      have hxO : ∀ y ∈ OUT, ∃ i, ∃ h : i < L.length, y = abtOf L[i] := by
        rw [hOUT]
        intro y hy
        obtain ⟨x, hx, rfl⟩ := List.mem_map.1 hy
        obtain ⟨i, hi, rfl⟩ := List.mem_iff_getElem.1 (List.mem_of_mem_take hx)
        exact ⟨i, hi, rfl⟩
      have hokO : ∀ x ∈ OUT, AbtOk x := by
        intro y hy
        obtain ⟨i, hi, rfl⟩ := hxO y hy
        exact abtOf_ok (sub i css[i] L[i] (by simp [hcs, hi]) (by simp [hi]))
      have hnmO : ∀ x ∈ OUT, x.name.length ≤ 100000 := by
        intro y hy
        obtain ⟨i, hi, rfl⟩ := hxO y hy
        have := atV_txt (hsubS _ (List.getElem_mem hi)) 0
        show (atV L[i] 0).text.length ≤ 100000
        omega
      have hout : Hid (lstOut v = OUT) := by
        show _ = _
        rw [hOUT, List.take_length, HLd.out]; exact lstOut_all (by rw [← HLd.out]; exact hj70)
      have hok : Hid (lstOk v = (decide (checkL OUT = 0) && sameV (listV OUT) v)) := by show _ = _; unfold lstOk; rw [hout.out]
      have hck := fun w' (hb : Below wr.heap.size wr w') => rCheckList_any (a := ao) (c := co) hlenO (hrowO.below hb) hokO hnmO (by omega)
      have hB := HB1.out.below hbr.out
      have hVr := HV3.out.keep hbr.out
      have hq := fun w' (hb : Below wr.heap.size wr w') => ldOp_all (P := Try.prog) (ty := 63) (hB.below hb) Try.underlying63 rfl (by rw [hVr.len]; exact sizeV)
      have hcur : Below wr.heap.size wr wr.drew := Gr.drewN wr 1
      have s1 := hq _ hcur
      have hbw := G0.out.trans (hbr.out.mono G0.out.size)
      have HROW := Lib.hid hrowO
      have h70 : OUT.length ≤ 70 := by omega
      clear hO hrow hOUT hxO
      by_cases hc0 : checkL OUT = 0
      case neg =>
        have hRR : Hid (lstR l = ([], 4)) := by show _ = _; rw [hR.out, hok.out, decide_eq_false hc0]; rfl
        have t1 : (checkL OUT != 0) = true := by simpa using hc0
        generalize checkL OUT = C at *
        clear hrowO hlenO hokO hnmO hok hout hB hVr hcur s1 hq
        go_upto_region 11 with (fail)
        have hSm : ∀ (L : Array Bool) (w1 w2 : World), Mo (wr.drewN 1) w1 → Mo w1 w2 → Mo (wr.drewN 1) w2 := fun _ w1 w2 h hm => Mo.trans h hm
        have hSi : ∀ i, i ≠ 99 → ∀ (L : Array Bool) (w1 : World), Mo (wr.drewN 1) w1 ↔ Mo (wr.drewN 1) w1 := fun _ _ _ _ => Iff.rfl
        have hS0 := Mo.refl (wr.drewN 1)
        refine wp_region_upN (S := fun _ w1 => Mo (wr.drewN 1) w1) 10 rfl (by kernel_rfl) ?_
        refine wpAnyU_take (i := 0) (A := fun _ => True) (v := .slice ao L.length co) (a' := ⟨#[.slice a n c, undef, .slice none 0 0, .int .i64 0, .pointer (some ⟨nv, 0, none⟩), .int .i64 0, .pointer (some ⟨na, 0, none⟩), .slice ao L.length co, .int .i64 (L.length : Int), u9, .tuple #[.agg (List.toArray cs), .int .i64 0], .slice a n c, .tuple #[.agg (List.toArray cs), .int .i64 0], .agg (List.toArray cs), .int .i64 0, .int .i64 0, .bool false, undef, .agg (List.toArray cs), .agg (List.toArray ds), .int .i64 (L.length : Int), .pointer (some ⟨na, 5, none⟩), .slice al L.length cl, .int .i64 (L.length : Int), .bool false, .bool false, undef, undef, .bool false, u29, u30, u31, u32, u33, u34, u35, u36, u37, u38, u39, u40, u41, u42, u43, u44, u45, u46, u47, u48, .slice ao L.length co, undef, undef, undef, undef, undef, undef, undef, undef, undef, undef], []⟩) hSm (hSi 0 (by decide)) (fun _ _ _ => trivial) rfl (by kernel_rfl) (by kernel_rfl) (by kernel_rfl) (fun _ _ _ h => h) hS0 (Tame.val rfl (fun w' hA => by go_simp)) rfl ?_
        refine wpAnyU_take (i := 1) (A := fun w1 => Mo (wr.drewN 1) w1) (v := .int .i64 C) (a' := ⟨#[.slice a n c, undef, .slice none 0 0, .int .i64 0, .pointer (some ⟨nv, 0, none⟩), .int .i64 0, .pointer (some ⟨na, 0, none⟩), .slice ao L.length co, .int .i64 (L.length : Int), u9, .tuple #[.agg (List.toArray cs), .int .i64 0], .slice a n c, .tuple #[.agg (List.toArray cs), .int .i64 0], .agg (List.toArray cs), .int .i64 0, .int .i64 0, .bool false, undef, .agg (List.toArray cs), .agg (List.toArray ds), .int .i64 (L.length : Int), .pointer (some ⟨na, 5, none⟩), .slice al L.length cl, .int .i64 (L.length : Int), .bool false, .bool false, undef, undef, .bool false, u29, u30, u31, u32, u33, u34, u35, u36, u37, u38, u39, u40, u41, u42, u43, u44, u45, u46, u47, u48, .slice ao L.length co, .int .i64 C, undef, undef, undef, undef, undef, undef, undef, undef, undef], []⟩) hSm (hSi 1 (by decide)) (fun _ _ h => h) rfl (by kernel_rfl) (by kernel_rfl) (by kernel_rfl) (fun _ _ _ h => h) hS0 (Tame.enter rfl (fun w' => by go_simp) (fun w' hA => hck w' (Below.drewN' hA))) rfl ?_
        refine wpAnyU_take (i := 2) (A := fun _ => True) (v := .bool true) (a' := ⟨#[.slice a n c, undef, .slice none 0 0, .int .i64 0, .pointer (some ⟨nv, 0, none⟩), .int .i64 0, .pointer (some ⟨na, 0, none⟩), .slice ao L.length co, .int .i64 (L.length : Int), u9, .tuple #[.agg (List.toArray cs), .int .i64 0], .slice a n c, .tuple #[.agg (List.toArray cs), .int .i64 0], .agg (List.toArray cs), .int .i64 0, .int .i64 0, .bool false, undef, .agg (List.toArray cs), .agg (List.toArray ds), .int .i64 (L.length : Int), .pointer (some ⟨na, 5, none⟩), .slice al L.length cl, .int .i64 (L.length : Int), .bool false, .bool false, undef, undef, .bool false, u29, u30, u31, u32, u33, u34, u35, u36, u37, u38, u39, u40, u41, u42, u43, u44, u45, u46, u47, u48, .slice ao L.length co, .int .i64 C, .bool true, undef, undef, undef, undef, undef, undef, undef, undef], []⟩) hSm (hSi 2 (by decide)) (fun _ _ _ => trivial) rfl (by kernel_rfl) (by kernel_rfl) (by kernel_rfl) (fun _ _ _ h => h) hS0 (Tame.val rfl (fun w' hA => by go_simp)) rfl ?_
        refine wpAnyU_take (i := 3) (A := fun _ => True) (v := .bool true) (a' := ⟨#[.slice a n c, undef, .slice none 0 0, .int .i64 0, .pointer (some ⟨nv, 0, none⟩), .int .i64 0, .pointer (some ⟨na, 0, none⟩), .slice ao L.length co, .int .i64 (L.length : Int), u9, .tuple #[.agg (List.toArray cs), .int .i64 0], .slice a n c, .tuple #[.agg (List.toArray cs), .int .i64 0], .agg (List.toArray cs), .int .i64 0, .int .i64 0, .bool false, undef, .agg (List.toArray cs), .agg (List.toArray ds), .int .i64 (L.length : Int), .pointer (some ⟨na, 5, none⟩), .slice al L.length cl, .int .i64 (L.length : Int), .bool false, .bool false, undef, undef, .bool false, u29, u30, u31, u32, u33, u34, u35, u36, u37, u38, u39, u40, u41, u42, u43, u44, u45, u46, u47, u48, .slice ao L.length co, .int .i64 C, .bool true, .bool true, undef, undef, undef, undef, undef, undef, undef], []⟩) hSm (hSi 3 (by decide)) (fun _ _ _ => trivial) rfl (by kernel_rfl) (by kernel_rfl) (by kernel_rfl) (fun _ _ _ h => h) hS0 (Tame.val rfl (fun w' hA => by go_simp)) rfl ?_
        refine wpAnyU_take (i := 4) (A := fun _ => True) (v := undef) (a' := ⟨#[.slice a n c, undef, .slice none 0 0, .int .i64 0, .pointer (some ⟨nv, 0, none⟩), .int .i64 0, .pointer (some ⟨na, 0, none⟩), .slice ao L.length co, .int .i64 (L.length : Int), u9, .tuple #[.agg (List.toArray cs), .int .i64 0], .slice a n c, .tuple #[.agg (List.toArray cs), .int .i64 0], .agg (List.toArray cs), .int .i64 0, .int .i64 0, .bool false, undef, .agg (List.toArray cs), .agg (List.toArray ds), .int .i64 (L.length : Int), .pointer (some ⟨na, 5, none⟩), .slice al L.length cl, .int .i64 (L.length : Int), .bool false, .bool false, undef, undef, .bool false, u29, u30, u31, u32, u33, u34, u35, u36, u37, u38, u39, u40, u41, u42, u43, u44, u45, u46, u47, u48, .slice ao L.length co, .int .i64 C, .bool true, .bool true, undef, undef, undef, undef, undef, undef, undef], []⟩) hSm (hSi 4 (by decide)) (fun _ _ _ => trivial) rfl (by kernel_rfl) (by kernel_rfl) (by kernel_rfl) (fun _ _ _ h => h) hS0 (.inr ⟨by rfl, rfl⟩) rfl ?_
        refine wpAnyU_take (i := 5) (A := fun _ => True) (v := undef) (a' := ⟨#[.slice a n c, undef, .slice none 0 0, .int .i64 0, .pointer (some ⟨nv, 0, none⟩), .int .i64 0, .pointer (some ⟨na, 0, none⟩), .slice ao L.length co, .int .i64 (L.length : Int), u9, .tuple #[.agg (List.toArray cs), .int .i64 0], .slice a n c, .tuple #[.agg (List.toArray cs), .int .i64 0], .agg (List.toArray cs), .int .i64 0, .int .i64 0, .bool false, undef, .agg (List.toArray cs), .agg (List.toArray ds), .int .i64 (L.length : Int), .pointer (some ⟨na, 5, none⟩), .slice al L.length cl, .int .i64 (L.length : Int), .bool false, .bool false, undef, undef, .bool false, u29, u30, u31, u32, u33, u34, u35, u36, u37, u38, u39, u40, u41, u42, u43, u44, u45, u46, u47, u48, .slice ao L.length co, .int .i64 C, .bool true, .bool true, undef, undef, undef, undef, undef, undef, undef], []⟩) hSm (hSi 5 (by decide)) (fun _ _ _ => trivial) rfl (by kernel_rfl) (by kernel_rfl) (by kernel_rfl) (fun _ _ _ h => h) hS0 (.inr ⟨by rfl, rfl⟩) rfl ?_
        refine wpAnyU_take (i := 6) (A := fun _ => True) (v := undef) (a' := ⟨#[.slice a n c, undef, .slice none 0 0, .int .i64 0, .pointer (some ⟨nv, 0, none⟩), .int .i64 0, .pointer (some ⟨na, 0, none⟩), .slice ao L.length co, .int .i64 (L.length : Int), u9, .tuple #[.agg (List.toArray cs), .int .i64 0], .slice a n c, .tuple #[.agg (List.toArray cs), .int .i64 0], .agg (List.toArray cs), .int .i64 0, .int .i64 0, .bool false, undef, .agg (List.toArray cs), .agg (List.toArray ds), .int .i64 (L.length : Int), .pointer (some ⟨na, 5, none⟩), .slice al L.length cl, .int .i64 (L.length : Int), .bool false, .bool false, undef, undef, .bool false, u29, u30, u31, u32, u33, u34, u35, u36, u37, u38, u39, u40, u41, u42, u43, u44, u45, u46, u47, u48, .slice ao L.length co, .int .i64 C, .bool true, .bool true, undef, undef, undef, undef, undef, undef, undef], []⟩) hSm (hSi 6 (by decide)) (fun _ _ _ => trivial) rfl (by kernel_rfl) (by kernel_rfl) (by kernel_rfl) (fun _ _ _ h => h) hS0 (.inr ⟨by rfl, rfl⟩) rfl ?_
        refine wpAnyU_take (i := 7) (A := fun _ => True) (v := undef) (a' := ⟨#[.slice a n c, undef, .slice none 0 0, .int .i64 0, .pointer (some ⟨nv, 0, none⟩), .int .i64 0, .pointer (some ⟨na, 0, none⟩), .slice ao L.length co, .int .i64 (L.length : Int), u9, .tuple #[.agg (List.toArray cs), .int .i64 0], .slice a n c, .tuple #[.agg (List.toArray cs), .int .i64 0], .agg (List.toArray cs), .int .i64 0, .int .i64 0, .bool false, undef, .agg (List.toArray cs), .agg (List.toArray ds), .int .i64 (L.length : Int), .pointer (some ⟨na, 5, none⟩), .slice al L.length cl, .int .i64 (L.length : Int), .bool false, .bool false, undef, undef, .bool false, u29, u30, u31, u32, u33, u34, u35, u36, u37, u38, u39, u40, u41, u42, u43, u44, u45, u46, u47, u48, .slice ao L.length co, .int .i64 C, .bool true, .bool true, undef, undef, undef, undef, undef, undef, undef], []⟩) hSm (hSi 7 (by decide)) (fun _ _ _ => trivial) rfl (by kernel_rfl) (by kernel_rfl) (by kernel_rfl) (fun _ _ _ h => h) hS0 (.inr ⟨by rfl, rfl⟩) rfl ?_
        refine wpAnyU_take (i := 8) (A := fun _ => True) (v := undef) (a' := ⟨#[.slice a n c, undef, .slice none 0 0, .int .i64 0, .pointer (some ⟨nv, 0, none⟩), .int .i64 0, .pointer (some ⟨na, 0, none⟩), .slice ao L.length co, .int .i64 (L.length : Int), u9, .tuple #[.agg (List.toArray cs), .int .i64 0], .slice a n c, .tuple #[.agg (List.toArray cs), .int .i64 0], .agg (List.toArray cs), .int .i64 0, .int .i64 0, .bool false, undef, .agg (List.toArray cs), .agg (List.toArray ds), .int .i64 (L.length : Int), .pointer (some ⟨na, 5, none⟩), .slice al L.length cl, .int .i64 (L.length : Int), .bool false, .bool false, undef, undef, .bool false, u29, u30, u31, u32, u33, u34, u35, u36, u37, u38, u39, u40, u41, u42, u43, u44, u45, u46, u47, u48, .slice ao L.length co, .int .i64 C, .bool true, .bool true, undef, undef, undef, undef, undef, undef, undef], []⟩) hSm (hSi 8 (by decide)) (fun _ _ _ => trivial) rfl (by kernel_rfl) (by kernel_rfl) (by kernel_rfl) (fun _ _ _ h => h) hS0 (.inr ⟨by rfl, rfl⟩) rfl ?_
        refine wpAnyU_take (i := 9) (A := fun _ => True) (v := .bool true) (a' := ⟨#[.slice a n c, undef, .slice none 0 0, .int .i64 0, .pointer (some ⟨nv, 0, none⟩), .int .i64 0, .pointer (some ⟨na, 0, none⟩), .slice ao L.length co, .int .i64 (L.length : Int), u9, .tuple #[.agg (List.toArray cs), .int .i64 0], .slice a n c, .tuple #[.agg (List.toArray cs), .int .i64 0], .agg (List.toArray cs), .int .i64 0, .int .i64 0, .bool false, undef, .agg (List.toArray cs), .agg (List.toArray ds), .int .i64 (L.length : Int), .pointer (some ⟨na, 5, none⟩), .slice al L.length cl, .int .i64 (L.length : Int), .bool false, .bool false, undef, undef, .bool false, u29, u30, u31, u32, u33, u34, u35, u36, u37, u38, u39, u40, u41, u42, u43, u44, u45, u46, u47, u48, .slice ao L.length co, .int .i64 C, .bool true, .bool true, undef, undef, undef, undef, undef, .bool true, undef], []⟩) hSm (hSi 9 (by decide)) (fun _ _ _ => trivial) rfl (by kernel_rfl) (by kernel_rfl) (by kernel_rfl) (fun _ _ _ h => h) hS0 (Tame.val rfl (fun w' hA => by go_simp)) rfl ?_
        refine wpAnyU_done (by kernel_rfl) ?_ _
        intro w12 hm12
        have hcur := Below.drewN' hm12
        clear hSm hSi hS0 hm12
        go_wp2
        go_ret2
        exact ⟨none, 0, by rw [hRR.out]; rfl, by rw [hRR.out]; exact Row.nil _ _, hbw.trans (hcur.mono hbw.size)⟩
      case pos =>
        have hlv := fun w' (hb : Below wr.heap.size wr w') => rListValue_any (c := co) hlenO (hrowO.below hb) hokO (by omega)
        have hvw := fun w' (hb : Below wr.heap.size wr w') => hVr.keep hb
        have hRR : Hid (lstR l = if sameV (listV OUT) v = true then (OUT, 0) else ([], 4)) := by
          show _ = _
          rw [hR.out, hok.out, decide_eq_true hc0, hout.out]; rfl
        have HLO := Lib.hid hlenO
        rw [hc0] at hck
        obtain ⟨S, hS⟩ : ∃ S, S = sameV (listV OUT) v := ⟨_, rfl⟩
        have hps := fun (w' : World) (c2 : List Value) (h : VAt w' c2 (listV OUT)) (hb : Below wr.heap.size wr w') => rsame_any h _ _ w' (hvw _ hb) (Below.refl _ _)
        rw [← hS] at hRR hps
        clear hS hrowO hlenO hokO hnmO hok hout hc0 hB hVr hvw h70
        generalize listV OUT = lo at *
        go_upto_region 11 with (fail)
        cases S
        all_goals
          go_region_held3 (fun w' => (ldOp 63 (.pointer (some ⟨nv, 0, none⟩))).run Try.prog w' = .ok (.agg (List.toArray cs)) w') (first | assumption | go_keep) (first
            | (go_at_call 31; refine (hck _ hcur).mono ?_; rintro e ws ⟨rfl, hbs⟩; have hcur := hcur.trans (hbs.mono hcur.size); have s1 := hq _ hcur)
            | (go_at_call 33; refine (hlv _ hcur).mono ?_; rintro e ws ⟨c2, rfl, hc2, hbs⟩; have hcur := hcur.trans (hbs.mono hcur.size); have s1 := hq _ hcur; have hc2' := hc2.at)
            | (go_at_call 46; refine (hps _ _ hc2' hcur).mono ?_; rintro e ws ⟨rfl, hbs⟩; have hcur := hcur.trans (hbs.mono hcur.size); have s1 := hq _ hcur))
        all_goals
          go_wp2
          go_ret2
          first
            | exact ⟨none, 0, by rw [hRR.out]; rfl, by rw [hRR.out]; exact Row.nil _ _, hbw.trans (hcur.mono hbw.size)⟩
            | exact ⟨ao, co, by rw [hRR.out, HLO.out]; rfl, by rw [hRR.out]; exact HROW.out.below hcur, hbw.trans (hcur.mono hbw.size)⟩
end Go.Proofs.Ytakliplkabgmbaa
set_option maxRecDepth 20000
namespace Go.Proofs.Ytakliplkabgmbaa
open Go.RowKit Go.Hd
def zidL : List UInt8 := List.replicate 32 0
def prtOf (x : PV) : Prt := ⟨keyV (atV x 0).bytes, (atV x 1).int⟩
def arcX (v : PV) : Abt := ⟨(fldV v [110]).text, zidL, (fldV v [116]).int, (fldV v [99]).text, (fldV v [113]).int, (fldV v [98]).int⟩
def arcL (v : PV) : List Prt := ((fldV v [105]).list.take 70).map prtOf
def arcOk (v : PV) : Bool := decide (checkA (arcX v) (arcL v) = 0) && sameV (archV (arcX v) (arcL v)) v
def abt0 : Abt := ⟨[], zidL, 0, [], 0, 0⟩
def arcR (l : List UInt8) : Abt × List Prt × Int := if (decF l).2 ≠ 0 then (abt0, [], (decF l).2) else if arcOk (decF l).1 = true then (arcX (decF l).1, arcL (decF l).1, 0) else (abt0, [], 4)
theorem norm_prt (p : Prt) : normV (prtV p) = prtV p := by
  unfold prtV
  rw [norm_list]
  simp only [normL, norm_byt, norm_num]
theorem norm_archV (x : Abt) (l : List Prt) : normV (archV x l) = archV x l := by
  unfold archV
  rw [normV_mk]
  show PV.mk 7 0 [] [] _ (normL _) = _
  simp only [normL, norm_list, norm_num, norm_txt]
  rw [normL_id (l := l.map prtV) (fun x hx => by obtain ⟨y, _, rfl⟩ := List.mem_map.1 hx; exact norm_prt y)]
theorem same_arch {x : Abt} {l : List Prt} {v : PV} (hn : normV v = v) (h : sameV (archV x l) v = true) : v = archV x l := by
  have := (sameV_norm _ _).1 h
  rw [norm_archV, hn] at this
  exact this.symm
theorem fld_archV (x : Abt) (l : List Prt) : fldV (archV x l) [105] = pList (l.map prtV) := by
  unfold archV
  rw [fldV_mk, if_pos rfl, findK, if_neg (by decide), findK, if_neg (by decide), findK, if_pos rfl]
  rfl
theorem isV_prt {p : Prt} (h : p.id.length = 32) : isV (prtV p) [4, 3] = true := by
  simp [isV, prtV, pList, isL, pByt, pNum, PV.kind, PV.list, PV.bytes, h]
theorem arcL_ids (v : PV) : ∀ x ∈ arcL v, x.id.length = 32 := fun x hx => by
  obtain ⟨y, _, rfl⟩ := List.mem_map.1 hx
  exact keyV_len _
theorem checkA_long {x : Abt} {l : List Prt} (h : 64 < l.length) : checkA x l ≠ 0 := by
  unfold checkA
  by_cases h1 : nameB x.name = true
  · rw [if_pos h1, if_neg (by unfold limB; simp; intros; omega)]; decide
  · rw [if_neg h1]; decide
theorem arcOk_short {v : PV} (h : arcOk v = true) : (fldV v [105]).list.length ≤ 64 := by
  unfold arcOk at h
  rw [Bool.and_eq_true, decide_eq_true_eq] at h
  by_cases h1 : 64 < (arcL v).length
  · exact absurd h.1 (checkA_long h1)
  · have : (arcL v).length = min 70 (fldV v [105]).list.length := by simp [arcL]
    omega
theorem ard_bad {v : PV} (hn : normV v = v) {x : PV} (hx : x ∈ (fldV v [105]).list) (hb : isV x [4, 3] = false) : arcOk v = false := by
  by_cases h : arcOk v = true
  · have hv : v = archV (arcX v) (arcL v) := by
      unfold arcOk at h
      rw [Bool.and_eq_true] at h
      exact same_arch hn h.2
    have h1 : (fldV v [105]).list = (arcL v).map prtV := by
      have := fld_archV (arcX v) (arcL v)
      rw [← hv] at this
      rw [this]; rfl
    rw [h1] at hx
    obtain ⟨y, hy, rfl⟩ := List.mem_map.1 hx
    rw [isV_prt (arcL_ids v y hy)] at hb
    cases hb
  · simpa using h
theorem arcL_all {v : PV} (h : (fldV v [105]).list.length ≤ 70) : arcL v = (fldV v [105]).list.map prtOf := by
  unfold arcL; rw [List.take_of_length_le h]
theorem arcOk_all (v : PV) : arcOk v = (decide (checkA (arcX v) ((fldV v [105]).list.map prtOf) = 0) && sameV (archV (arcX v) ((fldV v [105]).list.map prtOf)) v) := by
  by_cases h : (fldV v [105]).list.length ≤ 70
  · unfold arcOk; rw [arcL_all h]
  · unfold arcOk
    rw [decide_eq_false (checkA_long (l := arcL v) (by simp [arcL]; omega)), decide_eq_false (checkA_long (l := (fldV v [105]).list.map prtOf) (by simp; omega))]
    simp
theorem isV_parts2 {x : PV} (h : isV x [4, 3] = true) : ∃ x0 x1, x.list = [x0, x1] ∧ x0.bytes.length = 32 := by
  unfold isV at h
  rw [Bool.and_eq_true, Bool.and_eq_true, decide_eq_true_eq, decide_eq_true_eq] at h
  obtain ⟨⟨_, h1⟩, h2⟩ := h
  match hx : x.list, h1 with
  | [x0, x1], _ =>
    rw [hx] at h2
    simp [isL] at h2
    exact ⟨x0, x1, rfl, h2.1.2⟩
end Go.Proofs.Ytakliplkabgmbaa
