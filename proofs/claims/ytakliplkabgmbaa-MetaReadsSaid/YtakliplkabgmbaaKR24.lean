/- Joined: what one statement of this layer stands on, part 24 of 25; nothing is assumed. -/
import Derived.Deep.DeepCutAuto
import Derived.Test.YtakliplkabgmbaaKR23
set_option maxRecDepth 20000
namespace Go.Proofs.Ytakliplkabgmbaa
open Go.RowKit Go.Hd
attribute [local go_sem ↓] h_ldV h_stV h_alV h_ldID h_stID h_alID h_ldAB h_stAB h_alAB h_bdAB h_ldPA h_stPA h_alPA h_bsPA h_bdPA
attribute [local go_sem] r_ldV r_stV r_alV r_ldID r_stID r_alID r_ldAB r_stAB r_alAB r_ldPA r_stPA r_alPA r_bsPA fieldV1 fieldV3 fieldV5
theorem run_alAB {ρ : Operand → Value} {dst : Option Tmp} {ty : TypeId} {pos : String} {after : Array Edge} {guard : Option (Nat × Bool)} {w : World} :
    (execOp ρ { dst, op := .alloc 31, type := ty, pos, after, guard }).run Try.prog w = .ok (.value (.pointer (some ⟨w.heap.size, 0, none⟩))) (w.alloc (.cells zAB 31)) := by
  rw [h_alAB, Sem.run_bind, r_alAB]; rfl
theorem fldTxt {w : World} {ds : List Value} {x : PV} (h : VAt w ds x) (w' : World) : (Instr.field 63 (.agg (List.toArray ds)) 3).run Try.prog w' = .ok (.string (str x.text)) w' := by
  obtain ⟨_, _, _, _, rfl, _⟩ := VAt.all h
  exact fieldV3
theorem fldInt {w : World} {ds : List Value} {x : PV} (h : VAt w ds x) (w' : World) : (Instr.field 63 (.agg (List.toArray ds)) 1).run Try.prog w' = .ok (.int .i64 x.int) w' := by
  obtain ⟨_, _, _, _, rfl, _⟩ := VAt.all h
  exact fieldV1
def SA26 (W2 : World) (nv : Nat) (cs : List Value) (w1 : World) : Prop := Blk w1 nv 63 cs ∧ Below W2.heap.size W2 w1
set_option maxHeartbeats 4000000 in
theorem rReadArchive_any {a : Option Addr} {n c : Nat} {l : List UInt8} {w : World} (hn : n = l.length) (hl : Row w a (l.map b8)) (hc : l.length ≤ c) (hm : c ≤ maxLen) :
    Calls Try.prog 24 #[.slice a n c] w (RdArcP w l) := by
  have zs := zV_size
  have zab := zAB_size
  have hb0 : Below w.heap.size w (w.alloc (.cells zAB 31)) := (Below.refl _ _).alloc (Nat.le_refl _) _
  have R0 : Blk (w.alloc (.cells zAB 31)) w.heap.size 31 zAB.toList := Blk.new _ _ _
  have hdec := rdec_any (c := c) hn (hl.below hb0) hc hm
  have zl : zAB.toList.length = 37 := rfl
  clear hn hl hm hc
  have hSm := decF_sm l
  have hRL : Hid (arcR l = if (decF l).2 ≠ 0 then (abt0, [], (decF l).2) else if arcOk (decF l).1 = true then (arcX (decF l).1, arcL (decF l).1, 0) else (abt0, [], 4)) := rfl
  have hbd0 := fun {w : World} => bd_abt0 (w := w)
  obtain ⟨Z0, hZ0⟩ : ∃ Z0, Z0 = abtC abt0 := ⟨_, rfl⟩
  have HZ := Lib.hid hZ0
  have z6 : (List.toArray Z0).size = 37 := by rw [hZ0]; rfl
  have hres0 := fun (W : World) (old : List Value) (hR : Blk W w.heap.size 31 old) (ho : old.length = 37) (hb : Below w.heap.size w W) => res_abt hR ho abt0_ok (Nat.le_refl _) hb
  rw [← hZ0] at hbd0 hres0
  clear hZ0
  go_enter Try.func24, Try.ntmps24
  go_wp2_with fail
  refine hdec.mono ?_
  rintro e w1 ⟨cs, rfl, hv, hb1⟩
  have x6 : (List.toArray cs).size = 6 := hv.len
  have xo : OneC (List.toArray cs) := all_oneCell_toArray hv.one
  have hnorm : (decF l).2 = 0 → normV (decF l).1 = (decF l).1 := decF_norm (VAt.okV hv.at)
  have R1 := R0.below hb1
  have hbw1 : Below w.heap.size w w1 := Gr.trans hb0 hb1
  generalize decF l = D at *
  obtain ⟨v, E⟩ := D
  simp only at hv hSm hnorm hRL ⊢
  have hB1 : Blk (w1.alloc (.cells (List.toArray cs) 63)) w1.heap.size 63 cs := Blk.new _ _ _
  have hb1' : Below w1.heap.size w1 (w1.alloc (.cells (List.toArray cs) 63)) := (Below.refl _ _).alloc (Nat.le_refl _) _
  have R2 := R1.below hb1'
  have hbw2 : Below w.heap.size w (w1.alloc (.cells (List.toArray cs) 63)) := hbw1.trans (hb1'.mono hbw1.size)
  by_cases hE : E = 0
  case neg =>
    have t1 : (E != 0) = true := by simpa using hE
    have hR : Hid (arcR l = (abt0, [], E)) := by show _ = _; rw [hRL.out, if_pos hE]
    obtain ⟨W2, y1, y2, _, y4⟩ := hres0 _ _ R2 zl hbw2
    go_wp2
    refine bodyPost_ret (results_cell_tmp2 (fn := Try.f24) (p := 2) (t := 3) (u := 4) (by rfl) _ _ w.heap.size 31 _ (0, 0) _ (by rfl) y2 Try.underlying31 rfl (by rw [z6]; exact sizeAB)) rfl ?_
    exact ⟨none, 0, by rw [hR.out, HZ.out]; rfl, by rw [hR.out]; exact Row.nil _ _, y4, by rw [hR.out]; intro h; simp at h⟩
  case pos =>
  subst hE
  have hR : Hid (arcR l = if arcOk v = true then (arcX v, arcL v, 0) else (abt0, [], 4)) := by show _ = _; rw [hRL.out, if_neg (by simp)]
  have hnv := hnorm rfl
  have hvat := hv.at.keep hb1'
  have hgf := fld_norm hnv
  have hget := fun (key : List UInt8) (w' : World) (hb : Below (w1.alloc (.cells (List.toArray cs) 63)).heap.size (w1.alloc (.cells (List.toArray cs) 63)) w') => field_any key hvat hSm w' hb
  have hcl6 := hvat.len
  have hgf := fld_norm hnv
  clear hnorm hRL hdec
  obtain ⟨nm, hnm⟩ : ∃ nm, Hid (nm = (fldV v [110]).text) := ⟨_, Lib.hid rfl⟩
  obtain ⟨tm, htm⟩ : ∃ tm, Hid (tm = (fldV v [116]).int) := ⟨_, Lib.hid rfl⟩
  obtain ⟨cm, hcm⟩ : ∃ cm, Hid (cm = (fldV v [99]).text) := ⟨_, Lib.hid rfl⟩
  obtain ⟨it, hit⟩ : ∃ it, Hid (it = (fldV v [113]).int) := ⟨_, Lib.hid rfl⟩
  obtain ⟨bs, hbs⟩ : ∃ bs, Hid (bs = (fldV v [98]).int) := ⟨_, Lib.hid rfl⟩
  have hXd : arcX v = ⟨nm, zidL, tm, cm, it, bs⟩ := by rw [hnm.out, htm.out, hcm.out, hit.out, hbs.out]; rfl
  have hbd := fun {w : World} => bd_arc (nm := nm) (cm := cm) (tm := tm) (it := it) (bs := bs) (w := w)
  obtain ⟨XC, hXC⟩ : ∃ XC, XC = abtC (arcX v) := ⟨_, rfl⟩
  rw [← hXd, ← hXC] at hbd
  have X1 : (List.toArray XC).size = 37 := by rw [hXC, hXd]; simp [abtC, zidL]
  have hXl : XC.length = 37 := by simpa using X1
  have hXone : ∀ v ∈ XC, v.oneCell' = true := by rw [hXC]; exact abtC_one _
  have hXdrop : zAB.toList.take 0 ++ XC ++ zAB.toList.drop (0 + XC.length) = XC := by
    rw [List.drop_of_length_le (by rw [hXl]; exact Nat.le_refl _)]; simp
  have hXCh := Lib.hid hXC
  have hXdh := Lib.hid hXd
  clear hXC
  have HV2 := Lib.hid hvat
  have HR2 := Lib.hid R2
  have HW2 := Lib.hid hbw2
  have HB2 := Lib.hid hB1
  go_upto_region 4 with (fail)
  generalize w1.alloc (.cells (List.toArray cs) 63) = W2 at *
  generalize w1.heap.size = nv at *
  go_cut [7] (fun s7 wx => ∃ g, s7 = .pointer (some ⟨g, 0, none⟩) ∧ W2.heap.size ≤ g ∧ Blk wx g 31 XC ∧ AbtOk (arcX v) ∧ Below W2.heap.size W2 wx)
  case first =>
    clear hb0 hb1 hbw1 R0 R1 R2 hb1' hbw2 hR hres0 hbd0
    generalize (Value.tuple #[.agg (List.toArray cs), .int .i64 0]) = T1
    generalize hT2 : (Value.pointer (some ⟨w.heap.size, 0, none⟩)) = T2
    generalize ho : undef = o
    have hT2 := Lib.hid hT2
    have ho := Lib.hid ho
    have hSm : ∀ (L : Array Bool) (w1 w2 : World), (SA26 W2 nv cs w1) → Mo w1 w2 → (SA26 W2 nv cs w2) := fun _ w1 w2 h hm => ⟨h.1.below hm, h.2.trans (hm.mono h.2.size)⟩
    have hSi : ∀ i, i ≠ 99 → ∀ (L : Array Bool) (w1 : World), (SA26 W2 nv cs w1) ↔ (SA26 W2 nv cs w1) := fun _ _ _ _ => Iff.rfl
    have hS0 : (SA26 W2 nv cs (W2.drewN 1)) := ⟨hB1, Below.drewN (Below.refl _ _) 1⟩
    refine wp_region_upN (S := fun _ w1 => (SA26 W2 nv cs w1)) 18 rfl (by kernel_rfl) ?_
    refine wpAnyU_take (i := 0) (A := SA26 W2 nv cs) (v := .agg (List.toArray cs)) (a' := ⟨#[.slice a n c, o, T2, .slice none 0 0, .int .i64 0, .pointer (some ⟨nv, 0, none⟩), .int .i64 0, o, o, o, o, T1, .slice a n c, T1, .agg (List.toArray cs), .int .i64 0, .int .i64 0, .bool false, o, o, .agg (List.toArray cs), o, o, o, o, o, o, o, o, o, o, o, o, o, o, o, o, o, o, o, o, o, o, o, o, o, o, o, o, o, o, o, o, o, o, o, o, o, o, o, o, o, o, o, o, o, o, o, o, o, o, o, o, o, o, o, o, o, o, o, o, o], []⟩) hSm (hSi 0 (by decide)) (fun _ _ h => h) rfl (by kernel_rfl) (by kernel_rfl) (by kernel_rfl) (fun _ _ _ h => h) hS0 (Tame.val rfl (fun w' hA => run_ldOp (ldOp_all hA.1 Try.underlying63 rfl (by rw [hcl6]; exact sizeV)))) rfl ?_
    refine wpAnyU_take (i := 3) (A := SA26 W2 nv cs) (v := .agg (List.toArray cs)) (a' := ⟨#[.slice a n c, o, T2, .slice none 0 0, .int .i64 0, .pointer (some ⟨nv, 0, none⟩), .int .i64 0, o, o, o, o, T1, .slice a n c, T1, .agg (List.toArray cs), .int .i64 0, .int .i64 0, .bool false, o, o, .agg (List.toArray cs), o, o, .agg (List.toArray cs), o, o, o, o, o, o, o, o, o, o, o, o, o, o, o, o, o, o, o, o, o, o, o, o, o, o, o, o, o, o, o, o, o, o, o, o, o, o, o, o, o, o, o, o, o, o, o, o, o, o, o, o, o, o, o, o, o, o], []⟩) hSm (hSi 3 (by decide)) (fun _ _ h => h) rfl (by kernel_rfl) (by kernel_rfl) (by kernel_rfl) (fun _ _ _ h => h) hS0 (Tame.val rfl (fun w' hA => run_ldOp (ldOp_all hA.1 Try.underlying63 rfl (by rw [hcl6]; exact sizeV)))) rfl ?_
    refine wpAnyU_take (i := 6) (A := SA26 W2 nv cs) (v := .agg (List.toArray cs)) (a' := ⟨#[.slice a n c, o, T2, .slice none 0 0, .int .i64 0, .pointer (some ⟨nv, 0, none⟩), .int .i64 0, o, o, o, o, T1, .slice a n c, T1, .agg (List.toArray cs), .int .i64 0, .int .i64 0, .bool false, o, o, .agg (List.toArray cs), o, o, .agg (List.toArray cs), o, o, .agg (List.toArray cs), o, o, o, o, o, o, o, o, o, o, o, o, o, o, o, o, o, o, o, o, o, o, o, o, o, o, o, o, o, o, o, o, o, o, o, o, o, o, o, o, o, o, o, o, o, o, o, o, o, o, o, o, o, o, o], []⟩) hSm (hSi 6 (by decide)) (fun _ _ h => h) rfl (by kernel_rfl) (by kernel_rfl) (by kernel_rfl) (fun _ _ _ h => h) hS0 (Tame.val rfl (fun w' hA => run_ldOp (ldOp_all hA.1 Try.underlying63 rfl (by rw [hcl6]; exact sizeV)))) rfl ?_
    refine wpAnyU_take (i := 9) (A := SA26 W2 nv cs) (v := .agg (List.toArray cs)) (a' := ⟨#[.slice a n c, o, T2, .slice none 0 0, .int .i64 0, .pointer (some ⟨nv, 0, none⟩), .int .i64 0, o, o, o, o, T1, .slice a n c, T1, .agg (List.toArray cs), .int .i64 0, .int .i64 0, .bool false, o, o, .agg (List.toArray cs), o, o, .agg (List.toArray cs), o, o, .agg (List.toArray cs), o, o, .agg (List.toArray cs), o, o, o, o, o, o, o, o, o, o, o, o, o, o, o, o, o, o, o, o, o, o, o, o, o, o, o, o, o, o, o, o, o, o, o, o, o, o, o, o, o, o, o, o, o, o, o, o, o, o, o, o], []⟩) hSm (hSi 9 (by decide)) (fun _ _ h => h) rfl (by kernel_rfl) (by kernel_rfl) (by kernel_rfl) (fun _ _ _ h => h) hS0 (Tame.val rfl (fun w' hA => run_ldOp (ldOp_all hA.1 Try.underlying63 rfl (by rw [hcl6]; exact sizeV)))) rfl ?_
    refine wpAnyU_take (i := 12) (A := SA26 W2 nv cs) (v := .agg (List.toArray cs)) (a' := ⟨#[.slice a n c, o, T2, .slice none 0 0, .int .i64 0, .pointer (some ⟨nv, 0, none⟩), .int .i64 0, o, o, o, o, T1, .slice a n c, T1, .agg (List.toArray cs), .int .i64 0, .int .i64 0, .bool false, o, o, .agg (List.toArray cs), o, o, .agg (List.toArray cs), o, o, .agg (List.toArray cs), o, o, .agg (List.toArray cs), o, o, .agg (List.toArray cs), o, o, o, o, o, o, o, o, o, o, o, o, o, o, o, o, o, o, o, o, o, o, o, o, o, o, o, o, o, o, o, o, o, o, o, o, o, o, o, o, o, o, o, o, o, o, o, o, o], []⟩) hSm (hSi 12 (by decide)) (fun _ _ h => h) rfl (by kernel_rfl) (by kernel_rfl) (by kernel_rfl) (fun _ _ _ h => h) hS0 (Tame.val rfl (fun w' hA => run_ldOp (ldOp_all hA.1 Try.underlying63 rfl (by rw [hcl6]; exact sizeV)))) rfl ?_
    refine wpAnyU_all (rs := [1, 16]) (by kernel_rfl) (by decide) ?_
    intro w1 hm2 i hi
    obtain hi | hi : i = 1 ∨ i = 16 := by simpa using hi
    · subst hi
      have hS6 := hSm #[] _ _ hS0 hm2
      refine wpOp_enter (f := 43) (args := #[.agg (List.toArray cs), .string (str [110])]) rfl rfl (by go_simp; rfl) ((hget [110] w1 hS6.2).mono ?_)
      rintro e wc4 ⟨g3, rfl, hg3, hb5⟩
      have lg3 := VAt.lims hg3
      have fg3 := fldTxt hg3
      rw [← hnm.out] at lg3 fg3
      have hS7 := hSm #[] _ _ hS6 hb5
      refine ⟨_, rfl, ?_⟩
      show _ ∧ wpAnyU _ _ _ _ _ _ _ (⟨#[.slice a n c, o, T2, .slice none 0 0, .int .i64 0, .pointer (some ⟨nv, 0, none⟩), .int .i64 0, o, o, o, o, T1, .slice a n c, T1, .agg (List.toArray cs), .int .i64 0, .int .i64 0, .bool false, o, o, .agg (List.toArray cs), .agg (List.toArray g3), o, .agg (List.toArray cs), o, o, .agg (List.toArray cs), o, o, .agg (List.toArray cs), o, o, .agg (List.toArray cs), o, o, o, o, o, o, o, o, o, o, o, o, o, o, o, o, o, o, o, o, o, o, o, o, o, o, o, o, o, o, o, o, o, o, o, o, o, o, o, o, o, o, o, o, o, o, o, o, o], []⟩ : Act) _
      refine ⟨hS7, ?_⟩
      refine wpAnyU_take (i := 2) (A := fun _ => True) (v := .string (str nm)) (a' := ⟨#[.slice a n c, o, T2, .slice none 0 0, .int .i64 0, .pointer (some ⟨nv, 0, none⟩), .int .i64 0, o, o, o, o, T1, .slice a n c, T1, .agg (List.toArray cs), .int .i64 0, .int .i64 0, .bool false, o, o, .agg (List.toArray cs), .agg (List.toArray g3), .string (str nm), .agg (List.toArray cs), o, o, .agg (List.toArray cs), o, o, .agg (List.toArray cs), o, o, .agg (List.toArray cs), o, o, o, o, o, o, o, o, o, o, o, o, o, o, o, o, o, o, o, o, o, o, o, o, o, o, o, o, o, o, o, o, o, o, o, o, o, o, o, o, o, o, o, o, o, o, o, o, o], []⟩) hSm (hSi 2 (by decide)) (fun _ _ _ => trivial) rfl (by kernel_rfl) (by kernel_rfl) (by kernel_rfl) (fun _ _ _ h => h) hS7 (Tame.val rfl (fun w' _ => by have h1 := fg3 w'; go_simp)) rfl ?_
      refine wpAnyU_all (rs := [4, 16]) (by kernel_rfl) (by decide) ?_
      intro w8 hm9 i hi
      obtain hi | hi : i = 4 ∨ i = 16 := by simpa using hi
      · subst hi
        have hS13 := hSm #[] _ _ hS7 hm9
        refine wpOp_enter (f := 43) (args := #[.agg (List.toArray cs), .string (str [116])]) rfl rfl (by go_simp; rfl) ((hget [116] w8 hS13.2).mono ?_)
        rintro e wc11 ⟨g10, rfl, hg10, hb12⟩
        have lg10 := VAt.lims hg10
        have fg10 := fldInt hg10
        rw [← htm.out] at lg10 fg10
        have hS14 := hSm #[] _ _ hS13 hb12
        refine ⟨_, rfl, ?_⟩
        show _ ∧ wpAnyU _ _ _ _ _ _ _ (⟨#[.slice a n c, o, T2, .slice none 0 0, .int .i64 0, .pointer (some ⟨nv, 0, none⟩), .int .i64 0, o, o, o, o, T1, .slice a n c, T1, .agg (List.toArray cs), .int .i64 0, .int .i64 0, .bool false, o, o, .agg (List.toArray cs), .agg (List.toArray g3), .string (str nm), .agg (List.toArray cs), .agg (List.toArray g10), o, .agg (List.toArray cs), o, o, .agg (List.toArray cs), o, o, .agg (List.toArray cs), o, o, o, o, o, o, o, o, o, o, o, o, o, o, o, o, o, o, o, o, o, o, o, o, o, o, o, o, o, o, o, o, o, o, o, o, o, o, o, o, o, o, o, o, o, o, o, o, o], []⟩ : Act) _
        refine ⟨hS14, ?_⟩
        refine wpAnyU_take (i := 5) (A := fun _ => True) (v := .int .i64 tm) (a' := ⟨#[.slice a n c, o, T2, .slice none 0 0, .int .i64 0, .pointer (some ⟨nv, 0, none⟩), .int .i64 0, o, o, o, o, T1, .slice a n c, T1, .agg (List.toArray cs), .int .i64 0, .int .i64 0, .bool false, o, o, .agg (List.toArray cs), .agg (List.toArray g3), .string (str nm), .agg (List.toArray cs), .agg (List.toArray g10), .int .i64 tm, .agg (List.toArray cs), o, o, .agg (List.toArray cs), o, o, .agg (List.toArray cs), o, o, o, o, o, o, o, o, o, o, o, o, o, o, o, o, o, o, o, o, o, o, o, o, o, o, o, o, o, o, o, o, o, o, o, o, o, o, o, o, o, o, o, o, o, o, o, o, o], []⟩) hSm (hSi 5 (by decide)) (fun _ _ _ => trivial) rfl (by kernel_rfl) (by kernel_rfl) (by kernel_rfl) (fun _ _ _ h => h) hS14 (Tame.val rfl (fun w' _ => by have h1 := fg10 w'; go_simp)) rfl ?_
        refine wpAnyU_all (rs := [7, 16]) (by kernel_rfl) (by decide) ?_
        intro w15 hm16 i hi
        obtain hi | hi : i = 7 ∨ i = 16 := by simpa using hi
        · subst hi
          have hS20 := hSm #[] _ _ hS14 hm16
          refine wpOp_enter (f := 43) (args := #[.agg (List.toArray cs), .string (str [99])]) rfl rfl (by go_simp; rfl) ((hget [99] w15 hS20.2).mono ?_)
          rintro e wc18 ⟨g17, rfl, hg17, hb19⟩
          have lg17 := VAt.lims hg17
          have fg17 := fldTxt hg17
          rw [← hcm.out] at lg17 fg17
          have hS21 := hSm #[] _ _ hS20 hb19
          refine ⟨_, rfl, ?_⟩
          show _ ∧ wpAnyU _ _ _ _ _ _ _ (⟨#[.slice a n c, o, T2, .slice none 0 0, .int .i64 0, .pointer (some ⟨nv, 0, none⟩), .int .i64 0, o, o, o, o, T1, .slice a n c, T1, .agg (List.toArray cs), .int .i64 0, .int .i64 0, .bool false, o, o, .agg (List.toArray cs), .agg (List.toArray g3), .string (str nm), .agg (List.toArray cs), .agg (List.toArray g10), .int .i64 tm, .agg (List.toArray cs), .agg (List.toArray g17), o, .agg (List.toArray cs), o, o, .agg (List.toArray cs), o, o, o, o, o, o, o, o, o, o, o, o, o, o, o, o, o, o, o, o, o, o, o, o, o, o, o, o, o, o, o, o, o, o, o, o, o, o, o, o, o, o, o, o, o, o, o, o, o], []⟩ : Act) _
          refine ⟨hS21, ?_⟩
          refine wpAnyU_take (i := 8) (A := fun _ => True) (v := .string (str cm)) (a' := ⟨#[.slice a n c, o, T2, .slice none 0 0, .int .i64 0, .pointer (some ⟨nv, 0, none⟩), .int .i64 0, o, o, o, o, T1, .slice a n c, T1, .agg (List.toArray cs), .int .i64 0, .int .i64 0, .bool false, o, o, .agg (List.toArray cs), .agg (List.toArray g3), .string (str nm), .agg (List.toArray cs), .agg (List.toArray g10), .int .i64 tm, .agg (List.toArray cs), .agg (List.toArray g17), .string (str cm), .agg (List.toArray cs), o, o, .agg (List.toArray cs), o, o, o, o, o, o, o, o, o, o, o, o, o, o, o, o, o, o, o, o, o, o, o, o, o, o, o, o, o, o, o, o, o, o, o, o, o, o, o, o, o, o, o, o, o, o, o, o, o], []⟩) hSm (hSi 8 (by decide)) (fun _ _ _ => trivial) rfl (by kernel_rfl) (by kernel_rfl) (by kernel_rfl) (fun _ _ _ h => h) hS21 (Tame.val rfl (fun w' _ => by have h1 := fg17 w'; go_simp)) rfl ?_
          refine wpAnyU_all (rs := [10, 16]) (by kernel_rfl) (by decide) ?_
          intro w22 hm23 i hi
          obtain hi | hi : i = 10 ∨ i = 16 := by simpa using hi
          · subst hi
            have hS27 := hSm #[] _ _ hS21 hm23
            refine wpOp_enter (f := 43) (args := #[.agg (List.toArray cs), .string (str [113])]) rfl rfl (by go_simp; rfl) ((hget [113] w22 hS27.2).mono ?_)
            rintro e wc25 ⟨g24, rfl, hg24, hb26⟩
            have lg24 := VAt.lims hg24
            have fg24 := fldInt hg24
            rw [← hit.out] at lg24 fg24
            have hS28 := hSm #[] _ _ hS27 hb26
            refine ⟨_, rfl, ?_⟩
            show _ ∧ wpAnyU _ _ _ _ _ _ _ (⟨#[.slice a n c, o, T2, .slice none 0 0, .int .i64 0, .pointer (some ⟨nv, 0, none⟩), .int .i64 0, o, o, o, o, T1, .slice a n c, T1, .agg (List.toArray cs), .int .i64 0, .int .i64 0, .bool false, o, o, .agg (List.toArray cs), .agg (List.toArray g3), .string (str nm), .agg (List.toArray cs), .agg (List.toArray g10), .int .i64 tm, .agg (List.toArray cs), .agg (List.toArray g17), .string (str cm), .agg (List.toArray cs), .agg (List.toArray g24), o, .agg (List.toArray cs), o, o, o, o, o, o, o, o, o, o, o, o, o, o, o, o, o, o, o, o, o, o, o, o, o, o, o, o, o, o, o, o, o, o, o, o, o, o, o, o, o, o, o, o, o, o, o, o, o], []⟩ : Act) _
            refine ⟨hS28, ?_⟩
            refine wpAnyU_take (i := 11) (A := fun _ => True) (v := .int .i64 it) (a' := ⟨#[.slice a n c, o, T2, .slice none 0 0, .int .i64 0, .pointer (some ⟨nv, 0, none⟩), .int .i64 0, o, o, o, o, T1, .slice a n c, T1, .agg (List.toArray cs), .int .i64 0, .int .i64 0, .bool false, o, o, .agg (List.toArray cs), .agg (List.toArray g3), .string (str nm), .agg (List.toArray cs), .agg (List.toArray g10), .int .i64 tm, .agg (List.toArray cs), .agg (List.toArray g17), .string (str cm), .agg (List.toArray cs), .agg (List.toArray g24), .int .i64 it, .agg (List.toArray cs), o, o, o, o, o, o, o, o, o, o, o, o, o, o, o, o, o, o, o, o, o, o, o, o, o, o, o, o, o, o, o, o, o, o, o, o, o, o, o, o, o, o, o, o, o, o, o, o, o], []⟩) hSm (hSi 11 (by decide)) (fun _ _ _ => trivial) rfl (by kernel_rfl) (by kernel_rfl) (by kernel_rfl) (fun _ _ _ h => h) hS28 (Tame.val rfl (fun w' _ => by have h1 := fg24 w'; go_simp)) rfl ?_
            refine wpAnyU_all (rs := [13, 16]) (by kernel_rfl) (by decide) ?_
            intro w29 hm30 i hi
            obtain hi | hi : i = 13 ∨ i = 16 := by simpa using hi
            · subst hi
              have hS34 := hSm #[] _ _ hS28 hm30
              refine wpOp_enter (f := 43) (args := #[.agg (List.toArray cs), .string (str [98])]) rfl rfl (by go_simp; rfl) ((hget [98] w29 hS34.2).mono ?_)
              rintro e wc32 ⟨g31, rfl, hg31, hb33⟩
              have lg31 := VAt.lims hg31
              have fg31 := fldInt hg31
              rw [← hbs.out] at lg31 fg31
              have hS35 := hSm #[] _ _ hS34 hb33
              refine ⟨_, rfl, ?_⟩
              show _ ∧ wpAnyU _ _ _ _ _ _ _ (⟨#[.slice a n c, o, T2, .slice none 0 0, .int .i64 0, .pointer (some ⟨nv, 0, none⟩), .int .i64 0, o, o, o, o, T1, .slice a n c, T1, .agg (List.toArray cs), .int .i64 0, .int .i64 0, .bool false, o, o, .agg (List.toArray cs), .agg (List.toArray g3), .string (str nm), .agg (List.toArray cs), .agg (List.toArray g10), .int .i64 tm, .agg (List.toArray cs), .agg (List.toArray g17), .string (str cm), .agg (List.toArray cs), .agg (List.toArray g24), .int .i64 it, .agg (List.toArray cs), .agg (List.toArray g31), o, o, o, o, o, o, o, o, o, o, o, o, o, o, o, o, o, o, o, o, o, o, o, o, o, o, o, o, o, o, o, o, o, o, o, o, o, o, o, o, o, o, o, o, o, o, o, o], []⟩ : Act) _
              refine ⟨hS35, ?_⟩
              refine wpAnyU_take (i := 14) (A := fun _ => True) (v := .int .i64 bs) (a' := ⟨#[.slice a n c, o, T2, .slice none 0 0, .int .i64 0, .pointer (some ⟨nv, 0, none⟩), .int .i64 0, o, o, o, o, T1, .slice a n c, T1, .agg (List.toArray cs), .int .i64 0, .int .i64 0, .bool false, o, o, .agg (List.toArray cs), .agg (List.toArray g3), .string (str nm), .agg (List.toArray cs), .agg (List.toArray g10), .int .i64 tm, .agg (List.toArray cs), .agg (List.toArray g17), .string (str cm), .agg (List.toArray cs), .agg (List.toArray g24), .int .i64 it, .agg (List.toArray cs), .agg (List.toArray g31), .int .i64 bs, o, o, o, o, o, o, o, o, o, o, o, o, o, o, o, o, o, o, o, o, o, o, o, o, o, o, o, o, o, o, o, o, o, o, o, o, o, o, o, o, o, o, o, o, o, o, o], []⟩) hSm (hSi 14 (by decide)) (fun _ _ _ => trivial) rfl (by kernel_rfl) (by kernel_rfl) (by kernel_rfl) (fun _ _ _ h => h) hS35 (Tame.val rfl (fun w' _ => by have h1 := fg31 w'; go_simp)) rfl ?_
              refine wpAnyU_take (i := 15) (A := SA26 W2 nv cs) (v := .agg (List.toArray XC)) (a' := ⟨#[.slice a n c, o, T2, .slice none 0 0, .int .i64 0, .pointer (some ⟨nv, 0, none⟩), .int .i64 0, o, o, o, o, T1, .slice a n c, T1, .agg (List.toArray cs), .int .i64 0, .int .i64 0, .bool false, o, o, .agg (List.toArray cs), .agg (List.toArray g3), .string (str nm), .agg (List.toArray cs), .agg (List.toArray g10), .int .i64 tm, .agg (List.toArray cs), .agg (List.toArray g17), .string (str cm), .agg (List.toArray cs), .agg (List.toArray g24), .int .i64 it, .agg (List.toArray cs), .agg (List.toArray g31), .int .i64 bs, .agg (List.toArray XC), o, o, o, o, o, o, o, o, o, o, o, o, o, o, o, o, o, o, o, o, o, o, o, o, o, o, o, o, o, o, o, o, o, o, o, o, o, o, o, o, o, o, o, o, o, o], []⟩) hSm (hSi 15 (by decide)) (fun _ _ h => h) rfl (by kernel_rfl) (by kernel_rfl) (by kernel_rfl) (fun _ _ _ h => h) hS35 (Tame.val rfl (fun w' hA => run_bdOp (vals := #[(0, .string (str nm)), (2, .int .i64 tm), (3, .string (str cm)), (4, .int .i64 it), (5, .int .i64 bs)]) (by first | rfl | go_simp | simp [Act.eval]) hbd)) rfl ?_
              refine wpAnyU_all (rs := [16]) (by kernel_rfl) (by decide) ?_
              intro w36 hm37 i hi
              obtain rfl : i = 16 := by simpa using hi
              have hS38 := hSm #[] _ _ hS35 hm37
              refine wpOp_val (v := .pointer (some ⟨w36.heap.size, 0, none⟩)) (w' := w36.alloc (.cells zAB 31)) (a' := ⟨#[.slice a n c, o, T2, .slice none 0 0, .int .i64 0, .pointer (some ⟨nv, 0, none⟩), .int .i64 0, .pointer (some ⟨w36.heap.size, 0, none⟩), o, o, o, T1, .slice a n c, T1, .agg (List.toArray cs), .int .i64 0, .int .i64 0, .bool false, o, o, .agg (List.toArray cs), .agg (List.toArray g3), .string (str nm), .agg (List.toArray cs), .agg (List.toArray g10), .int .i64 tm, .agg (List.toArray cs), .agg (List.toArray g17), .string (str cm), .agg (List.toArray cs), .agg (List.toArray g24), .int .i64 it, .agg (List.toArray cs), .agg (List.toArray g31), .int .i64 bs, .agg (List.toArray XC), o, o, o, o, o, o, o, o, o, o, o, o, o, o, o, o, o, o, o, o, o, o, o, o, o, o, o, o, o, o, o, o, o, o, o, o, o, o, o, o, o, o, o, o, o, o], []⟩) rfl rfl (run_alAB) rfl ?_
              have hma43 : Mo w36 (w36.alloc (.cells zAB 31)) := (Below.refl _ _).alloc (Nat.le_refl _) _
              have hS39 := hSm #[] _ _ hS38 hma43
              refine ⟨hS39, ?_⟩
              have hBg41 : Blk (w36.alloc (.cells zAB 31)) w36.heap.size 31 zAB.toList := Blk.new _ _ _
              have hBg41n : nv < w36.heap.size := hS38.1.lt
              have hBg41w : W2.heap.size ≤ w36.heap.size := hS38.2.size
              generalize w36.alloc (.cells zAB 31) = wa42 at *
              generalize w36.heap.size = ga40 at *
              refine wpAnyU_all (rs := [17]) (by kernel_rfl) (by decide) ?_
              intro ws44 hm45 i hi
              obtain rfl : i = 17 := by simpa using hi
              have hS46 := hSm #[] _ _ hS39 hm45
              obtain ⟨wf, qs, hBf, hgf2⟩ := stOp_blk (P := Try.prog) (ty := 31) (o := 0) (cs := XC) (hBg41.below hm45) (by rw [hXl]; decide) (by rw [hXl]; exact sizeAB) hXone
              rw [hXdrop] at hBf
              refine wpOp_skip (w' := wf) (a' := ⟨#[.slice a n c, o, T2, .slice none 0 0, .int .i64 0, .pointer (some ⟨nv, 0, none⟩), .int .i64 0, .pointer (some ⟨ga40, 0, none⟩), o, o, o, T1, .slice a n c, T1, .agg (List.toArray cs), .int .i64 0, .int .i64 0, .bool false, o, o, .agg (List.toArray cs), .agg (List.toArray g3), .string (str nm), .agg (List.toArray cs), .agg (List.toArray g10), .int .i64 tm, .agg (List.toArray cs), .agg (List.toArray g17), .string (str cm), .agg (List.toArray cs), .agg (List.toArray g24), .int .i64 it, .agg (List.toArray cs), .agg (List.toArray g31), .int .i64 bs, .agg (List.toArray XC), o, o, o, o, o, o, o, o, o, o, o, o, o, o, o, o, o, o, o, o, o, o, o, o, o, o, o, o, o, o, o, o, o, o, o, o, o, o, o, o, o, o, o, o, o, o], []⟩) rfl rfl (run_stoOp qs) rfl ?_
              have hS9 : (SA26 W2 nv cs wf) := ⟨hS46.1.grown hgf2 (fun e => by cases e; omega), hS46.2.trans ⟨hgf2.os, hgf2.tape, hgf2.output, hgf2.size, fun i hi => hgf2.block i (Nat.lt_of_lt_of_le hi hS46.2.size) (fun e => by cases e; omega)⟩⟩
              refine ⟨hS9, ?_⟩
              refine wpAnyU_done (by kernel_rfl) ?_ _
              intro wz hmz
              have hS10 := hSm #[] _ _ hS9 hmz
              have hBz := hBf.below hmz
              have hlm : AbtOk (arcX v) := by rw [hXd]; exact ⟨rfl, (by assumption : in64 tm ∧ _).1, (by assumption : in64 it ∧ _).1, (by assumption : in64 bs ∧ _).1, (by assumption : _ ∧ nm.length ≤ maxLen).2, (by assumption : _ ∧ cm.length ≤ maxLen).2⟩
              have hfin : ∃ g, Value.pointer (some ⟨ga40, 0, none⟩) = .pointer (some ⟨g, 0, none⟩) ∧ W2.heap.size ≤ g ∧ Blk wz g 31 XC ∧ AbtOk (arcX v) ∧ Below W2.heap.size W2 wz := ⟨ga40, rfl, hBg41w, hBz, hlm, hS10.2⟩
              obtain rfl := ho.out
              obtain rfl := hT2.out
              go_wp2_with fail
              go_meet
              exact hfin
            · subst hi
              have hS47 := hSm #[] _ _ hS28 hm30
              refine wpOp_val (v := .pointer (some ⟨w29.heap.size, 0, none⟩)) (w' := w29.alloc (.cells zAB 31)) (a' := ⟨#[.slice a n c, o, T2, .slice none 0 0, .int .i64 0, .pointer (some ⟨nv, 0, none⟩), .int .i64 0, .pointer (some ⟨w29.heap.size, 0, none⟩), o, o, o, T1, .slice a n c, T1, .agg (List.toArray cs), .int .i64 0, .int .i64 0, .bool false, o, o, .agg (List.toArray cs), .agg (List.toArray g3), .string (str nm), .agg (List.toArray cs), .agg (List.toArray g10), .int .i64 tm, .agg (List.toArray cs), .agg (List.toArray g17), .string (str cm), .agg (List.toArray cs), .agg (List.toArray g24), .int .i64 it, .agg (List.toArray cs), o, o, o, o, o, o, o, o, o, o, o, o, o, o, o, o, o, o, o, o, o, o, o, o, o, o, o, o, o, o, o, o, o, o, o, o, o, o, o, o, o, o, o, o, o, o, o, o, o], []⟩) rfl rfl (run_alAB) rfl ?_
              have hma52 : Mo w29 (w29.alloc (.cells zAB 31)) := (Below.refl _ _).alloc (Nat.le_refl _) _
              have hS48 := hSm #[] _ _ hS47 hma52
              refine ⟨hS48, ?_⟩
              have hBg50 : Blk (w29.alloc (.cells zAB 31)) w29.heap.size 31 zAB.toList := Blk.new _ _ _
              have hBg50n : nv < w29.heap.size := hS47.1.lt
              have hBg50w : W2.heap.size ≤ w29.heap.size := hS47.2.size
              generalize w29.alloc (.cells zAB 31) = wa51 at *
              generalize w29.heap.size = ga49 at *
              refine wpAnyU_all (rs := [13]) (by kernel_rfl) (by decide) ?_
              intro w53 hm54 i hi
              obtain rfl : i = 13 := by simpa using hi
              have hS58 := hSm #[] _ _ hS48 hm54
              refine wpOp_enter (f := 43) (args := #[.agg (List.toArray cs), .string (str [98])]) rfl rfl (by go_simp; rfl) ((hget [98] w53 hS58.2).mono ?_)
              rintro e wc56 ⟨g55, rfl, hg55, hb57⟩
              have lg55 := VAt.lims hg55
              have fg55 := fldInt hg55
              rw [← hbs.out] at lg55 fg55
              have hS59 := hSm #[] _ _ hS58 hb57
              have hBg60 := (hBg50.below hm54).below hb57
              refine ⟨_, rfl, ?_⟩
              show _ ∧ wpAnyU _ _ _ _ _ _ _ (⟨#[.slice a n c, o, T2, .slice none 0 0, .int .i64 0, .pointer (some ⟨nv, 0, none⟩), .int .i64 0, .pointer (some ⟨ga49, 0, none⟩), o, o, o, T1, .slice a n c, T1, .agg (List.toArray cs), .int .i64 0, .int .i64 0, .bool false, o, o, .agg (List.toArray cs), .agg (List.toArray g3), .string (str nm), .agg (List.toArray cs), .agg (List.toArray g10), .int .i64 tm, .agg (List.toArray cs), .agg (List.toArray g17), .string (str cm), .agg (List.toArray cs), .agg (List.toArray g24), .int .i64 it, .agg (List.toArray cs), .agg (List.toArray g55), o, o, o, o, o, o, o, o, o, o, o, o, o, o, o, o, o, o, o, o, o, o, o, o, o, o, o, o, o, o, o, o, o, o, o, o, o, o, o, o, o, o, o, o, o, o, o, o], []⟩ : Act) _
              refine ⟨hS59, ?_⟩
              refine wpAnyU_take (i := 14) (A := fun _ => True) (v := .int .i64 bs) (a' := ⟨#[.slice a n c, o, T2, .slice none 0 0, .int .i64 0, .pointer (some ⟨nv, 0, none⟩), .int .i64 0, .pointer (some ⟨ga49, 0, none⟩), o, o, o, T1, .slice a n c, T1, .agg (List.toArray cs), .int .i64 0, .int .i64 0, .bool false, o, o, .agg (List.toArray cs), .agg (List.toArray g3), .string (str nm), .agg (List.toArray cs), .agg (List.toArray g10), .int .i64 tm, .agg (List.toArray cs), .agg (List.toArray g17), .string (str cm), .agg (List.toArray cs), .agg (List.toArray g24), .int .i64 it, .agg (List.toArray cs), .agg (List.toArray g55), .int .i64 bs, o, o, o, o, o, o, o, o, o, o, o, o, o, o, o, o, o, o, o, o, o, o, o, o, o, o, o, o, o, o, o, o, o, o, o, o, o, o, o, o, o, o, o, o, o, o, o], []⟩) hSm (hSi 14 (by decide)) (fun _ _ _ => trivial) rfl (by kernel_rfl) (by kernel_rfl) (by kernel_rfl) (fun _ _ _ h => h) hS59 (Tame.val rfl (fun w' _ => by have h1 := fg55 w'; go_simp)) rfl ?_
              refine wpAnyU_take (i := 15) (A := SA26 W2 nv cs) (v := .agg (List.toArray XC)) (a' := ⟨#[.slice a n c, o, T2, .slice none 0 0, .int .i64 0, .pointer (some ⟨nv, 0, none⟩), .int .i64 0, .pointer (some ⟨ga49, 0, none⟩), o, o, o, T1, .slice a n c, T1, .agg (List.toArray cs), .int .i64 0, .int .i64 0, .bool false, o, o, .agg (List.toArray cs), .agg (List.toArray g3), .string (str nm), .agg (List.toArray cs), .agg (List.toArray g10), .int .i64 tm, .agg (List.toArray cs), .agg (List.toArray g17), .string (str cm), .agg (List.toArray cs), .agg (List.toArray g24), .int .i64 it, .agg (List.toArray cs), .agg (List.toArray g55), .int .i64 bs, .agg (List.toArray XC), o, o, o, o, o, o, o, o, o, o, o, o, o, o, o, o, o, o, o, o, o, o, o, o, o, o, o, o, o, o, o, o, o, o, o, o, o, o, o, o, o, o, o, o, o, o], []⟩) hSm (hSi 15 (by decide)) (fun _ _ h => h) rfl (by kernel_rfl) (by kernel_rfl) (by kernel_rfl) (fun _ _ _ h => h) hS59 (Tame.val rfl (fun w' hA => run_bdOp (vals := #[(0, .string (str nm)), (2, .int .i64 tm), (3, .string (str cm)), (4, .int .i64 it), (5, .int .i64 bs)]) (by first | rfl | go_simp | simp [Act.eval]) hbd)) rfl ?_
              refine wpAnyU_all (rs := [17]) (by kernel_rfl) (by decide) ?_
              intro ws61 hm62 i hi
              obtain rfl : i = 17 := by simpa using hi
              have hS63 := hSm #[] _ _ hS59 hm62
              obtain ⟨wf, qs, hBf, hgf2⟩ := stOp_blk (P := Try.prog) (ty := 31) (o := 0) (cs := XC) (hBg60.below hm62) (by rw [hXl]; decide) (by rw [hXl]; exact sizeAB) hXone
              rw [hXdrop] at hBf
              refine wpOp_skip (w' := wf) (a' := ⟨#[.slice a n c, o, T2, .slice none 0 0, .int .i64 0, .pointer (some ⟨nv, 0, none⟩), .int .i64 0, .pointer (some ⟨ga49, 0, none⟩), o, o, o, T1, .slice a n c, T1, .agg (List.toArray cs), .int .i64 0, .int .i64 0, .bool false, o, o, .agg (List.toArray cs), .agg (List.toArray g3), .string (str nm), .agg (List.toArray cs), .agg (List.toArray g10), .int .i64 tm, .agg (List.toArray cs), .agg (List.toArray g17), .string (str cm), .agg (List.toArray cs), .agg (List.toArray g24), .int .i64 it, .agg (List.toArray cs), .agg (List.toArray g55), .int .i64 bs, .agg (List.toArray XC), o, o, o, o, o, o, o, o, o, o, o, o, o, o, o, o, o, o, o, o, o, o, o, o, o, o, o, o, o, o, o, o, o, o, o, o, o, o, o, o, o, o, o, o, o, o], []⟩) rfl rfl (run_stoOp qs) rfl ?_
              have hS9 : (SA26 W2 nv cs wf) := ⟨hS63.1.grown hgf2 (fun e => by cases e; omega), hS63.2.trans ⟨hgf2.os, hgf2.tape, hgf2.output, hgf2.size, fun i hi => hgf2.block i (Nat.lt_of_lt_of_le hi hS63.2.size) (fun e => by cases e; omega)⟩⟩
              refine ⟨hS9, ?_⟩
              refine wpAnyU_done (by kernel_rfl) ?_ _
              intro wz hmz
              have hS10 := hSm #[] _ _ hS9 hmz
              have hBz := hBf.below hmz
              have hlm : AbtOk (arcX v) := by rw [hXd]; exact ⟨rfl, (by assumption : in64 tm ∧ _).1, (by assumption : in64 it ∧ _).1, (by assumption : in64 bs ∧ _).1, (by assumption : _ ∧ nm.length ≤ maxLen).2, (by assumption : _ ∧ cm.length ≤ maxLen).2⟩
              have hfin : ∃ g, Value.pointer (some ⟨ga49, 0, none⟩) = .pointer (some ⟨g, 0, none⟩) ∧ W2.heap.size ≤ g ∧ Blk wz g 31 XC ∧ AbtOk (arcX v) ∧ Below W2.heap.size W2 wz := ⟨ga49, rfl, hBg50w, hBz, hlm, hS10.2⟩
              obtain rfl := ho.out
              obtain rfl := hT2.out
              go_wp2_with fail
              go_meet
              exact hfin
          · subst hi
            have hS64 := hSm #[] _ _ hS21 hm23
            refine wpOp_val (v := .pointer (some ⟨w22.heap.size, 0, none⟩)) (w' := w22.alloc (.cells zAB 31)) (a' := ⟨#[.slice a n c, o, T2, .slice none 0 0, .int .i64 0, .pointer (some ⟨nv, 0, none⟩), .int .i64 0, .pointer (some ⟨w22.heap.size, 0, none⟩), o, o, o, T1, .slice a n c, T1, .agg (List.toArray cs), .int .i64 0, .int .i64 0, .bool false, o, o, .agg (List.toArray cs), .agg (List.toArray g3), .string (str nm), .agg (List.toArray cs), .agg (List.toArray g10), .int .i64 tm, .agg (List.toArray cs), .agg (List.toArray g17), .string (str cm), .agg (List.toArray cs), o, o, .agg (List.toArray cs), o, o, o, o, o, o, o, o, o, o, o, o, o, o, o, o, o, o, o, o, o, o, o, o, o, o, o, o, o, o, o, o, o, o, o, o, o, o, o, o, o, o, o, o, o, o, o, o, o], []⟩) rfl rfl (run_alAB) rfl ?_
            have hma69 : Mo w22 (w22.alloc (.cells zAB 31)) := (Below.refl _ _).alloc (Nat.le_refl _) _
            have hS65 := hSm #[] _ _ hS64 hma69
            refine ⟨hS65, ?_⟩
            have hBg67 : Blk (w22.alloc (.cells zAB 31)) w22.heap.size 31 zAB.toList := Blk.new _ _ _
            have hBg67n : nv < w22.heap.size := hS64.1.lt
            have hBg67w : W2.heap.size ≤ w22.heap.size := hS64.2.size
            generalize w22.alloc (.cells zAB 31) = wa68 at *
            generalize w22.heap.size = ga66 at *
            refine wpAnyU_all (rs := [10]) (by kernel_rfl) (by decide) ?_
            intro w70 hm71 i hi
            obtain rfl : i = 10 := by simpa using hi
            have hS75 := hSm #[] _ _ hS65 hm71
            refine wpOp_enter (f := 43) (args := #[.agg (List.toArray cs), .string (str [113])]) rfl rfl (by go_simp; rfl) ((hget [113] w70 hS75.2).mono ?_)
            rintro e wc73 ⟨g72, rfl, hg72, hb74⟩
            have lg72 := VAt.lims hg72
            have fg72 := fldInt hg72
            rw [← hit.out] at lg72 fg72
            have hS76 := hSm #[] _ _ hS75 hb74
            have hBg77 := (hBg67.below hm71).below hb74
            refine ⟨_, rfl, ?_⟩
            show _ ∧ wpAnyU _ _ _ _ _ _ _ (⟨#[.slice a n c, o, T2, .slice none 0 0, .int .i64 0, .pointer (some ⟨nv, 0, none⟩), .int .i64 0, .pointer (some ⟨ga66, 0, none⟩), o, o, o, T1, .slice a n c, T1, .agg (List.toArray cs), .int .i64 0, .int .i64 0, .bool false, o, o, .agg (List.toArray cs), .agg (List.toArray g3), .string (str nm), .agg (List.toArray cs), .agg (List.toArray g10), .int .i64 tm, .agg (List.toArray cs), .agg (List.toArray g17), .string (str cm), .agg (List.toArray cs), .agg (List.toArray g72), o, .agg (List.toArray cs), o, o, o, o, o, o, o, o, o, o, o, o, o, o, o, o, o, o, o, o, o, o, o, o, o, o, o, o, o, o, o, o, o, o, o, o, o, o, o, o, o, o, o, o, o, o, o, o, o], []⟩ : Act) _
            refine ⟨hS76, ?_⟩
            refine wpAnyU_take (i := 11) (A := fun _ => True) (v := .int .i64 it) (a' := ⟨#[.slice a n c, o, T2, .slice none 0 0, .int .i64 0, .pointer (some ⟨nv, 0, none⟩), .int .i64 0, .pointer (some ⟨ga66, 0, none⟩), o, o, o, T1, .slice a n c, T1, .agg (List.toArray cs), .int .i64 0, .int .i64 0, .bool false, o, o, .agg (List.toArray cs), .agg (List.toArray g3), .string (str nm), .agg (List.toArray cs), .agg (List.toArray g10), .int .i64 tm, .agg (List.toArray cs), .agg (List.toArray g17), .string (str cm), .agg (List.toArray cs), .agg (List.toArray g72), .int .i64 it, .agg (List.toArray cs), o, o, o, o, o, o, o, o, o, o, o, o, o, o, o, o, o, o, o, o, o, o, o, o, o, o, o, o, o, o, o, o, o, o, o, o, o, o, o, o, o, o, o, o, o, o, o, o, o], []⟩) hSm (hSi 11 (by decide)) (fun _ _ _ => trivial) rfl (by kernel_rfl) (by kernel_rfl) (by kernel_rfl) (fun _ _ _ h => h) hS76 (Tame.val rfl (fun w' _ => by have h1 := fg72 w'; go_simp)) rfl ?_
            refine wpAnyU_all (rs := [13]) (by kernel_rfl) (by decide) ?_
            intro w78 hm79 i hi
            obtain rfl : i = 13 := by simpa using hi
            have hS83 := hSm #[] _ _ hS76 hm79
            refine wpOp_enter (f := 43) (args := #[.agg (List.toArray cs), .string (str [98])]) rfl rfl (by go_simp; rfl) ((hget [98] w78 hS83.2).mono ?_)
            rintro e wc81 ⟨g80, rfl, hg80, hb82⟩
            have lg80 := VAt.lims hg80
            have fg80 := fldInt hg80
            rw [← hbs.out] at lg80 fg80
            have hS84 := hSm #[] _ _ hS83 hb82
            have hBg85 := (hBg77.below hm79).below hb82
            refine ⟨_, rfl, ?_⟩
            show _ ∧ wpAnyU _ _ _ _ _ _ _ (⟨#[.slice a n c, o, T2, .slice none 0 0, .int .i64 0, .pointer (some ⟨nv, 0, none⟩), .int .i64 0, .pointer (some ⟨ga66, 0, none⟩), o, o, o, T1, .slice a n c, T1, .agg (List.toArray cs), .int .i64 0, .int .i64 0, .bool false, o, o, .agg (List.toArray cs), .agg (List.toArray g3), .string (str nm), .agg (List.toArray cs), .agg (List.toArray g10), .int .i64 tm, .agg (List.toArray cs), .agg (List.toArray g17), .string (str cm), .agg (List.toArray cs), .agg (List.toArray g72), .int .i64 it, .agg (List.toArray cs), .agg (List.toArray g80), o, o, o, o, o, o, o, o, o, o, o, o, o, o, o, o, o, o, o, o, o, o, o, o, o, o, o, o, o, o, o, o, o, o, o, o, o, o, o, o, o, o, o, o, o, o, o, o], []⟩ : Act) _
            refine ⟨hS84, ?_⟩
            refine wpAnyU_take (i := 14) (A := fun _ => True) (v := .int .i64 bs) (a' := ⟨#[.slice a n c, o, T2, .slice none 0 0, .int .i64 0, .pointer (some ⟨nv, 0, none⟩), .int .i64 0, .pointer (some ⟨ga66, 0, none⟩), o, o, o, T1, .slice a n c, T1, .agg (List.toArray cs), .int .i64 0, .int .i64 0, .bool false, o, o, .agg (List.toArray cs), .agg (List.toArray g3), .string (str nm), .agg (List.toArray cs), .agg (List.toArray g10), .int .i64 tm, .agg (List.toArray cs), .agg (List.toArray g17), .string (str cm), .agg (List.toArray cs), .agg (List.toArray g72), .int .i64 it, .agg (List.toArray cs), .agg (List.toArray g80), .int .i64 bs, o, o, o, o, o, o, o, o, o, o, o, o, o, o, o, o, o, o, o, o, o, o, o, o, o, o, o, o, o, o, o, o, o, o, o, o, o, o, o, o, o, o, o, o, o, o, o], []⟩) hSm (hSi 14 (by decide)) (fun _ _ _ => trivial) rfl (by kernel_rfl) (by kernel_rfl) (by kernel_rfl) (fun _ _ _ h => h) hS84 (Tame.val rfl (fun w' _ => by have h1 := fg80 w'; go_simp)) rfl ?_
            refine wpAnyU_take (i := 15) (A := SA26 W2 nv cs) (v := .agg (List.toArray XC)) (a' := ⟨#[.slice a n c, o, T2, .slice none 0 0, .int .i64 0, .pointer (some ⟨nv, 0, none⟩), .int .i64 0, .pointer (some ⟨ga66, 0, none⟩), o, o, o, T1, .slice a n c, T1, .agg (List.toArray cs), .int .i64 0, .int .i64 0, .bool false, o, o, .agg (List.toArray cs), .agg (List.toArray g3), .string (str nm), .agg (List.toArray cs), .agg (List.toArray g10), .int .i64 tm, .agg (List.toArray cs), .agg (List.toArray g17), .string (str cm), .agg (List.toArray cs), .agg (List.toArray g72), .int .i64 it, .agg (List.toArray cs), .agg (List.toArray g80), .int .i64 bs, .agg (List.toArray XC), o, o, o, o, o, o, o, o, o, o, o, o, o, o, o, o, o, o, o, o, o, o, o, o, o, o, o, o, o, o, o, o, o, o, o, o, o, o, o, o, o, o, o, o, o, o], []⟩) hSm (hSi 15 (by decide)) (fun _ _ h => h) rfl (by kernel_rfl) (by kernel_rfl) (by kernel_rfl) (fun _ _ _ h => h) hS84 (Tame.val rfl (fun w' hA => run_bdOp (vals := #[(0, .string (str nm)), (2, .int .i64 tm), (3, .string (str cm)), (4, .int .i64 it), (5, .int .i64 bs)]) (by first | rfl | go_simp | simp [Act.eval]) hbd)) rfl ?_
            refine wpAnyU_all (rs := [17]) (by kernel_rfl) (by decide) ?_
            intro ws86 hm87 i hi
            obtain rfl : i = 17 := by simpa using hi
            have hS88 := hSm #[] _ _ hS84 hm87
            obtain ⟨wf, qs, hBf, hgf2⟩ := stOp_blk (P := Try.prog) (ty := 31) (o := 0) (cs := XC) (hBg85.below hm87) (by rw [hXl]; decide) (by rw [hXl]; exact sizeAB) hXone
            rw [hXdrop] at hBf
            refine wpOp_skip (w' := wf) (a' := ⟨#[.slice a n c, o, T2, .slice none 0 0, .int .i64 0, .pointer (some ⟨nv, 0, none⟩), .int .i64 0, .pointer (some ⟨ga66, 0, none⟩), o, o, o, T1, .slice a n c, T1, .agg (List.toArray cs), .int .i64 0, .int .i64 0, .bool false, o, o, .agg (List.toArray cs), .agg (List.toArray g3), .string (str nm), .agg (List.toArray cs), .agg (List.toArray g10), .int .i64 tm, .agg (List.toArray cs), .agg (List.toArray g17), .string (str cm), .agg (List.toArray cs), .agg (List.toArray g72), .int .i64 it, .agg (List.toArray cs), .agg (List.toArray g80), .int .i64 bs, .agg (List.toArray XC), o, o, o, o, o, o, o, o, o, o, o, o, o, o, o, o, o, o, o, o, o, o, o, o, o, o, o, o, o, o, o, o, o, o, o, o, o, o, o, o, o, o, o, o, o, o], []⟩) rfl rfl (run_stoOp qs) rfl ?_
            have hS9 : (SA26 W2 nv cs wf) := ⟨hS88.1.grown hgf2 (fun e => by cases e; omega), hS88.2.trans ⟨hgf2.os, hgf2.tape, hgf2.output, hgf2.size, fun i hi => hgf2.block i (Nat.lt_of_lt_of_le hi hS88.2.size) (fun e => by cases e; omega)⟩⟩
            refine ⟨hS9, ?_⟩
            refine wpAnyU_done (by kernel_rfl) ?_ _
            intro wz hmz
            have hS10 := hSm #[] _ _ hS9 hmz
            have hBz := hBf.below hmz
            have hlm : AbtOk (arcX v) := by rw [hXd]; exact ⟨rfl, (by assumption : in64 tm ∧ _).1, (by assumption : in64 it ∧ _).1, (by assumption : in64 bs ∧ _).1, (by assumption : _ ∧ nm.length ≤ maxLen).2, (by assumption : _ ∧ cm.length ≤ maxLen).2⟩
            have hfin : ∃ g, Value.pointer (some ⟨ga66, 0, none⟩) = .pointer (some ⟨g, 0, none⟩) ∧ W2.heap.size ≤ g ∧ Blk wz g 31 XC ∧ AbtOk (arcX v) ∧ Below W2.heap.size W2 wz := ⟨ga66, rfl, hBg67w, hBz, hlm, hS10.2⟩
            obtain rfl := ho.out
            obtain rfl := hT2.out
            go_wp2_with fail
            go_meet
            exact hfin
        · subst hi
          have hS89 := hSm #[] _ _ hS14 hm16
          refine wpOp_val (v := .pointer (some ⟨w15.heap.size, 0, none⟩)) (w' := w15.alloc (.cells zAB 31)) (a' := ⟨#[.slice a n c, o, T2, .slice none 0 0, .int .i64 0, .pointer (some ⟨nv, 0, none⟩), .int .i64 0, .pointer (some ⟨w15.heap.size, 0, none⟩), o, o, o, T1, .slice a n c, T1, .agg (List.toArray cs), .int .i64 0, .int .i64 0, .bool false, o, o, .agg (List.toArray cs), .agg (List.toArray g3), .string (str nm), .agg (List.toArray cs), .agg (List.toArray g10), .int .i64 tm, .agg (List.toArray cs), o, o, .agg (List.toArray cs), o, o, .agg (List.toArray cs), o, o, o, o, o, o, o, o, o, o, o, o, o, o, o, o, o, o, o, o, o, o, o, o, o, o, o, o, o, o, o, o, o, o, o, o, o, o, o, o, o, o, o, o, o, o, o, o, o], []⟩) rfl rfl (run_alAB) rfl ?_
          have hma94 : Mo w15 (w15.alloc (.cells zAB 31)) := (Below.refl _ _).alloc (Nat.le_refl _) _
          have hS90 := hSm #[] _ _ hS89 hma94
          refine ⟨hS90, ?_⟩
          have hBg92 : Blk (w15.alloc (.cells zAB 31)) w15.heap.size 31 zAB.toList := Blk.new _ _ _
          have hBg92n : nv < w15.heap.size := hS89.1.lt
          have hBg92w : W2.heap.size ≤ w15.heap.size := hS89.2.size
          generalize w15.alloc (.cells zAB 31) = wa93 at *
          generalize w15.heap.size = ga91 at *
          refine wpAnyU_all (rs := [7]) (by kernel_rfl) (by decide) ?_
          intro w95 hm96 i hi
          obtain rfl : i = 7 := by simpa using hi
          have hS100 := hSm #[] _ _ hS90 hm96
          refine wpOp_enter (f := 43) (args := #[.agg (List.toArray cs), .string (str [99])]) rfl rfl (by go_simp; rfl) ((hget [99] w95 hS100.2).mono ?_)
          rintro e wc98 ⟨g97, rfl, hg97, hb99⟩
          have lg97 := VAt.lims hg97
          have fg97 := fldTxt hg97
          rw [← hcm.out] at lg97 fg97
          have hS101 := hSm #[] _ _ hS100 hb99
          have hBg102 := (hBg92.below hm96).below hb99
          refine ⟨_, rfl, ?_⟩
          show _ ∧ wpAnyU _ _ _ _ _ _ _ (⟨#[.slice a n c, o, T2, .slice none 0 0, .int .i64 0, .pointer (some ⟨nv, 0, none⟩), .int .i64 0, .pointer (some ⟨ga91, 0, none⟩), o, o, o, T1, .slice a n c, T1, .agg (List.toArray cs), .int .i64 0, .int .i64 0, .bool false, o, o, .agg (List.toArray cs), .agg (List.toArray g3), .string (str nm), .agg (List.toArray cs), .agg (List.toArray g10), .int .i64 tm, .agg (List.toArray cs), .agg (List.toArray g97), o, .agg (List.toArray cs), o, o, .agg (List.toArray cs), o, o, o, o, o, o, o, o, o, o, o, o, o, o, o, o, o, o, o, o, o, o, o, o, o, o, o, o, o, o, o, o, o, o, o, o, o, o, o, o, o, o, o, o, o, o, o, o, o], []⟩ : Act) _
          refine ⟨hS101, ?_⟩
          refine wpAnyU_take (i := 8) (A := fun _ => True) (v := .string (str cm)) (a' := ⟨#[.slice a n c, o, T2, .slice none 0 0, .int .i64 0, .pointer (some ⟨nv, 0, none⟩), .int .i64 0, .pointer (some ⟨ga91, 0, none⟩), o, o, o, T1, .slice a n c, T1, .agg (List.toArray cs), .int .i64 0, .int .i64 0, .bool false, o, o, .agg (List.toArray cs), .agg (List.toArray g3), .string (str nm), .agg (List.toArray cs), .agg (List.toArray g10), .int .i64 tm, .agg (List.toArray cs), .agg (List.toArray g97), .string (str cm), .agg (List.toArray cs), o, o, .agg (List.toArray cs), o, o, o, o, o, o, o, o, o, o, o, o, o, o, o, o, o, o, o, o, o, o, o, o, o, o, o, o, o, o, o, o, o, o, o, o, o, o, o, o, o, o, o, o, o, o, o, o, o], []⟩) hSm (hSi 8 (by decide)) (fun _ _ _ => trivial) rfl (by kernel_rfl) (by kernel_rfl) (by kernel_rfl) (fun _ _ _ h => h) hS101 (Tame.val rfl (fun w' _ => by have h1 := fg97 w'; go_simp)) rfl ?_
          refine wpAnyU_all (rs := [10]) (by kernel_rfl) (by decide) ?_
          intro w103 hm104 i hi
          obtain rfl : i = 10 := by simpa using hi
          have hS108 := hSm #[] _ _ hS101 hm104
          refine wpOp_enter (f := 43) (args := #[.agg (List.toArray cs), .string (str [113])]) rfl rfl (by go_simp; rfl) ((hget [113] w103 hS108.2).mono ?_)
          rintro e wc106 ⟨g105, rfl, hg105, hb107⟩
          have lg105 := VAt.lims hg105
          have fg105 := fldInt hg105
          rw [← hit.out] at lg105 fg105
          have hS109 := hSm #[] _ _ hS108 hb107
          have hBg110 := (hBg102.below hm104).below hb107
          refine ⟨_, rfl, ?_⟩
          show _ ∧ wpAnyU _ _ _ _ _ _ _ (⟨#[.slice a n c, o, T2, .slice none 0 0, .int .i64 0, .pointer (some ⟨nv, 0, none⟩), .int .i64 0, .pointer (some ⟨ga91, 0, none⟩), o, o, o, T1, .slice a n c, T1, .agg (List.toArray cs), .int .i64 0, .int .i64 0, .bool false, o, o, .agg (List.toArray cs), .agg (List.toArray g3), .string (str nm), .agg (List.toArray cs), .agg (List.toArray g10), .int .i64 tm, .agg (List.toArray cs), .agg (List.toArray g97), .string (str cm), .agg (List.toArray cs), .agg (List.toArray g105), o, .agg (List.toArray cs), o, o, o, o, o, o, o, o, o, o, o, o, o, o, o, o, o, o, o, o, o, o, o, o, o, o, o, o, o, o, o, o, o, o, o, o, o, o, o, o, o, o, o, o, o, o, o, o, o], []⟩ : Act) _
          refine ⟨hS109, ?_⟩
          refine wpAnyU_take (i := 11) (A := fun _ => True) (v := .int .i64 it) (a' := ⟨#[.slice a n c, o, T2, .slice none 0 0, .int .i64 0, .pointer (some ⟨nv, 0, none⟩), .int .i64 0, .pointer (some ⟨ga91, 0, none⟩), o, o, o, T1, .slice a n c, T1, .agg (List.toArray cs), .int .i64 0, .int .i64 0, .bool false, o, o, .agg (List.toArray cs), .agg (List.toArray g3), .string (str nm), .agg (List.toArray cs), .agg (List.toArray g10), .int .i64 tm, .agg (List.toArray cs), .agg (List.toArray g97), .string (str cm), .agg (List.toArray cs), .agg (List.toArray g105), .int .i64 it, .agg (List.toArray cs), o, o, o, o, o, o, o, o, o, o, o, o, o, o, o, o, o, o, o, o, o, o, o, o, o, o, o, o, o, o, o, o, o, o, o, o, o, o, o, o, o, o, o, o, o, o, o, o, o], []⟩) hSm (hSi 11 (by decide)) (fun _ _ _ => trivial) rfl (by kernel_rfl) (by kernel_rfl) (by kernel_rfl) (fun _ _ _ h => h) hS109 (Tame.val rfl (fun w' _ => by have h1 := fg105 w'; go_simp)) rfl ?_
          refine wpAnyU_all (rs := [13]) (by kernel_rfl) (by decide) ?_
          intro w111 hm112 i hi
          obtain rfl : i = 13 := by simpa using hi
          have hS116 := hSm #[] _ _ hS109 hm112
          refine wpOp_enter (f := 43) (args := #[.agg (List.toArray cs), .string (str [98])]) rfl rfl (by go_simp; rfl) ((hget [98] w111 hS116.2).mono ?_)
          rintro e wc114 ⟨g113, rfl, hg113, hb115⟩
          have lg113 := VAt.lims hg113
          have fg113 := fldInt hg113
          rw [← hbs.out] at lg113 fg113
          have hS117 := hSm #[] _ _ hS116 hb115
          have hBg118 := (hBg110.below hm112).below hb115
          refine ⟨_, rfl, ?_⟩
          show _ ∧ wpAnyU _ _ _ _ _ _ _ (⟨#[.slice a n c, o, T2, .slice none 0 0, .int .i64 0, .pointer (some ⟨nv, 0, none⟩), .int .i64 0, .pointer (some ⟨ga91, 0, none⟩), o, o, o, T1, .slice a n c, T1, .agg (List.toArray cs), .int .i64 0, .int .i64 0, .bool false, o, o, .agg (List.toArray cs), .agg (List.toArray g3), .string (str nm), .agg (List.toArray cs), .agg (List.toArray g10), .int .i64 tm, .agg (List.toArray cs), .agg (List.toArray g97), .string (str cm), .agg (List.toArray cs), .agg (List.toArray g105), .int .i64 it, .agg (List.toArray cs), .agg (List.toArray g113), o, o, o, o, o, o, o, o, o, o, o, o, o, o, o, o, o, o, o, o, o, o, o, o, o, o, o, o, o, o, o, o, o, o, o, o, o, o, o, o, o, o, o, o, o, o, o, o], []⟩ : Act) _
          refine ⟨hS117, ?_⟩
          refine wpAnyU_take (i := 14) (A := fun _ => True) (v := .int .i64 bs) (a' := ⟨#[.slice a n c, o, T2, .slice none 0 0, .int .i64 0, .pointer (some ⟨nv, 0, none⟩), .int .i64 0, .pointer (some ⟨ga91, 0, none⟩), o, o, o, T1, .slice a n c, T1, .agg (List.toArray cs), .int .i64 0, .int .i64 0, .bool false, o, o, .agg (List.toArray cs), .agg (List.toArray g3), .string (str nm), .agg (List.toArray cs), .agg (List.toArray g10), .int .i64 tm, .agg (List.toArray cs), .agg (List.toArray g97), .string (str cm), .agg (List.toArray cs), .agg (List.toArray g105), .int .i64 it, .agg (List.toArray cs), .agg (List.toArray g113), .int .i64 bs, o, o, o, o, o, o, o, o, o, o, o, o, o, o, o, o, o, o, o, o, o, o, o, o, o, o, o, o, o, o, o, o, o, o, o, o, o, o, o, o, o, o, o, o, o, o, o], []⟩) hSm (hSi 14 (by decide)) (fun _ _ _ => trivial) rfl (by kernel_rfl) (by kernel_rfl) (by kernel_rfl) (fun _ _ _ h => h) hS117 (Tame.val rfl (fun w' _ => by have h1 := fg113 w'; go_simp)) rfl ?_
          refine wpAnyU_take (i := 15) (A := SA26 W2 nv cs) (v := .agg (List.toArray XC)) (a' := ⟨#[.slice a n c, o, T2, .slice none 0 0, .int .i64 0, .pointer (some ⟨nv, 0, none⟩), .int .i64 0, .pointer (some ⟨ga91, 0, none⟩), o, o, o, T1, .slice a n c, T1, .agg (List.toArray cs), .int .i64 0, .int .i64 0, .bool false, o, o, .agg (List.toArray cs), .agg (List.toArray g3), .string (str nm), .agg (List.toArray cs), .agg (List.toArray g10), .int .i64 tm, .agg (List.toArray cs), .agg (List.toArray g97), .string (str cm), .agg (List.toArray cs), .agg (List.toArray g105), .int .i64 it, .agg (List.toArray cs), .agg (List.toArray g113), .int .i64 bs, .agg (List.toArray XC), o, o, o, o, o, o, o, o, o, o, o, o, o, o, o, o, o, o, o, o, o, o, o, o, o, o, o, o, o, o, o, o, o, o, o, o, o, o, o, o, o, o, o, o, o, o], []⟩) hSm (hSi 15 (by decide)) (fun _ _ h => h) rfl (by kernel_rfl) (by kernel_rfl) (by kernel_rfl) (fun _ _ _ h => h) hS117 (Tame.val rfl (fun w' hA => run_bdOp (vals := #[(0, .string (str nm)), (2, .int .i64 tm), (3, .string (str cm)), (4, .int .i64 it), (5, .int .i64 bs)]) (by first | rfl | go_simp | simp [Act.eval]) hbd)) rfl ?_
          refine wpAnyU_all (rs := [17]) (by kernel_rfl) (by decide) ?_
          intro ws119 hm120 i hi
          obtain rfl : i = 17 := by simpa using hi
          have hS121 := hSm #[] _ _ hS117 hm120
          obtain ⟨wf, qs, hBf, hgf2⟩ := stOp_blk (P := Try.prog) (ty := 31) (o := 0) (cs := XC) (hBg118.below hm120) (by rw [hXl]; decide) (by rw [hXl]; exact sizeAB) hXone
          rw [hXdrop] at hBf
          refine wpOp_skip (w' := wf) (a' := ⟨#[.slice a n c, o, T2, .slice none 0 0, .int .i64 0, .pointer (some ⟨nv, 0, none⟩), .int .i64 0, .pointer (some ⟨ga91, 0, none⟩), o, o, o, T1, .slice a n c, T1, .agg (List.toArray cs), .int .i64 0, .int .i64 0, .bool false, o, o, .agg (List.toArray cs), .agg (List.toArray g3), .string (str nm), .agg (List.toArray cs), .agg (List.toArray g10), .int .i64 tm, .agg (List.toArray cs), .agg (List.toArray g97), .string (str cm), .agg (List.toArray cs), .agg (List.toArray g105), .int .i64 it, .agg (List.toArray cs), .agg (List.toArray g113), .int .i64 bs, .agg (List.toArray XC), o, o, o, o, o, o, o, o, o, o, o, o, o, o, o, o, o, o, o, o, o, o, o, o, o, o, o, o, o, o, o, o, o, o, o, o, o, o, o, o, o, o, o, o, o, o], []⟩) rfl rfl (run_stoOp qs) rfl ?_
          have hS9 : (SA26 W2 nv cs wf) := ⟨hS121.1.grown hgf2 (fun e => by cases e; omega), hS121.2.trans ⟨hgf2.os, hgf2.tape, hgf2.output, hgf2.size, fun i hi => hgf2.block i (Nat.lt_of_lt_of_le hi hS121.2.size) (fun e => by cases e; omega)⟩⟩
          refine ⟨hS9, ?_⟩
          refine wpAnyU_done (by kernel_rfl) ?_ _
          intro wz hmz
          have hS10 := hSm #[] _ _ hS9 hmz
          have hBz := hBf.below hmz
          have hlm : AbtOk (arcX v) := by rw [hXd]; exact ⟨rfl, (by assumption : in64 tm ∧ _).1, (by assumption : in64 it ∧ _).1, (by assumption : in64 bs ∧ _).1, (by assumption : _ ∧ nm.length ≤ maxLen).2, (by assumption : _ ∧ cm.length ≤ maxLen).2⟩
          have hfin : ∃ g, Value.pointer (some ⟨ga91, 0, none⟩) = .pointer (some ⟨g, 0, none⟩) ∧ W2.heap.size ≤ g ∧ Blk wz g 31 XC ∧ AbtOk (arcX v) ∧ Below W2.heap.size W2 wz := ⟨ga91, rfl, hBg92w, hBz, hlm, hS10.2⟩
          obtain rfl := ho.out
          obtain rfl := hT2.out
          go_wp2_with fail
          go_meet
          exact hfin
      · subst hi
        have hS122 := hSm #[] _ _ hS7 hm9
        refine wpOp_val (v := .pointer (some ⟨w8.heap.size, 0, none⟩)) (w' := w8.alloc (.cells zAB 31)) (a' := ⟨#[.slice a n c, o, T2, .slice none 0 0, .int .i64 0, .pointer (some ⟨nv, 0, none⟩), .int .i64 0, .pointer (some ⟨w8.heap.size, 0, none⟩), o, o, o, T1, .slice a n c, T1, .agg (List.toArray cs), .int .i64 0, .int .i64 0, .bool false, o, o, .agg (List.toArray cs), .agg (List.toArray g3), .string (str nm), .agg (List.toArray cs), o, o, .agg (List.toArray cs), o, o, .agg (List.toArray cs), o, o, .agg (List.toArray cs), o, o, o, o, o, o, o, o, o, o, o, o, o, o, o, o, o, o, o, o, o, o, o, o, o, o, o, o, o, o, o, o, o, o, o, o, o, o, o, o, o, o, o, o, o, o, o, o, o], []⟩) rfl rfl (run_alAB) rfl ?_
        have hma127 : Mo w8 (w8.alloc (.cells zAB 31)) := (Below.refl _ _).alloc (Nat.le_refl _) _
        have hS123 := hSm #[] _ _ hS122 hma127
        refine ⟨hS123, ?_⟩
        have hBg125 : Blk (w8.alloc (.cells zAB 31)) w8.heap.size 31 zAB.toList := Blk.new _ _ _
        have hBg125n : nv < w8.heap.size := hS122.1.lt
        have hBg125w : W2.heap.size ≤ w8.heap.size := hS122.2.size
        generalize w8.alloc (.cells zAB 31) = wa126 at *
        generalize w8.heap.size = ga124 at *
        refine wpAnyU_all (rs := [4]) (by kernel_rfl) (by decide) ?_
        intro w128 hm129 i hi
        obtain rfl : i = 4 := by simpa using hi
        have hS133 := hSm #[] _ _ hS123 hm129
        refine wpOp_enter (f := 43) (args := #[.agg (List.toArray cs), .string (str [116])]) rfl rfl (by go_simp; rfl) ((hget [116] w128 hS133.2).mono ?_)
        rintro e wc131 ⟨g130, rfl, hg130, hb132⟩
        have lg130 := VAt.lims hg130
        have fg130 := fldInt hg130
        rw [← htm.out] at lg130 fg130
        have hS134 := hSm #[] _ _ hS133 hb132
        have hBg135 := (hBg125.below hm129).below hb132
        refine ⟨_, rfl, ?_⟩
        show _ ∧ wpAnyU _ _ _ _ _ _ _ (⟨#[.slice a n c, o, T2, .slice none 0 0, .int .i64 0, .pointer (some ⟨nv, 0, none⟩), .int .i64 0, .pointer (some ⟨ga124, 0, none⟩), o, o, o, T1, .slice a n c, T1, .agg (List.toArray cs), .int .i64 0, .int .i64 0, .bool false, o, o, .agg (List.toArray cs), .agg (List.toArray g3), .string (str nm), .agg (List.toArray cs), .agg (List.toArray g130), o, .agg (List.toArray cs), o, o, .agg (List.toArray cs), o, o, .agg (List.toArray cs), o, o, o, o, o, o, o, o, o, o, o, o, o, o, o, o, o, o, o, o, o, o, o, o, o, o, o, o, o, o, o, o, o, o, o, o, o, o, o, o, o, o, o, o, o, o, o, o, o], []⟩ : Act) _
        refine ⟨hS134, ?_⟩
        refine wpAnyU_take (i := 5) (A := fun _ => True) (v := .int .i64 tm) (a' := ⟨#[.slice a n c, o, T2, .slice none 0 0, .int .i64 0, .pointer (some ⟨nv, 0, none⟩), .int .i64 0, .pointer (some ⟨ga124, 0, none⟩), o, o, o, T1, .slice a n c, T1, .agg (List.toArray cs), .int .i64 0, .int .i64 0, .bool false, o, o, .agg (List.toArray cs), .agg (List.toArray g3), .string (str nm), .agg (List.toArray cs), .agg (List.toArray g130), .int .i64 tm, .agg (List.toArray cs), o, o, .agg (List.toArray cs), o, o, .agg (List.toArray cs), o, o, o, o, o, o, o, o, o, o, o, o, o, o, o, o, o, o, o, o, o, o, o, o, o, o, o, o, o, o, o, o, o, o, o, o, o, o, o, o, o, o, o, o, o, o, o, o, o], []⟩) hSm (hSi 5 (by decide)) (fun _ _ _ => trivial) rfl (by kernel_rfl) (by kernel_rfl) (by kernel_rfl) (fun _ _ _ h => h) hS134 (Tame.val rfl (fun w' _ => by have h1 := fg130 w'; go_simp)) rfl ?_
        refine wpAnyU_all (rs := [7]) (by kernel_rfl) (by decide) ?_
        intro w136 hm137 i hi
        obtain rfl : i = 7 := by simpa using hi
        have hS141 := hSm #[] _ _ hS134 hm137
        refine wpOp_enter (f := 43) (args := #[.agg (List.toArray cs), .string (str [99])]) rfl rfl (by go_simp; rfl) ((hget [99] w136 hS141.2).mono ?_)
        rintro e wc139 ⟨g138, rfl, hg138, hb140⟩
        have lg138 := VAt.lims hg138
        have fg138 := fldTxt hg138
        rw [← hcm.out] at lg138 fg138
        have hS142 := hSm #[] _ _ hS141 hb140
        have hBg143 := (hBg135.below hm137).below hb140
        refine ⟨_, rfl, ?_⟩
        show _ ∧ wpAnyU _ _ _ _ _ _ _ (⟨#[.slice a n c, o, T2, .slice none 0 0, .int .i64 0, .pointer (some ⟨nv, 0, none⟩), .int .i64 0, .pointer (some ⟨ga124, 0, none⟩), o, o, o, T1, .slice a n c, T1, .agg (List.toArray cs), .int .i64 0, .int .i64 0, .bool false, o, o, .agg (List.toArray cs), .agg (List.toArray g3), .string (str nm), .agg (List.toArray cs), .agg (List.toArray g130), .int .i64 tm, .agg (List.toArray cs), .agg (List.toArray g138), o, .agg (List.toArray cs), o, o, .agg (List.toArray cs), o, o, o, o, o, o, o, o, o, o, o, o, o, o, o, o, o, o, o, o, o, o, o, o, o, o, o, o, o, o, o, o, o, o, o, o, o, o, o, o, o, o, o, o, o, o, o, o, o], []⟩ : Act) _
        refine ⟨hS142, ?_⟩
        refine wpAnyU_take (i := 8) (A := fun _ => True) (v := .string (str cm)) (a' := ⟨#[.slice a n c, o, T2, .slice none 0 0, .int .i64 0, .pointer (some ⟨nv, 0, none⟩), .int .i64 0, .pointer (some ⟨ga124, 0, none⟩), o, o, o, T1, .slice a n c, T1, .agg (List.toArray cs), .int .i64 0, .int .i64 0, .bool false, o, o, .agg (List.toArray cs), .agg (List.toArray g3), .string (str nm), .agg (List.toArray cs), .agg (List.toArray g130), .int .i64 tm, .agg (List.toArray cs), .agg (List.toArray g138), .string (str cm), .agg (List.toArray cs), o, o, .agg (List.toArray cs), o, o, o, o, o, o, o, o, o, o, o, o, o, o, o, o, o, o, o, o, o, o, o, o, o, o, o, o, o, o, o, o, o, o, o, o, o, o, o, o, o, o, o, o, o, o, o, o, o], []⟩) hSm (hSi 8 (by decide)) (fun _ _ _ => trivial) rfl (by kernel_rfl) (by kernel_rfl) (by kernel_rfl) (fun _ _ _ h => h) hS142 (Tame.val rfl (fun w' _ => by have h1 := fg138 w'; go_simp)) rfl ?_
        refine wpAnyU_all (rs := [10]) (by kernel_rfl) (by decide) ?_
        intro w144 hm145 i hi
        obtain rfl : i = 10 := by simpa using hi
        have hS149 := hSm #[] _ _ hS142 hm145
        refine wpOp_enter (f := 43) (args := #[.agg (List.toArray cs), .string (str [113])]) rfl rfl (by go_simp; rfl) ((hget [113] w144 hS149.2).mono ?_)
        rintro e wc147 ⟨g146, rfl, hg146, hb148⟩
        have lg146 := VAt.lims hg146
        have fg146 := fldInt hg146
        rw [← hit.out] at lg146 fg146
        have hS150 := hSm #[] _ _ hS149 hb148
        have hBg151 := (hBg143.below hm145).below hb148
        refine ⟨_, rfl, ?_⟩
        show _ ∧ wpAnyU _ _ _ _ _ _ _ (⟨#[.slice a n c, o, T2, .slice none 0 0, .int .i64 0, .pointer (some ⟨nv, 0, none⟩), .int .i64 0, .pointer (some ⟨ga124, 0, none⟩), o, o, o, T1, .slice a n c, T1, .agg (List.toArray cs), .int .i64 0, .int .i64 0, .bool false, o, o, .agg (List.toArray cs), .agg (List.toArray g3), .string (str nm), .agg (List.toArray cs), .agg (List.toArray g130), .int .i64 tm, .agg (List.toArray cs), .agg (List.toArray g138), .string (str cm), .agg (List.toArray cs), .agg (List.toArray g146), o, .agg (List.toArray cs), o, o, o, o, o, o, o, o, o, o, o, o, o, o, o, o, o, o, o, o, o, o, o, o, o, o, o, o, o, o, o, o, o, o, o, o, o, o, o, o, o, o, o, o, o, o, o, o, o], []⟩ : Act) _
        refine ⟨hS150, ?_⟩
        refine wpAnyU_take (i := 11) (A := fun _ => True) (v := .int .i64 it) (a' := ⟨#[.slice a n c, o, T2, .slice none 0 0, .int .i64 0, .pointer (some ⟨nv, 0, none⟩), .int .i64 0, .pointer (some ⟨ga124, 0, none⟩), o, o, o, T1, .slice a n c, T1, .agg (List.toArray cs), .int .i64 0, .int .i64 0, .bool false, o, o, .agg (List.toArray cs), .agg (List.toArray g3), .string (str nm), .agg (List.toArray cs), .agg (List.toArray g130), .int .i64 tm, .agg (List.toArray cs), .agg (List.toArray g138), .string (str cm), .agg (List.toArray cs), .agg (List.toArray g146), .int .i64 it, .agg (List.toArray cs), o, o, o, o, o, o, o, o, o, o, o, o, o, o, o, o, o, o, o, o, o, o, o, o, o, o, o, o, o, o, o, o, o, o, o, o, o, o, o, o, o, o, o, o, o, o, o, o, o], []⟩) hSm (hSi 11 (by decide)) (fun _ _ _ => trivial) rfl (by kernel_rfl) (by kernel_rfl) (by kernel_rfl) (fun _ _ _ h => h) hS150 (Tame.val rfl (fun w' _ => by have h1 := fg146 w'; go_simp)) rfl ?_
        refine wpAnyU_all (rs := [13]) (by kernel_rfl) (by decide) ?_
        intro w152 hm153 i hi
        obtain rfl : i = 13 := by simpa using hi
        have hS157 := hSm #[] _ _ hS150 hm153
        refine wpOp_enter (f := 43) (args := #[.agg (List.toArray cs), .string (str [98])]) rfl rfl (by go_simp; rfl) ((hget [98] w152 hS157.2).mono ?_)
        rintro e wc155 ⟨g154, rfl, hg154, hb156⟩
        have lg154 := VAt.lims hg154
        have fg154 := fldInt hg154
        rw [← hbs.out] at lg154 fg154
        have hS158 := hSm #[] _ _ hS157 hb156
        have hBg159 := (hBg151.below hm153).below hb156
        refine ⟨_, rfl, ?_⟩
        show _ ∧ wpAnyU _ _ _ _ _ _ _ (⟨#[.slice a n c, o, T2, .slice none 0 0, .int .i64 0, .pointer (some ⟨nv, 0, none⟩), .int .i64 0, .pointer (some ⟨ga124, 0, none⟩), o, o, o, T1, .slice a n c, T1, .agg (List.toArray cs), .int .i64 0, .int .i64 0, .bool false, o, o, .agg (List.toArray cs), .agg (List.toArray g3), .string (str nm), .agg (List.toArray cs), .agg (List.toArray g130), .int .i64 tm, .agg (List.toArray cs), .agg (List.toArray g138), .string (str cm), .agg (List.toArray cs), .agg (List.toArray g146), .int .i64 it, .agg (List.toArray cs), .agg (List.toArray g154), o, o, o, o, o, o, o, o, o, o, o, o, o, o, o, o, o, o, o, o, o, o, o, o, o, o, o, o, o, o, o, o, o, o, o, o, o, o, o, o, o, o, o, o, o, o, o, o], []⟩ : Act) _
        refine ⟨hS158, ?_⟩
        refine wpAnyU_take (i := 14) (A := fun _ => True) (v := .int .i64 bs) (a' := ⟨#[.slice a n c, o, T2, .slice none 0 0, .int .i64 0, .pointer (some ⟨nv, 0, none⟩), .int .i64 0, .pointer (some ⟨ga124, 0, none⟩), o, o, o, T1, .slice a n c, T1, .agg (List.toArray cs), .int .i64 0, .int .i64 0, .bool false, o, o, .agg (List.toArray cs), .agg (List.toArray g3), .string (str nm), .agg (List.toArray cs), .agg (List.toArray g130), .int .i64 tm, .agg (List.toArray cs), .agg (List.toArray g138), .string (str cm), .agg (List.toArray cs), .agg (List.toArray g146), .int .i64 it, .agg (List.toArray cs), .agg (List.toArray g154), .int .i64 bs, o, o, o, o, o, o, o, o, o, o, o, o, o, o, o, o, o, o, o, o, o, o, o, o, o, o, o, o, o, o, o, o, o, o, o, o, o, o, o, o, o, o, o, o, o, o, o], []⟩) hSm (hSi 14 (by decide)) (fun _ _ _ => trivial) rfl (by kernel_rfl) (by kernel_rfl) (by kernel_rfl) (fun _ _ _ h => h) hS158 (Tame.val rfl (fun w' _ => by have h1 := fg154 w'; go_simp)) rfl ?_
        refine wpAnyU_take (i := 15) (A := SA26 W2 nv cs) (v := .agg (List.toArray XC)) (a' := ⟨#[.slice a n c, o, T2, .slice none 0 0, .int .i64 0, .pointer (some ⟨nv, 0, none⟩), .int .i64 0, .pointer (some ⟨ga124, 0, none⟩), o, o, o, T1, .slice a n c, T1, .agg (List.toArray cs), .int .i64 0, .int .i64 0, .bool false, o, o, .agg (List.toArray cs), .agg (List.toArray g3), .string (str nm), .agg (List.toArray cs), .agg (List.toArray g130), .int .i64 tm, .agg (List.toArray cs), .agg (List.toArray g138), .string (str cm), .agg (List.toArray cs), .agg (List.toArray g146), .int .i64 it, .agg (List.toArray cs), .agg (List.toArray g154), .int .i64 bs, .agg (List.toArray XC), o, o, o, o, o, o, o, o, o, o, o, o, o, o, o, o, o, o, o, o, o, o, o, o, o, o, o, o, o, o, o, o, o, o, o, o, o, o, o, o, o, o, o, o, o, o], []⟩) hSm (hSi 15 (by decide)) (fun _ _ h => h) rfl (by kernel_rfl) (by kernel_rfl) (by kernel_rfl) (fun _ _ _ h => h) hS158 (Tame.val rfl (fun w' hA => run_bdOp (vals := #[(0, .string (str nm)), (2, .int .i64 tm), (3, .string (str cm)), (4, .int .i64 it), (5, .int .i64 bs)]) (by first | rfl | go_simp | simp [Act.eval]) hbd)) rfl ?_
        refine wpAnyU_all (rs := [17]) (by kernel_rfl) (by decide) ?_
        intro ws160 hm161 i hi
        obtain rfl : i = 17 := by simpa using hi
        have hS162 := hSm #[] _ _ hS158 hm161
        obtain ⟨wf, qs, hBf, hgf2⟩ := stOp_blk (P := Try.prog) (ty := 31) (o := 0) (cs := XC) (hBg159.below hm161) (by rw [hXl]; decide) (by rw [hXl]; exact sizeAB) hXone
        rw [hXdrop] at hBf
        refine wpOp_skip (w' := wf) (a' := ⟨#[.slice a n c, o, T2, .slice none 0 0, .int .i64 0, .pointer (some ⟨nv, 0, none⟩), .int .i64 0, .pointer (some ⟨ga124, 0, none⟩), o, o, o, T1, .slice a n c, T1, .agg (List.toArray cs), .int .i64 0, .int .i64 0, .bool false, o, o, .agg (List.toArray cs), .agg (List.toArray g3), .string (str nm), .agg (List.toArray cs), .agg (List.toArray g130), .int .i64 tm, .agg (List.toArray cs), .agg (List.toArray g138), .string (str cm), .agg (List.toArray cs), .agg (List.toArray g146), .int .i64 it, .agg (List.toArray cs), .agg (List.toArray g154), .int .i64 bs, .agg (List.toArray XC), o, o, o, o, o, o, o, o, o, o, o, o, o, o, o, o, o, o, o, o, o, o, o, o, o, o, o, o, o, o, o, o, o, o, o, o, o, o, o, o, o, o, o, o, o, o], []⟩) rfl rfl (run_stoOp qs) rfl ?_
        have hS9 : (SA26 W2 nv cs wf) := ⟨hS162.1.grown hgf2 (fun e => by cases e; omega), hS162.2.trans ⟨hgf2.os, hgf2.tape, hgf2.output, hgf2.size, fun i hi => hgf2.block i (Nat.lt_of_lt_of_le hi hS162.2.size) (fun e => by cases e; omega)⟩⟩
        refine ⟨hS9, ?_⟩
        refine wpAnyU_done (by kernel_rfl) ?_ _
        intro wz hmz
        have hS10 := hSm #[] _ _ hS9 hmz
        have hBz := hBf.below hmz
        have hlm : AbtOk (arcX v) := by rw [hXd]; exact ⟨rfl, (by assumption : in64 tm ∧ _).1, (by assumption : in64 it ∧ _).1, (by assumption : in64 bs ∧ _).1, (by assumption : _ ∧ nm.length ≤ maxLen).2, (by assumption : _ ∧ cm.length ≤ maxLen).2⟩
        have hfin : ∃ g, Value.pointer (some ⟨ga124, 0, none⟩) = .pointer (some ⟨g, 0, none⟩) ∧ W2.heap.size ≤ g ∧ Blk wz g 31 XC ∧ AbtOk (arcX v) ∧ Below W2.heap.size W2 wz := ⟨ga124, rfl, hBg125w, hBz, hlm, hS10.2⟩
        obtain rfl := ho.out
        obtain rfl := hT2.out
        go_wp2_with fail
        go_meet
        exact hfin
    · subst hi
      have hS163 := hSm #[] _ _ hS0 hm2
      refine wpOp_val (v := .pointer (some ⟨w1.heap.size, 0, none⟩)) (w' := w1.alloc (.cells zAB 31)) (a' := ⟨#[.slice a n c, o, T2, .slice none 0 0, .int .i64 0, .pointer (some ⟨nv, 0, none⟩), .int .i64 0, .pointer (some ⟨w1.heap.size, 0, none⟩), o, o, o, T1, .slice a n c, T1, .agg (List.toArray cs), .int .i64 0, .int .i64 0, .bool false, o, o, .agg (List.toArray cs), o, o, .agg (List.toArray cs), o, o, .agg (List.toArray cs), o, o, .agg (List.toArray cs), o, o, .agg (List.toArray cs), o, o, o, o, o, o, o, o, o, o, o, o, o, o, o, o, o, o, o, o, o, o, o, o, o, o, o, o, o, o, o, o, o, o, o, o, o, o, o, o, o, o, o, o, o, o, o, o, o], []⟩) rfl rfl (run_alAB) rfl ?_
      have hma168 : Mo w1 (w1.alloc (.cells zAB 31)) := (Below.refl _ _).alloc (Nat.le_refl _) _
      have hS164 := hSm #[] _ _ hS163 hma168
      refine ⟨hS164, ?_⟩
      have hBg166 : Blk (w1.alloc (.cells zAB 31)) w1.heap.size 31 zAB.toList := Blk.new _ _ _
      have hBg166n : nv < w1.heap.size := hS163.1.lt
      have hBg166w : W2.heap.size ≤ w1.heap.size := hS163.2.size
      generalize w1.alloc (.cells zAB 31) = wa167 at *
      generalize w1.heap.size = ga165 at *
      refine wpAnyU_all (rs := [1]) (by kernel_rfl) (by decide) ?_
      intro w169 hm170 i hi
      obtain rfl : i = 1 := by simpa using hi
      have hS174 := hSm #[] _ _ hS164 hm170
      refine wpOp_enter (f := 43) (args := #[.agg (List.toArray cs), .string (str [110])]) rfl rfl (by go_simp; rfl) ((hget [110] w169 hS174.2).mono ?_)
      rintro e wc172 ⟨g171, rfl, hg171, hb173⟩
      have lg171 := VAt.lims hg171
      have fg171 := fldTxt hg171
      rw [← hnm.out] at lg171 fg171
      have hS175 := hSm #[] _ _ hS174 hb173
      have hBg176 := (hBg166.below hm170).below hb173
      refine ⟨_, rfl, ?_⟩
      show _ ∧ wpAnyU _ _ _ _ _ _ _ (⟨#[.slice a n c, o, T2, .slice none 0 0, .int .i64 0, .pointer (some ⟨nv, 0, none⟩), .int .i64 0, .pointer (some ⟨ga165, 0, none⟩), o, o, o, T1, .slice a n c, T1, .agg (List.toArray cs), .int .i64 0, .int .i64 0, .bool false, o, o, .agg (List.toArray cs), .agg (List.toArray g171), o, .agg (List.toArray cs), o, o, .agg (List.toArray cs), o, o, .agg (List.toArray cs), o, o, .agg (List.toArray cs), o, o, o, o, o, o, o, o, o, o, o, o, o, o, o, o, o, o, o, o, o, o, o, o, o, o, o, o, o, o, o, o, o, o, o, o, o, o, o, o, o, o, o, o, o, o, o, o, o], []⟩ : Act) _
      refine ⟨hS175, ?_⟩
      refine wpAnyU_take (i := 2) (A := fun _ => True) (v := .string (str nm)) (a' := ⟨#[.slice a n c, o, T2, .slice none 0 0, .int .i64 0, .pointer (some ⟨nv, 0, none⟩), .int .i64 0, .pointer (some ⟨ga165, 0, none⟩), o, o, o, T1, .slice a n c, T1, .agg (List.toArray cs), .int .i64 0, .int .i64 0, .bool false, o, o, .agg (List.toArray cs), .agg (List.toArray g171), .string (str nm), .agg (List.toArray cs), o, o, .agg (List.toArray cs), o, o, .agg (List.toArray cs), o, o, .agg (List.toArray cs), o, o, o, o, o, o, o, o, o, o, o, o, o, o, o, o, o, o, o, o, o, o, o, o, o, o, o, o, o, o, o, o, o, o, o, o, o, o, o, o, o, o, o, o, o, o, o, o, o], []⟩) hSm (hSi 2 (by decide)) (fun _ _ _ => trivial) rfl (by kernel_rfl) (by kernel_rfl) (by kernel_rfl) (fun _ _ _ h => h) hS175 (Tame.val rfl (fun w' _ => by have h1 := fg171 w'; go_simp)) rfl ?_
      refine wpAnyU_all (rs := [4]) (by kernel_rfl) (by decide) ?_
      intro w177 hm178 i hi
      obtain rfl : i = 4 := by simpa using hi
      have hS182 := hSm #[] _ _ hS175 hm178
      refine wpOp_enter (f := 43) (args := #[.agg (List.toArray cs), .string (str [116])]) rfl rfl (by go_simp; rfl) ((hget [116] w177 hS182.2).mono ?_)
      rintro e wc180 ⟨g179, rfl, hg179, hb181⟩
      have lg179 := VAt.lims hg179
      have fg179 := fldInt hg179
      rw [← htm.out] at lg179 fg179
      have hS183 := hSm #[] _ _ hS182 hb181
      have hBg184 := (hBg176.below hm178).below hb181
      refine ⟨_, rfl, ?_⟩
      show _ ∧ wpAnyU _ _ _ _ _ _ _ (⟨#[.slice a n c, o, T2, .slice none 0 0, .int .i64 0, .pointer (some ⟨nv, 0, none⟩), .int .i64 0, .pointer (some ⟨ga165, 0, none⟩), o, o, o, T1, .slice a n c, T1, .agg (List.toArray cs), .int .i64 0, .int .i64 0, .bool false, o, o, .agg (List.toArray cs), .agg (List.toArray g171), .string (str nm), .agg (List.toArray cs), .agg (List.toArray g179), o, .agg (List.toArray cs), o, o, .agg (List.toArray cs), o, o, .agg (List.toArray cs), o, o, o, o, o, o, o, o, o, o, o, o, o, o, o, o, o, o, o, o, o, o, o, o, o, o, o, o, o, o, o, o, o, o, o, o, o, o, o, o, o, o, o, o, o, o, o, o, o], []⟩ : Act) _
      refine ⟨hS183, ?_⟩
      refine wpAnyU_take (i := 5) (A := fun _ => True) (v := .int .i64 tm) (a' := ⟨#[.slice a n c, o, T2, .slice none 0 0, .int .i64 0, .pointer (some ⟨nv, 0, none⟩), .int .i64 0, .pointer (some ⟨ga165, 0, none⟩), o, o, o, T1, .slice a n c, T1, .agg (List.toArray cs), .int .i64 0, .int .i64 0, .bool false, o, o, .agg (List.toArray cs), .agg (List.toArray g171), .string (str nm), .agg (List.toArray cs), .agg (List.toArray g179), .int .i64 tm, .agg (List.toArray cs), o, o, .agg (List.toArray cs), o, o, .agg (List.toArray cs), o, o, o, o, o, o, o, o, o, o, o, o, o, o, o, o, o, o, o, o, o, o, o, o, o, o, o, o, o, o, o, o, o, o, o, o, o, o, o, o, o, o, o, o, o, o, o, o, o], []⟩) hSm (hSi 5 (by decide)) (fun _ _ _ => trivial) rfl (by kernel_rfl) (by kernel_rfl) (by kernel_rfl) (fun _ _ _ h => h) hS183 (Tame.val rfl (fun w' _ => by have h1 := fg179 w'; go_simp)) rfl ?_
      refine wpAnyU_all (rs := [7]) (by kernel_rfl) (by decide) ?_
      intro w185 hm186 i hi
      obtain rfl : i = 7 := by simpa using hi
      have hS190 := hSm #[] _ _ hS183 hm186
      refine wpOp_enter (f := 43) (args := #[.agg (List.toArray cs), .string (str [99])]) rfl rfl (by go_simp; rfl) ((hget [99] w185 hS190.2).mono ?_)
      rintro e wc188 ⟨g187, rfl, hg187, hb189⟩
      have lg187 := VAt.lims hg187
      have fg187 := fldTxt hg187
      rw [← hcm.out] at lg187 fg187
      have hS191 := hSm #[] _ _ hS190 hb189
      have hBg192 := (hBg184.below hm186).below hb189
      refine ⟨_, rfl, ?_⟩
      show _ ∧ wpAnyU _ _ _ _ _ _ _ (⟨#[.slice a n c, o, T2, .slice none 0 0, .int .i64 0, .pointer (some ⟨nv, 0, none⟩), .int .i64 0, .pointer (some ⟨ga165, 0, none⟩), o, o, o, T1, .slice a n c, T1, .agg (List.toArray cs), .int .i64 0, .int .i64 0, .bool false, o, o, .agg (List.toArray cs), .agg (List.toArray g171), .string (str nm), .agg (List.toArray cs), .agg (List.toArray g179), .int .i64 tm, .agg (List.toArray cs), .agg (List.toArray g187), o, .agg (List.toArray cs), o, o, .agg (List.toArray cs), o, o, o, o, o, o, o, o, o, o, o, o, o, o, o, o, o, o, o, o, o, o, o, o, o, o, o, o, o, o, o, o, o, o, o, o, o, o, o, o, o, o, o, o, o, o, o, o, o], []⟩ : Act) _
      refine ⟨hS191, ?_⟩
      refine wpAnyU_take (i := 8) (A := fun _ => True) (v := .string (str cm)) (a' := ⟨#[.slice a n c, o, T2, .slice none 0 0, .int .i64 0, .pointer (some ⟨nv, 0, none⟩), .int .i64 0, .pointer (some ⟨ga165, 0, none⟩), o, o, o, T1, .slice a n c, T1, .agg (List.toArray cs), .int .i64 0, .int .i64 0, .bool false, o, o, .agg (List.toArray cs), .agg (List.toArray g171), .string (str nm), .agg (List.toArray cs), .agg (List.toArray g179), .int .i64 tm, .agg (List.toArray cs), .agg (List.toArray g187), .string (str cm), .agg (List.toArray cs), o, o, .agg (List.toArray cs), o, o, o, o, o, o, o, o, o, o, o, o, o, o, o, o, o, o, o, o, o, o, o, o, o, o, o, o, o, o, o, o, o, o, o, o, o, o, o, o, o, o, o, o, o, o, o, o, o], []⟩) hSm (hSi 8 (by decide)) (fun _ _ _ => trivial) rfl (by kernel_rfl) (by kernel_rfl) (by kernel_rfl) (fun _ _ _ h => h) hS191 (Tame.val rfl (fun w' _ => by have h1 := fg187 w'; go_simp)) rfl ?_
      refine wpAnyU_all (rs := [10]) (by kernel_rfl) (by decide) ?_
      intro w193 hm194 i hi
      obtain rfl : i = 10 := by simpa using hi
      have hS198 := hSm #[] _ _ hS191 hm194
      refine wpOp_enter (f := 43) (args := #[.agg (List.toArray cs), .string (str [113])]) rfl rfl (by go_simp; rfl) ((hget [113] w193 hS198.2).mono ?_)
      rintro e wc196 ⟨g195, rfl, hg195, hb197⟩
      have lg195 := VAt.lims hg195
      have fg195 := fldInt hg195
      rw [← hit.out] at lg195 fg195
      have hS199 := hSm #[] _ _ hS198 hb197
      have hBg200 := (hBg192.below hm194).below hb197
      refine ⟨_, rfl, ?_⟩
      show _ ∧ wpAnyU _ _ _ _ _ _ _ (⟨#[.slice a n c, o, T2, .slice none 0 0, .int .i64 0, .pointer (some ⟨nv, 0, none⟩), .int .i64 0, .pointer (some ⟨ga165, 0, none⟩), o, o, o, T1, .slice a n c, T1, .agg (List.toArray cs), .int .i64 0, .int .i64 0, .bool false, o, o, .agg (List.toArray cs), .agg (List.toArray g171), .string (str nm), .agg (List.toArray cs), .agg (List.toArray g179), .int .i64 tm, .agg (List.toArray cs), .agg (List.toArray g187), .string (str cm), .agg (List.toArray cs), .agg (List.toArray g195), o, .agg (List.toArray cs), o, o, o, o, o, o, o, o, o, o, o, o, o, o, o, o, o, o, o, o, o, o, o, o, o, o, o, o, o, o, o, o, o, o, o, o, o, o, o, o, o, o, o, o, o, o, o, o, o], []⟩ : Act) _
      refine ⟨hS199, ?_⟩
      refine wpAnyU_take (i := 11) (A := fun _ => True) (v := .int .i64 it) (a' := ⟨#[.slice a n c, o, T2, .slice none 0 0, .int .i64 0, .pointer (some ⟨nv, 0, none⟩), .int .i64 0, .pointer (some ⟨ga165, 0, none⟩), o, o, o, T1, .slice a n c, T1, .agg (List.toArray cs), .int .i64 0, .int .i64 0, .bool false, o, o, .agg (List.toArray cs), .agg (List.toArray g171), .string (str nm), .agg (List.toArray cs), .agg (List.toArray g179), .int .i64 tm, .agg (List.toArray cs), .agg (List.toArray g187), .string (str cm), .agg (List.toArray cs), .agg (List.toArray g195), .int .i64 it, .agg (List.toArray cs), o, o, o, o, o, o, o, o, o, o, o, o, o, o, o, o, o, o, o, o, o, o, o, o, o, o, o, o, o, o, o, o, o, o, o, o, o, o, o, o, o, o, o, o, o, o, o, o, o], []⟩) hSm (hSi 11 (by decide)) (fun _ _ _ => trivial) rfl (by kernel_rfl) (by kernel_rfl) (by kernel_rfl) (fun _ _ _ h => h) hS199 (Tame.val rfl (fun w' _ => by have h1 := fg195 w'; go_simp)) rfl ?_
      refine wpAnyU_all (rs := [13]) (by kernel_rfl) (by decide) ?_
      intro w201 hm202 i hi
      obtain rfl : i = 13 := by simpa using hi
      have hS206 := hSm #[] _ _ hS199 hm202
      refine wpOp_enter (f := 43) (args := #[.agg (List.toArray cs), .string (str [98])]) rfl rfl (by go_simp; rfl) ((hget [98] w201 hS206.2).mono ?_)
      rintro e wc204 ⟨g203, rfl, hg203, hb205⟩
      have lg203 := VAt.lims hg203
      have fg203 := fldInt hg203
      rw [← hbs.out] at lg203 fg203
      have hS207 := hSm #[] _ _ hS206 hb205
      have hBg208 := (hBg200.below hm202).below hb205
      refine ⟨_, rfl, ?_⟩
      show _ ∧ wpAnyU _ _ _ _ _ _ _ (⟨#[.slice a n c, o, T2, .slice none 0 0, .int .i64 0, .pointer (some ⟨nv, 0, none⟩), .int .i64 0, .pointer (some ⟨ga165, 0, none⟩), o, o, o, T1, .slice a n c, T1, .agg (List.toArray cs), .int .i64 0, .int .i64 0, .bool false, o, o, .agg (List.toArray cs), .agg (List.toArray g171), .string (str nm), .agg (List.toArray cs), .agg (List.toArray g179), .int .i64 tm, .agg (List.toArray cs), .agg (List.toArray g187), .string (str cm), .agg (List.toArray cs), .agg (List.toArray g195), .int .i64 it, .agg (List.toArray cs), .agg (List.toArray g203), o, o, o, o, o, o, o, o, o, o, o, o, o, o, o, o, o, o, o, o, o, o, o, o, o, o, o, o, o, o, o, o, o, o, o, o, o, o, o, o, o, o, o, o, o, o, o, o], []⟩ : Act) _
      refine ⟨hS207, ?_⟩
      refine wpAnyU_take (i := 14) (A := fun _ => True) (v := .int .i64 bs) (a' := ⟨#[.slice a n c, o, T2, .slice none 0 0, .int .i64 0, .pointer (some ⟨nv, 0, none⟩), .int .i64 0, .pointer (some ⟨ga165, 0, none⟩), o, o, o, T1, .slice a n c, T1, .agg (List.toArray cs), .int .i64 0, .int .i64 0, .bool false, o, o, .agg (List.toArray cs), .agg (List.toArray g171), .string (str nm), .agg (List.toArray cs), .agg (List.toArray g179), .int .i64 tm, .agg (List.toArray cs), .agg (List.toArray g187), .string (str cm), .agg (List.toArray cs), .agg (List.toArray g195), .int .i64 it, .agg (List.toArray cs), .agg (List.toArray g203), .int .i64 bs, o, o, o, o, o, o, o, o, o, o, o, o, o, o, o, o, o, o, o, o, o, o, o, o, o, o, o, o, o, o, o, o, o, o, o, o, o, o, o, o, o, o, o, o, o, o, o], []⟩) hSm (hSi 14 (by decide)) (fun _ _ _ => trivial) rfl (by kernel_rfl) (by kernel_rfl) (by kernel_rfl) (fun _ _ _ h => h) hS207 (Tame.val rfl (fun w' _ => by have h1 := fg203 w'; go_simp)) rfl ?_
      refine wpAnyU_take (i := 15) (A := SA26 W2 nv cs) (v := .agg (List.toArray XC)) (a' := ⟨#[.slice a n c, o, T2, .slice none 0 0, .int .i64 0, .pointer (some ⟨nv, 0, none⟩), .int .i64 0, .pointer (some ⟨ga165, 0, none⟩), o, o, o, T1, .slice a n c, T1, .agg (List.toArray cs), .int .i64 0, .int .i64 0, .bool false, o, o, .agg (List.toArray cs), .agg (List.toArray g171), .string (str nm), .agg (List.toArray cs), .agg (List.toArray g179), .int .i64 tm, .agg (List.toArray cs), .agg (List.toArray g187), .string (str cm), .agg (List.toArray cs), .agg (List.toArray g195), .int .i64 it, .agg (List.toArray cs), .agg (List.toArray g203), .int .i64 bs, .agg (List.toArray XC), o, o, o, o, o, o, o, o, o, o, o, o, o, o, o, o, o, o, o, o, o, o, o, o, o, o, o, o, o, o, o, o, o, o, o, o, o, o, o, o, o, o, o, o, o, o], []⟩) hSm (hSi 15 (by decide)) (fun _ _ h => h) rfl (by kernel_rfl) (by kernel_rfl) (by kernel_rfl) (fun _ _ _ h => h) hS207 (Tame.val rfl (fun w' hA => run_bdOp (vals := #[(0, .string (str nm)), (2, .int .i64 tm), (3, .string (str cm)), (4, .int .i64 it), (5, .int .i64 bs)]) (by first | rfl | go_simp | simp [Act.eval]) hbd)) rfl ?_
      refine wpAnyU_all (rs := [17]) (by kernel_rfl) (by decide) ?_
      intro ws209 hm210 i hi
      obtain rfl : i = 17 := by simpa using hi
      have hS211 := hSm #[] _ _ hS207 hm210
      obtain ⟨wf, qs, hBf, hgf2⟩ := stOp_blk (P := Try.prog) (ty := 31) (o := 0) (cs := XC) (hBg208.below hm210) (by rw [hXl]; decide) (by rw [hXl]; exact sizeAB) hXone
      rw [hXdrop] at hBf
      refine wpOp_skip (w' := wf) (a' := ⟨#[.slice a n c, o, T2, .slice none 0 0, .int .i64 0, .pointer (some ⟨nv, 0, none⟩), .int .i64 0, .pointer (some ⟨ga165, 0, none⟩), o, o, o, T1, .slice a n c, T1, .agg (List.toArray cs), .int .i64 0, .int .i64 0, .bool false, o, o, .agg (List.toArray cs), .agg (List.toArray g171), .string (str nm), .agg (List.toArray cs), .agg (List.toArray g179), .int .i64 tm, .agg (List.toArray cs), .agg (List.toArray g187), .string (str cm), .agg (List.toArray cs), .agg (List.toArray g195), .int .i64 it, .agg (List.toArray cs), .agg (List.toArray g203), .int .i64 bs, .agg (List.toArray XC), o, o, o, o, o, o, o, o, o, o, o, o, o, o, o, o, o, o, o, o, o, o, o, o, o, o, o, o, o, o, o, o, o, o, o, o, o, o, o, o, o, o, o, o, o, o], []⟩) rfl rfl (run_stoOp qs) rfl ?_
      have hS9 : (SA26 W2 nv cs wf) := ⟨hS211.1.grown hgf2 (fun e => by cases e; omega), hS211.2.trans ⟨hgf2.os, hgf2.tape, hgf2.output, hgf2.size, fun i hi => hgf2.block i (Nat.lt_of_lt_of_le hi hS211.2.size) (fun e => by cases e; omega)⟩⟩
      refine ⟨hS9, ?_⟩
      refine wpAnyU_done (by kernel_rfl) ?_ _
      intro wz hmz
      have hS10 := hSm #[] _ _ hS9 hmz
      have hBz := hBf.below hmz
      have hlm : AbtOk (arcX v) := by rw [hXd]; exact ⟨rfl, (by assumption : in64 tm ∧ _).1, (by assumption : in64 it ∧ _).1, (by assumption : in64 bs ∧ _).1, (by assumption : _ ∧ nm.length ≤ maxLen).2, (by assumption : _ ∧ cm.length ≤ maxLen).2⟩
      have hfin : ∃ g, Value.pointer (some ⟨ga165, 0, none⟩) = .pointer (some ⟨g, 0, none⟩) ∧ W2.heap.size ≤ g ∧ Blk wz g 31 XC ∧ AbtOk (arcX v) ∧ Below W2.heap.size W2 wz := ⟨ga165, rfl, hBg166w, hBz, hlm, hS10.2⟩
      obtain rfl := ho.out
      obtain rfl := hT2.out
      go_wp2_with fail
      go_meet
      exact hfin
  case rest =>
    obtain ⟨nx, rfl, hnxW, hBX, hXok, hbx⟩ := hcut
    have q0 := ldOp_all (P := Try.prog) (ty := 63) (HB2.out.below hbx) Try.underlying63 rfl (by rw [hcl6]; exact sizeV)
    have hg := hget [105] _ hbx
    have hsmI := getV_sm hSm [105] (fld_norm hnv [105])
    rw [fld_norm hnv [105]] at hsmI
    have hXnm : Hid ((arcX v).name.length ≤ 100000) := by
      show _
      have h1 := getV_sm hSm [110] (fld_norm hnv [110])
      rw [fld_norm hnv [110]] at h1
      have h2 := Sm.text h1
      show (fldV v [110]).text.length ≤ 100000
      omega
    clear hget
    go_wp2_with fail
    refine hg.mono ?_
    rintro e w3 ⟨ds, rfl, hds, hb3⟩
    have d6 : (List.toArray ds).size = 6 := hds.len
    have do_ : OneC (List.toArray ds) := all_oneCell_toArray hds.one
    have hB3 : Blk (w3.alloc (.cells (List.toArray ds) 63)) w3.heap.size 63 ds := Blk.new _ _ _
    have hb3' : Below w3.heap.size w3 (w3.alloc (.cells (List.toArray ds) 63)) := (Below.refl _ _).alloc (Nat.le_refl _) _
    have hd3 := hds.keep hb3'
    obtain ⟨L, hL⟩ : ∃ L, L = (fldV v [105]).list := ⟨_, rfl⟩
    obtain ⟨d0, d1, d2, d3, d4, al, cl, css, hcd, hcs, hal, h6, sub⟩ := VAt.cellsL hd3
    have hLs := Sm.list hsmI
    have hsubS := Sm.sub hsmI
    rw [← hL] at hcs sub hLs hsubS hcd
    have hcdH := Lib.hid hcd
    have hkx := Gr.trans hb3 hb3'
    have hk3 := Gr.trans hbx hkx
    have HR0 := Lib.hid (HR2.out.below hk3)
    have HBV := Lib.hid (HB2.out.below hk3)
    have HBX := Lib.hid (hBX.below hkx)
    have HV3 := Lib.hid (HV2.out.keep hk3)
    have G0 := Lib.hid (HW2.out.trans (hk3.mono HW2.out.size))
    have HLd := Lib.hid hL
    have hXok := Lib.hid hXok
    clear hcd hL hvat hbd hnm htm hcm hit hbs hb1 hb0 hB1 hb1' R0 R1 R2 hbw1 hbw2 hg hgf hXd
    go_upto_region 6 with (fail)
    generalize w3.alloc (.cells (List.toArray ds) 63) = W3 at *
    have HB3 := Lib.hid hB3
    have HAL := Lib.hid hal
    clear hd3 hB3 hb3 hds hal hk3 hkx hb3' do_ d6 xo x6 hbx hBX q0
    generalize w3.heap.size = na at *
    have HL := Lib.hid hLs
    go_wp2
    go_loopw [9, 10] (fun u i wr => ∃ j : Nat, j ≤ L.length ∧ j ≤ 70 ∧ i = .int .i64 j ∧ Hid (wr.ownsRow W3.heap.size 83 33 u j (((L.take j).map fun x => prtC (prtOf x)).flatten)) ∧ Hid (Below W3.heap.size W3 wr)) (fun _ i _ => L.length - (intOf i).toNat)
    case atStart => exact ⟨0, Nat.zero_le _, Nat.zero_le _, rfl, Lib.hid ⟨rfl, .inl ⟨rfl, rfl⟩⟩, Lib.hid (Below.refl _ _)⟩
    case round =>
      obtain ⟨j, hj, hj70, rfl, hO, hbr⟩ := hrel
      have j0 : (0 : Int) ≤ (j : Int) := by omega
      have jb : IntKind.i64.wrap ((j : Int) + 1) = (j : Int) + 1 := IntWalk.i64_in _ (by omega)
      have c5 : wr.cell? ⟨na, 5, none⟩ = some (.slice al L.length cl) := (HB3.out.below hbr.out).cell (by rw [hcdH.out]; rfl)
      by_cases hlt : j < L.length
      case pos =>
       have j1 : (j : Int) < (L.length : Int) := by omega
       by_cases hlt7 : j < 70
       case pos =>
        have j7 : (j : Int) < 70 := by omega
        have hr2 := HAL.out.below hbr.out
        have s6 := hr2.elemSome (s := 6) h6 (by decide) (i := j) (by omega)
        have hxc := sub j css[j] L[j] (by simp [hcs, hlt]) (by simp [hlt])
        have hcj : css[j]? = some css[j] := by simp [hcs, hlt]
        have hT : Hid (((L.take (j + 1)).map fun x => prtC (prtOf x)).flatten = ((L.take j).map fun x => prtC (prtOf x)).flatten ++ prtC (prtOf L[j])) := by
          show _ = _
          rw [List.take_succ_eq_append_getElem hlt, List.map_append, List.flatten_append]; simp
        have hxm : L[j] ∈ L := List.getElem_mem hlt
        have hxs := hsubS _ hxm
        generalize L[j] = x at *
        generalize css[j] = cx at *
        have hOlt := World.ownsRow.lt hO.out
        have hbdP := fun {w' : World} => bd_prt (id := keyV (atV x 0).bytes) (n := (atV x 1).int) (w := w') (keyV_len _)
        obtain ⟨PC, hPCd⟩ : ∃ PC, PC = prtC (prtOf x) := ⟨_, rfl⟩
        have hPCe : prtC ⟨keyV (atV x 0).bytes, (atV x 1).int⟩ = PC := hPCd.symm
        rw [hPCe] at hbdP
        have hPC : (List.toArray PC).size = 33 := by rw [hPCd]; simp [prtC, prtOf, keyV_len]
        clear hr2 hPCe
        go_upto_region 10 with (fail)
        have hSm : ∀ (L : Array Bool) (w1 w2 : World), (Below W3.heap.size W3 w1) → Mo w1 w2 → (Below W3.heap.size W3 w2) := fun _ w1 w2 h hm => h.trans (hm.mono h.size)
        have hSi : ∀ i, i ≠ 99 → ∀ (L : Array Bool) (w1 : World), (Below W3.heap.size W3 w1) ↔ (Below W3.heap.size W3 w1) := fun _ _ _ _ => Iff.rfl
        have hS0 : (Below W3.heap.size W3 (wr.drewN 1)) := Below.drewN hbr.out 1
        refine wp_region_upN (S := fun _ w1 => (Below W3.heap.size W3 w1)) 19 rfl (by kernel_rfl) ?_
        refine wpAnyU_take (i := 0) (A := fun _ => True) (v := u9) (a' := ⟨#[.slice a n c, undef, .pointer (some ⟨w.heap.size, 0, none⟩), .slice none 0 0, .int .i64 0, .pointer (some ⟨nv, 0, none⟩), .int .i64 0, .pointer (some ⟨nx, 0, none⟩), .pointer (some ⟨na, 0, none⟩), u9, .int .i64 (j : Int), u11, u12, u13, u14, u15, u16, u17, u18, u19, u20, u21, u22, u23, u24, u25, u26, u27, u28, u29, u30, u31, u32, u33, u34, u35, .agg (List.toArray cs), .agg (List.toArray ds), .int .i64 (j : Int), .pointer (some ⟨na, 5, none⟩), .slice al L.length cl, .int .i64 (L.length : Int), .bool true, .bool true, .int .i64 (j : Int), .bool true, .bool true, u47, u48, u9, u50, u51, u52, u53, u54, u55, u56, u57, u58, u59, u60, u61, u62, u63, u64, u65, u66, u67, u68, u69, u70, u71, u72, u73, u74, u75, u76, u77, u78, u79, u80, u81], []⟩) hSm (hSi 0 (by decide)) (fun _ _ _ => trivial) rfl (by kernel_rfl) (by kernel_rfl) (by kernel_rfl) (fun _ _ _ h => h) hS0 (Tame.val rfl (fun w' hA => by go_simp)) rfl ?_
        refine wpAnyU_take (i := 1) (A := fun _ => True) (v := .pointer (some ⟨na, 5, none⟩)) (a' := ⟨#[.slice a n c, undef, .pointer (some ⟨w.heap.size, 0, none⟩), .slice none 0 0, .int .i64 0, .pointer (some ⟨nv, 0, none⟩), .int .i64 0, .pointer (some ⟨nx, 0, none⟩), .pointer (some ⟨na, 0, none⟩), u9, .int .i64 (j : Int), u11, u12, u13, u14, u15, u16, u17, u18, u19, u20, u21, u22, u23, u24, u25, u26, u27, u28, u29, u30, u31, u32, u33, u34, u35, .agg (List.toArray cs), .agg (List.toArray ds), .int .i64 (j : Int), .pointer (some ⟨na, 5, none⟩), .slice al L.length cl, .int .i64 (L.length : Int), .bool true, .bool true, .int .i64 (j : Int), .bool true, .bool true, u47, u48, u9, .pointer (some ⟨na, 5, none⟩), u51, u52, u53, u54, u55, u56, u57, u58, u59, u60, u61, u62, u63, u64, u65, u66, u67, u68, u69, u70, u71, u72, u73, u74, u75, u76, u77, u78, u79, u80, u81], []⟩) hSm (hSi 1 (by decide)) (fun _ _ _ => trivial) rfl (by kernel_rfl) (by kernel_rfl) (by kernel_rfl) (fun _ _ _ h => h) hS0 (Tame.val rfl (fun w' hA => by go_simp)) rfl ?_
        refine wpAnyU_take (i := 2) (A := fun w1 => (Below W3.heap.size W3 w1)) (v := .slice al L.length cl) (a' := ⟨#[.slice a n c, undef, .pointer (some ⟨w.heap.size, 0, none⟩), .slice none 0 0, .int .i64 0, .pointer (some ⟨nv, 0, none⟩), .int .i64 0, .pointer (some ⟨nx, 0, none⟩), .pointer (some ⟨na, 0, none⟩), u9, .int .i64 (j : Int), u11, u12, u13, u14, u15, u16, u17, u18, u19, u20, u21, u22, u23, u24, u25, u26, u27, u28, u29, u30, u31, u32, u33, u34, u35, .agg (List.toArray cs), .agg (List.toArray ds), .int .i64 (j : Int), .pointer (some ⟨na, 5, none⟩), .slice al L.length cl, .int .i64 (L.length : Int), .bool true, .bool true, .int .i64 (j : Int), .bool true, .bool true, u47, u48, u9, .pointer (some ⟨na, 5, none⟩), .slice al L.length cl, u52, u53, u54, u55, u56, u57, u58, u59, u60, u61, u62, u63, u64, u65, u66, u67, u68, u69, u70, u71, u72, u73, u74, u75, u76, u77, u78, u79, u80, u81], []⟩) hSm (hSi 2 (by decide)) (fun _ _ h => h) rfl (by kernel_rfl) (by kernel_rfl) (by kernel_rfl) (fun _ _ _ h => h) hS0 (Tame.val rfl (fun w' hA => by have h1 : w'.cell? ⟨na, 5, none⟩ = some (.slice al L.length cl) := (HB3.out.below hA).cell (by rw [hcdH.out]; rfl); go_simp)) rfl ?_
        refine wpAnyU_take (i := 3) (A := fun _ => True) (v := .int .i64 (j : Int)) (a' := ⟨#[.slice a n c, undef, .pointer (some ⟨w.heap.size, 0, none⟩), .slice none 0 0, .int .i64 0, .pointer (some ⟨nv, 0, none⟩), .int .i64 0, .pointer (some ⟨nx, 0, none⟩), .pointer (some ⟨na, 0, none⟩), u9, .int .i64 (j : Int), u11, u12, u13, u14, u15, u16, u17, u18, u19, u20, u21, u22, u23, u24, u25, u26, u27, u28, u29, u30, u31, u32, u33, u34, u35, .agg (List.toArray cs), .agg (List.toArray ds), .int .i64 (j : Int), .pointer (some ⟨na, 5, none⟩), .slice al L.length cl, .int .i64 (L.length : Int), .bool true, .bool true, .int .i64 (j : Int), .bool true, .bool true, u47, u48, u9, .pointer (some ⟨na, 5, none⟩), .slice al L.length cl, .int .i64 (j : Int), u53, u54, u55, u56, u57, u58, u59, u60, u61, u62, u63, u64, u65, u66, u67, u68, u69, u70, u71, u72, u73, u74, u75, u76, u77, u78, u79, u80, u81], []⟩) hSm (hSi 3 (by decide)) (fun _ _ _ => trivial) rfl (by kernel_rfl) (by kernel_rfl) (by kernel_rfl) (fun _ _ _ h => h) hS0 (Tame.val rfl (fun w' hA => by go_simp)) rfl ?_
        refine wpAnyU_take (i := 4) (A := fun _ => True) (v := .pointer (some ((hd al).add (j * 6)))) (a' := ⟨#[.slice a n c, undef, .pointer (some ⟨w.heap.size, 0, none⟩), .slice none 0 0, .int .i64 0, .pointer (some ⟨nv, 0, none⟩), .int .i64 0, .pointer (some ⟨nx, 0, none⟩), .pointer (some ⟨na, 0, none⟩), u9, .int .i64 (j : Int), u11, u12, u13, u14, u15, u16, u17, u18, u19, u20, u21, u22, u23, u24, u25, u26, u27, u28, u29, u30, u31, u32, u33, u34, u35, .agg (List.toArray cs), .agg (List.toArray ds), .int .i64 (j : Int), .pointer (some ⟨na, 5, none⟩), .slice al L.length cl, .int .i64 (L.length : Int), .bool true, .bool true, .int .i64 (j : Int), .bool true, .bool true, u47, u48, u9, .pointer (some ⟨na, 5, none⟩), .slice al L.length cl, .int .i64 (j : Int), .pointer (some ((hd al).add (j * 6))), u54, u55, u56, u57, u58, u59, u60, u61, u62, u63, u64, u65, u66, u67, u68, u69, u70, u71, u72, u73, u74, u75, u76, u77, u78, u79, u80, u81], []⟩) hSm (hSi 4 (by decide)) (fun _ _ _ => trivial) rfl (by kernel_rfl) (by kernel_rfl) (by kernel_rfl) (fun _ _ _ h => h) hS0 (Tame.val rfl (fun w' hA => by go_simp)) rfl ?_
        refine wpAnyU_take (i := 5) (A := fun w1 => (Below W3.heap.size W3 w1)) (v := .agg (List.toArray cx)) (a' := ⟨#[.slice a n c, undef, .pointer (some ⟨w.heap.size, 0, none⟩), .slice none 0 0, .int .i64 0, .pointer (some ⟨nv, 0, none⟩), .int .i64 0, .pointer (some ⟨nx, 0, none⟩), .pointer (some ⟨na, 0, none⟩), u9, .int .i64 (j : Int), u11, u12, u13, u14, u15, u16, u17, u18, u19, u20, u21, u22, u23, u24, u25, u26, u27, u28, u29, u30, u31, u32, u33, u34, u35, .agg (List.toArray cs), .agg (List.toArray ds), .int .i64 (j : Int), .pointer (some ⟨na, 5, none⟩), .slice al L.length cl, .int .i64 (L.length : Int), .bool true, .bool true, .int .i64 (j : Int), .bool true, .bool true, u47, u48, u9, .pointer (some ⟨na, 5, none⟩), .slice al L.length cl, .int .i64 (j : Int), .pointer (some ((hd al).add (j * 6))), .agg (List.toArray cx), u55, u56, u57, u58, u59, u60, u61, u62, u63, u64, u65, u66, u67, u68, u69, u70, u71, u72, u73, u74, u75, u76, u77, u78, u79, u80, u81], []⟩) hSm (hSi 5 (by decide)) (fun _ _ h => h) rfl (by kernel_rfl) (by kernel_rfl) (by kernel_rfl) (fun _ _ _ h => h) hS0 (Tame.val rfl (fun w' hA => run_ldOp (ldOp_at (P := Try.prog) (ty := 63) ((HAL.out.below hA).elem (s := 6) h6 (i := j) (c := cx) hcj) Try.underlying63 rfl (by rw [hxc.len]; exact sizeV)))) rfl ?_
        refine wpAnyU_take (i := 8) (A := fun _ => True) (v := .pointer (some ⟨na, 5, none⟩)) (a' := ⟨#[.slice a n c, undef, .pointer (some ⟨w.heap.size, 0, none⟩), .slice none 0 0, .int .i64 0, .pointer (some ⟨nv, 0, none⟩), .int .i64 0, .pointer (some ⟨nx, 0, none⟩), .pointer (some ⟨na, 0, none⟩), u9, .int .i64 (j : Int), u11, u12, u13, u14, u15, u16, u17, u18, u19, u20, u21, u22, u23, u24, u25, u26, u27, u28, u29, u30, u31, u32, u33, u34, u35, .agg (List.toArray cs), .agg (List.toArray ds), .int .i64 (j : Int), .pointer (some ⟨na, 5, none⟩), .slice al L.length cl, .int .i64 (L.length : Int), .bool true, .bool true, .int .i64 (j : Int), .bool true, .bool true, u47, u48, u9, .pointer (some ⟨na, 5, none⟩), .slice al L.length cl, .int .i64 (j : Int), .pointer (some ((hd al).add (j * 6))), .agg (List.toArray cx), u55, u56, .pointer (some ⟨na, 5, none⟩), u58, u59, u60, u61, u62, u63, u64, u65, u66, u67, u68, u69, u70, u71, u72, u73, u74, u75, u76, u77, u78, u79, u80, u81], []⟩) hSm (hSi 8 (by decide)) (fun _ _ _ => trivial) rfl (by kernel_rfl) (by kernel_rfl) (by kernel_rfl) (fun _ _ _ h => h) hS0 (Tame.val rfl (fun w' hA => by go_simp)) rfl ?_
        refine wpAnyU_take (i := 9) (A := fun w1 => (Below W3.heap.size W3 w1)) (v := .slice al L.length cl) (a' := ⟨#[.slice a n c, undef, .pointer (some ⟨w.heap.size, 0, none⟩), .slice none 0 0, .int .i64 0, .pointer (some ⟨nv, 0, none⟩), .int .i64 0, .pointer (some ⟨nx, 0, none⟩), .pointer (some ⟨na, 0, none⟩), u9, .int .i64 (j : Int), u11, u12, u13, u14, u15, u16, u17, u18, u19, u20, u21, u22, u23, u24, u25, u26, u27, u28, u29, u30, u31, u32, u33, u34, u35, .agg (List.toArray cs), .agg (List.toArray ds), .int .i64 (j : Int), .pointer (some ⟨na, 5, none⟩), .slice al L.length cl, .int .i64 (L.length : Int), .bool true, .bool true, .int .i64 (j : Int), .bool true, .bool true, u47, u48, u9, .pointer (some ⟨na, 5, none⟩), .slice al L.length cl, .int .i64 (j : Int), .pointer (some ((hd al).add (j * 6))), .agg (List.toArray cx), u55, u56, .pointer (some ⟨na, 5, none⟩), .slice al L.length cl, u59, u60, u61, u62, u63, u64, u65, u66, u67, u68, u69, u70, u71, u72, u73, u74, u75, u76, u77, u78, u79, u80, u81], []⟩) hSm (hSi 9 (by decide)) (fun _ _ h => h) rfl (by kernel_rfl) (by kernel_rfl) (by kernel_rfl) (fun _ _ _ h => h) hS0 (Tame.val rfl (fun w' hA => by have h1 : w'.cell? ⟨na, 5, none⟩ = some (.slice al L.length cl) := (HB3.out.below hA).cell (by rw [hcdH.out]; rfl); go_simp)) rfl ?_
        refine wpAnyU_take (i := 10) (A := fun _ => True) (v := .int .i64 (j : Int)) (a' := ⟨#[.slice a n c, undef, .pointer (some ⟨w.heap.size, 0, none⟩), .slice none 0 0, .int .i64 0, .pointer (some ⟨nv, 0, none⟩), .int .i64 0, .pointer (some ⟨nx, 0, none⟩), .pointer (some ⟨na, 0, none⟩), u9, .int .i64 (j : Int), u11, u12, u13, u14, u15, u16, u17, u18, u19, u20, u21, u22, u23, u24, u25, u26, u27, u28, u29, u30, u31, u32, u33, u34, u35, .agg (List.toArray cs), .agg (List.toArray ds), .int .i64 (j : Int), .pointer (some ⟨na, 5, none⟩), .slice al L.length cl, .int .i64 (L.length : Int), .bool true, .bool true, .int .i64 (j : Int), .bool true, .bool true, u47, u48, u9, .pointer (some ⟨na, 5, none⟩), .slice al L.length cl, .int .i64 (j : Int), .pointer (some ((hd al).add (j * 6))), .agg (List.toArray cx), u55, u56, .pointer (some ⟨na, 5, none⟩), .slice al L.length cl, .int .i64 (j : Int), u60, u61, u62, u63, u64, u65, u66, u67, u68, u69, u70, u71, u72, u73, u74, u75, u76, u77, u78, u79, u80, u81], []⟩) hSm (hSi 10 (by decide)) (fun _ _ _ => trivial) rfl (by kernel_rfl) (by kernel_rfl) (by kernel_rfl) (fun _ _ _ h => h) hS0 (Tame.val rfl (fun w' hA => by go_simp)) rfl ?_
        refine wpAnyU_take (i := 11) (A := fun _ => True) (v := .pointer (some ((hd al).add (j * 6)))) (a' := ⟨#[.slice a n c, undef, .pointer (some ⟨w.heap.size, 0, none⟩), .slice none 0 0, .int .i64 0, .pointer (some ⟨nv, 0, none⟩), .int .i64 0, .pointer (some ⟨nx, 0, none⟩), .pointer (some ⟨na, 0, none⟩), u9, .int .i64 (j : Int), u11, u12, u13, u14, u15, u16, u17, u18, u19, u20, u21, u22, u23, u24, u25, u26, u27, u28, u29, u30, u31, u32, u33, u34, u35, .agg (List.toArray cs), .agg (List.toArray ds), .int .i64 (j : Int), .pointer (some ⟨na, 5, none⟩), .slice al L.length cl, .int .i64 (L.length : Int), .bool true, .bool true, .int .i64 (j : Int), .bool true, .bool true, u47, u48, u9, .pointer (some ⟨na, 5, none⟩), .slice al L.length cl, .int .i64 (j : Int), .pointer (some ((hd al).add (j * 6))), .agg (List.toArray cx), u55, u56, .pointer (some ⟨na, 5, none⟩), .slice al L.length cl, .int .i64 (j : Int), .pointer (some ((hd al).add (j * 6))), u61, u62, u63, u64, u65, u66, u67, u68, u69, u70, u71, u72, u73, u74, u75, u76, u77, u78, u79, u80, u81], []⟩) hSm (hSi 11 (by decide)) (fun _ _ _ => trivial) rfl (by kernel_rfl) (by kernel_rfl) (by kernel_rfl) (fun _ _ _ h => h) hS0 (Tame.val rfl (fun w' hA => by go_simp)) rfl ?_
        refine wpAnyU_take (i := 12) (A := fun w1 => (Below W3.heap.size W3 w1)) (v := .agg (List.toArray cx)) (a' := ⟨#[.slice a n c, undef, .pointer (some ⟨w.heap.size, 0, none⟩), .slice none 0 0, .int .i64 0, .pointer (some ⟨nv, 0, none⟩), .int .i64 0, .pointer (some ⟨nx, 0, none⟩), .pointer (some ⟨na, 0, none⟩), u9, .int .i64 (j : Int), u11, u12, u13, u14, u15, u16, u17, u18, u19, u20, u21, u22, u23, u24, u25, u26, u27, u28, u29, u30, u31, u32, u33, u34, u35, .agg (List.toArray cs), .agg (List.toArray ds), .int .i64 (j : Int), .pointer (some ⟨na, 5, none⟩), .slice al L.length cl, .int .i64 (L.length : Int), .bool true, .bool true, .int .i64 (j : Int), .bool true, .bool true, u47, u48, u9, .pointer (some ⟨na, 5, none⟩), .slice al L.length cl, .int .i64 (j : Int), .pointer (some ((hd al).add (j * 6))), .agg (List.toArray cx), u55, u56, .pointer (some ⟨na, 5, none⟩), .slice al L.length cl, .int .i64 (j : Int), .pointer (some ((hd al).add (j * 6))), .agg (List.toArray cx), u62, u63, u64, u65, u66, u67, u68, u69, u70, u71, u72, u73, u74, u75, u76, u77, u78, u79, u80, u81], []⟩) hSm (hSi 12 (by decide)) (fun _ _ h => h) rfl (by kernel_rfl) (by kernel_rfl) (by kernel_rfl) (fun _ _ _ h => h) hS0 (Tame.val rfl (fun w' hA => run_ldOp (ldOp_at (P := Try.prog) (ty := 63) ((HAL.out.below hA).elem (s := 6) h6 (i := j) (c := cx) hcj) Try.underlying63 rfl (by rw [hxc.len]; exact sizeV)))) rfl ?_
        refine wpAnyU_all (rs := [6]) (by kernel_rfl) (by decide) ?_
        intro w6 hm6 i hi
        obtain rfl : i = 6 := by simpa using hi
        have hSw6 := hSm #[] _ _ hS0 hm6
        refine wpOp_enter (f := 44) (args := #[.agg (List.toArray cx), .int .i64 0]) rfl rfl (by go_simp) ((at_any 0 hxc w6 hSw6 (by decide)).mono ?_)
        rintro e w7 ⟨g0, rfl, hg0, hbw7⟩
        have hSw7 := hSm #[] _ _ hSw6 hbw7
        refine ⟨_, rfl, ?_⟩
        show _ ∧ wpAnyU _ _ _ _ _ _ _ (⟨#[.slice a n c, undef, .pointer (some ⟨w.heap.size, 0, none⟩), .slice none 0 0, .int .i64 0, .pointer (some ⟨nv, 0, none⟩), .int .i64 0, .pointer (some ⟨nx, 0, none⟩), .pointer (some ⟨na, 0, none⟩), u9, .int .i64 (j : Int), u11, u12, u13, u14, u15, u16, u17, u18, u19, u20, u21, u22, u23, u24, u25, u26, u27, u28, u29, u30, u31, u32, u33, u34, u35, .agg (List.toArray cs), .agg (List.toArray ds), .int .i64 (j : Int), .pointer (some ⟨na, 5, none⟩), .slice al L.length cl, .int .i64 (L.length : Int), .bool true, .bool true, .int .i64 (j : Int), .bool true, .bool true, u47, u48, u9, .pointer (some ⟨na, 5, none⟩), .slice al L.length cl, .int .i64 (j : Int), .pointer (some ((hd al).add (j * 6))), .agg (List.toArray cx), .agg (List.toArray g0), u56, .pointer (some ⟨na, 5, none⟩), .slice al L.length cl, .int .i64 (j : Int), .pointer (some ((hd al).add (j * 6))), .agg (List.toArray cx), u62, u63, u64, u65, u66, u67, u68, u69, u70, u71, u72, u73, u74, u75, u76, u77, u78, u79, u80, u81], []⟩ : Act) _
        refine ⟨hSw7, ?_⟩
        refine wpAnyU_all (rs := [7]) (by kernel_rfl) (by decide) ?_
        intro wa hma i hi
        obtain rfl : i = 7 := by simpa using hi
        have hSwa := hSm #[] _ _ hSw7 hma
        refine wpOp_enter (f := 45) (args := #[.agg (List.toArray g0)]) rfl rfl (by go_simp) ((key_any hg0 wa hma (atV_sm hxs 0)).mono ?_)
        rintro e wb ⟨rfl, hbwb⟩
        have hSwb := hSm #[] _ _ hSwa hbwb
        refine ⟨_, rfl, ?_⟩
        show _ ∧ wpAnyU _ _ _ _ _ _ _ (⟨#[.slice a n c, undef, .pointer (some ⟨w.heap.size, 0, none⟩), .slice none 0 0, .int .i64 0, .pointer (some ⟨nv, 0, none⟩), .int .i64 0, .pointer (some ⟨nx, 0, none⟩), .pointer (some ⟨na, 0, none⟩), u9, .int .i64 (j : Int), u11, u12, u13, u14, u15, u16, u17, u18, u19, u20, u21, u22, u23, u24, u25, u26, u27, u28, u29, u30, u31, u32, u33, u34, u35, .agg (List.toArray cs), .agg (List.toArray ds), .int .i64 (j : Int), .pointer (some ⟨na, 5, none⟩), .slice al L.length cl, .int .i64 (L.length : Int), .bool true, .bool true, .int .i64 (j : Int), .bool true, .bool true, u47, u48, u9, .pointer (some ⟨na, 5, none⟩), .slice al L.length cl, .int .i64 (j : Int), .pointer (some ((hd al).add (j * 6))), .agg (List.toArray cx), .agg (List.toArray g0), .agg (List.toArray ((keyV (atV x 0).bytes).map b8)), .pointer (some ⟨na, 5, none⟩), .slice al L.length cl, .int .i64 (j : Int), .pointer (some ((hd al).add (j * 6))), .agg (List.toArray cx), u62, u63, u64, u65, u66, u67, u68, u69, u70, u71, u72, u73, u74, u75, u76, u77, u78, u79, u80, u81], []⟩ : Act) _
        refine ⟨hSwb, ?_⟩
        refine wpAnyU_all (rs := [13]) (by kernel_rfl) (by decide) ?_
        intro wc1 hmc i hi
        obtain rfl : i = 13 := by simpa using hi
        have hSwc1 := hSm #[] _ _ hSwb hmc
        refine wpOp_enter (f := 44) (args := #[.agg (List.toArray cx), .int .i64 1]) rfl rfl (by go_simp) ((at_any 1 hxc wc1 hSwc1 (by decide)).mono ?_)
        rintro e wd ⟨g1, rfl, hg1, hbwd⟩
        obtain ⟨g1_1, g1_2, g1_3, g1_4, rfl, _⟩ := VAt.all hg1
        have hSwd := hSm #[] _ _ hSwc1 hbwd
        refine ⟨_, rfl, ?_⟩
        show _ ∧ wpAnyU _ _ _ _ _ _ _ (⟨#[.slice a n c, undef, .pointer (some ⟨w.heap.size, 0, none⟩), .slice none 0 0, .int .i64 0, .pointer (some ⟨nv, 0, none⟩), .int .i64 0, .pointer (some ⟨nx, 0, none⟩), .pointer (some ⟨na, 0, none⟩), u9, .int .i64 (j : Int), u11, u12, u13, u14, u15, u16, u17, u18, u19, u20, u21, u22, u23, u24, u25, u26, u27, u28, u29, u30, u31, u32, u33, u34, u35, .agg (List.toArray cs), .agg (List.toArray ds), .int .i64 (j : Int), .pointer (some ⟨na, 5, none⟩), .slice al L.length cl, .int .i64 (L.length : Int), .bool true, .bool true, .int .i64 (j : Int), .bool true, .bool true, u47, u48, u9, .pointer (some ⟨na, 5, none⟩), .slice al L.length cl, .int .i64 (j : Int), .pointer (some ((hd al).add (j * 6))), .agg (List.toArray cx), .agg (List.toArray g0), .agg (List.toArray ((keyV (atV x 0).bytes).map b8)), .pointer (some ⟨na, 5, none⟩), .slice al L.length cl, .int .i64 (j : Int), .pointer (some ((hd al).add (j * 6))), .agg (List.toArray cx), .agg #[.int .i64 (atV x 1).kind, .int .i64 (atV x 1).int, .slice g1_1 (atV x 1).bytes.length g1_2, .string (str (atV x 1).text), g1_3, g1_4], u63, u64, u65, u66, u67, u68, u69, u70, u71, u72, u73, u74, u75, u76, u77, u78, u79, u80, u81], []⟩ : Act) _
        refine ⟨hSwd, ?_⟩
        refine wpAnyU_take (i := 14) (A := fun _ => True) (v := .int .i64 (atV x 1).int) (a' := ⟨#[.slice a n c, undef, .pointer (some ⟨w.heap.size, 0, none⟩), .slice none 0 0, .int .i64 0, .pointer (some ⟨nv, 0, none⟩), .int .i64 0, .pointer (some ⟨nx, 0, none⟩), .pointer (some ⟨na, 0, none⟩), u9, .int .i64 (j : Int), u11, u12, u13, u14, u15, u16, u17, u18, u19, u20, u21, u22, u23, u24, u25, u26, u27, u28, u29, u30, u31, u32, u33, u34, u35, .agg (List.toArray cs), .agg (List.toArray ds), .int .i64 (j : Int), .pointer (some ⟨na, 5, none⟩), .slice al L.length cl, .int .i64 (L.length : Int), .bool true, .bool true, .int .i64 (j : Int), .bool true, .bool true, u47, u48, u9, .pointer (some ⟨na, 5, none⟩), .slice al L.length cl, .int .i64 (j : Int), .pointer (some ((hd al).add (j * 6))), .agg (List.toArray cx), .agg (List.toArray g0), .agg (List.toArray ((keyV (atV x 0).bytes).map b8)), .pointer (some ⟨na, 5, none⟩), .slice al L.length cl, .int .i64 (j : Int), .pointer (some ((hd al).add (j * 6))), .agg (List.toArray cx), .agg #[.int .i64 (atV x 1).kind, .int .i64 (atV x 1).int, .slice g1_1 (atV x 1).bytes.length g1_2, .string (str (atV x 1).text), g1_3, g1_4], .int .i64 (atV x 1).int, u64, u65, u66, u67, u68, u69, u70, u71, u72, u73, u74, u75, u76, u77, u78, u79, u80, u81], []⟩) hSm (hSi 14 (by decide)) (fun _ _ _ => trivial) rfl (by kernel_rfl) (by kernel_rfl) (by kernel_rfl) (fun _ _ _ h => h) hSwd (Tame.val rfl (fun w' hA => by go_simp)) rfl ?_
        refine wpAnyU_take (i := 15) (A := fun w1 => (Below W3.heap.size W3 w1)) (v := .agg (List.toArray PC)) (a' := ⟨#[.slice a n c, undef, .pointer (some ⟨w.heap.size, 0, none⟩), .slice none 0 0, .int .i64 0, .pointer (some ⟨nv, 0, none⟩), .int .i64 0, .pointer (some ⟨nx, 0, none⟩), .pointer (some ⟨na, 0, none⟩), u9, .int .i64 (j : Int), u11, u12, u13, u14, u15, u16, u17, u18, u19, u20, u21, u22, u23, u24, u25, u26, u27, u28, u29, u30, u31, u32, u33, u34, u35, .agg (List.toArray cs), .agg (List.toArray ds), .int .i64 (j : Int), .pointer (some ⟨na, 5, none⟩), .slice al L.length cl, .int .i64 (L.length : Int), .bool true, .bool true, .int .i64 (j : Int), .bool true, .bool true, u47, u48, u9, .pointer (some ⟨na, 5, none⟩), .slice al L.length cl, .int .i64 (j : Int), .pointer (some ((hd al).add (j * 6))), .agg (List.toArray cx), .agg (List.toArray g0), .agg (List.toArray ((keyV (atV x 0).bytes).map b8)), .pointer (some ⟨na, 5, none⟩), .slice al L.length cl, .int .i64 (j : Int), .pointer (some ((hd al).add (j * 6))), .agg (List.toArray cx), .agg #[.int .i64 (atV x 1).kind, .int .i64 (atV x 1).int, .slice g1_1 (atV x 1).bytes.length g1_2, .string (str (atV x 1).text), g1_3, g1_4], .int .i64 (atV x 1).int, .agg (List.toArray PC), u65, u66, u67, u68, u69, u70, u71, u72, u73, u74, u75, u76, u77, u78, u79, u80, u81], []⟩) hSm (hSi 15 (by decide)) (fun _ _ h => h) rfl (by kernel_rfl) (by kernel_rfl) (by kernel_rfl) (fun _ _ _ h => h) hSwd (Tame.val rfl (fun w' hA => run_bdOp (vals := #[(0, .agg (List.toArray ((keyV (atV x 0).bytes).map b8))), (1, .int .i64 (atV x 1).int)]) (by first | rfl | go_simp | simp [Act.eval]) hbdP)) rfl ?_
        refine wpAnyU_all (rs := [16]) (by kernel_rfl) (by decide) ?_
        intro we hme i hi
        obtain rfl : i = 16 := by simpa using hi
        refine wpOp_val (v := .slice (some ⟨we.heap.size, 0, none⟩) 1 1) (w' := we.alloc (.cells (List.toArray PC) 83)) (a' := ⟨#[.slice a n c, undef, .pointer (some ⟨w.heap.size, 0, none⟩), .slice none 0 0, .int .i64 0, .pointer (some ⟨nv, 0, none⟩), .int .i64 0, .pointer (some ⟨nx, 0, none⟩), .pointer (some ⟨na, 0, none⟩), u9, .int .i64 (j : Int), u11, u12, u13, u14, u15, u16, u17, u18, u19, u20, u21, u22, u23, u24, u25, u26, u27, u28, u29, u30, u31, u32, u33, u34, u35, .agg (List.toArray cs), .agg (List.toArray ds), .int .i64 (j : Int), .pointer (some ⟨na, 5, none⟩), .slice al L.length cl, .int .i64 (L.length : Int), .bool true, .bool true, .int .i64 (j : Int), .bool true, .bool true, u47, u48, u9, .pointer (some ⟨na, 5, none⟩), .slice al L.length cl, .int .i64 (j : Int), .pointer (some ((hd al).add (j * 6))), .agg (List.toArray cx), .agg (List.toArray g0), .agg (List.toArray ((keyV (atV x 0).bytes).map b8)), .pointer (some ⟨na, 5, none⟩), .slice al L.length cl, .int .i64 (j : Int), .pointer (some ((hd al).add (j * 6))), .agg (List.toArray cx), .agg #[.int .i64 (atV x 1).kind, .int .i64 (atV x 1).int, .slice g1_1 (atV x 1).bytes.length g1_2, .string (str (atV x 1).text), g1_3, g1_4], .int .i64 (atV x 1).int, .agg (List.toArray PC), .slice (some ⟨we.heap.size, 0, none⟩) 1 1, u66, u67, u68, u69, u70, u71, u72, u73, u74, u75, u76, u77, u78, u79, u80, u81], []⟩) rfl rfl (run_bsOp (vals := #[(0, .agg (List.toArray PC))]) (by first | rfl | go_simp | simp [Act.eval]) (r_bsPA hPC)) rfl ?_
        have hSwe := hSm #[] _ _ hSwd hme
        have hmf : Mo we (we.alloc (.cells (List.toArray PC) 83)) := (Below.refl _ _).alloc (Nat.le_refl _) _
        have hSwf := hSm #[] _ _ hSwe hmf
        refine ⟨hSwf, ?_⟩
        have hB8 : Blk (we.alloc (.cells (List.toArray PC) 83)) we.heap.size 83 PC := by simpa using Blk.new we 83 (List.toArray PC)
        have hM : Mo (wr.drewN 1) (we.alloc (.cells (List.toArray PC) 83)) := Mo.trans (Mo.trans (Mo.trans (Mo.trans (Mo.trans (Mo.trans (Mo.trans hm6 hbw7) hma) hbwb) hmc) hbwd) hme) hmf
        generalize we.alloc (.cells (List.toArray PC) 83) = wf at *
        generalize we.heap.size = g at *
        refine wpAnyU_all (rs := [17]) (by kernel_rfl) (by decide) ?_
        intro wg hmg i hi
        obtain rfl : i = 17 := by simpa using hi
        have hSwg := hSm #[] _ _ hSwf hmg
        have hO9 := ownsRow_below hO.out (Below.drewN' (Mo.trans hM hmg))
        have hsrc : Src Try.prog 33 32 (.slice (some ⟨g, 0, none⟩) 1 1) 1 PC wg := Src.ofRow ePA.ht _ 1 1 PC (by decide) (by simpa using hPC) (hB8.below hmg).row (by rw [hPCd]; exact prtC_one _)
        obtain ⟨v', w10, hrun, hO10, hG10, hK10⟩ := append_srcK (ty := 32) ePA hO9 hsrc (by have := HL.out; unfold maxLen; omega) (by have := HL.out; omega) hSwg.size
        obtain ⟨a', c', rfl, _⟩ := owns_rowN hO10 (by decide)
        refine wpOp_val (v := .slice a' (j + 1) c') (w' := w10) (a' := ⟨#[.slice a n c, undef, .pointer (some ⟨w.heap.size, 0, none⟩), .slice none 0 0, .int .i64 0, .pointer (some ⟨nv, 0, none⟩), .int .i64 0, .pointer (some ⟨nx, 0, none⟩), .pointer (some ⟨na, 0, none⟩), u9, .int .i64 (j : Int), u11, u12, u13, u14, u15, u16, u17, u18, u19, u20, u21, u22, u23, u24, u25, u26, u27, u28, u29, u30, u31, u32, u33, u34, u35, .agg (List.toArray cs), .agg (List.toArray ds), .int .i64 (j : Int), .pointer (some ⟨na, 5, none⟩), .slice al L.length cl, .int .i64 (L.length : Int), .bool true, .bool true, .int .i64 (j : Int), .bool true, .bool true, u47, u48, u9, .pointer (some ⟨na, 5, none⟩), .slice al L.length cl, .int .i64 (j : Int), .pointer (some ((hd al).add (j * 6))), .agg (List.toArray cx), .agg (List.toArray g0), .agg (List.toArray ((keyV (atV x 0).bytes).map b8)), .pointer (some ⟨na, 5, none⟩), .slice al L.length cl, .int .i64 (j : Int), .pointer (some ((hd al).add (j * 6))), .agg (List.toArray cx), .agg #[.int .i64 (atV x 1).kind, .int .i64 (atV x 1).int, .slice g1_1 (atV x 1).bytes.length g1_2, .string (str (atV x 1).text), g1_3, g1_4], .int .i64 (atV x 1).int, .agg (List.toArray PC), .slice (some ⟨g, 0, none⟩) 1 1, .slice a' (j + 1) c', u67, u68, u69, u70, u71, u72, u73, u74, u75, u76, u77, u78, u79, u80, u81], []⟩) rfl rfl (run_append hrun rfl rfl rfl) rfl ?_
        have hG : Gro wg w10 u9 (.slice a' (j + 1) c') := ⟨hG10, hK10⟩
        have hb310 := hSwg.trans (hG.below (base := W3.heap.size) (fun k hk => (hOlt k hk).1) (Nat.le_refl _) hSwg.size)
        refine ⟨hb310, ?_⟩
        refine wpAnyU_take (i := 18) (A := fun _ => True) (v := .slice a' (j + 1) c') (a' := ⟨#[.slice a n c, undef, .pointer (some ⟨w.heap.size, 0, none⟩), .slice none 0 0, .int .i64 0, .pointer (some ⟨nv, 0, none⟩), .int .i64 0, .pointer (some ⟨nx, 0, none⟩), .pointer (some ⟨na, 0, none⟩), .slice a' (j + 1) c', .int .i64 (j : Int), u11, u12, u13, u14, u15, u16, u17, u18, u19, u20, u21, u22, u23, u24, u25, u26, u27, u28, u29, u30, u31, u32, u33, u34, u35, .agg (List.toArray cs), .agg (List.toArray ds), .int .i64 (j : Int), .pointer (some ⟨na, 5, none⟩), .slice al L.length cl, .int .i64 (L.length : Int), .bool true, .bool true, .int .i64 (j : Int), .bool true, .bool true, u47, u48, u9, .pointer (some ⟨na, 5, none⟩), .slice al L.length cl, .int .i64 (j : Int), .pointer (some ((hd al).add (j * 6))), .agg (List.toArray cx), .agg (List.toArray g0), .agg (List.toArray ((keyV (atV x 0).bytes).map b8)), .pointer (some ⟨na, 5, none⟩), .slice al L.length cl, .int .i64 (j : Int), .pointer (some ((hd al).add (j * 6))), .agg (List.toArray cx), .agg #[.int .i64 (atV x 1).kind, .int .i64 (atV x 1).int, .slice g1_1 (atV x 1).bytes.length g1_2, .string (str (atV x 1).text), g1_3, g1_4], .int .i64 (atV x 1).int, .agg (List.toArray PC), .slice (some ⟨g, 0, none⟩) 1 1, .slice a' (j + 1) c', u67, u68, u69, u70, u71, u72, u73, u74, u75, u76, u77, u78, u79, u80, u81], []⟩) hSm (hSi 18 (by decide)) (fun _ _ _ => trivial) rfl (by kernel_rfl) (by kernel_rfl) (by kernel_rfl) (fun _ _ _ h => h) hb310 (Tame.val rfl (fun w' hA => by go_simp)) rfl ?_
        refine wpAnyU_done (by kernel_rfl) ?_ _
        intro w12 hm12
        have hb312 := Lib.hid (hb310.trans (hm12.mono hb310.size))
        have hO12 : Hid (w12.ownsRow W3.heap.size 83 33 (.slice a' (j + 1) c') (j + 1) (((L.take (j + 1)).map fun x => prtC (prtOf x)).flatten)) := by
          show _
          rw [hT.out, ← hPCd]
          exact ownsRow_below hO10 hm12
        clear hm12 hb310 hG hG10 hK10 hO10 hrun hsrc hO9 hS0 hSm hSi hSwg hSwf hSwe hSwd hSwb hSwa hSw7 hSw6 hSwc1 hM hB8
        go_wp2
        first
          | exact ⟨⟨j + 1, by omega, by omega, (by first | rfl | go_num | (congr 1; omega)), hO12, hb312⟩, by simp [intOf] <;> omega⟩
          | (refine ⟨?_, by simp [intOf] <;> omega⟩; (repeat apply Exists.intro); exact ⟨⟨j + 1, by omega, by omega, (by first | rfl | go_num | (congr 1; omega)), hO12, hb312⟩, rfl⟩)
       case neg =>
        have j7 : ¬ (j : Int) < 70 := by omega
        obtain ⟨ao, co, rfl, _, _, hrow, hfar⟩ := owns_rowN hO.out (by decide)
        obtain ⟨OUT, hOUT⟩ : ∃ OUT, OUT = (L.take j).map prtOf := ⟨_, rfl⟩
        have hrowO : Row wr ao (OUT.map prtC).flatten := by rw [hOUT, List.map_map]; exact hrow
        have hlenO : j = OUT.length := by rw [hOUT, List.length_map, List.length_take]; omega
        have hfr : Hid (0 < (OUT.map prtC).flatten.length → w.heap.size < (hd ao).block) := by
          show _ → _
          intro h
          rw [hOUT, List.map_map] at h
          have h1 := (hfar h).2.1
          have h2 := HR0.out.lt
          omega
        have hokO : ∀ x ∈ OUT, PrtOk x := by
          rw [hOUT]
          intro y hy
          obtain ⟨x, hx, rfl⟩ := List.mem_map.1 hy
          obtain ⟨i, hi, rfl⟩ := List.mem_iff_getElem.1 (List.mem_of_mem_take hx)
          exact prtOf_ok (sub i css[i] L[i] (by simp [hcs, hi]) (by simp [hi]))
        have hout : Hid (arcL v = OUT) := by
          show _ = _
          rw [hOUT, HLd.out]; obtain rfl : j = 70 := by omega
          rfl
        have hok : Hid (arcOk v = (decide (checkA (arcX v) OUT = 0) && sameV (archV (arcX v) OUT) v)) := by show _ = _; unfold arcOk; rw [hout.out]
        have hck := fun w' (hb : Below wr.heap.size wr w') => rCheckArchive_any (a := ao) (c := co) hlenO (hrowO.below hb) hokO hXok.out hXnm.out (by omega)
        rw [← hXCh.out] at hck
        have hB := HBV.out.below hbr.out
        have hBX := HBX.out.below hbr.out
        have hVr := HV3.out.keep hbr.out
        have hRr := HR0.out.below hbr.out
        have hGr := G0.out.trans (hbr.out.mono G0.out.size)
        have hq := fun w' (hb : Below wr.heap.size wr w') => ldOp_all (P := Try.prog) (ty := 63) (hB.below hb) Try.underlying63 rfl (by rw [hVr.len]; exact sizeV)
        have hqx := fun w' (hb : Below wr.heap.size wr w') => ldOp_all (P := Try.prog) (ty := 31) (hBX.below hb) Try.underlying31 rfl (by rw [hXl]; exact sizeAB)
        have hcur : Below wr.heap.size wr wr.drew := Gr.drewN wr 1
        have s1 := hq _ hcur
        have s2 := hqx _ hcur
        have HROW := Lib.hid hrowO
        have h70 : OUT.length ≤ 70 := by omega
        clear hO hrow hOUT hfar
        by_cases hc0 : checkA (arcX v) OUT = 0
        case neg =>
          have hRR : Hid (arcR l = (abt0, [], 4)) := by show _ = _; rw [hR.out, hok.out, decide_eq_false hc0]; rfl
          have t1 : (checkA (arcX v) OUT != 0) = true := by simpa using hc0
          generalize checkA (arcX v) OUT = C at *
          clear hrowO hlenO hokO hok hout hB hVr hcur s1 s2 hq hqx
          go_upto_region 11 with (fail)
          have hSm : ∀ (L : Array Bool) (w1 w2 : World), (Blk w1 nx 31 XC ∧ Mo (wr.drewN 1) w1) → Mo w1 w2 → (Blk w2 nx 31 XC ∧ Mo (wr.drewN 1) w2) := fun _ w1 w2 h hm => ⟨h.1.below hm, Mo.trans h.2 hm⟩
          have hSi : ∀ i, i ≠ 99 → ∀ (L : Array Bool) (w1 : World), (Blk w1 nx 31 XC ∧ Mo (wr.drewN 1) w1) ↔ (Blk w1 nx 31 XC ∧ Mo (wr.drewN 1) w1) := fun _ _ _ _ => Iff.rfl
          have hS0 : (Blk (wr.drewN 1) nx 31 XC ∧ Mo (wr.drewN 1) (wr.drewN 1)) := ⟨hBX, Mo.refl (wr.drewN 1)⟩
          refine wp_region_upN (S := fun _ w1 => (Blk w1 nx 31 XC ∧ Mo (wr.drewN 1) w1)) 12 rfl (by kernel_rfl) ?_
          refine wpAnyU_take (i := 0) (A := fun w1 => (Blk w1 nx 31 XC ∧ Mo (wr.drewN 1) w1)) (v := .agg (List.toArray XC)) (a' := ⟨#[.slice a n c, undef, .pointer (some ⟨w.heap.size, 0, none⟩), .slice none 0 0, .int .i64 0, .pointer (some ⟨nv, 0, none⟩), .int .i64 0, .pointer (some ⟨nx, 0, none⟩), .pointer (some ⟨na, 0, none⟩), .slice ao j co, .int .i64 (j : Int), u11, u12, u13, u14, u15, u16, u17, u18, u19, u20, u21, u22, u23, u24, u25, u26, u27, u28, u29, u30, u31, u32, u33, u34, u35, .agg (List.toArray cs), .agg (List.toArray ds), .int .i64 (j : Int), .pointer (some ⟨na, 5, none⟩), .slice al L.length cl, .int .i64 (L.length : Int), .bool true, .bool true, .int .i64 (j : Int), .bool false, .bool false, u47, u48, u49, u50, u51, u52, u53, u54, u55, u56, u57, u58, u59, u60, u61, u62, u63, u64, u65, u66, .agg (List.toArray XC), u68, u69, u70, u71, u72, u73, u74, u75, u76, u77, u78, u79, u80, u81], []⟩) hSm (hSi 0 (by decide)) (fun _ _ h => h) rfl (by kernel_rfl) (by kernel_rfl) (by kernel_rfl) (fun _ _ _ h => h) hS0 (Tame.val rfl (fun w' hA => run_ldOp (ldOp_all hA.1 Try.underlying31 rfl (by rw [hXl]; exact sizeAB)))) rfl ?_
          refine wpAnyU_take (i := 1) (A := fun _ => True) (v := .slice ao j co) (a' := ⟨#[.slice a n c, undef, .pointer (some ⟨w.heap.size, 0, none⟩), .slice none 0 0, .int .i64 0, .pointer (some ⟨nv, 0, none⟩), .int .i64 0, .pointer (some ⟨nx, 0, none⟩), .pointer (some ⟨na, 0, none⟩), .slice ao j co, .int .i64 (j : Int), u11, u12, u13, u14, u15, u16, u17, u18, u19, u20, u21, u22, u23, u24, u25, u26, u27, u28, u29, u30, u31, u32, u33, u34, u35, .agg (List.toArray cs), .agg (List.toArray ds), .int .i64 (j : Int), .pointer (some ⟨na, 5, none⟩), .slice al L.length cl, .int .i64 (L.length : Int), .bool true, .bool true, .int .i64 (j : Int), .bool false, .bool false, u47, u48, u49, u50, u51, u52, u53, u54, u55, u56, u57, u58, u59, u60, u61, u62, u63, u64, u65, u66, .agg (List.toArray XC), .slice ao j co, u69, u70, u71, u72, u73, u74, u75, u76, u77, u78, u79, u80, u81], []⟩) hSm (hSi 1 (by decide)) (fun _ _ _ => trivial) rfl (by kernel_rfl) (by kernel_rfl) (by kernel_rfl) (fun _ _ _ h => h) hS0 (Tame.val rfl (fun w' hA => by go_simp)) rfl ?_
          refine wpAnyU_take (i := 2) (A := fun w1 => (Blk w1 nx 31 XC ∧ Mo (wr.drewN 1) w1)) (v := .int .i64 C) (a' := ⟨#[.slice a n c, undef, .pointer (some ⟨w.heap.size, 0, none⟩), .slice none 0 0, .int .i64 0, .pointer (some ⟨nv, 0, none⟩), .int .i64 0, .pointer (some ⟨nx, 0, none⟩), .pointer (some ⟨na, 0, none⟩), .slice ao j co, .int .i64 (j : Int), u11, u12, u13, u14, u15, u16, u17, u18, u19, u20, u21, u22, u23, u24, u25, u26, u27, u28, u29, u30, u31, u32, u33, u34, u35, .agg (List.toArray cs), .agg (List.toArray ds), .int .i64 (j : Int), .pointer (some ⟨na, 5, none⟩), .slice al L.length cl, .int .i64 (L.length : Int), .bool true, .bool true, .int .i64 (j : Int), .bool false, .bool false, u47, u48, u49, u50, u51, u52, u53, u54, u55, u56, u57, u58, u59, u60, u61, u62, u63, u64, u65, u66, .agg (List.toArray XC), .slice ao j co, .int .i64 C, u70, u71, u72, u73, u74, u75, u76, u77, u78, u79, u80, u81], []⟩) hSm (hSi 2 (by decide)) (fun _ _ h => h) rfl (by kernel_rfl) (by kernel_rfl) (by kernel_rfl) (fun _ _ _ h => h) hS0 (Tame.enter rfl (fun w' => by go_simp) (fun w' hA => hck w' (Below.drewN' hA.2))) rfl ?_
          refine wpAnyU_take (i := 3) (A := fun _ => True) (v := .bool true) (a' := ⟨#[.slice a n c, undef, .pointer (some ⟨w.heap.size, 0, none⟩), .slice none 0 0, .int .i64 0, .pointer (some ⟨nv, 0, none⟩), .int .i64 0, .pointer (some ⟨nx, 0, none⟩), .pointer (some ⟨na, 0, none⟩), .slice ao j co, .int .i64 (j : Int), u11, u12, u13, u14, u15, u16, u17, u18, u19, u20, u21, u22, u23, u24, u25, u26, u27, u28, u29, u30, u31, u32, u33, u34, u35, .agg (List.toArray cs), .agg (List.toArray ds), .int .i64 (j : Int), .pointer (some ⟨na, 5, none⟩), .slice al L.length cl, .int .i64 (L.length : Int), .bool true, .bool true, .int .i64 (j : Int), .bool false, .bool false, u47, u48, u49, u50, u51, u52, u53, u54, u55, u56, u57, u58, u59, u60, u61, u62, u63, u64, u65, u66, .agg (List.toArray XC), .slice ao j co, .int .i64 C, .bool true, u71, u72, u73, u74, u75, u76, u77, u78, u79, u80, u81], []⟩) hSm (hSi 3 (by decide)) (fun _ _ _ => trivial) rfl (by kernel_rfl) (by kernel_rfl) (by kernel_rfl) (fun _ _ _ h => h) hS0 (Tame.val rfl (fun w' hA => by go_simp)) rfl ?_
          refine wpAnyU_take (i := 4) (A := fun _ => True) (v := .bool true) (a' := ⟨#[.slice a n c, undef, .pointer (some ⟨w.heap.size, 0, none⟩), .slice none 0 0, .int .i64 0, .pointer (some ⟨nv, 0, none⟩), .int .i64 0, .pointer (some ⟨nx, 0, none⟩), .pointer (some ⟨na, 0, none⟩), .slice ao j co, .int .i64 (j : Int), u11, u12, u13, u14, u15, u16, u17, u18, u19, u20, u21, u22, u23, u24, u25, u26, u27, u28, u29, u30, u31, u32, u33, u34, u35, .agg (List.toArray cs), .agg (List.toArray ds), .int .i64 (j : Int), .pointer (some ⟨na, 5, none⟩), .slice al L.length cl, .int .i64 (L.length : Int), .bool true, .bool true, .int .i64 (j : Int), .bool false, .bool false, u47, u48, u49, u50, u51, u52, u53, u54, u55, u56, u57, u58, u59, u60, u61, u62, u63, u64, u65, u66, .agg (List.toArray XC), .slice ao j co, .int .i64 C, .bool true, .bool true, u72, u73, u74, u75, u76, u77, u78, u79, u80, u81], []⟩) hSm (hSi 4 (by decide)) (fun _ _ _ => trivial) rfl (by kernel_rfl) (by kernel_rfl) (by kernel_rfl) (fun _ _ _ h => h) hS0 (Tame.val rfl (fun w' hA => by go_simp)) rfl ?_
          refine wpAnyU_take (i := 5) (A := fun _ => True) (v := undef) (a' := ⟨#[.slice a n c, undef, .pointer (some ⟨w.heap.size, 0, none⟩), .slice none 0 0, .int .i64 0, .pointer (some ⟨nv, 0, none⟩), .int .i64 0, .pointer (some ⟨nx, 0, none⟩), .pointer (some ⟨na, 0, none⟩), .slice ao j co, .int .i64 (j : Int), u11, u12, u13, u14, u15, u16, u17, u18, u19, u20, u21, u22, u23, u24, u25, u26, u27, u28, u29, u30, u31, u32, u33, u34, u35, .agg (List.toArray cs), .agg (List.toArray ds), .int .i64 (j : Int), .pointer (some ⟨na, 5, none⟩), .slice al L.length cl, .int .i64 (L.length : Int), .bool true, .bool true, .int .i64 (j : Int), .bool false, .bool false, u47, u48, u49, u50, u51, u52, u53, u54, u55, u56, u57, u58, u59, u60, u61, u62, u63, u64, u65, u66, .agg (List.toArray XC), .slice ao j co, .int .i64 C, .bool true, .bool true, undef, u73, u74, u75, u76, u77, u78, u79, u80, u81], []⟩) hSm (hSi 5 (by decide)) (fun _ _ _ => trivial) rfl (by kernel_rfl) (by kernel_rfl) (by kernel_rfl) (fun _ _ _ h => h) hS0 (.inr ⟨by rfl, rfl⟩) rfl ?_
          refine wpAnyU_take (i := 6) (A := fun _ => True) (v := undef) (a' := ⟨#[.slice a n c, undef, .pointer (some ⟨w.heap.size, 0, none⟩), .slice none 0 0, .int .i64 0, .pointer (some ⟨nv, 0, none⟩), .int .i64 0, .pointer (some ⟨nx, 0, none⟩), .pointer (some ⟨na, 0, none⟩), .slice ao j co, .int .i64 (j : Int), u11, u12, u13, u14, u15, u16, u17, u18, u19, u20, u21, u22, u23, u24, u25, u26, u27, u28, u29, u30, u31, u32, u33, u34, u35, .agg (List.toArray cs), .agg (List.toArray ds), .int .i64 (j : Int), .pointer (some ⟨na, 5, none⟩), .slice al L.length cl, .int .i64 (L.length : Int), .bool true, .bool true, .int .i64 (j : Int), .bool false, .bool false, u47, u48, u49, u50, u51, u52, u53, u54, u55, u56, u57, u58, u59, u60, u61, u62, u63, u64, u65, u66, .agg (List.toArray XC), .slice ao j co, .int .i64 C, .bool true, .bool true, undef, undef, u74, u75, u76, u77, u78, u79, u80, u81], []⟩) hSm (hSi 6 (by decide)) (fun _ _ _ => trivial) rfl (by kernel_rfl) (by kernel_rfl) (by kernel_rfl) (fun _ _ _ h => h) hS0 (.inr ⟨by rfl, rfl⟩) rfl ?_
          refine wpAnyU_take (i := 7) (A := fun _ => True) (v := undef) (a' := ⟨#[.slice a n c, undef, .pointer (some ⟨w.heap.size, 0, none⟩), .slice none 0 0, .int .i64 0, .pointer (some ⟨nv, 0, none⟩), .int .i64 0, .pointer (some ⟨nx, 0, none⟩), .pointer (some ⟨na, 0, none⟩), .slice ao j co, .int .i64 (j : Int), u11, u12, u13, u14, u15, u16, u17, u18, u19, u20, u21, u22, u23, u24, u25, u26, u27, u28, u29, u30, u31, u32, u33, u34, u35, .agg (List.toArray cs), .agg (List.toArray ds), .int .i64 (j : Int), .pointer (some ⟨na, 5, none⟩), .slice al L.length cl, .int .i64 (L.length : Int), .bool true, .bool true, .int .i64 (j : Int), .bool false, .bool false, u47, u48, u49, u50, u51, u52, u53, u54, u55, u56, u57, u58, u59, u60, u61, u62, u63, u64, u65, u66, .agg (List.toArray XC), .slice ao j co, .int .i64 C, .bool true, .bool true, undef, undef, undef, u75, u76, u77, u78, u79, u80, u81], []⟩) hSm (hSi 7 (by decide)) (fun _ _ _ => trivial) rfl (by kernel_rfl) (by kernel_rfl) (by kernel_rfl) (fun _ _ _ h => h) hS0 (.inr ⟨by rfl, rfl⟩) rfl ?_
          refine wpAnyU_take (i := 8) (A := fun _ => True) (v := undef) (a' := ⟨#[.slice a n c, undef, .pointer (some ⟨w.heap.size, 0, none⟩), .slice none 0 0, .int .i64 0, .pointer (some ⟨nv, 0, none⟩), .int .i64 0, .pointer (some ⟨nx, 0, none⟩), .pointer (some ⟨na, 0, none⟩), .slice ao j co, .int .i64 (j : Int), u11, u12, u13, u14, u15, u16, u17, u18, u19, u20, u21, u22, u23, u24, u25, u26, u27, u28, u29, u30, u31, u32, u33, u34, u35, .agg (List.toArray cs), .agg (List.toArray ds), .int .i64 (j : Int), .pointer (some ⟨na, 5, none⟩), .slice al L.length cl, .int .i64 (L.length : Int), .bool true, .bool true, .int .i64 (j : Int), .bool false, .bool false, u47, u48, u49, u50, u51, u52, u53, u54, u55, u56, u57, u58, u59, u60, u61, u62, u63, u64, u65, u66, .agg (List.toArray XC), .slice ao j co, .int .i64 C, .bool true, .bool true, undef, undef, undef, undef, u76, u77, u78, u79, u80, u81], []⟩) hSm (hSi 8 (by decide)) (fun _ _ _ => trivial) rfl (by kernel_rfl) (by kernel_rfl) (by kernel_rfl) (fun _ _ _ h => h) hS0 (.inr ⟨by rfl, rfl⟩) rfl ?_
          refine wpAnyU_take (i := 9) (A := fun _ => True) (v := undef) (a' := ⟨#[.slice a n c, undef, .pointer (some ⟨w.heap.size, 0, none⟩), .slice none 0 0, .int .i64 0, .pointer (some ⟨nv, 0, none⟩), .int .i64 0, .pointer (some ⟨nx, 0, none⟩), .pointer (some ⟨na, 0, none⟩), .slice ao j co, .int .i64 (j : Int), u11, u12, u13, u14, u15, u16, u17, u18, u19, u20, u21, u22, u23, u24, u25, u26, u27, u28, u29, u30, u31, u32, u33, u34, u35, .agg (List.toArray cs), .agg (List.toArray ds), .int .i64 (j : Int), .pointer (some ⟨na, 5, none⟩), .slice al L.length cl, .int .i64 (L.length : Int), .bool true, .bool true, .int .i64 (j : Int), .bool false, .bool false, u47, u48, u49, u50, u51, u52, u53, u54, u55, u56, u57, u58, u59, u60, u61, u62, u63, u64, u65, u66, .agg (List.toArray XC), .slice ao j co, .int .i64 C, .bool true, .bool true, undef, undef, undef, undef, undef, u77, u78, u79, u80, u81], []⟩) hSm (hSi 9 (by decide)) (fun _ _ _ => trivial) rfl (by kernel_rfl) (by kernel_rfl) (by kernel_rfl) (fun _ _ _ h => h) hS0 (.inr ⟨by rfl, rfl⟩) rfl ?_
          refine wpAnyU_take (i := 10) (A := fun _ => True) (v := undef) (a' := ⟨#[.slice a n c, undef, .pointer (some ⟨w.heap.size, 0, none⟩), .slice none 0 0, .int .i64 0, .pointer (some ⟨nv, 0, none⟩), .int .i64 0, .pointer (some ⟨nx, 0, none⟩), .pointer (some ⟨na, 0, none⟩), .slice ao j co, .int .i64 (j : Int), u11, u12, u13, u14, u15, u16, u17, u18, u19, u20, u21, u22, u23, u24, u25, u26, u27, u28, u29, u30, u31, u32, u33, u34, u35, .agg (List.toArray cs), .agg (List.toArray ds), .int .i64 (j : Int), .pointer (some ⟨na, 5, none⟩), .slice al L.length cl, .int .i64 (L.length : Int), .bool true, .bool true, .int .i64 (j : Int), .bool false, .bool false, u47, u48, u49, u50, u51, u52, u53, u54, u55, u56, u57, u58, u59, u60, u61, u62, u63, u64, u65, u66, .agg (List.toArray XC), .slice ao j co, .int .i64 C, .bool true, .bool true, undef, undef, undef, undef, undef, undef, u78, u79, u80, u81], []⟩) hSm (hSi 10 (by decide)) (fun _ _ _ => trivial) rfl (by kernel_rfl) (by kernel_rfl) (by kernel_rfl) (fun _ _ _ h => h) hS0 (.inr ⟨by rfl, rfl⟩) rfl ?_
          refine wpAnyU_take (i := 11) (A := fun _ => True) (v := .bool true) (a' := ⟨#[.slice a n c, undef, .pointer (some ⟨w.heap.size, 0, none⟩), .slice none 0 0, .int .i64 0, .pointer (some ⟨nv, 0, none⟩), .int .i64 0, .pointer (some ⟨nx, 0, none⟩), .pointer (some ⟨na, 0, none⟩), .slice ao j co, .int .i64 (j : Int), u11, u12, u13, u14, u15, u16, u17, u18, u19, u20, u21, u22, u23, u24, u25, u26, u27, u28, u29, u30, u31, u32, u33, u34, u35, .agg (List.toArray cs), .agg (List.toArray ds), .int .i64 (j : Int), .pointer (some ⟨na, 5, none⟩), .slice al L.length cl, .int .i64 (L.length : Int), .bool true, .bool true, .int .i64 (j : Int), .bool false, .bool false, u47, u48, u49, u50, u51, u52, u53, u54, u55, u56, u57, u58, u59, u60, u61, u62, u63, u64, u65, u66, .agg (List.toArray XC), .slice ao j co, .int .i64 C, .bool true, .bool true, undef, undef, undef, undef, undef, undef, .bool true, u79, u80, u81], []⟩) hSm (hSi 11 (by decide)) (fun _ _ _ => trivial) rfl (by kernel_rfl) (by kernel_rfl) (by kernel_rfl) (fun _ _ _ h => h) hS0 (Tame.val rfl (fun w' hA => by go_simp)) rfl ?_
          refine wpAnyU_done (by kernel_rfl) ?_ _
          intro w12 hm12
          have hcur := Below.drewN' hm12
          clear hSm hSi hS0 hm12
          obtain ⟨W2', y1, y2, _, y4⟩ := hres0 _ _ (hRr.below hcur) zl (hGr.trans (hcur.mono hGr.size))
          go_wp2
          refine bodyPost_ret (results_cell_tmp2 (fn := Try.f24) (p := 2) (t := 3) (u := 4) (by rfl) _ _ w.heap.size 31 _ (0, 0) _ (by rfl) y2 Try.underlying31 rfl (by rw [z6]; exact sizeAB)) rfl ?_
          exact ⟨none, 0, by rw [hRR.out, HZ.out]; rfl, by rw [hRR.out]; exact Row.nil _ _, y4, by rw [hRR.out]; intro h; simp at h⟩
        case pos =>
          have hlv := fun w' (hb : Below wr.heap.size wr w') => rArchiveValue_any (c := co) hlenO (hrowO.below hb) hokO hXok.out (by omega)
          rw [← hXCh.out] at hlv
          have hvw := fun w' (hb : Below wr.heap.size wr w') => hVr.keep hb
          have hRR : Hid (arcR l = if sameV (archV (arcX v) OUT) v = true then (arcX v, OUT, 0) else (abt0, [], 4)) := by
            show _ = _
            rw [hR.out, hok.out, decide_eq_true hc0, hout.out]; rfl
          have HLO := Lib.hid hlenO
          have hresX := fun (W : World) (old : List Value) (hR : Blk W w.heap.size 31 old) (ho : old.length = 37) (hb : Below w.heap.size w W) => res_abt hR ho hXok.out (Nat.le_refl _) hb
          rw [← hXCh.out] at hresX
          rw [hc0] at hck
          obtain ⟨S, hS⟩ : ∃ S, S = sameV (archV (arcX v) OUT) v := ⟨_, rfl⟩
          have hps := fun (w' : World) (c2 : List Value) (h : VAt w' c2 (archV (arcX v) OUT)) (hb : Below wr.heap.size wr w') => rsame_any h _ _ w' (hvw _ hb) (Below.refl _ _)
          rw [← hS] at hRR hps
          clear hS hrowO hlenO hokO hok hout hc0 hB hBX hVr hvw h70
          generalize archV (arcX v) OUT = lo at *
          go_upto_region 11 with (fail)
          cases S
          all_goals
            go_region_held3 (fun w' => (ldOp 63 (.pointer (some ⟨nv, 0, none⟩))).run Try.prog w' = .ok (.agg (List.toArray cs)) w' ∧ (ldOp 31 (.pointer (some ⟨nx, 0, none⟩))).run Try.prog w' = .ok (.agg (List.toArray XC)) w') (first | exact ⟨by assumption, by assumption⟩ | go_keep) (first
              | (go_at_call 36; refine (hck _ hcur).mono ?_; rintro e ws ⟨rfl, hbs⟩; have hcur := hcur.trans (hbs.mono hcur.size); have s1 := hq _ hcur; have s2 := hqx _ hcur)
              | (go_at_call 37; refine (hlv _ hcur).mono ?_; rintro e ws ⟨c2, rfl, hc2, hbs⟩; have hcur := hcur.trans (hbs.mono hcur.size); have s1 := hq _ hcur; have s2 := hqx _ hcur; have hc2' := hc2.at)
              | (go_at_call 46; refine (hps _ _ hc2' hcur).mono ?_; rintro e ws ⟨rfl, hbs⟩; have hcur := hcur.trans (hbs.mono hcur.size); have s1 := hq _ hcur; have s2 := hqx _ hcur))
          all_goals
            obtain ⟨W2', y1, y2, _, y4⟩ := hres0 _ _ (hRr.below hcur) zl (hGr.trans (hcur.mono hGr.size))
            obtain ⟨W2'', y1', y2', yg', y4'⟩ := hresX _ _ (hRr.below hcur) zl (hGr.trans (hcur.mono hGr.size))
            go_wp2
            first
              | (refine bodyPost_ret (results_cell_tmp2 (fn := Try.f24) (p := 2) (t := 3) (u := 4) (by rfl) _ _ w.heap.size 31 _ (0, 0) _ (by rfl) y2 Try.underlying31 rfl (by rw [z6]; exact sizeAB)) rfl ?_
                 exact ⟨none, 0, by rw [hRR.out, HZ.out]; rfl, by rw [hRR.out]; exact Row.nil _ _, y4, by rw [hRR.out]; intro h; simp at h⟩)
              | (refine bodyPost_ret (results_cell_tmp2 (fn := Try.f24) (p := 2) (t := 3) (u := 4) (by rfl) _ _ w.heap.size 31 _ (0, 0) _ (by rfl) y2' Try.underlying31 rfl (by rw [X1]; exact sizeAB)) rfl ?_
                 exact ⟨ao, co, by rw [hRR.out, HLO.out, hXCh.out]; rfl, by rw [hRR.out]; exact (HROW.out.below hcur).grown yg' (fun h => Nat.ne_of_gt (hfr.out h)), y4', by rw [hRR.out]; exact fun h => Nat.le_of_lt (hfr.out h)⟩)
      case neg =>
      obtain rfl : j = L.length := by omega
      have j1 : ¬ (L.length : Int) < (L.length : Int) := by omega
      obtain ⟨ao, co, rfl, _, _, hrow, hfar⟩ := owns_rowN hO.out (by decide)
      obtain ⟨OUT, hOUT⟩ : ∃ OUT, OUT = (L.take L.length).map prtOf := ⟨_, rfl⟩
      have hrowO : Row wr ao (OUT.map prtC).flatten := by rw [hOUT, List.map_map]; exact hrow
      have hlenO : L.length = OUT.length := by rw [hOUT, List.length_map, List.length_take]; omega
      have hfr : Hid (0 < (OUT.map prtC).flatten.length → w.heap.size < (hd ao).block) := by
        show _ → _
        intro h
        rw [hOUT, List.map_map] at h
        have h1 := (hfar h).2.1
        have h2 := HR0.out.lt
        omega
      have hokO : ∀ x ∈ OUT, PrtOk x := by
        rw [hOUT]
        intro y hy
        obtain ⟨x, hx, rfl⟩ := List.mem_map.1 hy
        obtain ⟨i, hi, rfl⟩ := List.mem_iff_getElem.1 (List.mem_of_mem_take hx)
        exact prtOf_ok (sub i css[i] L[i] (by simp [hcs, hi]) (by simp [hi]))
      have hout : Hid (arcL v = OUT) := by
        show _ = _
        rw [hOUT, List.take_length, HLd.out]; exact arcL_all (by rw [← HLd.out]; exact hj70)
      have hok : Hid (arcOk v = (decide (checkA (arcX v) OUT = 0) && sameV (archV (arcX v) OUT) v)) := by show _ = _; unfold arcOk; rw [hout.out]
      have hck := fun w' (hb : Below wr.heap.size wr w') => rCheckArchive_any (a := ao) (c := co) hlenO (hrowO.below hb) hokO hXok.out hXnm.out (by omega)
      rw [← hXCh.out] at hck
      have hB := HBV.out.below hbr.out
      have hBX := HBX.out.below hbr.out
      have hVr := HV3.out.keep hbr.out
      have hRr := HR0.out.below hbr.out
      have hGr := G0.out.trans (hbr.out.mono G0.out.size)
      have hq := fun w' (hb : Below wr.heap.size wr w') => ldOp_all (P := Try.prog) (ty := 63) (hB.below hb) Try.underlying63 rfl (by rw [hVr.len]; exact sizeV)
      have hqx := fun w' (hb : Below wr.heap.size wr w') => ldOp_all (P := Try.prog) (ty := 31) (hBX.below hb) Try.underlying31 rfl (by rw [hXl]; exact sizeAB)
      have hcur : Below wr.heap.size wr wr.drew := Gr.drewN wr 1
      have s1 := hq _ hcur
      have s2 := hqx _ hcur
      have HROW := Lib.hid hrowO
      have h70 : OUT.length ≤ 70 := by omega
      clear hO hrow hOUT hfar
      by_cases hc0 : checkA (arcX v) OUT = 0
      case neg =>
        have hRR : Hid (arcR l = (abt0, [], 4)) := by show _ = _; rw [hR.out, hok.out, decide_eq_false hc0]; rfl
        have t1 : (checkA (arcX v) OUT != 0) = true := by simpa using hc0
        generalize checkA (arcX v) OUT = C at *
        clear hrowO hlenO hokO hok hout hB hVr hcur s1 s2 hq hqx
        go_upto_region 11 with (fail)
        have hSm : ∀ (L : Array Bool) (w1 w2 : World), (Blk w1 nx 31 XC ∧ Mo (wr.drewN 1) w1) → Mo w1 w2 → (Blk w2 nx 31 XC ∧ Mo (wr.drewN 1) w2) := fun _ w1 w2 h hm => ⟨h.1.below hm, Mo.trans h.2 hm⟩
        have hSi : ∀ i, i ≠ 99 → ∀ (L : Array Bool) (w1 : World), (Blk w1 nx 31 XC ∧ Mo (wr.drewN 1) w1) ↔ (Blk w1 nx 31 XC ∧ Mo (wr.drewN 1) w1) := fun _ _ _ _ => Iff.rfl
        have hS0 : (Blk (wr.drewN 1) nx 31 XC ∧ Mo (wr.drewN 1) (wr.drewN 1)) := ⟨hBX, Mo.refl (wr.drewN 1)⟩
        refine wp_region_upN (S := fun _ w1 => (Blk w1 nx 31 XC ∧ Mo (wr.drewN 1) w1)) 12 rfl (by kernel_rfl) ?_
        refine wpAnyU_take (i := 0) (A := fun w1 => (Blk w1 nx 31 XC ∧ Mo (wr.drewN 1) w1)) (v := .agg (List.toArray XC)) (a' := ⟨#[.slice a n c, undef, .pointer (some ⟨w.heap.size, 0, none⟩), .slice none 0 0, .int .i64 0, .pointer (some ⟨nv, 0, none⟩), .int .i64 0, .pointer (some ⟨nx, 0, none⟩), .pointer (some ⟨na, 0, none⟩), .slice ao L.length co, .int .i64 (L.length : Int), u11, u12, u13, u14, u15, u16, u17, u18, u19, u20, u21, u22, u23, u24, u25, u26, u27, u28, u29, u30, u31, u32, u33, u34, u35, .agg (List.toArray cs), .agg (List.toArray ds), .int .i64 (L.length : Int), .pointer (some ⟨na, 5, none⟩), .slice al L.length cl, .int .i64 (L.length : Int), .bool false, .bool false, undef, undef, .bool false, u47, u48, u49, u50, u51, u52, u53, u54, u55, u56, u57, u58, u59, u60, u61, u62, u63, u64, u65, u66, .agg (List.toArray XC), u68, u69, u70, u71, u72, u73, u74, u75, u76, u77, u78, u79, u80, u81], []⟩) hSm (hSi 0 (by decide)) (fun _ _ h => h) rfl (by kernel_rfl) (by kernel_rfl) (by kernel_rfl) (fun _ _ _ h => h) hS0 (Tame.val rfl (fun w' hA => run_ldOp (ldOp_all hA.1 Try.underlying31 rfl (by rw [hXl]; exact sizeAB)))) rfl ?_
        refine wpAnyU_take (i := 1) (A := fun _ => True) (v := .slice ao L.length co) (a' := ⟨#[.slice a n c, undef, .pointer (some ⟨w.heap.size, 0, none⟩), .slice none 0 0, .int .i64 0, .pointer (some ⟨nv, 0, none⟩), .int .i64 0, .pointer (some ⟨nx, 0, none⟩), .pointer (some ⟨na, 0, none⟩), .slice ao L.length co, .int .i64 (L.length : Int), u11, u12, u13, u14, u15, u16, u17, u18, u19, u20, u21, u22, u23, u24, u25, u26, u27, u28, u29, u30, u31, u32, u33, u34, u35, .agg (List.toArray cs), .agg (List.toArray ds), .int .i64 (L.length : Int), .pointer (some ⟨na, 5, none⟩), .slice al L.length cl, .int .i64 (L.length : Int), .bool false, .bool false, undef, undef, .bool false, u47, u48, u49, u50, u51, u52, u53, u54, u55, u56, u57, u58, u59, u60, u61, u62, u63, u64, u65, u66, .agg (List.toArray XC), .slice ao L.length co, u69, u70, u71, u72, u73, u74, u75, u76, u77, u78, u79, u80, u81], []⟩) hSm (hSi 1 (by decide)) (fun _ _ _ => trivial) rfl (by kernel_rfl) (by kernel_rfl) (by kernel_rfl) (fun _ _ _ h => h) hS0 (Tame.val rfl (fun w' hA => by go_simp)) rfl ?_
        refine wpAnyU_take (i := 2) (A := fun w1 => (Blk w1 nx 31 XC ∧ Mo (wr.drewN 1) w1)) (v := .int .i64 C) (a' := ⟨#[.slice a n c, undef, .pointer (some ⟨w.heap.size, 0, none⟩), .slice none 0 0, .int .i64 0, .pointer (some ⟨nv, 0, none⟩), .int .i64 0, .pointer (some ⟨nx, 0, none⟩), .pointer (some ⟨na, 0, none⟩), .slice ao L.length co, .int .i64 (L.length : Int), u11, u12, u13, u14, u15, u16, u17, u18, u19, u20, u21, u22, u23, u24, u25, u26, u27, u28, u29, u30, u31, u32, u33, u34, u35, .agg (List.toArray cs), .agg (List.toArray ds), .int .i64 (L.length : Int), .pointer (some ⟨na, 5, none⟩), .slice al L.length cl, .int .i64 (L.length : Int), .bool false, .bool false, undef, undef, .bool false, u47, u48, u49, u50, u51, u52, u53, u54, u55, u56, u57, u58, u59, u60, u61, u62, u63, u64, u65, u66, .agg (List.toArray XC), .slice ao L.length co, .int .i64 C, u70, u71, u72, u73, u74, u75, u76, u77, u78, u79, u80, u81], []⟩) hSm (hSi 2 (by decide)) (fun _ _ h => h) rfl (by kernel_rfl) (by kernel_rfl) (by kernel_rfl) (fun _ _ _ h => h) hS0 (Tame.enter rfl (fun w' => by go_simp) (fun w' hA => hck w' (Below.drewN' hA.2))) rfl ?_
        refine wpAnyU_take (i := 3) (A := fun _ => True) (v := .bool true) (a' := ⟨#[.slice a n c, undef, .pointer (some ⟨w.heap.size, 0, none⟩), .slice none 0 0, .int .i64 0, .pointer (some ⟨nv, 0, none⟩), .int .i64 0, .pointer (some ⟨nx, 0, none⟩), .pointer (some ⟨na, 0, none⟩), .slice ao L.length co, .int .i64 (L.length : Int), u11, u12, u13, u14, u15, u16, u17, u18, u19, u20, u21, u22, u23, u24, u25, u26, u27, u28, u29, u30, u31, u32, u33, u34, u35, .agg (List.toArray cs), .agg (List.toArray ds), .int .i64 (L.length : Int), .pointer (some ⟨na, 5, none⟩), .slice al L.length cl, .int .i64 (L.length : Int), .bool false, .bool false, undef, undef, .bool false, u47, u48, u49, u50, u51, u52, u53, u54, u55, u56, u57, u58, u59, u60, u61, u62, u63, u64, u65, u66, .agg (List.toArray XC), .slice ao L.length co, .int .i64 C, .bool true, u71, u72, u73, u74, u75, u76, u77, u78, u79, u80, u81], []⟩) hSm (hSi 3 (by decide)) (fun _ _ _ => trivial) rfl (by kernel_rfl) (by kernel_rfl) (by kernel_rfl) (fun _ _ _ h => h) hS0 (Tame.val rfl (fun w' hA => by go_simp)) rfl ?_
        refine wpAnyU_take (i := 4) (A := fun _ => True) (v := .bool true) (a' := ⟨#[.slice a n c, undef, .pointer (some ⟨w.heap.size, 0, none⟩), .slice none 0 0, .int .i64 0, .pointer (some ⟨nv, 0, none⟩), .int .i64 0, .pointer (some ⟨nx, 0, none⟩), .pointer (some ⟨na, 0, none⟩), .slice ao L.length co, .int .i64 (L.length : Int), u11, u12, u13, u14, u15, u16, u17, u18, u19, u20, u21, u22, u23, u24, u25, u26, u27, u28, u29, u30, u31, u32, u33, u34, u35, .agg (List.toArray cs), .agg (List.toArray ds), .int .i64 (L.length : Int), .pointer (some ⟨na, 5, none⟩), .slice al L.length cl, .int .i64 (L.length : Int), .bool false, .bool false, undef, undef, .bool false, u47, u48, u49, u50, u51, u52, u53, u54, u55, u56, u57, u58, u59, u60, u61, u62, u63, u64, u65, u66, .agg (List.toArray XC), .slice ao L.length co, .int .i64 C, .bool true, .bool true, u72, u73, u74, u75, u76, u77, u78, u79, u80, u81], []⟩) hSm (hSi 4 (by decide)) (fun _ _ _ => trivial) rfl (by kernel_rfl) (by kernel_rfl) (by kernel_rfl) (fun _ _ _ h => h) hS0 (Tame.val rfl (fun w' hA => by go_simp)) rfl ?_
        refine wpAnyU_take (i := 5) (A := fun _ => True) (v := undef) (a' := ⟨#[.slice a n c, undef, .pointer (some ⟨w.heap.size, 0, none⟩), .slice none 0 0, .int .i64 0, .pointer (some ⟨nv, 0, none⟩), .int .i64 0, .pointer (some ⟨nx, 0, none⟩), .pointer (some ⟨na, 0, none⟩), .slice ao L.length co, .int .i64 (L.length : Int), u11, u12, u13, u14, u15, u16, u17, u18, u19, u20, u21, u22, u23, u24, u25, u26, u27, u28, u29, u30, u31, u32, u33, u34, u35, .agg (List.toArray cs), .agg (List.toArray ds), .int .i64 (L.length : Int), .pointer (some ⟨na, 5, none⟩), .slice al L.length cl, .int .i64 (L.length : Int), .bool false, .bool false, undef, undef, .bool false, u47, u48, u49, u50, u51, u52, u53, u54, u55, u56, u57, u58, u59, u60, u61, u62, u63, u64, u65, u66, .agg (List.toArray XC), .slice ao L.length co, .int .i64 C, .bool true, .bool true, undef, u73, u74, u75, u76, u77, u78, u79, u80, u81], []⟩) hSm (hSi 5 (by decide)) (fun _ _ _ => trivial) rfl (by kernel_rfl) (by kernel_rfl) (by kernel_rfl) (fun _ _ _ h => h) hS0 (.inr ⟨by rfl, rfl⟩) rfl ?_
        refine wpAnyU_take (i := 6) (A := fun _ => True) (v := undef) (a' := ⟨#[.slice a n c, undef, .pointer (some ⟨w.heap.size, 0, none⟩), .slice none 0 0, .int .i64 0, .pointer (some ⟨nv, 0, none⟩), .int .i64 0, .pointer (some ⟨nx, 0, none⟩), .pointer (some ⟨na, 0, none⟩), .slice ao L.length co, .int .i64 (L.length : Int), u11, u12, u13, u14, u15, u16, u17, u18, u19, u20, u21, u22, u23, u24, u25, u26, u27, u28, u29, u30, u31, u32, u33, u34, u35, .agg (List.toArray cs), .agg (List.toArray ds), .int .i64 (L.length : Int), .pointer (some ⟨na, 5, none⟩), .slice al L.length cl, .int .i64 (L.length : Int), .bool false, .bool false, undef, undef, .bool false, u47, u48, u49, u50, u51, u52, u53, u54, u55, u56, u57, u58, u59, u60, u61, u62, u63, u64, u65, u66, .agg (List.toArray XC), .slice ao L.length co, .int .i64 C, .bool true, .bool true, undef, undef, u74, u75, u76, u77, u78, u79, u80, u81], []⟩) hSm (hSi 6 (by decide)) (fun _ _ _ => trivial) rfl (by kernel_rfl) (by kernel_rfl) (by kernel_rfl) (fun _ _ _ h => h) hS0 (.inr ⟨by rfl, rfl⟩) rfl ?_
        refine wpAnyU_take (i := 7) (A := fun _ => True) (v := undef) (a' := ⟨#[.slice a n c, undef, .pointer (some ⟨w.heap.size, 0, none⟩), .slice none 0 0, .int .i64 0, .pointer (some ⟨nv, 0, none⟩), .int .i64 0, .pointer (some ⟨nx, 0, none⟩), .pointer (some ⟨na, 0, none⟩), .slice ao L.length co, .int .i64 (L.length : Int), u11, u12, u13, u14, u15, u16, u17, u18, u19, u20, u21, u22, u23, u24, u25, u26, u27, u28, u29, u30, u31, u32, u33, u34, u35, .agg (List.toArray cs), .agg (List.toArray ds), .int .i64 (L.length : Int), .pointer (some ⟨na, 5, none⟩), .slice al L.length cl, .int .i64 (L.length : Int), .bool false, .bool false, undef, undef, .bool false, u47, u48, u49, u50, u51, u52, u53, u54, u55, u56, u57, u58, u59, u60, u61, u62, u63, u64, u65, u66, .agg (List.toArray XC), .slice ao L.length co, .int .i64 C, .bool true, .bool true, undef, undef, undef, u75, u76, u77, u78, u79, u80, u81], []⟩) hSm (hSi 7 (by decide)) (fun _ _ _ => trivial) rfl (by kernel_rfl) (by kernel_rfl) (by kernel_rfl) (fun _ _ _ h => h) hS0 (.inr ⟨by rfl, rfl⟩) rfl ?_
        refine wpAnyU_take (i := 8) (A := fun _ => True) (v := undef) (a' := ⟨#[.slice a n c, undef, .pointer (some ⟨w.heap.size, 0, none⟩), .slice none 0 0, .int .i64 0, .pointer (some ⟨nv, 0, none⟩), .int .i64 0, .pointer (some ⟨nx, 0, none⟩), .pointer (some ⟨na, 0, none⟩), .slice ao L.length co, .int .i64 (L.length : Int), u11, u12, u13, u14, u15, u16, u17, u18, u19, u20, u21, u22, u23, u24, u25, u26, u27, u28, u29, u30, u31, u32, u33, u34, u35, .agg (List.toArray cs), .agg (List.toArray ds), .int .i64 (L.length : Int), .pointer (some ⟨na, 5, none⟩), .slice al L.length cl, .int .i64 (L.length : Int), .bool false, .bool false, undef, undef, .bool false, u47, u48, u49, u50, u51, u52, u53, u54, u55, u56, u57, u58, u59, u60, u61, u62, u63, u64, u65, u66, .agg (List.toArray XC), .slice ao L.length co, .int .i64 C, .bool true, .bool true, undef, undef, undef, undef, u76, u77, u78, u79, u80, u81], []⟩) hSm (hSi 8 (by decide)) (fun _ _ _ => trivial) rfl (by kernel_rfl) (by kernel_rfl) (by kernel_rfl) (fun _ _ _ h => h) hS0 (.inr ⟨by rfl, rfl⟩) rfl ?_
        refine wpAnyU_take (i := 9) (A := fun _ => True) (v := undef) (a' := ⟨#[.slice a n c, undef, .pointer (some ⟨w.heap.size, 0, none⟩), .slice none 0 0, .int .i64 0, .pointer (some ⟨nv, 0, none⟩), .int .i64 0, .pointer (some ⟨nx, 0, none⟩), .pointer (some ⟨na, 0, none⟩), .slice ao L.length co, .int .i64 (L.length : Int), u11, u12, u13, u14, u15, u16, u17, u18, u19, u20, u21, u22, u23, u24, u25, u26, u27, u28, u29, u30, u31, u32, u33, u34, u35, .agg (List.toArray cs), .agg (List.toArray ds), .int .i64 (L.length : Int), .pointer (some ⟨na, 5, none⟩), .slice al L.length cl, .int .i64 (L.length : Int), .bool false, .bool false, undef, undef, .bool false, u47, u48, u49, u50, u51, u52, u53, u54, u55, u56, u57, u58, u59, u60, u61, u62, u63, u64, u65, u66, .agg (List.toArray XC), .slice ao L.length co, .int .i64 C, .bool true, .bool true, undef, undef, undef, undef, undef, u77, u78, u79, u80, u81], []⟩) hSm (hSi 9 (by decide)) (fun _ _ _ => trivial) rfl (by kernel_rfl) (by kernel_rfl) (by kernel_rfl) (fun _ _ _ h => h) hS0 (.inr ⟨by rfl, rfl⟩) rfl ?_
        refine wpAnyU_take (i := 10) (A := fun _ => True) (v := undef) (a' := ⟨#[.slice a n c, undef, .pointer (some ⟨w.heap.size, 0, none⟩), .slice none 0 0, .int .i64 0, .pointer (some ⟨nv, 0, none⟩), .int .i64 0, .pointer (some ⟨nx, 0, none⟩), .pointer (some ⟨na, 0, none⟩), .slice ao L.length co, .int .i64 (L.length : Int), u11, u12, u13, u14, u15, u16, u17, u18, u19, u20, u21, u22, u23, u24, u25, u26, u27, u28, u29, u30, u31, u32, u33, u34, u35, .agg (List.toArray cs), .agg (List.toArray ds), .int .i64 (L.length : Int), .pointer (some ⟨na, 5, none⟩), .slice al L.length cl, .int .i64 (L.length : Int), .bool false, .bool false, undef, undef, .bool false, u47, u48, u49, u50, u51, u52, u53, u54, u55, u56, u57, u58, u59, u60, u61, u62, u63, u64, u65, u66, .agg (List.toArray XC), .slice ao L.length co, .int .i64 C, .bool true, .bool true, undef, undef, undef, undef, undef, undef, u78, u79, u80, u81], []⟩) hSm (hSi 10 (by decide)) (fun _ _ _ => trivial) rfl (by kernel_rfl) (by kernel_rfl) (by kernel_rfl) (fun _ _ _ h => h) hS0 (.inr ⟨by rfl, rfl⟩) rfl ?_
        refine wpAnyU_take (i := 11) (A := fun _ => True) (v := .bool true) (a' := ⟨#[.slice a n c, undef, .pointer (some ⟨w.heap.size, 0, none⟩), .slice none 0 0, .int .i64 0, .pointer (some ⟨nv, 0, none⟩), .int .i64 0, .pointer (some ⟨nx, 0, none⟩), .pointer (some ⟨na, 0, none⟩), .slice ao L.length co, .int .i64 (L.length : Int), u11, u12, u13, u14, u15, u16, u17, u18, u19, u20, u21, u22, u23, u24, u25, u26, u27, u28, u29, u30, u31, u32, u33, u34, u35, .agg (List.toArray cs), .agg (List.toArray ds), .int .i64 (L.length : Int), .pointer (some ⟨na, 5, none⟩), .slice al L.length cl, .int .i64 (L.length : Int), .bool false, .bool false, undef, undef, .bool false, u47, u48, u49, u50, u51, u52, u53, u54, u55, u56, u57, u58, u59, u60, u61, u62, u63, u64, u65, u66, .agg (List.toArray XC), .slice ao L.length co, .int .i64 C, .bool true, .bool true, undef, undef, undef, undef, undef, undef, .bool true, u79, u80, u81], []⟩) hSm (hSi 11 (by decide)) (fun _ _ _ => trivial) rfl (by kernel_rfl) (by kernel_rfl) (by kernel_rfl) (fun _ _ _ h => h) hS0 (Tame.val rfl (fun w' hA => by go_simp)) rfl ?_
        refine wpAnyU_done (by kernel_rfl) ?_ _
        intro w12 hm12
        have hcur := Below.drewN' hm12
        clear hSm hSi hS0 hm12
        obtain ⟨W2', y1, y2, _, y4⟩ := hres0 _ _ (hRr.below hcur) zl (hGr.trans (hcur.mono hGr.size))
        go_wp2
        refine bodyPost_ret (results_cell_tmp2 (fn := Try.f24) (p := 2) (t := 3) (u := 4) (by rfl) _ _ w.heap.size 31 _ (0, 0) _ (by rfl) y2 Try.underlying31 rfl (by rw [z6]; exact sizeAB)) rfl ?_
        exact ⟨none, 0, by rw [hRR.out, HZ.out]; rfl, by rw [hRR.out]; exact Row.nil _ _, y4, by rw [hRR.out]; intro h; simp at h⟩
      case pos =>
        have hlv := fun w' (hb : Below wr.heap.size wr w') => rArchiveValue_any (c := co) hlenO (hrowO.below hb) hokO hXok.out (by omega)
        rw [← hXCh.out] at hlv
        have hvw := fun w' (hb : Below wr.heap.size wr w') => hVr.keep hb
        have hRR : Hid (arcR l = if sameV (archV (arcX v) OUT) v = true then (arcX v, OUT, 0) else (abt0, [], 4)) := by
          show _ = _
          rw [hR.out, hok.out, decide_eq_true hc0, hout.out]; rfl
        have HLO := Lib.hid hlenO
        have hresX := fun (W : World) (old : List Value) (hR : Blk W w.heap.size 31 old) (ho : old.length = 37) (hb : Below w.heap.size w W) => res_abt hR ho hXok.out (Nat.le_refl _) hb
        rw [← hXCh.out] at hresX
        rw [hc0] at hck
        obtain ⟨S, hS⟩ : ∃ S, S = sameV (archV (arcX v) OUT) v := ⟨_, rfl⟩
        have hps := fun (w' : World) (c2 : List Value) (h : VAt w' c2 (archV (arcX v) OUT)) (hb : Below wr.heap.size wr w') => rsame_any h _ _ w' (hvw _ hb) (Below.refl _ _)
        rw [← hS] at hRR hps
        clear hS hrowO hlenO hokO hok hout hc0 hB hBX hVr hvw h70
        generalize archV (arcX v) OUT = lo at *
        go_upto_region 11 with (fail)
        cases S
        all_goals
          go_region_held3 (fun w' => (ldOp 63 (.pointer (some ⟨nv, 0, none⟩))).run Try.prog w' = .ok (.agg (List.toArray cs)) w' ∧ (ldOp 31 (.pointer (some ⟨nx, 0, none⟩))).run Try.prog w' = .ok (.agg (List.toArray XC)) w') (first | exact ⟨by assumption, by assumption⟩ | go_keep) (first
            | (go_at_call 36; refine (hck _ hcur).mono ?_; rintro e ws ⟨rfl, hbs⟩; have hcur := hcur.trans (hbs.mono hcur.size); have s1 := hq _ hcur; have s2 := hqx _ hcur)
            | (go_at_call 37; refine (hlv _ hcur).mono ?_; rintro e ws ⟨c2, rfl, hc2, hbs⟩; have hcur := hcur.trans (hbs.mono hcur.size); have s1 := hq _ hcur; have s2 := hqx _ hcur; have hc2' := hc2.at)
            | (go_at_call 46; refine (hps _ _ hc2' hcur).mono ?_; rintro e ws ⟨rfl, hbs⟩; have hcur := hcur.trans (hbs.mono hcur.size); have s1 := hq _ hcur; have s2 := hqx _ hcur))
        all_goals
          obtain ⟨W2', y1, y2, _, y4⟩ := hres0 _ _ (hRr.below hcur) zl (hGr.trans (hcur.mono hGr.size))
          obtain ⟨W2'', y1', y2', yg', y4'⟩ := hresX _ _ (hRr.below hcur) zl (hGr.trans (hcur.mono hGr.size))
          go_wp2
          first
            | (refine bodyPost_ret (results_cell_tmp2 (fn := Try.f24) (p := 2) (t := 3) (u := 4) (by rfl) _ _ w.heap.size 31 _ (0, 0) _ (by rfl) y2 Try.underlying31 rfl (by rw [z6]; exact sizeAB)) rfl ?_
               exact ⟨none, 0, by rw [hRR.out, HZ.out]; rfl, by rw [hRR.out]; exact Row.nil _ _, y4, by rw [hRR.out]; intro h; simp at h⟩)
            | (refine bodyPost_ret (results_cell_tmp2 (fn := Try.f24) (p := 2) (t := 3) (u := 4) (by rfl) _ _ w.heap.size 31 _ (0, 0) _ (by rfl) y2' Try.underlying31 rfl (by rw [X1]; exact sizeAB)) rfl ?_
               exact ⟨ao, co, by rw [hRR.out, HLO.out, hXCh.out]; rfl, by rw [hRR.out]; exact (HROW.out.below hcur).grown yg' (fun h => Nat.ne_of_gt (hfr.out h)), y4', by rw [hRR.out]; exact fun h => Nat.le_of_lt (hfr.out h)⟩)
end Go.Proofs.Ytakliplkabgmbaa
