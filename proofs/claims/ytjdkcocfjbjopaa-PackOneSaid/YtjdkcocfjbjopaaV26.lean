/- Layer 05: the reader's integer, text. -/
import Derived.Test.YtjdkcocfjbjopaaV25
import Derived.Test.YtjdkcocfjbjopaaV23
set_option maxRecDepth 20000
namespace Go.Proofs.Ytjdkcocfjbjopaa
open Go.RowKit Go.Hd
attribute [local go_sem ↓] h_ldV h_stV h_alV
attribute [local go_sem] r_ldV r_stV r_alV

/-- What a reading of a value answers. -/
def ValP (B gr g : Nat) (w : World) (R : Rs PV) (e : Ending) (w' : World) : Prop :=
  ∃ cs v, e = .returned (.agg (List.toArray cs)) ∧ VAtP (fun b => w.heap.size ≤ b) w' cs v ∧ (∀ v0 r, R = .ok v0 r → v = v0) ∧ PRs B w' gr g R ∧ Dk gr g w w'
theorem Dk.blk {gr g q : Nat} {w w' : World} {T : TypeId} {xs : List Value} (h : Dk gr g w w') (hb : Blk w q T xs) (h1 : q ≠ gr) (h2 : q ≠ g) : Blk w' q T xs := by
  have := hb.lt
  unfold Blk at *; rw [h.block q this h1 h2]; exact hb
/-- The result's cell is written. -/
theorem cell_end {B gr g q : Nat} {w w2 : World} {cs old : List Value} {v : PV} {α : Type} {R : Rs α} (hres : Blk w2 q 26 old) (ho : old.length = 6) (hP : PRs B w2 gr g R) (hk : Dk gr g w w2) (hv : VAtP (fun b => w.heap.size ≤ b ∧ b ≠ q) w2 cs v) (hB : B ≤ q) (hq : w.heap.size ≤ q) (h1 : q ≠ gr) (h2 : q ≠ g) :
    (stoOp 26 (.pointer (some ⟨q, 0, none⟩)) (.agg (List.toArray cs))).run Try.prog w2 = .ok () (w2.setRow q (List.toArray cs)) ∧ Blk (w2.setRow q (List.toArray cs)) q 26 cs ∧ VAtP (fun b => w.heap.size ≤ b) (w2.setRow q (List.toArray cs)) cs v ∧ PRs B (w2.setRow q (List.toArray cs)) gr g R ∧ Dk gr g w (w2.setRow q (List.toArray cs)) := by
  have hg := setRow_gr w2 q (List.toArray cs)
  refine ⟨st_row hres ho _ hv.len (all_oneCell_toArray hv.one), setRow_blk hres cs, ?_, hP.far hg (fun k hk => by cases hk; exact ⟨hB, h2, h1⟩), ?_⟩
  · exact (hv.same (w' := w2.setRow q _) (fun z hz hlt => hg.block z hlt (by have := hz.2; simp; omega))).mono (fun z hz _ => hz.1)
  · exact ⟨hk.os, hk.tape, hk.output, by simp; exact hk.size, fun i hi g1 g2 => (hg.block i (by have := hk.size; omega) (by simp; omega)).trans (hk.block i hi g1 g2)⟩
theorem VAtP.num {ok : Nat → Prop} (w : World) {n : Int} (h : in64 n) : VAtP ok w (numC n) (pNum n) :=
  .mk (b := []) (t := []) (ks := []) (l := []) [] (by unfold in64; omega) h (Row.nil _ _) ⟨Nat.le_refl _, Nat.zero_le _⟩ (Nat.zero_le _) (Row.nil _ _) ⟨Nat.le_refl _, Nat.zero_le _⟩ (by simp) (Row.nil _ _) ⟨Nat.le_refl _, Nat.zero_le _⟩ rfl (by simp) (by simp) (by simp) (by simp) (by simp)
theorem PRs.same {α : Type} {B gr g : Nat} {w : World} {s s' : Rs α} (h : PRs B w gr g s) (e : s = s') : PRs B w gr g s' := e ▸ h
theorem wrap64_of (x : Nat) (h : x ≤ 9223372036854775807) : wrap64 (x : Int) = (x : Int) := by unfold wrap64; omega
theorem in64_wrap (x : Int) : in64 (wrap64 x) := by unfold in64 wrap64; omega
/-- What a number that was read is as a value. -/
theorem int_end {B gr g : Nat} {w w2 : World} {z : Int} {T : Rs Int} {R : Rs PV} (hz : in64 z) (hzx : ∀ x r, T = .ok x r → z = x) (hR : R = T.bind fun n r => .ok (pNum n) r) (hres : Blk w2 w.heap.size 26 zV.toList) (hP : PRs B w2 gr g T) (hk : Dk gr g w w2) (hB : B ≤ w.heap.size) (h1 : gr < w.heap.size) (h2 : g < w.heap.size) :
    (stoOp 26 (.pointer (some ⟨w.heap.size, 0, none⟩)) (.agg (List.toArray (numC z)))).run Try.prog w2 = .ok () (w2.setRow w.heap.size (List.toArray (numC z))) ∧ Blk (w2.setRow w.heap.size (List.toArray (numC z))) w.heap.size 26 (numC z) ∧
      ValP B gr g w R (.returned (.agg (List.toArray (numC z)))) (w2.setRow w.heap.size (List.toArray (numC z))) := by
  obtain ⟨a1, a2, a3, a4, a5⟩ := cell_end (R := T) hres (by rfl) hP hk (VAtP.num w2 hz) hB (Nat.le_refl _) (by omega) (by omega)
  refine ⟨a1, a2, _, _, rfl, a3, fun v0 r hv => ?_, ?_, a5⟩
  · rw [hR] at hv
    cases T with
    | no c => cases hv
    | ok x r' => cases hv; rw [hzx _ _ rfl]
  · rw [hR]
    refine a4.cast (fun _ _ _ hh => ?_)
    cases T <;> exact hh

set_option maxHeartbeats 4000000 in
theorem rdinteger_any {α : Type} {B gr g : Nat} {w : World} {s : Rs α} {c : Nat} (h : PRs B w gr g s) (hc : 0xcc ≤ c ∧ c ≤ 0xd3) (hB : B ≤ w.heap.size) :
    Calls Try.prog 50 #[.pointer (some ⟨gr, 0, none⟩), .int .u8 (c : Int)] w (ValP B gr g w (s.bind fun _ r => (intR c r).bind fun n r2 => .ok (pNum n) r2)) := by
  have hlt := h.lt
  obtain ⟨hg1, hg2⟩ := hlt
  have zs := zV_size
  have hb0 : Below w.heap.size w (w.alloc (.cells zV 26)) := (Below.refl _ _).alloc (Nat.le_refl _) _
  have R0 : Blk (w.alloc (.cells zV 26)) w.heap.size 26 zV.toList := Blk.new _ _ _
  have h0 := h.keep hb0
  have hk0 : Dk gr g w (w.alloc (.cells zV 26)) := Dk.ofBelow hb0
  rcases (by omega : c = 0xcc ∨ c = 0xcd ∨ c = 0xce ∨ c = 0xcf ∨ c = 0xd0 ∨ c = 0xd1 ∨ c = 0xd2 ∨ c = 0xd3) with rfl | rfl | rfl | rfl | rfl | rfl | rfl | rfl
  · have HR : Hid ((s.bind fun _ r => (intR 204 r).bind fun n r2 => .ok (pNum n) r2) = ((s.bind fun _ r => leastR 1 128 r).bind fun x r => .ok (x : Int) r).bind fun n r => .ok (pNum n) r) := by
      show _ = _
      cases s with
      | no c => rfl
      | ok x r =>
        show (intR 204 r).bind _ = _
        rfl
    have hrd := rdleast_any (n := 1) (lo := 128) h0 (by decide) (by decide) (by decide)
    go_enter Try.func50, Try.ntmps50
    go_wp2_with fail
    refine hrd.mono ?_
    rintro ee w1 ⟨x, rfl, hx, hx0, hxn, hP, hk⟩
    have hx' : x < 256 := hx
    have ex : IntKind.i64.wrap (x : Int) = (x : Int) := IntWalk.i64_in _ (by omega)
    have ex2 := wrap64_of x (by omega)
    have ei : in64 (x : Int) := by unfold in64; omega
    have ho := of_any (x : Int) w1
    clear hrd hx hx'
    go_wp2_with fail
    refine ho.mono ?_
    rintro ee w2 ⟨rfl, hb2⟩
    have R1 := ((hk.trans (Dk.ofBelow hb2)).blk R0 (by omega) (by omega))
    have hE := int_end (z := (x : Int)) (T := (s.bind fun _ r => leastR 1 128 r).bind fun x r => .ok (x : Int) r) ei (fun y r hy => by
      cases hT : (s.bind fun _ r => leastR 1 128 r) with
      | no c => rw [hT] at hy; cases hy
      | ok x0 r0 => rw [hT] at hy; cases hy; rw [hx0 _ _ hT]) HR.out R1 ((hP.keep hb2).cast (fun _ _ _ hh => by
      cases hT : (s.bind fun _ r => leastR 1 128 r) with
      | no c => rw [hT] at hh; exact hh
      | ok x0 r0 => rw [hT] at hh; exact hh)) ((hk0.trans hk).trans (Dk.ofBelow hb2)) hB hg1 hg2
    obtain ⟨HST, HB2, HV⟩ := hE
    clear ei ex2 ex hx0 hxn ho
    clear R0 R1 h h0 hk0 hb0 hP
    go_wp2
    exact bodyPost_ret (results_cell_row (fn := Try.f50) (by rfl) _ _ w.heap.size 26 _ (0, 0) _ (by rfl) HB2 Try.underlying26 rfl sizeV) rfl HV
  · have HR : Hid ((s.bind fun _ r => (intR 205 r).bind fun n r2 => .ok (pNum n) r2) = ((s.bind fun _ r => leastR 2 256 r).bind fun x r => .ok (x : Int) r).bind fun n r => .ok (pNum n) r) := by
      show _ = _
      cases s with
      | no c => rfl
      | ok x r =>
        show (intR 205 r).bind _ = _
        rfl
    have hrd := rdleast_any (n := 2) (lo := 256) h0 (by decide) (by decide) (by decide)
    go_enter Try.func50, Try.ntmps50
    go_wp2_with fail
    refine hrd.mono ?_
    rintro ee w1 ⟨x, rfl, hx, hx0, hxn, hP, hk⟩
    have hx' : x < 65536 := hx
    have ex : IntKind.i64.wrap (x : Int) = (x : Int) := IntWalk.i64_in _ (by omega)
    have ex2 := wrap64_of x (by omega)
    have ei : in64 (x : Int) := by unfold in64; omega
    have ho := of_any (x : Int) w1
    clear hrd hx hx'
    go_wp2_with fail
    refine ho.mono ?_
    rintro ee w2 ⟨rfl, hb2⟩
    have R1 := ((hk.trans (Dk.ofBelow hb2)).blk R0 (by omega) (by omega))
    have hE := int_end (z := (x : Int)) (T := (s.bind fun _ r => leastR 2 256 r).bind fun x r => .ok (x : Int) r) ei (fun y r hy => by
      cases hT : (s.bind fun _ r => leastR 2 256 r) with
      | no c => rw [hT] at hy; cases hy
      | ok x0 r0 => rw [hT] at hy; cases hy; rw [hx0 _ _ hT]) HR.out R1 ((hP.keep hb2).cast (fun _ _ _ hh => by
      cases hT : (s.bind fun _ r => leastR 2 256 r) with
      | no c => rw [hT] at hh; exact hh
      | ok x0 r0 => rw [hT] at hh; exact hh)) ((hk0.trans hk).trans (Dk.ofBelow hb2)) hB hg1 hg2
    obtain ⟨HST, HB2, HV⟩ := hE
    clear ei ex2 ex hx0 hxn ho
    clear R0 R1 h h0 hk0 hb0 hP
    go_wp2
    exact bodyPost_ret (results_cell_row (fn := Try.f50) (by rfl) _ _ w.heap.size 26 _ (0, 0) _ (by rfl) HB2 Try.underlying26 rfl sizeV) rfl HV
  · have HR : Hid ((s.bind fun _ r => (intR 206 r).bind fun n r2 => .ok (pNum n) r2) = ((s.bind fun _ r => leastR 4 65536 r).bind fun x r => .ok (x : Int) r).bind fun n r => .ok (pNum n) r) := by
      show _ = _
      cases s with
      | no c => rfl
      | ok x r =>
        show (intR 206 r).bind _ = _
        rfl
    have hrd := rdleast_any (n := 4) (lo := 65536) h0 (by decide) (by decide) (by decide)
    go_enter Try.func50, Try.ntmps50
    go_wp2_with fail
    refine hrd.mono ?_
    rintro ee w1 ⟨x, rfl, hx, hx0, hxn, hP, hk⟩
    have hx' : x < 4294967296 := hx
    have ex : IntKind.i64.wrap (x : Int) = (x : Int) := IntWalk.i64_in _ (by omega)
    have ex2 := wrap64_of x (by omega)
    have ei : in64 (x : Int) := by unfold in64; omega
    have ho := of_any (x : Int) w1
    clear hrd hx hx'
    go_wp2_with fail
    refine ho.mono ?_
    rintro ee w2 ⟨rfl, hb2⟩
    have R1 := ((hk.trans (Dk.ofBelow hb2)).blk R0 (by omega) (by omega))
    have hE := int_end (z := (x : Int)) (T := (s.bind fun _ r => leastR 4 65536 r).bind fun x r => .ok (x : Int) r) ei (fun y r hy => by
      cases hT : (s.bind fun _ r => leastR 4 65536 r) with
      | no c => rw [hT] at hy; cases hy
      | ok x0 r0 => rw [hT] at hy; cases hy; rw [hx0 _ _ hT]) HR.out R1 ((hP.keep hb2).cast (fun _ _ _ hh => by
      cases hT : (s.bind fun _ r => leastR 4 65536 r) with
      | no c => rw [hT] at hh; exact hh
      | ok x0 r0 => rw [hT] at hh; exact hh)) ((hk0.trans hk).trans (Dk.ofBelow hb2)) hB hg1 hg2
    obtain ⟨HST, HB2, HV⟩ := hE
    clear ei ex2 ex hx0 hxn ho
    clear R0 R1 h h0 hk0 hb0 hP
    go_wp2
    exact bodyPost_ret (results_cell_row (fn := Try.f50) (by rfl) _ _ w.heap.size 26 _ (0, 0) _ (by rfl) HB2 Try.underlying26 rfl sizeV) rfl HV
  · have HR : Hid ((s.bind fun _ r => (intR 207 r).bind fun n r2 => .ok (pNum n) r2) = ((s.bind fun _ r => leastR 8 4294967296 r).bind fun x r => if 9223372036854775807 < x then (.no 4 : Rs Int) else .ok (x : Int) r).bind fun n r => .ok (pNum n) r) := by
      show _ = _
      cases s with
      | no c => rfl
      | ok x r =>
        show (intR 207 r).bind _ = _
        rfl
    have hrd := rdleast_any (n := 8) (lo := 4294967296) h0 (by decide) (by decide) (by decide)
    generalize (s.bind fun _ r => leastR 8 4294967296 r) = T at *
    go_enter Try.func50, Try.ntmps50
    go_wp2_with fail
    refine hrd.mono ?_
    rintro ee w1 ⟨x, rfl, hx, hx0, hxn, hP, hk⟩
    have hx' : x < 18446744073709551616 := hx
    have hcase : (9223372036854775807 < x ∧ (T.bind fun x r => if 9223372036854775807 < x then (.no 4 : Rs Int) else .ok (x : Int) r) = .no 4) ∨ (x ≤ 9223372036854775807 ∧ (∀ y r, (T.bind fun x r => if 9223372036854775807 < x then (.no 4 : Rs Int) else .ok (x : Int) r) = .ok y r → (x : Int) = y) ∧ ∀ l e bad, PRst T l e bad → PRst (T.bind fun x r => if 9223372036854775807 < x then (.no 4 : Rs Int) else .ok (x : Int) r) l e bad) := by
      cases T with
      | no c =>
        rcases hxn c rfl with rfl | rfl
        · rcases Nat.lt_or_ge 9223372036854775807 x with h | h
          · exact .inl ⟨h, rfl⟩
          · exact .inr ⟨h, (fun y r hy => by cases hy), fun l e bad hh => hh⟩
        · exact .inr ⟨by decide, (fun y r hy => by cases hy), fun l e bad hh => hh⟩
      | ok x0 r =>
        obtain rfl := hx0 x0 r rfl
        rcases Nat.lt_or_ge 9223372036854775807 x with h | h
        · exact .inl ⟨h, by rw [Rs.bind_ok, if_pos h]⟩
        · refine .inr ⟨h, fun y r' hy => ?_, fun l e bad hh => ?_⟩
          · rw [Rs.bind_ok, if_neg (by omega)] at hy; cases hy; rfl
          · rw [Rs.bind_ok, if_neg (by omega)]; exact hh
    clear hrd hx
    generalize (T.bind fun x r => if 9223372036854775807 < x then (.no 4 : Rs Int) else .ok (x : Int) r) = T2 at *
    rcases hcase with ⟨hbig, hT2⟩ | ⟨hsm, hy, hst⟩
    · subst hT2
      obtain ⟨hP2, hk2, f1, zz, c1⟩ := PRs.bad (β := Int) hP
      have i1 : 9223372036854775807 < (x : Int) := by omega
      have R1' := (hk.trans hk2).blk R0 (by omega) (by omega)
      generalize hW : w1.setCell ⟨gr, 1, none⟩ (.bool true) = w2 at *
      have ho := of_any (wrap64 (x : Int)) w2
      clear hbig hx' hx0 hxn
      go_wp2_with fail
      refine ho.mono ?_
      rintro ee w3 ⟨rfl, hb2⟩
      have R1 := R1'.below hb2
      have hE := int_end (z := wrap64 (x : Int)) (T := .no 4) (in64_wrap _) (fun y r hy => by cases hy) HR.out R1 (hP2.keep hb2) (((hk0.trans hk).trans hk2).trans (Dk.ofBelow hb2)) hB hg1 hg2
      obtain ⟨HST, HB2, HV⟩ := hE
      clear R1' hP2 hW f1 c1 ho
      clear R0 R1 h h0 hk0 hb0 hP
      go_wp2
      exact bodyPost_ret (results_cell_row (fn := Try.f50) (by rfl) _ _ w.heap.size 26 _ (0, 0) _ (by rfl) HB2 Try.underlying26 rfl sizeV) rfl HV
    · have i1 : ¬ 9223372036854775807 < (x : Int) := by omega
      have ex := wrap64_of x hsm
      have ei : in64 (x : Int) := by unfold in64; omega
      have ho := of_any (x : Int) w1
      clear hsm hx' hx0 hxn
      go_wp2_with fail
      refine ho.mono ?_
      rintro ee w3 ⟨rfl, hb2⟩
      have R1 := ((hk.trans (Dk.ofBelow hb2)).blk R0 (by omega) (by omega))
      have hE := int_end (z := (x : Int)) (T := T2) ei hy HR.out R1 ((hP.keep hb2).cast hst) ((hk0.trans hk).trans (Dk.ofBelow hb2)) hB hg1 hg2
      obtain ⟨HST, HB2, HV⟩ := hE
      clear ei ex hy hst ho
      clear R0 R1 h h0 hk0 hb0 hP
      go_wp2
      exact bodyPost_ret (results_cell_row (fn := Try.f50) (by rfl) _ _ w.heap.size 26 _ (0, 0) _ (by rfl) HB2 Try.underlying26 rfl sizeV) rfl HV
  · have HR : Hid ((s.bind fun _ r => (intR 208 r).bind fun n r2 => .ok (pNum n) r2) = (s.bind fun _ r => signedR 1 (-32) r).bind fun n r => .ok (pNum n) r) := by
      show _ = _
      cases s with
      | no c => rfl
      | ok x r =>
        show (intR 208 r).bind _ = _
        rfl
    have hrd := rdsigned_any (n := 1) (below := -32) h0 (by decide) (by unfold in64; decide)
    generalize (s.bind fun _ r => signedR 1 (-32) r) = T at *
    go_enter Try.func50, Try.ntmps50
    go_wp2_with fail
    refine hrd.mono ?_
    rintro ee w1 ⟨x, rfl, hx, hx0, hP, hk⟩
    have ho := of_any x w1
    clear hrd
    go_wp2_with fail
    refine ho.mono ?_
    rintro ee w2 ⟨rfl, hb2⟩
    have R1 := ((hk.trans (Dk.ofBelow hb2)).blk R0 (by omega) (by omega))
    have hE := int_end (z := x) (T := T) hx hx0 HR.out R1 (hP.keep hb2) ((hk0.trans hk).trans (Dk.ofBelow hb2)) hB hg1 hg2
    obtain ⟨HST, HB2, HV⟩ := hE
    clear hx hx0 ho
    clear R0 R1 h h0 hk0 hb0 hP
    go_wp2
    exact bodyPost_ret (results_cell_row (fn := Try.f50) (by rfl) _ _ w.heap.size 26 _ (0, 0) _ (by rfl) HB2 Try.underlying26 rfl sizeV) rfl HV
  · have HR : Hid ((s.bind fun _ r => (intR 209 r).bind fun n r2 => .ok (pNum n) r2) = (s.bind fun _ r => signedR 2 (-128) r).bind fun n r => .ok (pNum n) r) := by
      show _ = _
      cases s with
      | no c => rfl
      | ok x r =>
        show (intR 209 r).bind _ = _
        rfl
    have hrd := rdsigned_any (n := 2) (below := -128) h0 (by decide) (by unfold in64; decide)
    generalize (s.bind fun _ r => signedR 2 (-128) r) = T at *
    go_enter Try.func50, Try.ntmps50
    go_wp2_with fail
    refine hrd.mono ?_
    rintro ee w1 ⟨x, rfl, hx, hx0, hP, hk⟩
    have ho := of_any x w1
    clear hrd
    go_wp2_with fail
    refine ho.mono ?_
    rintro ee w2 ⟨rfl, hb2⟩
    have R1 := ((hk.trans (Dk.ofBelow hb2)).blk R0 (by omega) (by omega))
    have hE := int_end (z := x) (T := T) hx hx0 HR.out R1 (hP.keep hb2) ((hk0.trans hk).trans (Dk.ofBelow hb2)) hB hg1 hg2
    obtain ⟨HST, HB2, HV⟩ := hE
    clear hx hx0 ho
    clear R0 R1 h h0 hk0 hb0 hP
    go_wp2
    exact bodyPost_ret (results_cell_row (fn := Try.f50) (by rfl) _ _ w.heap.size 26 _ (0, 0) _ (by rfl) HB2 Try.underlying26 rfl sizeV) rfl HV
  · have HR : Hid ((s.bind fun _ r => (intR 210 r).bind fun n r2 => .ok (pNum n) r2) = (s.bind fun _ r => signedR 4 (-32768) r).bind fun n r => .ok (pNum n) r) := by
      show _ = _
      cases s with
      | no c => rfl
      | ok x r =>
        show (intR 210 r).bind _ = _
        rfl
    have hrd := rdsigned_any (n := 4) (below := -32768) h0 (by decide) (by unfold in64; decide)
    generalize (s.bind fun _ r => signedR 4 (-32768) r) = T at *
    go_enter Try.func50, Try.ntmps50
    go_wp2_with fail
    refine hrd.mono ?_
    rintro ee w1 ⟨x, rfl, hx, hx0, hP, hk⟩
    have ho := of_any x w1
    clear hrd
    go_wp2_with fail
    refine ho.mono ?_
    rintro ee w2 ⟨rfl, hb2⟩
    have R1 := ((hk.trans (Dk.ofBelow hb2)).blk R0 (by omega) (by omega))
    have hE := int_end (z := x) (T := T) hx hx0 HR.out R1 (hP.keep hb2) ((hk0.trans hk).trans (Dk.ofBelow hb2)) hB hg1 hg2
    obtain ⟨HST, HB2, HV⟩ := hE
    clear hx hx0 ho
    clear R0 R1 h h0 hk0 hb0 hP
    go_wp2
    exact bodyPost_ret (results_cell_row (fn := Try.f50) (by rfl) _ _ w.heap.size 26 _ (0, 0) _ (by rfl) HB2 Try.underlying26 rfl sizeV) rfl HV
  · have HR : Hid ((s.bind fun _ r => (intR 211 r).bind fun n r2 => .ok (pNum n) r2) = (s.bind fun _ r => signedR 8 (-2147483648) r).bind fun n r => .ok (pNum n) r) := by
      show _ = _
      cases s with
      | no c => rfl
      | ok x r =>
        show (intR 211 r).bind _ = _
        rfl
    have hrd := rdsigned_any (n := 8) (below := -2147483648) h0 (by decide) (by unfold in64; decide)
    generalize (s.bind fun _ r => signedR 8 (-2147483648) r) = T at *
    go_enter Try.func50, Try.ntmps50
    go_wp2_with fail
    refine hrd.mono ?_
    rintro ee w1 ⟨x, rfl, hx, hx0, hP, hk⟩
    have ho := of_any x w1
    clear hrd
    go_wp2_with fail
    refine ho.mono ?_
    rintro ee w2 ⟨rfl, hb2⟩
    have R1 := ((hk.trans (Dk.ofBelow hb2)).blk R0 (by omega) (by omega))
    have hE := int_end (z := x) (T := T) hx hx0 HR.out R1 (hP.keep hb2) ((hk0.trans hk).trans (Dk.ofBelow hb2)) hB hg1 hg2
    obtain ⟨HST, HB2, HV⟩ := hE
    clear hx hx0 ho
    clear R0 R1 h h0 hk0 hb0 hP
    go_wp2
    exact bodyPost_ret (results_cell_row (fn := Try.f50) (by rfl) _ _ w.heap.size 26 _ (0, 0) _ (by rfl) HB2 Try.underlying26 rfl sizeV) rfl HV
end Go.Proofs.Ytjdkcocfjbjopaa
