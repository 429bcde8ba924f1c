/- Joined: what one statement of this layer stands on, part 7 of 26; nothing is assumed. -/
import Derived.Deep.CutBlock
import Derived.Deep.RegionHeld3
import Derived.Test.YtpchogicdnfggaaGreatDoorKI5
import Derived.Test.YtpchogicdnfggaaGreatDoorKI6
set_option maxRecDepth 20000
namespace Go.Proofs.YtpchogicdnfggaaGreatDoor
open Go.RowKit Go.Hd

set_option maxHeartbeats 1000000 in
theorem rdleast_any {α : Type} {B gr g n lo : Nat} {w : World} {s : Rs α} (h : PRs B w gr g s) (h1n : 1 ≤ n) (h8 : n ≤ 8) (hlo : lo < 18446744073709551616) :
    Calls Tryz.prog 77 #[.pointer (some ⟨gr, 0, none⟩), .int .i64 (n : Int), .int .u64 (lo : Int)] w (NumP B gr g w (256 ^ n) (s.bind fun _ r => leastR n lo r)) := by
  have hb := rdbig_any h h1n h8
  have HR : Hid ((s.bind fun _ r => leastR n lo r) = (s.bind fun _ r => bigR n r).bind fun x r => if x < lo then .no 4 else .ok x r) := by
    show _ = _
    cases s <;> rfl
  generalize (s.bind fun _ r => bigR n r) = T at *
  generalize (s.bind fun _ r => leastR n lo r) = R at *
  have HLO := Lib.hid hlo
  clear hlo h
  go_enter Tryz.func77, Tryz.ntmps77
  go_wp2_with fail
  refine hb.mono ?_
  rintro ee w1 ⟨x, rfl, hx, hx0, hxn, hP, hk⟩
  have hf := failed_any hP
  cases T with
  | no c =>
    rw [Rs.isNo_no] at hf
    go_wp2_with fail
    refine hf.mono ?_
    rintro ee w2 ⟨rfl, rfl⟩
    go_wp2
    go_ret
    rw [HR.out]
    exact ⟨x, rfl, hx, (fun _ _ h => by cases h), (fun c h => by cases h; exact hxn _ rfl), hP.cast (fun _ _ _ hh => hh), hk⟩
  | ok x0 r =>
    obtain rfl := hx0 x0 r rfl
    rw [Rs.isNo_ok] at hf
    by_cases hlt : x < lo
    · have hlt' : (x : Int) < (lo : Int) := by omega
      obtain ⟨hP2, hk2, f1, z, c1⟩ := PRs.bad (β := Nat) hP
      have HR2 : Hid (R = .no 4) := by show _ = _; rw [HR.out, Rs.bind_ok, if_pos hlt]
      have hk3 := hk.trans hk2
      clear hlt hP hx0
      go_wp2_with fail
      refine hf.mono ?_
      rintro ee w2 ⟨rfl, rfl⟩
      go_wp2
      go_ret
      rw [HR2.out]
      exact ⟨x, rfl, hx, (fun _ _ h => by cases h), (fun c h => by cases h; exact .inl rfl), hP2, hk3⟩
    · have hlt' : ¬ (x : Int) < (lo : Int) := by omega
      have HR2 : Hid (R = .ok x r) := by show _ = _; rw [HR.out, Rs.bind_ok, if_neg hlt]
      clear hlt hx0
      go_wp2_with fail
      refine hf.mono ?_
      rintro ee w2 ⟨rfl, rfl⟩
      go_wp2
      go_ret
      rw [HR2.out]
      exact ⟨x, rfl, hx, (fun _ _ h => by cases h; rfl), (fun c h => by cases h), hP, hk⟩
theorem sext_1 (x : Nat) (h : x < 256 ^ 1) : wrap64 ((x : Int) * 72057594037927936) / 72057594037927936 = sext 1 x := by
  have h2 : x < 256 := h
  unfold wrap64 sext
  simp only [Nat.reduceMul, Nat.reduceSub, Nat.reducePow, Int.reducePow]
  split <;> omega
theorem sext_in1 (x : Nat) (h : x < 256 ^ 1) : in64 (sext 1 x) := by
  have h2 : x < 256 := h
  unfold in64 sext
  simp only [Nat.reduceMul, Nat.reduceSub, Nat.reducePow, Int.reducePow]
  split <;> omega
theorem sext_2 (x : Nat) (h : x < 256 ^ 2) : wrap64 ((x : Int) * 281474976710656) / 281474976710656 = sext 2 x := by
  have h2 : x < 65536 := h
  unfold wrap64 sext
  simp only [Nat.reduceMul, Nat.reduceSub, Nat.reducePow, Int.reducePow]
  split <;> omega
theorem sext_in2 (x : Nat) (h : x < 256 ^ 2) : in64 (sext 2 x) := by
  have h2 : x < 65536 := h
  unfold in64 sext
  simp only [Nat.reduceMul, Nat.reduceSub, Nat.reducePow, Int.reducePow]
  split <;> omega
theorem sext_4 (x : Nat) (h : x < 256 ^ 4) : wrap64 ((x : Int) * 4294967296) / 4294967296 = sext 4 x := by
  have h2 : x < 4294967296 := h
  unfold wrap64 sext
  simp only [Nat.reduceMul, Nat.reduceSub, Nat.reducePow, Int.reducePow]
  split <;> omega
theorem sext_in4 (x : Nat) (h : x < 256 ^ 4) : in64 (sext 4 x) := by
  have h2 : x < 4294967296 := h
  unfold in64 sext
  simp only [Nat.reduceMul, Nat.reduceSub, Nat.reducePow, Int.reducePow]
  split <;> omega
theorem sext_8 (x : Nat) (h : x < 256 ^ 8) : wrap64 (x : Int) = sext 8 x := by
  have h2 : x < 18446744073709551616 := h
  unfold wrap64 sext
  simp only [Nat.reduceMul, Nat.reduceSub, Nat.reducePow, Int.reducePow]
  split <;> omega
theorem sext_in8 (x : Nat) (h : x < 256 ^ 8) : in64 (sext 8 x) := by
  have h2 : x < 18446744073709551616 := h
  unfold in64 sext
  simp only [Nat.reduceMul, Nat.reduceSub, Nat.reducePow, Int.reducePow]
  split <;> omega
/-- What a reading of a signed number answers. -/
def SgnP (B gr g : Nat) (w : World) (R : Rs Int) (e : Ending) (w' : World) : Prop :=
  ∃ x : Int, e = .returned (.int .i64 x) ∧ in64 x ∧ (∀ x0 r, R = .ok x0 r → x = x0) ∧ PRs B w' gr g R ∧ Dk gr g w w'
set_option maxHeartbeats 1000000 in
theorem rdsigned_any {α : Type} {B gr g n : Nat} {below : Int} {w : World} {s : Rs α} (h : PRs B w gr g s) (hn : n = 1 ∨ n = 2 ∨ n = 4 ∨ n = 8) (hbl : in64 below) :
    Calls Tryz.prog 100 #[.pointer (some ⟨gr, 0, none⟩), .int .i64 (n : Int), .int .i64 below] w (SgnP B gr g w (s.bind fun _ r => signedR n below r)) := by
  have hb := rdbig_any h (n := n) (by omega) (by omega)
  have HR : Hid ((s.bind fun _ r => signedR n below r) = (s.bind fun _ r => bigR n r).bind fun u r => if below ≤ sext n u then .no 4 else .ok (sext n u) r) := by
    show _ = _
    cases s <;> rfl
  generalize (s.bind fun _ r => bigR n r) = T at *
  generalize (s.bind fun _ r => signedR n below r) = R at *
  clear h
  rcases hn with rfl | rfl | rfl | rfl
  · go_enter Tryz.func100, Tryz.ntmps100
    go_wp2_with fail
    refine hb.mono ?_
    rintro ee w1 ⟨x, rfl, hx, hx0, hxn, hP, hk⟩
    have HS := Lib.hid (sext_1 x hx)
    have HI := Lib.hid (sext_in1 x hx)
    have hf := failed_any hP
    cases T with
    | no c =>
      rw [Rs.isNo_no] at hf
      go_wp2_with fail
      refine hf.mono ?_
      rintro ee w2 ⟨rfl, rfl⟩
      go_wp2
      go_ret
      rw [HR.out]
      exact ⟨_, rfl, by rw [HS.out]; exact HI.out, (fun _ _ h => by cases h), hP.cast (fun _ _ _ hh => hh), hk⟩
    | ok x0 r =>
      obtain rfl := hx0 x0 r rfl
      rw [Rs.isNo_ok] at hf
      by_cases hlt : below ≤ sext 1 x
      · have hlt' := hlt
        rw [← HS.out] at hlt'
        obtain ⟨hP2, hk2, f1, z, c1⟩ := PRs.bad (β := Int) hP
        have HR2 : Hid (R = .no 4) := by show _ = _; rw [HR.out, Rs.bind_ok, if_pos hlt]
        have hk3 := hk.trans hk2
        clear hlt hP hx0
        go_wp2_with fail
        refine hf.mono ?_
        rintro ee w2 ⟨rfl, rfl⟩
        go_wp2
        go_ret
        rw [HR2.out]
        exact ⟨_, rfl, by rw [HS.out]; exact HI.out, (fun _ _ h => by cases h), hP2, hk3⟩
      · have hlt' := hlt
        rw [← HS.out] at hlt'
        have HR2 : Hid (R = .ok (sext 1 x) r) := by show _ = _; rw [HR.out, Rs.bind_ok, if_neg hlt]
        clear hlt hx0
        go_wp2_with fail
        refine hf.mono ?_
        rintro ee w2 ⟨rfl, rfl⟩
        go_wp2
        go_ret
        rw [HR2.out]
        exact ⟨_, rfl, by rw [HS.out]; exact HI.out, (fun _ _ h => by cases h; exact HS.out), hP.cast (fun _ _ _ hh => hh), hk⟩
  · go_enter Tryz.func100, Tryz.ntmps100
    go_wp2_with fail
    refine hb.mono ?_
    rintro ee w1 ⟨x, rfl, hx, hx0, hxn, hP, hk⟩
    have HS := Lib.hid (sext_2 x hx)
    have HI := Lib.hid (sext_in2 x hx)
    have hf := failed_any hP
    cases T with
    | no c =>
      rw [Rs.isNo_no] at hf
      go_wp2_with fail
      refine hf.mono ?_
      rintro ee w2 ⟨rfl, rfl⟩
      go_wp2
      go_ret
      rw [HR.out]
      exact ⟨_, rfl, by rw [HS.out]; exact HI.out, (fun _ _ h => by cases h), hP.cast (fun _ _ _ hh => hh), hk⟩
    | ok x0 r =>
      obtain rfl := hx0 x0 r rfl
      rw [Rs.isNo_ok] at hf
      by_cases hlt : below ≤ sext 2 x
      · have hlt' := hlt
        rw [← HS.out] at hlt'
        obtain ⟨hP2, hk2, f1, z, c1⟩ := PRs.bad (β := Int) hP
        have HR2 : Hid (R = .no 4) := by show _ = _; rw [HR.out, Rs.bind_ok, if_pos hlt]
        have hk3 := hk.trans hk2
        clear hlt hP hx0
        go_wp2_with fail
        refine hf.mono ?_
        rintro ee w2 ⟨rfl, rfl⟩
        go_wp2
        go_ret
        rw [HR2.out]
        exact ⟨_, rfl, by rw [HS.out]; exact HI.out, (fun _ _ h => by cases h), hP2, hk3⟩
      · have hlt' := hlt
        rw [← HS.out] at hlt'
        have HR2 : Hid (R = .ok (sext 2 x) r) := by show _ = _; rw [HR.out, Rs.bind_ok, if_neg hlt]
        clear hlt hx0
        go_wp2_with fail
        refine hf.mono ?_
        rintro ee w2 ⟨rfl, rfl⟩
        go_wp2
        go_ret
        rw [HR2.out]
        exact ⟨_, rfl, by rw [HS.out]; exact HI.out, (fun _ _ h => by cases h; exact HS.out), hP.cast (fun _ _ _ hh => hh), hk⟩
  · go_enter Tryz.func100, Tryz.ntmps100
    go_wp2_with fail
    refine hb.mono ?_
    rintro ee w1 ⟨x, rfl, hx, hx0, hxn, hP, hk⟩
    have HS := Lib.hid (sext_4 x hx)
    have HI := Lib.hid (sext_in4 x hx)
    have hf := failed_any hP
    cases T with
    | no c =>
      rw [Rs.isNo_no] at hf
      go_wp2_with fail
      refine hf.mono ?_
      rintro ee w2 ⟨rfl, rfl⟩
      go_wp2
      go_ret
      rw [HR.out]
      exact ⟨_, rfl, by rw [HS.out]; exact HI.out, (fun _ _ h => by cases h), hP.cast (fun _ _ _ hh => hh), hk⟩
    | ok x0 r =>
      obtain rfl := hx0 x0 r rfl
      rw [Rs.isNo_ok] at hf
      by_cases hlt : below ≤ sext 4 x
      · have hlt' := hlt
        rw [← HS.out] at hlt'
        obtain ⟨hP2, hk2, f1, z, c1⟩ := PRs.bad (β := Int) hP
        have HR2 : Hid (R = .no 4) := by show _ = _; rw [HR.out, Rs.bind_ok, if_pos hlt]
        have hk3 := hk.trans hk2
        clear hlt hP hx0
        go_wp2_with fail
        refine hf.mono ?_
        rintro ee w2 ⟨rfl, rfl⟩
        go_wp2
        go_ret
        rw [HR2.out]
        exact ⟨_, rfl, by rw [HS.out]; exact HI.out, (fun _ _ h => by cases h), hP2, hk3⟩
      · have hlt' := hlt
        rw [← HS.out] at hlt'
        have HR2 : Hid (R = .ok (sext 4 x) r) := by show _ = _; rw [HR.out, Rs.bind_ok, if_neg hlt]
        clear hlt hx0
        go_wp2_with fail
        refine hf.mono ?_
        rintro ee w2 ⟨rfl, rfl⟩
        go_wp2
        go_ret
        rw [HR2.out]
        exact ⟨_, rfl, by rw [HS.out]; exact HI.out, (fun _ _ h => by cases h; exact HS.out), hP.cast (fun _ _ _ hh => hh), hk⟩
  · go_enter Tryz.func100, Tryz.ntmps100
    go_wp2_with fail
    refine hb.mono ?_
    rintro ee w1 ⟨x, rfl, hx, hx0, hxn, hP, hk⟩
    have HS := Lib.hid (sext_8 x hx)
    have HI := Lib.hid (sext_in8 x hx)
    have hf := failed_any hP
    cases T with
    | no c =>
      rw [Rs.isNo_no] at hf
      go_wp2_with fail
      refine hf.mono ?_
      rintro ee w2 ⟨rfl, rfl⟩
      go_wp2
      go_ret
      rw [HR.out]
      exact ⟨_, rfl, by rw [HS.out]; exact HI.out, (fun _ _ h => by cases h), hP.cast (fun _ _ _ hh => hh), hk⟩
    | ok x0 r =>
      obtain rfl := hx0 x0 r rfl
      rw [Rs.isNo_ok] at hf
      by_cases hlt : below ≤ sext 8 x
      · have hlt' := hlt
        rw [← HS.out] at hlt'
        obtain ⟨hP2, hk2, f1, z, c1⟩ := PRs.bad (β := Int) hP
        have HR2 : Hid (R = .no 4) := by show _ = _; rw [HR.out, Rs.bind_ok, if_pos hlt]
        have hk3 := hk.trans hk2
        clear hlt hP hx0
        go_wp2_with fail
        refine hf.mono ?_
        rintro ee w2 ⟨rfl, rfl⟩
        go_wp2
        go_ret
        rw [HR2.out]
        exact ⟨_, rfl, by rw [HS.out]; exact HI.out, (fun _ _ h => by cases h), hP2, hk3⟩
      · have hlt' := hlt
        rw [← HS.out] at hlt'
        have HR2 : Hid (R = .ok (sext 8 x) r) := by show _ = _; rw [HR.out, Rs.bind_ok, if_neg hlt]
        clear hlt hx0
        go_wp2_with fail
        refine hf.mono ?_
        rintro ee w2 ⟨rfl, rfl⟩
        go_wp2
        go_ret
        rw [HR2.out]
        exact ⟨_, rfl, by rw [HS.out]; exact HI.out, (fun _ _ h => by cases h; exact HS.out), hP.cast (fun _ _ _ hh => hh), hk⟩
end Go.Proofs.YtpchogicdnfggaaGreatDoor
set_option maxRecDepth 20000
namespace Go.Proofs.YtpchogicdnfggaaGreatDoor
open Go.RowKit Go.Hd
attribute [local go_sem ↓] h_ldV h_stV h_alV
attribute [local go_sem] r_ldV r_stV r_alV

/-- What a reading of a value answers. -/
def ValP (B gr g : Nat) (w : World) (R : Rs PV) (e : Ending) (w' : World) : Prop :=
  ∃ cs v, e = .returned (.agg (List.toArray cs)) ∧ VAtP (fun b => w.heap.size ≤ b) w' cs v ∧ (∀ v0 r, R = .ok v0 r → v = v0) ∧ PRs B w' gr g R ∧ Dk gr g w w'
theorem Dk.blk {gr g q : Nat} {w w' : World} {T : TypeId} {xs : List Value} (h : Dk gr g w w') (hb : Blk w q T xs) (h1 : q ≠ gr) (h2 : q ≠ g) : Blk w' q T xs := by
  have := hb.lt
  unfold Blk at *; rw [h.block q this h1 h2]; exact hb
/-- The result's cell is written. -/
theorem cell_end {B gr g q : Nat} {w w2 : World} {cs old : List Value} {v : PV} {α : Type} {R : Rs α} (hres : Blk w2 q 50 old) (ho : old.length = 6) (hP : PRs B w2 gr g R) (hk : Dk gr g w w2) (hv : VAtP (fun b => w.heap.size ≤ b ∧ b ≠ q) w2 cs v) (hB : B ≤ q) (hq : w.heap.size ≤ q) (h1 : q ≠ gr) (h2 : q ≠ g) :
    (stoOp 50 (.pointer (some ⟨q, 0, none⟩)) (.agg (List.toArray cs))).run Tryz.prog w2 = .ok () (w2.setRow q (List.toArray cs)) ∧ Blk (w2.setRow q (List.toArray cs)) q 50 cs ∧ VAtP (fun b => w.heap.size ≤ b) (w2.setRow q (List.toArray cs)) cs v ∧ PRs B (w2.setRow q (List.toArray cs)) gr g R ∧ Dk gr g w (w2.setRow q (List.toArray cs)) := by
  have hg := setRow_gr w2 q (List.toArray cs)
  refine ⟨st_row hres ho _ hv.len (all_oneCell_toArray hv.one), setRow_blk hres cs, ?_, hP.far hg (fun k hk => by cases hk; exact ⟨hB, h2, h1⟩), ?_⟩
  · exact (hv.same (w' := w2.setRow q _) (fun z hz hlt => hg.block z hlt (by have := hz.2; simp; omega))).mono (fun z hz _ => hz.1)
  · exact ⟨hk.os, hk.tape, hk.output, by simp; exact hk.size, fun i hi g1 g2 => (hg.block i (by have := hk.size; omega) (by simp; omega)).trans (hk.block i hi g1 g2)⟩
theorem VAtP.num {ok : Nat → Prop} (w : World) {n : Int} (h : in64 n) : VAtP ok w (numC n) (pNum n) :=
  .mk (b := []) (t := []) (ks := []) (l := []) [] (by unfold in64; omega) h (Row.nil _ _) ⟨Nat.le_refl _, Nat.zero_le _⟩ (Nat.zero_le _) (Row.nil _ _) ⟨Nat.le_refl _, Nat.zero_le _⟩ (by simp) (Row.nil _ _) ⟨Nat.le_refl _, Nat.zero_le _⟩ rfl (by simp) (by simp) (by simp) (by simp) (by simp)
theorem wrap64_of (x : Nat) (h : x ≤ 9223372036854775807) : wrap64 (x : Int) = (x : Int) := by unfold wrap64; omega
theorem in64_wrap (x : Int) : in64 (wrap64 x) := by unfold in64 wrap64; omega
/-- What a number that was read is as a value. -/
theorem int_end {B gr g : Nat} {w w2 : World} {z : Int} {T : Rs Int} {R : Rs PV} (hz : in64 z) (hzx : ∀ x r, T = .ok x r → z = x) (hR : R = T.bind fun n r => .ok (pNum n) r) (hres : Blk w2 w.heap.size 50 zV.toList) (hP : PRs B w2 gr g T) (hk : Dk gr g w w2) (hB : B ≤ w.heap.size) (h1 : gr < w.heap.size) (h2 : g < w.heap.size) :
    (stoOp 50 (.pointer (some ⟨w.heap.size, 0, none⟩)) (.agg (List.toArray (numC z)))).run Tryz.prog w2 = .ok () (w2.setRow w.heap.size (List.toArray (numC z))) ∧ Blk (w2.setRow w.heap.size (List.toArray (numC z))) w.heap.size 50 (numC z) ∧
      ValP B gr g w R (.returned (.agg (List.toArray (numC z)))) (w2.setRow w.heap.size (List.toArray (numC z))) := by
  obtain ⟨a1, a2, a3, a4, a5⟩ := cell_end (R := T) hres (by rfl) hP hk (VAtP.num w2 hz) hB (Nat.le_refl _) (by omega) (by omega)
  refine ⟨a1, a2, _, _, rfl, a3, fun v0 r hv => ?_, ?_, a5⟩
  · rw [hR] at hv
    cases T with
    | no c => cases hv
    | ok x r' => cases hv; rw [hzx _ _ rfl]
  · rw [hR]
    refine a4.cast (fun _ _ _ hh => ?_)
    cases T <;> exact hh

set_option maxHeartbeats 4000000 in
theorem rdinteger_any {α : Type} {B gr g : Nat} {w : World} {s : Rs α} {c : Nat} (h : PRs B w gr g s) (hc : 0xcc ≤ c ∧ c ≤ 0xd3) (hB : B ≤ w.heap.size) :
    Calls Tryz.prog 75 #[.pointer (some ⟨gr, 0, none⟩), .int .u8 (c : Int)] w (ValP B gr g w (s.bind fun _ r => (intR c r).bind fun n r2 => .ok (pNum n) r2)) := by
  have hlt := h.lt
  obtain ⟨hg1, hg2⟩ := hlt
  have zs := zV_size
  have hb0 : Below w.heap.size w (w.alloc (.cells zV 50)) := (Below.refl _ _).alloc (Nat.le_refl _) _
  have R0 : Blk (w.alloc (.cells zV 50)) w.heap.size 50 zV.toList := Blk.new _ _ _
  have h0 := h.keep hb0
  have hk0 : Dk gr g w (w.alloc (.cells zV 50)) := Dk.ofBelow hb0
  rcases (by omega : c = 0xcc ∨ c = 0xcd ∨ c = 0xce ∨ c = 0xcf ∨ c = 0xd0 ∨ c = 0xd1 ∨ c = 0xd2 ∨ c = 0xd3) with rfl | rfl | rfl | rfl | rfl | rfl | rfl | rfl
  · have HR : Hid ((s.bind fun _ r => (intR 204 r).bind fun n r2 => .ok (pNum n) r2) = ((s.bind fun _ r => leastR 1 128 r).bind fun x r => .ok (x : Int) r).bind fun n r => .ok (pNum n) r) := by
      show _ = _
      cases s with
      | no c => rfl
      | ok x r =>
        show (intR 204 r).bind _ = _
        rfl
    have hrd := rdleast_any (n := 1) (lo := 128) h0 (by decide) (by decide) (by decide)
    go_enter Tryz.func75, Tryz.ntmps75
    go_wp2_with fail
    refine hrd.mono ?_
    rintro ee w1 ⟨x, rfl, hx, hx0, hxn, hP, hk⟩
    have hx' : x < 256 := hx
    have ex : IntKind.i64.wrap (x : Int) = (x : Int) := IntWalk.i64_in _ (by omega)
    have ex2 := wrap64_of x (by omega)
    have ei : in64 (x : Int) := by unfold in64; omega
    have ho := of_any (x : Int) w1
    clear hrd hx hx'
    go_wp2_with fail
    refine ho.mono ?_
    rintro ee w2 ⟨rfl, hb2⟩
    have R1 := ((hk.trans (Dk.ofBelow hb2)).blk R0 (by omega) (by omega))
    have hE := int_end (z := (x : Int)) (T := (s.bind fun _ r => leastR 1 128 r).bind fun x r => .ok (x : Int) r) ei (fun y r hy => by
      cases hT : (s.bind fun _ r => leastR 1 128 r) with
      | no c => rw [hT] at hy; cases hy
      | ok x0 r0 => rw [hT] at hy; cases hy; rw [hx0 _ _ hT]) HR.out R1 ((hP.keep hb2).cast (fun _ _ _ hh => by
      cases hT : (s.bind fun _ r => leastR 1 128 r) with
      | no c => rw [hT] at hh; exact hh
      | ok x0 r0 => rw [hT] at hh; exact hh)) ((hk0.trans hk).trans (Dk.ofBelow hb2)) hB hg1 hg2
    obtain ⟨HST, HB2, HV⟩ := hE
    clear ei ex2 ex hx0 hxn ho
    clear R0 R1 h h0 hk0 hb0 hP
    go_wp2
    exact bodyPost_ret (results_cell_row (fn := Tryz.f75) (by rfl) _ _ w.heap.size 50 _ (0, 0) _ (by rfl) HB2 Tryz.underlying50 rfl sizeV) rfl HV
  · have HR : Hid ((s.bind fun _ r => (intR 205 r).bind fun n r2 => .ok (pNum n) r2) = ((s.bind fun _ r => leastR 2 256 r).bind fun x r => .ok (x : Int) r).bind fun n r => .ok (pNum n) r) := by
      show _ = _
      cases s with
      | no c => rfl
      | ok x r =>
        show (intR 205 r).bind _ = _
        rfl
    have hrd := rdleast_any (n := 2) (lo := 256) h0 (by decide) (by decide) (by decide)
    go_enter Tryz.func75, Tryz.ntmps75
    go_wp2_with fail
    refine hrd.mono ?_
    rintro ee w1 ⟨x, rfl, hx, hx0, hxn, hP, hk⟩
    have hx' : x < 65536 := hx
    have ex : IntKind.i64.wrap (x : Int) = (x : Int) := IntWalk.i64_in _ (by omega)
    have ex2 := wrap64_of x (by omega)
    have ei : in64 (x : Int) := by unfold in64; omega
    have ho := of_any (x : Int) w1
    clear hrd hx hx'
    go_wp2_with fail
    refine ho.mono ?_
    rintro ee w2 ⟨rfl, hb2⟩
    have R1 := ((hk.trans (Dk.ofBelow hb2)).blk R0 (by omega) (by omega))
    have hE := int_end (z := (x : Int)) (T := (s.bind fun _ r => leastR 2 256 r).bind fun x r => .ok (x : Int) r) ei (fun y r hy => by
      cases hT : (s.bind fun _ r => leastR 2 256 r) with
      | no c => rw [hT] at hy; cases hy
      | ok x0 r0 => rw [hT] at hy; cases hy; rw [hx0 _ _ hT]) HR.out R1 ((hP.keep hb2).cast (fun _ _ _ hh => by
      cases hT : (s.bind fun _ r => leastR 2 256 r) with
      | no c => rw [hT] at hh; exact hh
      | ok x0 r0 => rw [hT] at hh; exact hh)) ((hk0.trans hk).trans (Dk.ofBelow hb2)) hB hg1 hg2
    obtain ⟨HST, HB2, HV⟩ := hE
    clear ei ex2 ex hx0 hxn ho
    clear R0 R1 h h0 hk0 hb0 hP
    go_wp2
    exact bodyPost_ret (results_cell_row (fn := Tryz.f75) (by rfl) _ _ w.heap.size 50 _ (0, 0) _ (by rfl) HB2 Tryz.underlying50 rfl sizeV) rfl HV
  · have HR : Hid ((s.bind fun _ r => (intR 206 r).bind fun n r2 => .ok (pNum n) r2) = ((s.bind fun _ r => leastR 4 65536 r).bind fun x r => .ok (x : Int) r).bind fun n r => .ok (pNum n) r) := by
      show _ = _
      cases s with
      | no c => rfl
      | ok x r =>
        show (intR 206 r).bind _ = _
        rfl
    have hrd := rdleast_any (n := 4) (lo := 65536) h0 (by decide) (by decide) (by decide)
    go_enter Tryz.func75, Tryz.ntmps75
    go_wp2_with fail
    refine hrd.mono ?_
    rintro ee w1 ⟨x, rfl, hx, hx0, hxn, hP, hk⟩
    have hx' : x < 4294967296 := hx
    have ex : IntKind.i64.wrap (x : Int) = (x : Int) := IntWalk.i64_in _ (by omega)
    have ex2 := wrap64_of x (by omega)
    have ei : in64 (x : Int) := by unfold in64; omega
    have ho := of_any (x : Int) w1
    clear hrd hx hx'
    go_wp2_with fail
    refine ho.mono ?_
    rintro ee w2 ⟨rfl, hb2⟩
    have R1 := ((hk.trans (Dk.ofBelow hb2)).blk R0 (by omega) (by omega))
    have hE := int_end (z := (x : Int)) (T := (s.bind fun _ r => leastR 4 65536 r).bind fun x r => .ok (x : Int) r) ei (fun y r hy => by
      cases hT : (s.bind fun _ r => leastR 4 65536 r) with
      | no c => rw [hT] at hy; cases hy
      | ok x0 r0 => rw [hT] at hy; cases hy; rw [hx0 _ _ hT]) HR.out R1 ((hP.keep hb2).cast (fun _ _ _ hh => by
      cases hT : (s.bind fun _ r => leastR 4 65536 r) with
      | no c => rw [hT] at hh; exact hh
      | ok x0 r0 => rw [hT] at hh; exact hh)) ((hk0.trans hk).trans (Dk.ofBelow hb2)) hB hg1 hg2
    obtain ⟨HST, HB2, HV⟩ := hE
    clear ei ex2 ex hx0 hxn ho
    clear R0 R1 h h0 hk0 hb0 hP
    go_wp2
    exact bodyPost_ret (results_cell_row (fn := Tryz.f75) (by rfl) _ _ w.heap.size 50 _ (0, 0) _ (by rfl) HB2 Tryz.underlying50 rfl sizeV) rfl HV
  · have HR : Hid ((s.bind fun _ r => (intR 207 r).bind fun n r2 => .ok (pNum n) r2) = ((s.bind fun _ r => leastR 8 4294967296 r).bind fun x r => if 9223372036854775807 < x then (.no 4 : Rs Int) else .ok (x : Int) r).bind fun n r => .ok (pNum n) r) := by
      show _ = _
      cases s with
      | no c => rfl
      | ok x r =>
        show (intR 207 r).bind _ = _
        rfl
    have hrd := rdleast_any (n := 8) (lo := 4294967296) h0 (by decide) (by decide) (by decide)
    generalize (s.bind fun _ r => leastR 8 4294967296 r) = T at *
    go_enter Tryz.func75, Tryz.ntmps75
    go_wp2_with fail
    refine hrd.mono ?_
    rintro ee w1 ⟨x, rfl, hx, hx0, hxn, hP, hk⟩
    have hx' : x < 18446744073709551616 := hx
    have hcase : (9223372036854775807 < x ∧ (T.bind fun x r => if 9223372036854775807 < x then (.no 4 : Rs Int) else .ok (x : Int) r) = .no 4) ∨ (x ≤ 9223372036854775807 ∧ (∀ y r, (T.bind fun x r => if 9223372036854775807 < x then (.no 4 : Rs Int) else .ok (x : Int) r) = .ok y r → (x : Int) = y) ∧ ∀ l e bad, PRst T l e bad → PRst (T.bind fun x r => if 9223372036854775807 < x then (.no 4 : Rs Int) else .ok (x : Int) r) l e bad) := by
      cases T with
      | no c =>
        rcases hxn c rfl with rfl | rfl
        · rcases Nat.lt_or_ge 9223372036854775807 x with h | h
          · exact .inl ⟨h, rfl⟩
          · exact .inr ⟨h, (fun y r hy => by cases hy), fun l e bad hh => hh⟩
        · exact .inr ⟨by decide, (fun y r hy => by cases hy), fun l e bad hh => hh⟩
      | ok x0 r =>
        obtain rfl := hx0 x0 r rfl
        rcases Nat.lt_or_ge 9223372036854775807 x with h | h
        · exact .inl ⟨h, by rw [Rs.bind_ok, if_pos h]⟩
        · refine .inr ⟨h, fun y r' hy => ?_, fun l e bad hh => ?_⟩
          · rw [Rs.bind_ok, if_neg (by omega)] at hy; cases hy; rfl
          · rw [Rs.bind_ok, if_neg (by omega)]; exact hh
    clear hrd hx
    generalize (T.bind fun x r => if 9223372036854775807 < x then (.no 4 : Rs Int) else .ok (x : Int) r) = T2 at *
    rcases hcase with ⟨hbig, hT2⟩ | ⟨hsm, hy, hst⟩
    · subst hT2
      obtain ⟨hP2, hk2, f1, zz, c1⟩ := PRs.bad (β := Int) hP
      have i1 : 9223372036854775807 < (x : Int) := by omega
      have R1' := (hk.trans hk2).blk R0 (by omega) (by omega)
      generalize hW : w1.setCell ⟨gr, 1, none⟩ (.bool true) = w2 at *
      have ho := of_any (wrap64 (x : Int)) w2
      clear hbig hx' hx0 hxn
      go_wp2_with fail
      refine ho.mono ?_
      rintro ee w3 ⟨rfl, hb2⟩
      have R1 := R1'.below hb2
      have hE := int_end (z := wrap64 (x : Int)) (T := .no 4) (in64_wrap _) (fun y r hy => by cases hy) HR.out R1 (hP2.keep hb2) (((hk0.trans hk).trans hk2).trans (Dk.ofBelow hb2)) hB hg1 hg2
      obtain ⟨HST, HB2, HV⟩ := hE
      clear R1' hP2 hW f1 c1 ho
      clear R0 R1 h h0 hk0 hb0 hP
      go_wp2
      exact bodyPost_ret (results_cell_row (fn := Tryz.f75) (by rfl) _ _ w.heap.size 50 _ (0, 0) _ (by rfl) HB2 Tryz.underlying50 rfl sizeV) rfl HV
    · have i1 : ¬ 9223372036854775807 < (x : Int) := by omega
      have ex := wrap64_of x hsm
      have ei : in64 (x : Int) := by unfold in64; omega
      have ho := of_any (x : Int) w1
      clear hsm hx' hx0 hxn
      go_wp2_with fail
      refine ho.mono ?_
      rintro ee w3 ⟨rfl, hb2⟩
      have R1 := ((hk.trans (Dk.ofBelow hb2)).blk R0 (by omega) (by omega))
      have hE := int_end (z := (x : Int)) (T := T2) ei hy HR.out R1 ((hP.keep hb2).cast hst) ((hk0.trans hk).trans (Dk.ofBelow hb2)) hB hg1 hg2
      obtain ⟨HST, HB2, HV⟩ := hE
      clear ei ex hy hst ho
      clear R0 R1 h h0 hk0 hb0 hP
      go_wp2
      exact bodyPost_ret (results_cell_row (fn := Tryz.f75) (by rfl) _ _ w.heap.size 50 _ (0, 0) _ (by rfl) HB2 Tryz.underlying50 rfl sizeV) rfl HV
  · have HR : Hid ((s.bind fun _ r => (intR 208 r).bind fun n r2 => .ok (pNum n) r2) = (s.bind fun _ r => signedR 1 (-32) r).bind fun n r => .ok (pNum n) r) := by
      show _ = _
      cases s with
      | no c => rfl
      | ok x r =>
        show (intR 208 r).bind _ = _
        rfl
    have hrd := rdsigned_any (n := 1) (below := -32) h0 (by decide) (by unfold in64; decide)
    generalize (s.bind fun _ r => signedR 1 (-32) r) = T at *
    go_enter Tryz.func75, Tryz.ntmps75
    go_wp2_with fail
    refine hrd.mono ?_
    rintro ee w1 ⟨x, rfl, hx, hx0, hP, hk⟩
    have ho := of_any x w1
    clear hrd
    go_wp2_with fail
    refine ho.mono ?_
    rintro ee w2 ⟨rfl, hb2⟩
    have R1 := ((hk.trans (Dk.ofBelow hb2)).blk R0 (by omega) (by omega))
    have hE := int_end (z := x) (T := T) hx hx0 HR.out R1 (hP.keep hb2) ((hk0.trans hk).trans (Dk.ofBelow hb2)) hB hg1 hg2
    obtain ⟨HST, HB2, HV⟩ := hE
    clear hx hx0 ho
    clear R0 R1 h h0 hk0 hb0 hP
    go_wp2
    exact bodyPost_ret (results_cell_row (fn := Tryz.f75) (by rfl) _ _ w.heap.size 50 _ (0, 0) _ (by rfl) HB2 Tryz.underlying50 rfl sizeV) rfl HV
  · have HR : Hid ((s.bind fun _ r => (intR 209 r).bind fun n r2 => .ok (pNum n) r2) = (s.bind fun _ r => signedR 2 (-128) r).bind fun n r => .ok (pNum n) r) := by
      show _ = _
      cases s with
      | no c => rfl
      | ok x r =>
        show (intR 209 r).bind _ = _
        rfl
    have hrd := rdsigned_any (n := 2) (below := -128) h0 (by decide) (by unfold in64; decide)
    generalize (s.bind fun _ r => signedR 2 (-128) r) = T at *
    go_enter Tryz.func75, Tryz.ntmps75
    go_wp2_with fail
    refine hrd.mono ?_
    rintro ee w1 ⟨x, rfl, hx, hx0, hP, hk⟩
    have ho := of_any x w1
    clear hrd
    go_wp2_with fail
    refine ho.mono ?_
    rintro ee w2 ⟨rfl, hb2⟩
    have R1 := ((hk.trans (Dk.ofBelow hb2)).blk R0 (by omega) (by omega))
    have hE := int_end (z := x) (T := T) hx hx0 HR.out R1 (hP.keep hb2) ((hk0.trans hk).trans (Dk.ofBelow hb2)) hB hg1 hg2
    obtain ⟨HST, HB2, HV⟩ := hE
    clear hx hx0 ho
    clear R0 R1 h h0 hk0 hb0 hP
    go_wp2
    exact bodyPost_ret (results_cell_row (fn := Tryz.f75) (by rfl) _ _ w.heap.size 50 _ (0, 0) _ (by rfl) HB2 Tryz.underlying50 rfl sizeV) rfl HV
  · have HR : Hid ((s.bind fun _ r => (intR 210 r).bind fun n r2 => .ok (pNum n) r2) = (s.bind fun _ r => signedR 4 (-32768) r).bind fun n r => .ok (pNum n) r) := by
      show _ = _
      cases s with
      | no c => rfl
      | ok x r =>
        show (intR 210 r).bind _ = _
        rfl
    have hrd := rdsigned_any (n := 4) (below := -32768) h0 (by decide) (by unfold in64; decide)
    generalize (s.bind fun _ r => signedR 4 (-32768) r) = T at *
    go_enter Tryz.func75, Tryz.ntmps75
    go_wp2_with fail
    refine hrd.mono ?_
    rintro ee w1 ⟨x, rfl, hx, hx0, hP, hk⟩
    have ho := of_any x w1
    clear hrd
    go_wp2_with fail
    refine ho.mono ?_
    rintro ee w2 ⟨rfl, hb2⟩
    have R1 := ((hk.trans (Dk.ofBelow hb2)).blk R0 (by omega) (by omega))
    have hE := int_end (z := x) (T := T) hx hx0 HR.out R1 (hP.keep hb2) ((hk0.trans hk).trans (Dk.ofBelow hb2)) hB hg1 hg2
    obtain ⟨HST, HB2, HV⟩ := hE
    clear hx hx0 ho
    clear R0 R1 h h0 hk0 hb0 hP
    go_wp2
    exact bodyPost_ret (results_cell_row (fn := Tryz.f75) (by rfl) _ _ w.heap.size 50 _ (0, 0) _ (by rfl) HB2 Tryz.underlying50 rfl sizeV) rfl HV
  · have HR : Hid ((s.bind fun _ r => (intR 211 r).bind fun n r2 => .ok (pNum n) r2) = (s.bind fun _ r => signedR 8 (-2147483648) r).bind fun n r => .ok (pNum n) r) := by
      show _ = _
      cases s with
      | no c => rfl
      | ok x r =>
        show (intR 211 r).bind _ = _
        rfl
    have hrd := rdsigned_any (n := 8) (below := -2147483648) h0 (by decide) (by unfold in64; decide)
    generalize (s.bind fun _ r => signedR 8 (-2147483648) r) = T at *
    go_enter Tryz.func75, Tryz.ntmps75
    go_wp2_with fail
    refine hrd.mono ?_
    rintro ee w1 ⟨x, rfl, hx, hx0, hP, hk⟩
    have ho := of_any x w1
    clear hrd
    go_wp2_with fail
    refine ho.mono ?_
    rintro ee w2 ⟨rfl, hb2⟩
    have R1 := ((hk.trans (Dk.ofBelow hb2)).blk R0 (by omega) (by omega))
    have hE := int_end (z := x) (T := T) hx hx0 HR.out R1 (hP.keep hb2) ((hk0.trans hk).trans (Dk.ofBelow hb2)) hB hg1 hg2
    obtain ⟨HST, HB2, HV⟩ := hE
    clear hx hx0 ho
    clear R0 R1 h h0 hk0 hb0 hP
    go_wp2
    exact bodyPost_ret (results_cell_row (fn := Tryz.f75) (by rfl) _ _ w.heap.size 50 _ (0, 0) _ (by rfl) HB2 Tryz.underlying50 rfl sizeV) rfl HV
end Go.Proofs.YtpchogicdnfggaaGreatDoor
set_option maxRecDepth 20000
namespace Go.Proofs.YtpchogicdnfggaaGreatDoor
open Go.RowKit Go.Hd

/-- What a reading of a text answers. -/
def TxtP (B gr g : Nat) (w : World) (R : Rs (List UInt8)) (e : Ending) (w' : World) : Prop :=
  ∃ t : List UInt8, e = .returned (.tuple #[.string (str t), .bool true]) ∧ t.length ≤ 65536 ∧ (∀ t0 r, R = .ok t0 r → t = t0) ∧ PRs B w' gr g R ∧ Dk gr g w w'
theorem rdtake_any {α : Type} {B gr g n : Nat} {w : World} {s : Rs α} (h : PRs B w gr g s) (hn : n ≤ 65536) :
    Calls Tryz.prog 99 #[.pointer (some ⟨g, 0, none⟩), .int .i64 (n : Int)] w fun e w' => ∃ t : List UInt8, e = .returned (.string (str t)) ∧ t.length ≤ 65536 ∧ (∀ t0 r, (s.bind fun _ r => takeR n r) = .ok t0 r → t = t0) ∧ PRs B w' gr g (s.bind fun _ r => takeR n r) ∧ Dk gr g w w' := by
  obtain ⟨l, e, bad, h1, h2, h3, h4, h5⟩ := h
  obtain ⟨t1, t2, t3, t4, _⟩ := took_st n h3
  refine (text_any (n := (n : Int)) h2).mono ?_
  rintro ee w1 ⟨rfl, hrd, hg⟩
  exact ⟨_, rfl, by omega, t2, ⟨_, _, _, h1.grown hg h5, hrd, t1, by omega, h5⟩, Dk.ofGrown hg (.inr rfl)⟩
theorem and31 : ∀ c : Nat, c < 256 → bits BinOp.and IntKind.u8 (c : Int) 31 = ((c % 32 : Nat) : Int) := by
  intro c hc
  have h : ∀ k : Fin 256, bits BinOp.and IntKind.u8 (k.val : Int) 31 = ((k.val % 32 : Nat) : Int) := by decide
  exact h ⟨c, hc⟩
theorem and15 : ∀ c : Nat, c < 256 → bits BinOp.and IntKind.u8 (c : Int) 15 = ((c % 16 : Nat) : Int) := by
  intro c hc
  have h : ∀ k : Fin 256, bits BinOp.and IntKind.u8 (k.val : Int) 15 = ((k.val % 16 : Nat) : Int) := by decide
  exact h ⟨c, hc⟩
set_option maxHeartbeats 1000000 in
theorem rdtext_yes {α : Type} {B gr g c : Nat} {w : World} {s : Rs α} (h : PRs B w gr g s) (hc : c < 256) (ht : isText c = true) :
    Calls Tryz.prog 72 #[.pointer (some ⟨gr, 0, none⟩), .int .u8 (c : Int)] w (TxtP B gr g w (s.bind fun _ r => textR c r)) := by
  have c0 := h.ptr
  by_cases h5 : c / 32 = 5
  · have HR : Hid ((s.bind fun _ r => textR c r) = s.bind fun _ r => takeR (c % 32) r) := by
      show _ = _
      congr 1; funext _ r
      unfold textR; rw [if_pos h5]
    have htk := rdtake_any (n := c % 32) h (by omega)
    have ec : ((c % 32 : Nat) : Int) = (c : Int) % 32 := by omega
    rw [ec] at htk
    have ha := and31 c hc
    have e5 : (c : Int) / 32 = 5 := by omega
    have HT := Lib.hid ht
    clear hc ht h5 ec
    go_enter Tryz.func72, Tryz.ntmps72
    go_wp2_with fail
    refine htk.mono ?_
    rintro ee w1 ⟨t, rfl, h1, h2, h3, h4⟩
    go_wp2
    go_ret2
    rw [HR.out]
    exact ⟨t, rfl, h1, h2, h3, h4⟩
  · have e5 : ((c : Int) / 32 == 5) = false := by simp; omega
    by_cases h9 : c = 0xd9
    · subst h9
      have HR : Hid ((s.bind fun _ r => textR 217 r) = (s.bind fun _ r => leastR 1 32 r).bind fun n r => takeR n r) := by
        show _ = _
        cases s <;> rfl
      have hrd := rdleast_any (n := 1) (lo := 32) (w := w.drew) (h.keep (Gr.drewN w 1)) (by decide) (by decide) (by decide)
      generalize (s.bind fun _ r => leastR 1 32 r) = T at *
      clear h5 hc ht
      go_enter Tryz.func72, Tryz.ntmps72
      go_wp2
      go_region_held3 (fun w' => w'.cell? ⟨gr, 0, none⟩ = some (.pointer (some ⟨g, 0, none⟩))) (first | go_keep | assumption) (first
        | (go_at_call 77; refine hrd.mono ?_; rintro e3 w3 ⟨x, rfl, hx, hx0, hxn, hP, hk⟩; have c3 := hP.ptr; have ex : IntKind.i64.wrap (x : Int) = (x : Int) := IntWalk.i64_in _ (by have : x < 256 := hx; omega); have htk := rdtake_any (n := x) hP (by have : x < 256 := hx; omega))
        | (go_at_call 99; refine htk.mono ?_; rintro e4 w4 ⟨t, rfl, g1, g2, g3, g4⟩; have c4 := g3.ptr))
      have HF : Hid (TxtP B gr g w (s.bind fun _ r => textR 217 r) (.returned (.tuple #[.string (str t), .bool true])) w4) := by
        show TxtP _ _ _ _ _ _ _
        rw [HR.out]
        have hbb : (T.bind fun n r => takeR n r) = (T.bind fun _ r => takeR x r) := by
          cases T with
          | no c => rfl
          | ok x0 r => rw [hx0 _ _ rfl]; rfl
        rw [hbb]
        exact ⟨t, rfl, g1, g2, g3, (hk.trans g4).drew⟩
      clear hx0 hxn hP hk g1 g2 g3 g4 htk hx
      go_wp2
      go_ret2
      exact HF.out
    · have hda : c = 0xda := by
        unfold isText at ht
        simp at ht; omega
      subst hda
      have HR : Hid ((s.bind fun _ r => textR 218 r) = (s.bind fun _ r => leastR 2 256 r).bind fun n r => takeR n r) := by
        show _ = _
        cases s <;> rfl
      have hrd := rdleast_any (n := 2) (lo := 256) (w := w.drew) (h.keep (Gr.drewN w 1)) (by decide) (by decide) (by decide)
      generalize (s.bind fun _ r => leastR 2 256 r) = T at *
      clear h5 h9 hc ht
      go_enter Tryz.func72, Tryz.ntmps72
      go_wp2
      go_region_held3 (fun w' => w'.cell? ⟨gr, 0, none⟩ = some (.pointer (some ⟨g, 0, none⟩))) (first | go_keep | assumption) (first
        | (go_at_call 77; refine hrd.mono ?_; rintro e3 w3 ⟨x, rfl, hx, hx0, hxn, hP, hk⟩; have c3 := hP.ptr; have ex : IntKind.i64.wrap (x : Int) = (x : Int) := IntWalk.i64_in _ (by have : x < 65536 := hx; omega); have htk := rdtake_any (n := x) hP (by have : x < 65536 := hx; omega))
        | (go_at_call 99; refine htk.mono ?_; rintro e4 w4 ⟨t, rfl, g1, g2, g3, g4⟩; have c4 := g3.ptr))
      have HF : Hid (TxtP B gr g w (s.bind fun _ r => textR 218 r) (.returned (.tuple #[.string (str t), .bool true])) w4) := by
        show TxtP _ _ _ _ _ _ _
        rw [HR.out]
        have hbb : (T.bind fun n r => takeR n r) = (T.bind fun _ r => takeR x r) := by
          cases T with
          | no c => rfl
          | ok x0 r => rw [hx0 _ _ rfl]; rfl
        rw [hbb]
        exact ⟨t, rfl, g1, g2, g3, (hk.trans g4).drew⟩
      clear hx0 hxn hP hk g1 g2 g3 g4 htk hx
      go_wp2
      go_ret2
      exact HF.out
theorem rdtext_no {B gr g c : Nat} {α : Type} {w : World} {s : Rs α} (h : PRs B w gr g s) (ht : isText c = false) :
    Calls Tryz.prog 72 #[.pointer (some ⟨gr, 0, none⟩), .int .u8 (c : Int)] w fun e w' => e = .returned (.tuple #[.string (str []), .bool false]) ∧ w = w' := by
  unfold isText at ht
  simp only [Bool.or_eq_false_iff, beq_eq_false_iff_ne] at ht
  obtain ⟨⟨h1, h2⟩, h3⟩ := ht
  have e5 : ((c : Int) / 32 == 5) = false := by simp; omega
  have e9 : ((c : Int) == 217) = false := by simp; omega
  have ea : ((c : Int) == 218) = false := by simp; omega
  clear h1 h2 h3 h
  go_enter Tryz.func72, Tryz.ntmps72
  go_wp2
  go_ret2
  exact ⟨rfl, rfl⟩
end Go.Proofs.YtpchogicdnfggaaGreatDoor
set_option maxRecDepth 20000
namespace Go.Proofs.YtpchogicdnfggaaGreatDoor
open Go.RowKit Go.Hd
attribute [local go_sem ↓] h_ldV h_stV h_alV h_bsV
attribute [local go_sem] r_ldV r_stV r_alV r_bsV

/-- What value answers, so deep (the step of an induction). -/
def ValH (d : Nat) : Prop := ∀ (B gr g : Nat) (w : World) (s : Rs Unit), PRs B w gr g s → B ≤ w.heap.size → Calls Tryz.prog 46 #[.pointer (some ⟨gr, 0, none⟩), .int .i64 (d : Int)] w (ValP B gr g w (s.bind fun _ r => decV d r))
def Rs.unit {α : Type} (s : Rs α) : Rs Unit := match s with | .ok _ r => .ok () r | .no c => .no c
theorem PRs.unit {α : Type} {B gr g : Nat} {w : World} {s : Rs α} (h : PRs B w gr g s) : PRs B w gr g s.unit := h.cast (fun _ _ _ hh => by cases s <;> exact hh)
/-- What list answers. -/
def ListP (B gr g : Nat) (w : World) (n : Nat) (R : Rs (List PV)) (e : Ending) (w' : World) : Prop :=
  ∃ a c vs, e = .returned (.slice a (List.length vs) c) ∧ VsAt (fun b => w.heap.size ≤ b ∧ (Value.slice a (List.length vs) c).ownBlock ≠ some b) w.heap.size w' (.slice a (List.length vs) c) vs ∧ (∀ v0 r, R = .ok v0 r → vs = v0) ∧ PRs B w' gr g R ∧ Dk gr g w w' ∧ vs.length ≤ n
/-- The rest of a list. -/
def restR (f : List UInt8 → Rs PV) (n : Nat) (T : Rs (List PV)) : Rs (List PV) := T.bind fun vs r => (listR f n r).bind fun ws r2 => .ok (vs ++ ws) r2
def stepR (f : List UInt8 → Rs PV) (T : Rs (List PV)) : Rs (List PV) := T.bind fun vs r => (f r).bind fun v r2 => .ok (vs ++ [v]) r2
theorem restR_zero (f : List UInt8 → Rs PV) (T : Rs (List PV)) : restR f 0 T = T := by
  unfold restR
  cases T with
  | no c => rfl
  | ok vs r => simp [listR]
theorem restR_succ (f : List UInt8 → Rs PV) (n : Nat) (T : Rs (List PV)) : restR f (n + 1) T = restR f n (stepR f T) := by
  unfold restR stepR
  cases T with
  | no c => rfl
  | ok vs r =>
    simp only [Rs.bind_ok, listR]
    cases f r with
    | no c => rfl
    | ok v r2 =>
      simp only [Rs.bind_ok]
      cases listR f n r2 with
      | no c => rfl
      | ok ws r3 => simp
theorem restR_no (f : List UInt8 → Rs PV) (n : Nat) (c : Int) : restR f n (.no c) = .no c := rfl
theorem VsAt.own {ok : Nat → Prop} {base : Nat} {w : World} {u : Value} {vs : List PV} (h : VsAt ok base w u vs) : ∀ b, u.ownBlock = some b → base ≤ b ∧ b < w.heap.size := by
  obtain ⟨css, _, _, hO, _⟩ := h
  exact fun b hb => World.ownsRow.lt hO b hb
/-- The state of list's loop. -/
structure ListI (B gr g : Nat) (w wr : World) (u : Value) (vs : List PV) (T : Rs (List PV)) : Prop where
  row : VsAt (fun b => w.heap.size ≤ b ∧ u.ownBlock ≠ some b) w.heap.size wr u vs
  got : ∀ v0 r, T = .ok v0 r → vs = v0
  st : PRs B wr gr g T
  dk : Dk gr g w wr
theorem ListI.step {d B gr g : Nat} {w wr w5 : World} {u : Value} {vs : List PV} {T : Rs (List PV)} {cs : List Value} {v : PV} {ty : TypeId} (h : ListI B gr g w wr u vs T) (hB : B ≤ w.heap.size) (h1 : gr < w.heap.size) (h2 : g < w.heap.size) (hn : vs.length ≤ 1000000000)
    (hv : VAtP (fun b => wr.heap.size ≤ b) w5 cs v) (hv0 : ∀ v0 r, (T.unit.bind fun _ r => decV d r) = .ok v0 r → v = v0) (hP : PRs B w5 gr g (T.unit.bind fun _ r => decV d r)) (hk : Dk gr g wr w5) :
    ∃ a' c' w', (Builtin.append_ #[48, 48] ty #[u, .slice (some ⟨w5.heap.size, 0, none⟩) 1 1]).run Tryz.prog (w5.alloc (.cells cs.toArray 50)) = .ok (.slice a' (vs.length + 1) c') w' ∧ ListI B gr g w w' (.slice a' (vs.length + 1) c') (vs ++ [v]) (stepR (decV d) T) := by
  have hsz := h.dk.size
  have hown := h.row.own
  have hvs5 : VsAt (fun b => w.heap.size ≤ b ∧ u.ownBlock ≠ some b) w.heap.size w5 u vs := by
    refine h.row.same hk.size (fun b hb => hk.block b (hown b hb).2 (by have := (hown b hb).1; omega) (by have := (hown b hb).1; omega)) (fun b hb hlt => ⟨hk.block b hlt (by have := hb.1; omega) (by have := hb.1; omega), hb⟩)
  have hv5 : VAtP (fun b => w.heap.size ≤ b ∧ u.ownBlock ≠ some b) w5 cs v := hv.mono (fun b hb _ => ⟨by omega, fun e => by have := (hown b e).2; omega⟩)
  obtain ⟨a', c', w', e1, e2, e3⟩ := VsAt.app (ty := ty) (ok' := fun b => (w.heap.size ≤ b ∧ u.ownBlock ≠ some b) ∧ b < w5.heap.size) hvs5 (fun b hb => hb.2) hv5 (fun b hb hlt => ⟨hb, hlt⟩) hn (Nat.le_trans hsz hk.size)
  refine ⟨a', c', w', e1, ?_, ?_, ?_, ?_⟩
  · exact e2.mono (fun b hb => ⟨hb.1.1, fun e => by
      rcases e3.own b e with h4 | h4
      · exact hb.1.2 h4
      · have := hb.2; omega⟩)
  · intro v1 r hT
    unfold stepR at hT
    cases T with
    | no c => cases hT
    | ok vs0 r0 =>
      simp only [Rs.bind_ok] at hT
      cases hf : decV d r0 with
      | no c => rw [hf] at hT; cases hT
      | ok v2 r2 =>
        rw [hf] at hT
        cases hT
        rw [h.got vs0 r0 rfl, hv0 v2 r (by show decV d r0 = _; rw [hf])]
  · have hP2 : PRs B w5 gr g (stepR (decV d) T) := hP.cast (fun l e bad hh => by
      unfold stepR
      cases T with
      | no c => exact hh
      | ok vs0 r0 =>
        have hh : PRst (decV d r0) l e bad := hh
        simp only [Rs.bind_ok]
        cases hf : decV d r0 with
        | no c => rw [hf] at hh; exact hh
        | ok v2 r2 => rw [hf] at hh; exact hh)
    exact hP2.far e3.gr (fun k hk' => by have := hown k hk'; exact ⟨by omega, by omega, by omega⟩)
  · exact ⟨(e3.gr.os.trans hk.os).trans h.dk.os, (e3.gr.tape.trans hk.tape).trans h.dk.tape, (e3.gr.output.trans hk.output).trans h.dk.output, Nat.le_trans (Nat.le_trans hsz hk.size) e3.gr.size, fun i hi g1 g2 => by
      rw [e3.gr.block i (by have := hk.size; omega) (fun e => by have := (hown i e.symm).1; omega), hk.block i (by omega) g1 g2]
      exact h.dk.block i hi g1 g2⟩
set_option maxHeartbeats 1000000 in
theorem rdlist_any {d : Nat} (HV : ValH d) {B gr g n : Nat} {w : World} {s : Rs Unit} (h : PRs B w gr g s) (hB : B ≤ w.heap.size) (hn : n ≤ 65536) :
    Calls Tryz.prog 73 #[.pointer (some ⟨gr, 0, none⟩), .int .i64 (n : Int), .int .i64 (d : Int)] w (ListP B gr g w n (s.bind fun _ r => listR (decV d) n r)) := by
  obtain ⟨hg1, hg2⟩ := h.lt
  have HR : Hid ((s.bind fun _ r => listR (decV d) n r) = restR (decV d) n (s.bind fun _ r => .ok [] r)) := by
    show _ = _
    unfold restR
    cases s with
    | no c => rfl
    | ok x r =>
      simp only [Rs.bind_ok, List.nil_append]
      cases listR (decV d) n r <;> rfl
  have hI0 : ListI B gr g w w (.slice none 0 0) [] (s.bind fun _ r => .ok [] r) := ⟨VsAt.nil _ _ _, fun v0 r hv => by cases s <;> cases hv; rfl, h.cast (fun _ _ _ hh => by cases s <;> exact hh), Dk.refl _ _ _⟩
  generalize (s.bind fun _ r => listR (decV d) n r) = R at *
  generalize (s.bind fun _ r => (.ok [] r : Rs (List PV))) = T0 at *
  have HVd := Lib.hid HV
  clear HV
  go_enter Tryz.func73, Tryz.ntmps73
  go_wp2
  go_loopw [7, 8] (fun u i wr => ∃ (j : Nat) (a : Option Addr) (c : Nat) (vs : List PV) (T : Rs (List PV)), u = .slice a vs.length c ∧ j ≤ n ∧ vs.length = j ∧ i = .int .i64 j ∧ R = restR (decV d) (n - j) T ∧ ListI B gr g w wr (.slice a vs.length c) vs T) (fun _ i _ => n - (intOf i).toNat)
  case atStart => exact ⟨0, none, 0, [], T0, rfl, Nat.zero_le _, rfl, rfl, HR.out, hI0⟩
  case round =>
    clear hI0 HR
    obtain ⟨j, a, c, vs, T, rfl, hj, hvl, rfl, hR, hI⟩ := hrel
    have HVL := Lib.hid hvl
    have HR := Lib.hid hR
    clear hR hvl
    have hf := failed_any hI.st
    by_cases hlt : j < n
    · have j1 : (j : Int) < (n : Int) := by omega
      cases T with
      | no cc =>
        rw [Rs.isNo_no] at hf
        go_wp2_with fail
        refine hf.mono ?_
        rintro ee w2 ⟨rfl, rfl⟩
        go_wp2
        go_ret
        have hr := HR.out
        rw [restR_no] at hr
        rw [hr]
        exact ⟨a, c, vs, rfl, hI.row, (fun _ _ h => by cases h), hI.st, hI.dk, by have := HVL.out; omega⟩
      | ok v0 r =>
        rw [Rs.isNo_ok] at hf
        have hval := HVd.out B gr g wr _ hI.st.unit (Nat.le_trans hB hI.dk.size)
        have j0 : (0 : Int) ≤ (j : Int) := by omega
        have jb : IntKind.i64.wrap ((j : Int) + 1) = (j : Int) + 1 := IntWalk.i64_in _ (by omega)
        go_wp2_with fail
        refine hf.mono ?_
        rintro ee w2 ⟨rfl, rfl⟩
        clear hf
        go_wp2_with fail
        refine hval.mono ?_
        rintro ee w5 ⟨cs, v, rfl, hv, hv0, hP, hk⟩
        obtain ⟨a', c', w', hrun, hI2⟩ := ListI.step (ty := 48) hI hB hg1 hg2 (by have := HVL.out; omega) hv hv0 hP hk
        have x6 : (List.toArray cs).size = 6 := hv.len
        have HR2 : Hid (R = restR (decV d) (n - (j + 1)) (stepR (decV d) (.ok v0 r))) := by
          show _ = _
          rw [HR.out, show n - j = (n - (j + 1)) + 1 by omega, restR_succ]
        have hl2 : (vs ++ [v]).length = j + 1 := by have := HVL.out; simp; omega
        have hl3 : vs.length + 1 = (vs ++ [v]).length := by simp
        rw [hl3] at hrun hI2
        have HL2 := Lib.hid hl2
        generalize vs ++ [v] = vs2 at *
        clear hI hv hv0 hP hk hval HR hl2 hl3
        go_wp2_with (at_builtin; refine wpList_append_run hrun rfl rfl rfl rfl ?_)
        first
          | exact ⟨⟨j + 1, a', c', vs2, _, rfl, by omega, HL2.out, (by first | rfl | go_num | (congr 1; omega)), HR2.out, hI2⟩, by simp [intOf] <;> omega⟩
          | (refine ⟨?_, by simp [intOf] <;> omega⟩; (repeat apply Exists.intro); exact ⟨⟨j + 1, a', c', vs2, _, rfl, by omega, HL2.out, (by first | rfl | go_num | (congr 1; omega)), HR2.out, hI2⟩, rfl⟩)
    · obtain rfl : j = n := by omega
      go_wp2
      go_ret
      have hr := HR.out
      rw [Nat.sub_self, restR_zero] at hr
      rw [hr]
      exact ⟨a, c, vs, rfl, hI.row, hI.got, hI.st, hI.dk, by have := HVL.out; omega⟩
end Go.Proofs.YtpchogicdnfggaaGreatDoor
set_option maxRecDepth 20000
namespace Go.Proofs.YtpchogicdnfggaaGreatDoor
open Go.RowKit Go.Hd
attribute [local go_sem ↓] h_ldV h_stV h_alV h_bsV
attribute [local go_sem] r_ldV r_stV r_alV r_bsV

def byteR (l : List UInt8) : Rs Nat := match l with | [] => .no 3 | c :: r => .ok c.toNat r
theorem byteR_take (l : List UInt8) : byteR l = (takeR 1 l).bind fun b r => .ok (getL b) r := by
  unfold byteR takeR
  cases l with
  | nil => rfl
  | cons c r =>
    rw [if_neg (by simp)]
    simp [getL]
theorem rdnum_any {α : Type} {B gr g : Nat} {w : World} {s : Rs α} (h : PRs B w gr g s) :
    Calls Tryz.prog 70 #[.pointer (some ⟨g, 0, none⟩), .int .i64 1] w (NumP B gr g w 256 (s.bind fun _ r => byteR r)) := by
  obtain ⟨l, e, bad, h1, h2, h3, h4, h5⟩ := h
  obtain ⟨t1, t2, t3, t4, t5⟩ := took_st 1 h3
  have hR : (s.bind fun _ r => byteR r) = (s.bind fun _ r => takeR 1 r).bind fun b r => .ok (getL b) r := by
    cases s with
    | no c => rfl
    | ok x r => exact byteR_take r
  have hE : numE e 1 = e := by unfold numE; rw [if_neg (by omega)]
  have hn := num_any (n := 1) h2
  rw [hE] at hn
  refine hn.mono ?_
  rintro ee w1 ⟨rfl, hrd, hg⟩
  have hx : gV (rdGot l e 1) < 256 := by
    unfold gV
    split
    · have h6 := getL_lt (rdGot l e 1)
      have h7 : (rdGot l e 1).length ≤ 1 := t4
      exact Nat.lt_of_lt_of_le h6 (Nat.pow_le_pow_right (by decide) h7)
    · decide
  refine ⟨_, rfl, hx, fun x0 r hr => ?_, fun c hc => ?_, ?_, Dk.ofGrown hg (.inr rfl)⟩
  · rw [hR] at hr
    cases hT : (s.bind fun _ r => takeR 1 r) with
    | no c => rw [hT] at hr; cases hr
    | ok b r' =>
      rw [hT] at hr
      cases hr
      have hgot : rdGot l e 1 = b := t2 _ _ hT
      rw [hgot]
      have hbl : b.length = 1 := by
        cases s with
        | no c => cases hT
        | ok x r0 =>
          have hT : takeR 1 r0 = .ok b r := hT
          unfold takeR at hT
          split at hT
          · cases hT
          · cases hT; simp; omega
      unfold gV
      rw [if_pos (by omega)]
  · rw [hR] at hc
    cases hT : (s.bind fun _ r => takeR 1 r) with
    | no c' =>
      rw [hT] at hc
      cases hc
      rcases t5 _ hT with h | h
      · exact .inl h
      · right
        have h : rdGot l e 1 = [] := h
        rw [h]; rfl
    | ok b r' => rw [hT] at hc; cases hc
  · rw [hR]
    refine ⟨_, _, _, h1.grown hg h5, hrd, ?_, Nat.le_trans t3 h4, h5⟩
    cases hT : (s.bind fun _ r => takeR 1 r) with
    | no c' => rw [hT] at t1; exact t1
    | ok b r' => rw [hT] at t1; exact t1

abbrev PsL := List (List UInt8 × PV)
def lastK (ps : PsL) : Option (List UInt8) := ps.getLast?.map (·.1)
def restD (f : List UInt8 → Rs PV) (n : Nat) (T : Rs PsL) : Rs PsL := T.bind fun ps r => (dictR f n (lastK ps) r).bind fun qs r2 => .ok (ps ++ qs) r2
def stepD (f : List UInt8 → Rs PV) (T : Rs PsL) : Rs PsL := T.bind fun ps r => (keyR (lastK ps) r).bind fun k r2 => (f r2).bind fun v r3 => .ok (ps ++ [(k, v)]) r3
theorem restD_zero (f : List UInt8 → Rs PV) (T : Rs PsL) : restD f 0 T = T := by
  unfold restD
  cases T with
  | no c => rfl
  | ok vs r => simp [dictR]
theorem lastK_snoc (ps : PsL) (k : List UInt8) (v : PV) : lastK (ps ++ [(k, v)]) = some k := by unfold lastK; simp
theorem restD_succ (f : List UInt8 → Rs PV) (n : Nat) (T : Rs PsL) : restD f (n + 1) T = restD f n (stepD f T) := by
  unfold restD stepD
  cases T with
  | no c => rfl
  | ok ps r =>
    simp only [Rs.bind_ok, dictR]
    cases keyR (lastK ps) r with
    | no c => rfl
    | ok k r2 =>
      simp only [Rs.bind_ok]
      cases f r2 with
      | no c => rfl
      | ok v r3 =>
        simp only [Rs.bind_ok, lastK_snoc]
        cases dictR f n (some k) r3 with
        | no c => rfl
        | ok ws r4 => simp
theorem restD_no (f : List UInt8 → Rs PV) (n : Nat) (c : Int) : restD f n (.no c) = .no c := rfl
/-- The state of dict's loop. -/
structure DictJ {α : Type} (B gr g : Nat) (w wr : World) (uK uL : Value) (ks : List (List UInt8)) (vs : List PV) (S : Rs α) : Prop where
  res : Blk wr w.heap.size 50 zV.toList
  vb : VB (w.heap.size + 1) (w.heap.size + 1) wr (.mk 7 0 [] [] ks vs) (.slice none 0 0) uK uL
  st : PRs B wr gr g S
  dk : Dk gr g w wr
theorem DictJ.call {α β : Type} {B gr g : Nat} {w wr w2 : World} {uK uL : Value} {ks : List (List UInt8)} {vs : List PV} {S : Rs α} {S2 : Rs β} (h : DictJ B gr g w wr uK uL ks vs S) (h1 : gr < w.heap.size) (h2 : g < w.heap.size) (hP : PRs B w2 gr g S2) (hk : Dk gr g wr w2) : DictJ B gr g w w2 uK uL ks vs S2 :=
  ⟨hk.blk h.res (by omega) (by omega), h.vb.keep hk.size (fun b hb hlt => hk.block b hlt (by omega) (by omega)), hP, h.dk.trans hk⟩
theorem DictJ.cast {α β : Type} {B gr g : Nat} {w wr : World} {uK uL : Value} {ks : List (List UInt8)} {vs : List PV} {S : Rs α} {S2 : Rs β} (h : DictJ B gr g w wr uK uL ks vs S) (hc : ∀ l e bad, PRst S l e bad → PRst S2 l e bad) : DictJ B gr g w wr uK uL ks vs S2 := ⟨h.res, h.vb, h.st.cast hc, h.dk⟩
theorem DictJ.drew {α : Type} {B gr g : Nat} {w wr : World} {uK uL : Value} {ks : List (List UInt8)} {vs : List PV} {S : Rs α} (h : DictJ B gr g w wr uK uL ks vs S) : DictJ B gr g w wr.drew uK uL ks vs S :=
  ⟨h.res, h.vb.keep (Nat.le_refl _) (fun _ _ _ => rfl), h.st.keep (Gr.drewN wr 1), ⟨h.dk.os, h.dk.tape, h.dk.output, h.dk.size, h.dk.block⟩⟩
theorem DictJ.after {α : Type} {B gr g : Nat} {w wr w' : World} {uK uL u2 uK2 uL2 x : Value} {ks ks2 : List (List UInt8)} {vs vs2 : List PV} {S : Rs α} {i : Nat} (h : DictJ B gr g w wr uK uL ks vs S) (hB : B ≤ w.heap.size) (h1 : gr < w.heap.size) (h2 : g < w.heap.size) (hg : Gro wr w' uK u2 ∨ Gro wr w' uL u2)
    (hv : VB (w.heap.size + 1) (w.heap.size + 1) (w'.setCell ⟨w.heap.size + 1, i, none⟩ x) (.mk 7 0 [] [] ks2 vs2) (.slice none 0 0) uK2 uL2) : DictJ B gr g w (w'.setCell ⟨w.heap.size + 1, i, none⟩ x) uK2 uL2 ks2 vs2 S := by
  have hk := h.vb.kown
  have hs : w'.grownBy (w'.setCell ⟨w.heap.size + 1, i, none⟩ x) (some (w.heap.size + 1)) := grown_set (World.grownBy.refl _ _) _ _
  have key : ∀ {u : Value}, (∀ b, u.ownBlock = some b → w.heap.size + 1 ≤ b ∧ b < wr.heap.size) → wr.grownBy w' u.ownBlock → DictJ B gr g w (w'.setCell ⟨w.heap.size + 1, i, none⟩ x) uK2 uL2 ks2 vs2 S := by
    intro u hu hgr
    refine ⟨?_, hv, (h.st.far hgr (fun k hk => by have := (hu k hk).1; exact ⟨by omega, by omega, by omega⟩)).far hs (fun k hk => by cases hk; exact ⟨by omega, by omega, by omega⟩), ?_⟩
    · exact (h.res.keptBy hgr (fun e => by have := (hu _ e).1; omega)).grown hs (by omega)
    · refine ⟨hgr.os.trans h.dk.os, hgr.tape.trans h.dk.tape, hgr.output.trans h.dk.output, Nat.le_trans h.dk.size (by simpa using hgr.size), fun k hk1 g1 g2 => ?_⟩
      have hws := h.dk.size
      rw [hs.block k (by have := hgr.size; omega) (by simp; omega), hgr.block k (by omega) (fun e => by have := (hu k e.symm).1; omega)]
      exact h.dk.block k hk1 g1 g2
  rcases hg with hg | hg
  · exact key hk.1 hg.gr
  · exact key hk.2 hg.gr
theorem keyR_byte (prev : Option (List UInt8)) (l : List UInt8) : keyR prev l = (byteR l).bind fun c r => if isText c = false then .no 4 else (textR c r).bind fun k r2 => if (match prev with | none => false | some p => leT k p) = true then .no 4 else .ok k r2 := by
  cases l <;> rfl
end Go.Proofs.YtpchogicdnfggaaGreatDoor
