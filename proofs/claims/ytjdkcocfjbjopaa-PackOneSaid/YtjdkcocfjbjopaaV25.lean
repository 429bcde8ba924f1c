/- Layer 05: the reader's least, signed. -/
import Derived.Test.YtjdkcocfjbjopaaV24
set_option maxRecDepth 20000
namespace Go.Proofs.Ytjdkcocfjbjopaa
open Go.RowKit Go.Hd

set_option maxHeartbeats 1000000 in
theorem rdleast_any {α : Type} {B gr g n lo : Nat} {w : World} {s : Rs α} (h : PRs B w gr g s) (h1n : 1 ≤ n) (h8 : n ≤ 8) (hlo : lo < 18446744073709551616) :
    Calls Try.prog 53 #[.pointer (some ⟨gr, 0, none⟩), .int .i64 (n : Int), .int .u64 (lo : Int)] w (NumP B gr g w (256 ^ n) (s.bind fun _ r => leastR n lo r)) := by
  have hb := rdbig_any h h1n h8
  have HR : Hid ((s.bind fun _ r => leastR n lo r) = (s.bind fun _ r => bigR n r).bind fun x r => if x < lo then .no 4 else .ok x r) := by
    show _ = _
    cases s <;> rfl
  generalize (s.bind fun _ r => bigR n r) = T at *
  generalize (s.bind fun _ r => leastR n lo r) = R at *
  have HLO := Lib.hid hlo
  clear hlo h
  go_enter Try.func53, Try.ntmps53
  go_wp2_with fail
  refine hb.mono ?_
  rintro ee w1 ⟨x, rfl, hx, hx0, hxn, hP, hk⟩
  have hf := failed_any hP
  cases T with
  | no c =>
    rw [Rs.isNo_no] at hf
    go_wp2_with fail
    refine hf.mono ?_
    rintro ee w2 ⟨rfl, rfl⟩
    go_wp2
    go_ret
    rw [HR.out]
    exact ⟨x, rfl, hx, (fun _ _ h => by cases h), (fun c h => by cases h; exact hxn _ rfl), hP.cast (fun _ _ _ hh => hh), hk⟩
  | ok x0 r =>
    obtain rfl := hx0 x0 r rfl
    rw [Rs.isNo_ok] at hf
    by_cases hlt : x < lo
    · have hlt' : (x : Int) < (lo : Int) := by omega
      obtain ⟨hP2, hk2, f1, z, c1⟩ := PRs.bad (β := Nat) hP
      have HR2 : Hid (R = .no 4) := by show _ = _; rw [HR.out, Rs.bind_ok, if_pos hlt]
      have hk3 := hk.trans hk2
      clear hlt hP hx0
      go_wp2_with fail
      refine hf.mono ?_
      rintro ee w2 ⟨rfl, rfl⟩
      go_wp2
      go_ret
      rw [HR2.out]
      exact ⟨x, rfl, hx, (fun _ _ h => by cases h), (fun c h => by cases h; exact .inl rfl), hP2, hk3⟩
    · have hlt' : ¬ (x : Int) < (lo : Int) := by omega
      have HR2 : Hid (R = .ok x r) := by show _ = _; rw [HR.out, Rs.bind_ok, if_neg hlt]
      clear hlt hx0
      go_wp2_with fail
      refine hf.mono ?_
      rintro ee w2 ⟨rfl, rfl⟩
      go_wp2
      go_ret
      rw [HR2.out]
      exact ⟨x, rfl, hx, (fun _ _ h => by cases h; rfl), (fun c h => by cases h), hP, hk⟩
theorem sext_1 (x : Nat) (h : x < 256 ^ 1) : wrap64 ((x : Int) * 72057594037927936) / 72057594037927936 = sext 1 x := by
  have h2 : x < 256 := h
  unfold wrap64 sext
  simp only [Nat.reduceMul, Nat.reduceSub, Nat.reducePow, Int.reducePow]
  split <;> omega
theorem sext_in1 (x : Nat) (h : x < 256 ^ 1) : in64 (sext 1 x) := by
  have h2 : x < 256 := h
  unfold in64 sext
  simp only [Nat.reduceMul, Nat.reduceSub, Nat.reducePow, Int.reducePow]
  split <;> omega
theorem sext_2 (x : Nat) (h : x < 256 ^ 2) : wrap64 ((x : Int) * 281474976710656) / 281474976710656 = sext 2 x := by
  have h2 : x < 65536 := h
  unfold wrap64 sext
  simp only [Nat.reduceMul, Nat.reduceSub, Nat.reducePow, Int.reducePow]
  split <;> omega
theorem sext_in2 (x : Nat) (h : x < 256 ^ 2) : in64 (sext 2 x) := by
  have h2 : x < 65536 := h
  unfold in64 sext
  simp only [Nat.reduceMul, Nat.reduceSub, Nat.reducePow, Int.reducePow]
  split <;> omega
theorem sext_4 (x : Nat) (h : x < 256 ^ 4) : wrap64 ((x : Int) * 4294967296) / 4294967296 = sext 4 x := by
  have h2 : x < 4294967296 := h
  unfold wrap64 sext
  simp only [Nat.reduceMul, Nat.reduceSub, Nat.reducePow, Int.reducePow]
  split <;> omega
theorem sext_in4 (x : Nat) (h : x < 256 ^ 4) : in64 (sext 4 x) := by
  have h2 : x < 4294967296 := h
  unfold in64 sext
  simp only [Nat.reduceMul, Nat.reduceSub, Nat.reducePow, Int.reducePow]
  split <;> omega
theorem sext_8 (x : Nat) (h : x < 256 ^ 8) : wrap64 (x : Int) = sext 8 x := by
  have h2 : x < 18446744073709551616 := h
  unfold wrap64 sext
  simp only [Nat.reduceMul, Nat.reduceSub, Nat.reducePow, Int.reducePow]
  split <;> omega
theorem sext_in8 (x : Nat) (h : x < 256 ^ 8) : in64 (sext 8 x) := by
  have h2 : x < 18446744073709551616 := h
  unfold in64 sext
  simp only [Nat.reduceMul, Nat.reduceSub, Nat.reducePow, Int.reducePow]
  split <;> omega
/-- What a reading of a signed number answers. -/
def SgnP (B gr g : Nat) (w : World) (R : Rs Int) (e : Ending) (w' : World) : Prop :=
  ∃ x : Int, e = .returned (.int .i64 x) ∧ in64 x ∧ (∀ x0 r, R = .ok x0 r → x = x0) ∧ PRs B w' gr g R ∧ Dk gr g w w'
set_option maxHeartbeats 1000000 in
theorem rdsigned_any {α : Type} {B gr g n : Nat} {below : Int} {w : World} {s : Rs α} (h : PRs B w gr g s) (hn : n = 1 ∨ n = 2 ∨ n = 4 ∨ n = 8) (hbl : in64 below) :
    Calls Try.prog 64 #[.pointer (some ⟨gr, 0, none⟩), .int .i64 (n : Int), .int .i64 below] w (SgnP B gr g w (s.bind fun _ r => signedR n below r)) := by
  have hb := rdbig_any h (n := n) (by omega) (by omega)
  have HR : Hid ((s.bind fun _ r => signedR n below r) = (s.bind fun _ r => bigR n r).bind fun u r => if below ≤ sext n u then .no 4 else .ok (sext n u) r) := by
    show _ = _
    cases s <;> rfl
  generalize (s.bind fun _ r => bigR n r) = T at *
  generalize (s.bind fun _ r => signedR n below r) = R at *
  clear h
  rcases hn with rfl | rfl | rfl | rfl
  · go_enter Try.func64, Try.ntmps64
    go_wp2_with fail
    refine hb.mono ?_
    rintro ee w1 ⟨x, rfl, hx, hx0, hxn, hP, hk⟩
    have HS := Lib.hid (sext_1 x hx)
    have HI := Lib.hid (sext_in1 x hx)
    have hf := failed_any hP
    cases T with
    | no c =>
      rw [Rs.isNo_no] at hf
      go_wp2_with fail
      refine hf.mono ?_
      rintro ee w2 ⟨rfl, rfl⟩
      go_wp2
      go_ret
      rw [HR.out]
      exact ⟨_, rfl, by rw [HS.out]; exact HI.out, (fun _ _ h => by cases h), hP.cast (fun _ _ _ hh => hh), hk⟩
    | ok x0 r =>
      obtain rfl := hx0 x0 r rfl
      rw [Rs.isNo_ok] at hf
      by_cases hlt : below ≤ sext 1 x
      · have hlt' := hlt
        rw [← HS.out] at hlt'
        obtain ⟨hP2, hk2, f1, z, c1⟩ := PRs.bad (β := Int) hP
        have HR2 : Hid (R = .no 4) := by show _ = _; rw [HR.out, Rs.bind_ok, if_pos hlt]
        have hk3 := hk.trans hk2
        clear hlt hP hx0
        go_wp2_with fail
        refine hf.mono ?_
        rintro ee w2 ⟨rfl, rfl⟩
        go_wp2
        go_ret
        rw [HR2.out]
        exact ⟨_, rfl, by rw [HS.out]; exact HI.out, (fun _ _ h => by cases h), hP2, hk3⟩
      · have hlt' := hlt
        rw [← HS.out] at hlt'
        have HR2 : Hid (R = .ok (sext 1 x) r) := by show _ = _; rw [HR.out, Rs.bind_ok, if_neg hlt]
        clear hlt hx0
        go_wp2_with fail
        refine hf.mono ?_
        rintro ee w2 ⟨rfl, rfl⟩
        go_wp2
        go_ret
        rw [HR2.out]
        exact ⟨_, rfl, by rw [HS.out]; exact HI.out, (fun _ _ h => by cases h; exact HS.out), hP.cast (fun _ _ _ hh => hh), hk⟩
  · go_enter Try.func64, Try.ntmps64
    go_wp2_with fail
    refine hb.mono ?_
    rintro ee w1 ⟨x, rfl, hx, hx0, hxn, hP, hk⟩
    have HS := Lib.hid (sext_2 x hx)
    have HI := Lib.hid (sext_in2 x hx)
    have hf := failed_any hP
    cases T with
    | no c =>
      rw [Rs.isNo_no] at hf
      go_wp2_with fail
      refine hf.mono ?_
      rintro ee w2 ⟨rfl, rfl⟩
      go_wp2
      go_ret
      rw [HR.out]
      exact ⟨_, rfl, by rw [HS.out]; exact HI.out, (fun _ _ h => by cases h), hP.cast (fun _ _ _ hh => hh), hk⟩
    | ok x0 r =>
      obtain rfl := hx0 x0 r rfl
      rw [Rs.isNo_ok] at hf
      by_cases hlt : below ≤ sext 2 x
      · have hlt' := hlt
        rw [← HS.out] at hlt'
        obtain ⟨hP2, hk2, f1, z, c1⟩ := PRs.bad (β := Int) hP
        have HR2 : Hid (R = .no 4) := by show _ = _; rw [HR.out, Rs.bind_ok, if_pos hlt]
        have hk3 := hk.trans hk2
        clear hlt hP hx0
        go_wp2_with fail
        refine hf.mono ?_
        rintro ee w2 ⟨rfl, rfl⟩
        go_wp2
        go_ret
        rw [HR2.out]
        exact ⟨_, rfl, by rw [HS.out]; exact HI.out, (fun _ _ h => by cases h), hP2, hk3⟩
      · have hlt' := hlt
        rw [← HS.out] at hlt'
        have HR2 : Hid (R = .ok (sext 2 x) r) := by show _ = _; rw [HR.out, Rs.bind_ok, if_neg hlt]
        clear hlt hx0
        go_wp2_with fail
        refine hf.mono ?_
        rintro ee w2 ⟨rfl, rfl⟩
        go_wp2
        go_ret
        rw [HR2.out]
        exact ⟨_, rfl, by rw [HS.out]; exact HI.out, (fun _ _ h => by cases h; exact HS.out), hP.cast (fun _ _ _ hh => hh), hk⟩
  · go_enter Try.func64, Try.ntmps64
    go_wp2_with fail
    refine hb.mono ?_
    rintro ee w1 ⟨x, rfl, hx, hx0, hxn, hP, hk⟩
    have HS := Lib.hid (sext_4 x hx)
    have HI := Lib.hid (sext_in4 x hx)
    have hf := failed_any hP
    cases T with
    | no c =>
      rw [Rs.isNo_no] at hf
      go_wp2_with fail
      refine hf.mono ?_
      rintro ee w2 ⟨rfl, rfl⟩
      go_wp2
      go_ret
      rw [HR.out]
      exact ⟨_, rfl, by rw [HS.out]; exact HI.out, (fun _ _ h => by cases h), hP.cast (fun _ _ _ hh => hh), hk⟩
    | ok x0 r =>
      obtain rfl := hx0 x0 r rfl
      rw [Rs.isNo_ok] at hf
      by_cases hlt : below ≤ sext 4 x
      · have hlt' := hlt
        rw [← HS.out] at hlt'
        obtain ⟨hP2, hk2, f1, z, c1⟩ := PRs.bad (β := Int) hP
        have HR2 : Hid (R = .no 4) := by show _ = _; rw [HR.out, Rs.bind_ok, if_pos hlt]
        have hk3 := hk.trans hk2
        clear hlt hP hx0
        go_wp2_with fail
        refine hf.mono ?_
        rintro ee w2 ⟨rfl, rfl⟩
        go_wp2
        go_ret
        rw [HR2.out]
        exact ⟨_, rfl, by rw [HS.out]; exact HI.out, (fun _ _ h => by cases h), hP2, hk3⟩
      · have hlt' := hlt
        rw [← HS.out] at hlt'
        have HR2 : Hid (R = .ok (sext 4 x) r) := by show _ = _; rw [HR.out, Rs.bind_ok, if_neg hlt]
        clear hlt hx0
        go_wp2_with fail
        refine hf.mono ?_
        rintro ee w2 ⟨rfl, rfl⟩
        go_wp2
        go_ret
        rw [HR2.out]
        exact ⟨_, rfl, by rw [HS.out]; exact HI.out, (fun _ _ h => by cases h; exact HS.out), hP.cast (fun _ _ _ hh => hh), hk⟩
  · go_enter Try.func64, Try.ntmps64
    go_wp2_with fail
    refine hb.mono ?_
    rintro ee w1 ⟨x, rfl, hx, hx0, hxn, hP, hk⟩
    have HS := Lib.hid (sext_8 x hx)
    have HI := Lib.hid (sext_in8 x hx)
    have hf := failed_any hP
    cases T with
    | no c =>
      rw [Rs.isNo_no] at hf
      go_wp2_with fail
      refine hf.mono ?_
      rintro ee w2 ⟨rfl, rfl⟩
      go_wp2
      go_ret
      rw [HR.out]
      exact ⟨_, rfl, by rw [HS.out]; exact HI.out, (fun _ _ h => by cases h), hP.cast (fun _ _ _ hh => hh), hk⟩
    | ok x0 r =>
      obtain rfl := hx0 x0 r rfl
      rw [Rs.isNo_ok] at hf
      by_cases hlt : below ≤ sext 8 x
      · have hlt' := hlt
        rw [← HS.out] at hlt'
        obtain ⟨hP2, hk2, f1, z, c1⟩ := PRs.bad (β := Int) hP
        have HR2 : Hid (R = .no 4) := by show _ = _; rw [HR.out, Rs.bind_ok, if_pos hlt]
        have hk3 := hk.trans hk2
        clear hlt hP hx0
        go_wp2_with fail
        refine hf.mono ?_
        rintro ee w2 ⟨rfl, rfl⟩
        go_wp2
        go_ret
        rw [HR2.out]
        exact ⟨_, rfl, by rw [HS.out]; exact HI.out, (fun _ _ h => by cases h), hP2, hk3⟩
      · have hlt' := hlt
        rw [← HS.out] at hlt'
        have HR2 : Hid (R = .ok (sext 8 x) r) := by show _ = _; rw [HR.out, Rs.bind_ok, if_neg hlt]
        clear hlt hx0
        go_wp2_with fail
        refine hf.mono ?_
        rintro ee w2 ⟨rfl, rfl⟩
        go_wp2
        go_ret
        rw [HR2.out]
        exact ⟨_, rfl, by rw [HS.out]; exact HI.out, (fun _ _ h => by cases h; exact HS.out), hP.cast (fun _ _ _ hh => hh), hk⟩
end Go.Proofs.Ytjdkcocfjbjopaa
