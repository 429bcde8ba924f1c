/- Walks of layer 8: hashes, bytes in common, lengths. -/
import Derived.Test.YtpkgcnklpnficaaRows
import Derived.Test.YtpkgcnklpnficaaLib3
import Derived.Test.YtpkgcnklpnficaaW1
import Derived.Test.YtpkgcnklpnficaaW2
import Derived.Test.YtpkgcnklpnficaaW3
import Derived.Test.YtpkgcnklpnficaaPl8
import Derived.Deep.DeepCutAuto
import Derived.Deep.RegionWith
import Derived.StillTailTactics
import Derived.IntWalk
namespace Go.Proofs.Ytpkgcnklpnficaa
open Go.RowKit Go.Hd

theorem hash_any {a : Option Addr} {n c : Nat} {l : List UInt8} {w : World} (hn : n = l.length) (hl : Row w a (l.map b8)) (h4 : 4 ≤ l.length) (hc : n ≤ c) :
    Calls Try.prog 28 #[.slice a n c] w fun e w' => e = .returned (.int .u32 (lzHash l : Int)) ∧ w = w' := by
  subst hn
  obtain ⟨a', c', hsl, h1, h2, hr⟩ := cut_h (P := Try.prog) (t := 22) (e := 5) (s := 1) eB.ht (by kernel_rfl) hl (k2 := .i64) (j := 4) (q := 4) (n := l.length) (c := c) rfl (by omega)
  rw [Nat.mul_one, ← List.map_take] at hr
  have hx := getL_lt (l.take 4)
  have hxl : (l.take 4).length = 4 := by simp; omega
  rw [hxl] at hx
  have HH : Hid (lzHash l = getL (l.take 4) * 2654435761 % 4294967296 / 1048576) := rfl
  have HXL := Lib.hid hxl.symm
  clear hxl
  generalize hm : l.take 4 = m at *
  clear hm
  go_enter Try.func28, Try.ntmps28
  go_wp2_with fail
  refine (get_any a' 4 c' m w HXL.out hr (by have := HXL.out; omega) (by have := HXL.out; omega)).mono ?_
  rintro e w1 ⟨rfl, rfl⟩
  generalize getL m = x at *
  have hx2 : (x : Int) < 4294967296 := by omega
  go_wp2
  go_ret
  exact ⟨ret_int (by rw [HH.out]; first | omega | (rw [IntKind.wrap_u32]; omega)), rfl⟩
theorem rhash_any {a : Option Addr} {n c p : Nat} {l : List UInt8} {w : World} (hn : n = l.length) (hl : Row w a (l.map b8)) (h4 : p + 4 ≤ l.length) (hc : n ≤ c) (hm : l.length ≤ 140737488355328) :
    Calls Try.prog 33 #[.slice a n c, .int .i64 p] w fun e w' => e = .returned (.int .i64 (lzHash (l.drop p) : Int)) ∧ w = w' := by
  subst hn
  have hpI : (p : Int) + 4 ≤ l.length := by omega
  obtain ⟨a', c', hsl, h1, h2, hr⟩ := cut_lh (P := Try.prog) (t := 22) (e := 5) (s := 1) eB.ht (by kernel_rfl) hl (k1 := .i64) (k2 := .i64) (i := (p : Int)) (j := (p : Int) + 4) (p := p) (q := p + 4) (n := l.length) (c := c) rfl rfl (by omega) (by omega)
  simp only [Nat.mul_one, Nat.add_sub_cancel_left] at hsl h1 hr
  rw [← List.map_drop, ← List.map_take] at hr
  have hx := getL_lt ((l.drop p).take 4)
  have hxl : ((l.drop p).take 4).length = 4 := by simp; omega
  rw [hxl] at hx
  have HH : Hid (lzHash (l.drop p) = getL ((l.drop p).take 4) * 2654435761 % 4294967296 / 1048576) := rfl
  have HXL := Lib.hid hxl.symm
  clear hxl
  generalize hm : (l.drop p).take 4 = m at *
  clear hm
  go_enter Try.func33, Try.ntmps33
  go_wp2_with fail
  refine (rget_any a' 4 c' m w HXL.out hr (by have := HXL.out; omega) (by have := HXL.out; omega)).mono ?_
  rintro e w1 ⟨rfl, rfl⟩
  generalize getL m = x at *
  have hx2 : (x : Int) < 4294967296 := by omega
  go_wp2
  go_ret
  exact ⟨ret_int (by rw [HH.out]; first | omega | (rw [IntKind.wrap_u64]; omega)), rfl⟩
theorem equal_any {a b : Option Addr} {n1 n2 c d : Nat} {l m : List UInt8} {w : World} (h1 : n1 = l.length) (h2 : n2 = m.length) (hl : Row w a (l.map b8)) (hm : Row w b (m.map b8)) :
    Calls Try.prog 29 #[.slice a n1 c, .slice b n2 d] w fun e w' => e = .returned (.bool (l == m)) ∧ w = w' := by
  subst h1 h2
  have k1 := run_convert_row (P := Try.prog) (w := w) (src := 22) (e := 5) (dst := 9) (c := c) eB.ht Try.underlying5 Try.underlying9 rfl hl
  have k2 := run_convert_row (P := Try.prog) (w := w) (src := 22) (e := 5) (dst := 9) (c := d) eB.ht Try.underlying5 Try.underlying9 rfl hm
  go_enter Try.func29, Try.ntmps29
  go_wp2
  go_ret
  exact ⟨ret_bool (str_beq l m), rfl⟩
theorem common_any {a : Option Addr} {n c p i q : Nat} {l : List UInt8} {w : World} (hn : n = l.length) (hl : Row w a (l.map b8)) (hp : p < i) (hi : i ≤ q) (hq : q ≤ l.length) (hm : l.length ≤ 140737488355328) :
    Calls Try.prog 30 #[.slice a n c, .int .i64 p, .int .i64 i, .int .i64 q] w fun e w' => e = .returned (.int .i64 (comm l p i (q - i) : Int)) ∧ ∃ n, w' = w.drewN n := by
  subst hn
  go_enter Try.func30, Try.ntmps30
  go_wp2
  go_loopw [9] (fun k wr => ∃ j N : Nat, i + j ≤ q ∧ k = .int .i64 j ∧ comm l p i (q - i) = j + comm l (p + j) (i + j) (q - i - j) ∧ wr = w.drewN N) (fun k _ => q - (intOf k).toNat)
  case atStart => exact ⟨0, 0, by omega, rfl, by simp, rfl⟩
  case round =>
    obtain ⟨j, N, hj, rfl, hk, hwr⟩ := hrel
    have HK := Lib.hid hk
    have hlr : Row wr a (l.map b8) := by rw [hwr]; exact hl.drewN N
    have HW := Lib.hid hwr
    clear hwr hk
    by_cases hlt : i + j < q
    · have hltI : (i : Int) + j < q := by omega
      have b1 : p + j < l.length := by omega
      have b2 : i + j < l.length := by omega
      have c1 := hlr.byte b1
      have c2 := hlr.byte b2
      have s1 := hlr.byteSome b1
      have b1I : (p : Int) + j < l.length := by omega
      have b2I : (i : Int) + j < l.length := by omega
      have hs1 : IntKind.i64.wrap ((p : Int) + j) = (p : Int) + j := IntWalk.i64_in _ (by omega)
      have hs2 : IntKind.i64.wrap ((i : Int) + j) = (i : Int) + j := IntWalk.i64_in _ (by omega)
      have ht1 : ((p : Int) + j).toNat = p + j := by omega
      have ht2 : ((i : Int) + j).toNat = i + j := by omega
      have h01 : 0 ≤ (p : Int) + j := by omega
      have h02 : 0 ≤ (i : Int) + j := by omega
      obtain ⟨k, hk⟩ : ∃ k, q - i - j = k + 1 := ⟨q - i - j - 1, by omega⟩
      by_cases heq : l[p + j] = l[i + j]
      · have hE : (((l[p + j].toNat : Nat) : Int) == (l[i + j].toNat : Nat)) = true := by rw [heq]; simp
        have HS : Hid (comm l p i (q - i) = (j + 1) + comm l (p + (j + 1)) (i + (j + 1)) (q - i - (j + 1))) := by
          show _ = _
          rw [HK.out, hk, comm_yes (by rw [List.getElem?_eq_getElem b1, List.getElem?_eq_getElem b2, heq])]
          rw [show q - i - (j + 1) = k by omega, show p + (j + 1) = p + j + 1 by omega, show i + (j + 1) = i + j + 1 by omega]
          omega
        clear hk heq
        go_wp2
        go_quiet (fail)
        clear c1 c2 hs1 hs2 ht1 ht2
        go_wp2
        first
          | exact ⟨⟨j + 1, N + nq, by omega, (by first | rfl | go_num | (congr 1; omega)), HS.out, by rw [HW.out, drewN_two]⟩, by simp [intOf] <;> omega⟩
          | (refine ⟨?_, by simp [intOf] <;> omega⟩; (repeat apply Exists.intro); exact ⟨⟨j + 1, N + nq, by omega, (by first | rfl | go_num | (congr 1; omega)), HS.out, by rw [HW.out, drewN_two]⟩, rfl⟩)
      · have hE : (((l[p + j].toNat : Nat) : Int) == (l[i + j].toNat : Nat)) = false := by
          rw [beq_eq_false_iff_ne]; intro h; exact heq (UInt8.toNat_inj.1 (by omega))
        have HS : Hid (comm l p i (q - i) = j) := by
          show _ = _
          rw [HK.out, comm_no (by rw [List.getElem?_eq_getElem b1, List.getElem?_eq_getElem b2]; intro h; exact heq (by simpa using h))]
          omega
        clear hk heq
        go_wp2
        go_quiet (fail)
        clear c1 c2 hs1 hs2 ht1 ht2
        go_wp2
        go_ret
        exact ⟨ret_int (by rw [HS.out]), N + nq, by rw [HW.out, drewN_two]⟩
    · have hltI : ¬ (i : Int) + j < q := by omega
      have hd : decide ((i : Int) + j < q) = false := by simpa using hltI
      have hs2 : IntKind.i64.wrap ((i : Int) + j) = (i : Int) + j := IntWalk.i64_in _ (by omega)
      have HS : Hid (comm l p i (q - i) = j) := by
        show _ = _
        rw [HK.out, show q - i - j = 0 by omega]; rfl
      go_wp2
      go_quiet (fail)
      go_wp2
      go_ret
      exact ⟨ret_int (by rw [HS.out]), N + nq, by rw [HW.out, drewN_two]⟩

/-! Blocks that are being made. -/
abbrev BkAt (B : Nat) (w : World) (g : Nat) (l : List UInt8) : Prop := ∃ v, Buf B w g 52 5 [v] v l
theorem b8_of (n : Nat) : Value.int .u8 ((n : Int) % 256) = b8 (UInt8.ofNat n) := by
  have : (UInt8.ofNat n).toNat = n % 256 := UInt8.toNat_ofNat'
  show _ = Value.int .u8 ((UInt8.ofNat n).toNat : Int)
  rw [this]; rfl
theorem b8_small (n : Nat) (h : n < 256) : Value.int .u8 (n : Int) = b8 (UInt8.ofNat n) := by
  have : (UInt8.ofNat n).toNat = n % 256 := UInt8.toNat_ofNat'
  show _ = Value.int .u8 ((UInt8.ofNat n).toNat : Int)
  rw [this, Nat.mod_eq_of_lt h]
def MoRel (B : Nat) (w : World) (g : Nat) (l : List UInt8) (n : Nat) (i : Value) (wr : World) : Prop :=
  ∃ (k : Nat) (l' : List UInt8), i = .int .i64 k ∧ k ≤ n ∧ BkAt B wr g l' ∧ l' ++ extL k = l ++ extL n ∧ Kp B (some g) w wr
theorem more_any {B g n : Nat} {l : List UInt8} {w : World} (h : BkAt B w g l) (hn : 15 ≤ n) (hl : l.length + n ≤ 140737488355328) :
    Calls Try.prog 37 #[.pointer (some ⟨g, 0, none⟩), .int .i64 n] w fun e w' => e = .returned (.tuple #[]) ∧ BkAt B w' g (l ++ moreL n) ∧ Kp B (some g) w w' := by
  have hM : moreL n = extL (n - 15) := if_neg (by omega)
  rw [hM]
  have hnI : (15 : Int) ≤ n := by omega
  obtain ⟨m, hnm⟩ : ∃ m, n = m + 15 := ⟨n - 15, by omega⟩
  have hm0 : n - 15 = m := by omega
  rw [hm0]
  have HNM := Lib.hid hnm
  clear hM hm0 hnm
  go_enter Try.func37, Try.ntmps37
  go_wp2
  go_loopw [1] (fun i wr => MoRel B w g l m i wr) (fun i _ => (intOf i).toNat)
  case atStart => exact ⟨m, l, by have := HNM.out; first | rfl | (congr 1; omega), Nat.le_refl _, h, rfl, Kp.refl _ _ _⟩
  case round =>
    obtain ⟨k, l', rfl, hkm, ⟨v, hB⟩, hle, hkp⟩ := hrel
    have hlen := congrArg List.length hle
    rw [List.length_append, List.length_append, extL_length, extL_length] at hlen
    have c0 : wr.cell? ⟨g, 0, none⟩ = _ := hB.blk.cell rfl
    have f0 := hB.blk.free 0
    have hlt := hB.blk.lt
    have hm47 : m ≤ n := by have := HNM.out; omega
    by_cases h255 : 255 ≤ k
    · have hI : (255 : Int) ≤ k := by omega
      obtain ⟨a', n', c', w1, hrun, hB1, hk1⟩ := Buf.append1 (ty := 22) hB eB 255 (by omega)
      rw [show b8 255 = Value.int .u8 255 from rfl] at hrun
      have d0 : w1.cell? ⟨g, 0, none⟩ = _ := hB1.blk.cell rfl
      have g0 := hB1.blk.free 0
      obtain ⟨j, hj⟩ : ∃ j, j = k - 255 := ⟨_, rfl⟩
      have HL : Hid (l' ++ [255] ++ extL j = l ++ extL m) := by
        show _ = _
        rw [← hle, extL_step k h255, List.append_assoc, hj]; rfl
      have HJ := Lib.hid hj
      clear hj
      clear hle hlen
      go_wp2_with (at_builtin; refine wpList_append_run hrun rfl rfl rfl rfl ?_)
      have hB2 := hB1.store 0 (.slice a' n' c')
      have hk2 := (hkp.trans hk1.none).trans (Kp.set w1 0 (.slice a' n' c'))
      generalize w1.setCell ⟨g, 0, none⟩ (.slice a' n' c') = w2 at *
      clear hrun c0 f0 d0 g0
      go_wp2
      first
        | exact ⟨⟨j, _, by have := HJ.out; (congr 1; omega), by have := HJ.out; omega, ⟨_, hB2⟩, HL.out, hk2⟩, by simp [intOf] <;> omega⟩
        | (refine ⟨?_, by simp [intOf] <;> omega⟩; (repeat apply Exists.intro); exact ⟨⟨j, _, by have := HJ.out; (congr 1; omega), by have := HJ.out; omega, ⟨_, hB2⟩, HL.out, hk2⟩, rfl⟩)
    · have hI : ¬ (255 : Int) ≤ k := by omega
      have hw : IntKind.u8.wrap (k : Int) = k := by rw [IntKind.wrap_u8]; omega
      obtain ⟨a', n', c', w1, hrun, hB1, hk1⟩ := Buf.append1 (ty := 22) hB eB (UInt8.ofNat k) (by omega)
      rw [← b8_small k (by omega)] at hrun
      have d0 : w1.cell? ⟨g, 0, none⟩ = _ := hB1.blk.cell rfl
      have g0 := hB1.blk.free 0
      have HL : Hid (l' ++ [UInt8.ofNat k] = l ++ extL m) := by
        show _ = _
        rw [← hle, extL_small k (by omega)]
      clear hle hlen
      go_wp2_with (at_builtin; refine wpList_append_run hrun rfl rfl rfl rfl ?_)
      have hB2 := hB1.store 0 (.slice a' n' c')
      have hk2 := (hkp.trans hk1.none).trans (Kp.set w1 0 (.slice a' n' c'))
      rw [HL.out] at hB2
      go_end0
      exact ⟨rfl, ⟨_, hB2⟩, hk2⟩
end Go.Proofs.Ytpkgcnklpnficaa
