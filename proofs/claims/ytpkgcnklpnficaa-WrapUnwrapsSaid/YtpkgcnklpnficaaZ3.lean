/- Walks of layer 8: the document's length and sequence. -/
import Derived.Test.YtpkgcnklpnficaaZ1
namespace Go.Proofs.Ytpkgcnklpnficaa
open Go.RowKit Go.Hd

def LnRel (w : World) (n : Nat) (out left : Value) (wr : World) : Prop :=
  ∃ (k : Nat) (l : List UInt8), left = .int .i64 k ∧ k ≤ n ∧ wr.ownsRow w.heap.size 5 1 out l.length (l.map b8) ∧ l ++ extL k = extL n ∧ Below w.heap.size w wr
theorem length_any {n A : Nat} {x : Int} {w : World} (hx : x = (n : Int)) (hA : A = min n 15) (hn : n ≤ 1000000) :
    Calls Try.prog 38 #[.int .i64 x] w fun e w' => ∃ v, e = .returned (.tuple #[.int .i64 (A : Int), v]) ∧ Fresh w w' v (moreL n) := by
  subst hx hA
  by_cases h : n < 15
  · have hI : (n : Int) < 15 := by omega
    have HM : Hid (min n 15 = n) := by show _ = _; omega
    have HL : Hid (moreL n = []) := if_pos h
    go_enter Try.func38, Try.ntmps38
    go_wp2
    go_ret2
    rw [HM.out, HL.out]
    exact ⟨_, rfl, World.ownsRow_nil _ _ _ _, Below.refl _ _⟩
  · have hI : ¬ (n : Int) < 15 := by omega
    have HM : Hid (min n 15 = 15) := by show _ = _; omega
    have HL : Hid (moreL n = extL (n - 15)) := if_neg h
    obtain ⟨m, hm⟩ : ∃ m, m = n - 15 := ⟨_, rfl⟩
    rw [← hm] at HL
    have HMN := Lib.hid hm
    clear hm
    go_enter Try.func38, Try.ntmps38
    go_wp2
    go_loopw [4, 5] (fun out left wr => LnRel w m out left wr) (fun _ left _ => (intOf left).toNat)
    case atStart => exact ⟨m, [], by have := HMN.out; (congr 1; omega), Nat.le_refl _, World.ownsRow_nil _ _ _ _, rfl, Below.refl _ _⟩
    case round =>
      obtain ⟨k, l, rfl, hkm, hown, hle, hb⟩ := hrel
      have hlen := congrArg List.length hle
      rw [List.length_append, extL_length, extL_length] at hlen
      have hmn : m ≤ n := by have := HMN.out; omega
      by_cases h255 : 255 ≤ k
      · have hI2 : (255 : Int) ≤ k := by omega
        obtain ⟨v', w1, hrun, hown1, hg1⟩ := append_one (ty := 22) eB hown (b8 255) rfl (by unfold maxLen; omega) (by omega) hb.size
        rw [show b8 255 = Value.int .u8 255 from rfl] at hrun
        have hb1 := hb.trans (Below.ofGrown hg1 hown hb.size)
        obtain ⟨j, hj⟩ : ∃ j, j = k - 255 := ⟨_, rfl⟩
        have HLL : Hid (l ++ [255] ++ extL j = extL m) := by
          show _ = _
          rw [← hle, extL_step k h255, List.append_assoc, hj]; rfl
        have HO : Hid (w1.ownsRow w.heap.size 5 1 v' (l ++ [255]).length ((l ++ [255]).map b8)) := by
          show w1.ownsRow _ _ _ _ _ _
          simpa using hown1
        have HJ := Lib.hid hj
        clear hj hown1 hg1 hown hle hlen
        go_wp2_with (at_builtin; refine wpList_append_run hrun rfl rfl rfl rfl ?_)
        first
          | exact ⟨⟨j, _, by have := HJ.out; (congr 1; omega), by have := HJ.out; omega, HO.out, HLL.out, hb1⟩, by simp [intOf] <;> omega⟩
          | (refine ⟨?_, by simp [intOf] <;> omega⟩; (repeat apply Exists.intro); exact ⟨⟨j, _, by have := HJ.out; (congr 1; omega), by have := HJ.out; omega, HO.out, HLL.out, hb1⟩, rfl⟩)
      · have hI2 : ¬ (255 : Int) ≤ k := by omega
        have hw : IntKind.u8.wrap (k : Int) = k := by rw [IntKind.wrap_u8]; omega
        obtain ⟨v', w1, hrun, hown1, hg1⟩ := append_one (ty := 22) eB hown (b8 (UInt8.ofNat k)) rfl (by unfold maxLen; omega) (by omega) hb.size
        rw [← b8_small k (by omega)] at hrun
        have hb1 := hb.trans (Below.ofGrown hg1 hown hb.size)
        have HLL : Hid (l ++ [UInt8.ofNat k] = extL m) := by
          show _ = _
          rw [← hle, extL_small k (by omega)]
        have HO : Hid (w1.ownsRow w.heap.size 5 1 v' (l ++ [UInt8.ofNat k]).length ((l ++ [UInt8.ofNat k]).map b8)) := by
          show w1.ownsRow _ _ _ _ _ _
          simpa using hown1
        clear hown1 hg1 hown hle hlen
        go_wp2_with (at_builtin; refine wpList_append_run hrun rfl rfl rfl rfl ?_)
        go_ret2
        refine ⟨v', ?_, ?_, hb1⟩
        · rw [HM.out]; rfl
        · rw [HL.out, ← HLL.out]; exact HO.out
set_option maxHeartbeats 1000000 in
theorem rseq_last {q : Nat} {d : Int} {s : List UInt8} {a : Option Addr} {c : Nat} {w : World} (hq : q = s.length) (hr : Row w a (s.map b8)) (hl : s.length ≤ 1000000) :
    Calls Try.prog 34 #[.slice a q c, .int .i64 d, .int .i64 0] w fun e w' => ∃ v, e = .returned v ∧ Fresh w w' v (seqL s d.toNat 0) := by
  subst hq
  obtain ⟨A, hA⟩ : ∃ A, A = min s.length 15 := ⟨_, rfl⟩
  have hA15 : A ≤ 15 := by omega
  have hT : (A : Int) * 16 = ((tok s.length 0).toNat : Int) := by rw [tok_nat]; omega
  have HML : Hid ((moreL s.length).length ≤ s.length) := by
    show _ ≤ _
    rw [moreL_length]; split <;> omega
  have HS : Hid (seqL s d.toNat 0 = [tok s.length 0] ++ moreL s.length ++ s) := by
    show _ = _
    unfold seqL
    rw [if_pos rfl, List.append_nil]; simp
  have HA := Lib.hid hA
  clear hA
  go_enter Try.func34, Try.ntmps34
  go_wp2_with fail
  refine (length_any (n := s.length) (A := A) (by rfl) HA.out (by omega)).mono ?_
  rintro e w1 ⟨v1, rfl, hF1⟩
  obtain ⟨o1, hb1⟩ := hF1
  have o1 : Own 5 w1 w.heap.size v1 (moreL s.length) := o1
  have hb2 : Below w.heap.size w (w1.alloc (.cells #[] 5)) := hb1.alloc hb1.size _
  have o2 : Own 5 (w1.alloc (.cells #[] 5)) w.heap.size v1 _ := World.ownsRow.alloc o1 _
  have hb3 : Below w.heap.size w ((w1.alloc (.cells #[] 5)).alloc (.cells #[b8 (tok s.length 0)] 5)) := hb2.alloc hb2.size _
  have o3 : Own 5 ((w1.alloc (.cells #[] 5)).alloc (.cells #[b8 (tok s.length 0)] 5)) w.heap.size v1 _ := World.ownsRow.alloc o2 _
  have hnew : Own 5 ((w1.alloc (.cells #[] 5)).alloc (.cells #[b8 (tok s.length 0)] 5)) w.heap.size (.slice (some ⟨(w1.alloc (.cells #[] 5)).heap.size, 0, none⟩) 1 1) [tok s.length 0] := Own.new _ [tok s.length 0] hb2.size (by simp)
  obtain ⟨av, cv, rfl, hvc, hvm, hrv, _⟩ := o3.at
  obtain ⟨v4, w4, hrun4, o4, _, _, hb4⟩ := Own.append (ty := 22) (c := cv) hnew eB hrv rfl (by have := HML.out; simp; omega) hb3.size
  have hb4 := hb3.trans hb4
  obtain ⟨v5, w5, hrun5, o5, _, _, hb5⟩ := Own.append (ty := 22) (c := c) o4 eB (hr.below hb4) rfl (by have := HML.out; simp; omega) hb4.size
  have hb5 := hb4.trans hb5
  rw [show (w1.alloc (.cells #[] 5)).heap.size = w1.heap.size + 1 by simp, show b8 (tok s.length 0) = Value.int .u8 ((tok s.length 0).toNat : Int) from rfl] at hrun4
  have hfin : Fresh w w5 v5 (seqL s d.toNat 0) := by
    refine ⟨?_, hb5⟩
    rw [HS.out]; exact o5
  have FIN := Lib.hid hfin
  clear hfin o5 o4 o3 o2 o1 hnew hrv hb5 hb4 hb3 hb2 hb1
  go_wp2_with (first | (at_builtin; refine wpList_append_run hrun4 rfl rfl rfl rfl ?_) | (at_builtin; refine wpList_append_run hrun5 rfl rfl rfl rfl ?_))
  go_ret
  exact ⟨v5, rfl, FIN.out⟩
set_option maxHeartbeats 1000000 in
theorem rseq_more {d n q : Nat} {s : List UInt8} {a : Option Addr} {c : Nat} {w : World} (hq : q = s.length) (hr : Row w a (s.map b8)) (hdd : d ≤ 65535) (hl : s.length + n ≤ 1000000) (hn : 4 ≤ n) :
    Calls Try.prog 34 #[.slice a q c, .int .i64 d, .int .i64 n] w fun e w' => ∃ v, e = .returned v ∧ Fresh w w' v (seqL s d n) := by
  subst hq
  obtain ⟨A, hA⟩ : ∃ A, A = min s.length 15 := ⟨_, rfl⟩
  have hA15 : A ≤ 15 := by omega
  obtain ⟨M, hM⟩ : ∃ M, M = min (n - 4) 15 := ⟨_, rfl⟩
  have hM15 : M ≤ 15 := by omega
  have hT : (A : Int) * 16 + (M : Int) = ((tok s.length (n - 4)).toNat : Int) := by rw [tok_nat]; omega
  have HML : Hid ((moreL s.length).length ≤ s.length ∧ (moreL (n - 4)).length ≤ n) := by
    show _ ∧ _
    rw [moreL_length, moreL_length]; constructor <;> split <;> omega
  obtain ⟨hml1, hml2⟩ := HML.out
  have HS : Hid (seqL s d n = [tok s.length (n - 4)] ++ moreL s.length ++ s ++ [UInt8.ofNat d, UInt8.ofNat (d / 256)] ++ moreL (n - 4)) := by
    show _ = _
    unfold seqL
    rw [if_neg (by omega)]; simp [putL]
  have HA := Lib.hid hA
  have HM := Lib.hid hM
  obtain ⟨x, hx⟩ : ∃ x, x = UInt8.ofNat d := ⟨_, rfl⟩
  obtain ⟨y, hy⟩ : ∃ y, y = UInt8.ofNat (d / 256) := ⟨_, rfl⟩
  have hd1 : (d : Int) % 256 = (x.toNat : Int) := by rw [hx, UInt8.toNat_ofNat']; omega
  have hd2 : (d : Int) / 256 = (y.toNat : Int) := by rw [hy, UInt8.toNat_ofNat']; omega
  rw [← hx, ← hy] at HS
  clear hx hy
  have hnI : 4 ≤ (n : Int) := by omega
  have hn0 : ((n : Int) == 0) = false := beq_eq_false_iff_ne.2 (by omega)
  clear hA hM
  go_enter Try.func34, Try.ntmps34
  go_wp2_with fail
  refine (length_any (n := s.length) (A := A) (by rfl) HA.out (by omega)).mono ?_
  rintro e w1 ⟨v1, rfl, hF1⟩
  obtain ⟨o1, hb1⟩ := hF1
  have o1 : Own 5 w1 w.heap.size v1 (moreL s.length) := o1
  have hb2 : Below w.heap.size w (w1.alloc (.cells #[] 5)) := hb1.alloc hb1.size _
  have o2 : Own 5 (w1.alloc (.cells #[] 5)) w.heap.size v1 _ := World.ownsRow.alloc o1 _
  go_wp2_with fail
  refine (length_any (n := n - 4) (A := M) (by omega) HM.out (by omega)).mono ?_
  rintro e w2 ⟨v2, rfl, hF2⟩
  obtain ⟨m2, hb12⟩ := hF2
  have o22 := o2.below hb12
  have m2 : Own 5 w2 w.heap.size v2 (moreL (n - 4)) := ownsRow_mono m2 hb2.size
  have hb02 := hb2.trans (hb12.mono hb2.size)
  have hb3 : Below w.heap.size w (w2.alloc (.cells #[b8 (tok s.length (n - 4))] 5)) := hb02.alloc hb02.size _
  have o3 : Own 5 (w2.alloc (.cells #[b8 (tok s.length (n - 4))] 5)) w.heap.size v1 _ := World.ownsRow.alloc o22 _
  have m3 : Own 5 (w2.alloc (.cells #[b8 (tok s.length (n - 4))] 5)) w.heap.size v2 _ := World.ownsRow.alloc m2 _
  have hnew : Own 5 (w2.alloc (.cells #[b8 (tok s.length (n - 4))] 5)) w2.heap.size (.slice (some ⟨w2.heap.size, 0, none⟩) 1 1) [tok s.length (n - 4)] := Own.new _ [tok s.length (n - 4)] (Nat.le_refl _) (by simp)
  have hsz3 : w2.heap.size ≤ (w2.alloc (.cells #[b8 (tok s.length (n - 4))] 5)).heap.size := by simp
  obtain ⟨av, cv, rfl, hvc, hvm, hrv, _⟩ := o3.at
  obtain ⟨v4, w4, hrun4, o4, g4, _, hb4'⟩ := Own.append (ty := 22) (c := cv) hnew eB hrv rfl (by simp; omega) hsz3
  have hb4 := hb3.trans (hb4'.mono hb02.size)
  have m4 : Own 5 w4 w.heap.size v2 _ := m3.kept' g4 (fun k hk e => by have := (m2.lt k hk).2; have := (hnew.lt k e).1; omega)
  have hsz4 := g4.size
  obtain ⟨v5, w5, hrun5, o5, g5, _, hb5'⟩ := Own.append (ty := 22) (c := c) o4 eB (hr.below hb4) rfl (by simp; omega) (by omega)
  have hb5 := hb4.trans (hb5'.mono hb02.size)
  have m5 : Own 5 w5 w.heap.size v2 _ := m4.kept' g5 (fun k hk e => by have := (m2.lt k hk).2; have := (o4.lt k e).1; omega)
  have hsz5 := g5.size
  have hrow2 : Row (w5.alloc (.cells #[.int .u8 ((x).toNat : Int), .int .u8 ((y).toNat : Int)] 5)) (some ⟨w5.heap.size, 0, none⟩) ([x, y].map b8) := row_alloc w5 _ 5 (0, 0)
  have o5a : Own 5 (w5.alloc (.cells #[.int .u8 ((x).toNat : Int), .int .u8 ((y).toNat : Int)] 5)) w2.heap.size v5 _ := World.ownsRow.alloc o5 _
  have hb5a : Below w.heap.size w (w5.alloc (.cells #[.int .u8 ((x).toNat : Int), .int .u8 ((y).toNat : Int)] 5)) := hb5.alloc hb5.size _
  have m5a : Own 5 (w5.alloc (.cells #[.int .u8 ((x).toNat : Int), .int .u8 ((y).toNat : Int)] 5)) w.heap.size v2 _ := World.ownsRow.alloc m5 _
  obtain ⟨v6, w6, hrun6, o6, g6, _, hb6'⟩ := Own.append (ty := 22) (c := 2) o5a eB hrow2 rfl (by simp; omega) (by simp; omega)
  have hb6 := hb5a.trans (hb6'.mono hb02.size)
  have m6 : Own 5 w6 w.heap.size v2 _ := m5a.kept' g6 (fun k hk e => by have := (m2.lt k hk).2; have := (o5.lt k e).1; omega)
  have hsz6 := g6.size
  obtain ⟨aw, cw, rfl, _, _, hrw, _⟩ := m6.at
  obtain ⟨v7, w7, hrun7, o7, _, _, hb7'⟩ := Own.append (ty := 22) (c := cw) o6 eB hrw rfl (by simp; omega) (by simp at hsz6; omega)
  have hb7 := hb6.trans (hb7'.mono hb02.size)
  rw [show b8 (tok s.length (n - 4)) = Value.int .u8 ((tok s.length (n - 4)).toNat : Int) from rfl] at hrun4
  rw [show [x, y].length = 2 from rfl] at hrun6
  have hfin : Fresh w w7 v7 (seqL s d n) := by
    refine ⟨?_, hb7⟩
    rw [HS.out]; exact Own.mono o7 hb02.size
  have FIN := Lib.hid hfin
  clear hfin o7 o6 o5 o5a o4 o3 o2 o1 o22 m2 m3 m4 m5 m5a m6 hnew hrv hrw hrow2 hb7 hb7' hb6 hb6' hb5 hb5' hb5a hb4 hb4' hb3 hb2 hb1 hb12 hb02 g4 g5 g6 hsz3 hsz4 hsz5 hsz6
  go_wp2_with (first | (at_builtin; refine wpList_append_run hrun4 rfl rfl rfl rfl ?_) | (at_builtin; refine wpList_append_run hrun5 rfl rfl rfl rfl ?_) | (at_builtin; refine wpList_append_run hrun6 rfl rfl rfl rfl ?_) | (at_builtin; refine wpList_append_run hrun7 rfl rfl rfl rfl ?_))
  go_ret
  exact ⟨v7, rfl, FIN.out⟩
end Go.Proofs.Ytpkgcnklpnficaa
