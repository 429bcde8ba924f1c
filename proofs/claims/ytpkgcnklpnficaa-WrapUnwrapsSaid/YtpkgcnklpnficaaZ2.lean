/- Walks of layer 8: sequences (printed by wip/tools/gen_z2.py). -/
import Derived.Test.YtpkgcnklpnficaaZ1
import Derived.Deep.RegionLaw
namespace Go.Proofs.Ytpkgcnklpnficaa
open Go.RowKit Go.Hd

theorem or16 : ∀ A < 16, ∀ M < 16, bits .or .i64 ((A * 16 : Nat) : Int) ((M : Nat) : Int) = ((A * 16 + M : Nat) : Int) := by decide
theorem tok_raw (a m : Nat) {x y : Int} (hx : x = ((min a 15 * 16 : Nat) : Int)) (hy : y = ((min m 15 : Nat) : Int)) : bits .or .i64 x y % 256 = ((tok a m).toNat : Int) := by
  subst hx hy
  rw [or16 _ (by omega) _ (by omega), tok_nat]
  omega
set_option maxHeartbeats 1000000 in
theorem bseq_00 {B g d n q : Nat} {l s : List UInt8} {a : Option Addr} {c : Nat} {w : World} (h : BkAt B w g l) (hq : q = s.length) (hr : Row w a (s.map b8)) (hqc : q ≤ c) (hloc : 0 < s.length → (hd a).block < B ∧ (hd a).block ≠ g) (_ : d ≤ 65535)
    (hl : l.length + s.length + n ≤ 100000000) (ha : s.length < 15) (hn : n = 0) :
    Calls Try.prog 31 #[.pointer (some ⟨g, 0, none⟩), .slice a q c, .int .i64 d, .int .i64 n] w fun e w' => e = .returned (.tuple #[]) ∧ BkAt B w' g (l ++ seqL s d n) ∧ Kp B (some g) w w' := by
  subst hq
  subst hn
  obtain ⟨A, hA⟩ : ∃ A, A = min s.length 15 := ⟨_, rfl⟩
  have hA15 : A ≤ 15 := by omega
  have hminA : (if (15 : Int) < (s.length : Int) then (15 : Int) else (s.length : Int)) = (A : Int) := by split <;> omega
  have hmin0 : (if (15 : Int) < 0 then (15 : Int) else 0) = 0 := if_neg (by omega)
  have hT : bits .or .i64 ((s.length : Int) * 16) 0 % 256 = ((tok s.length 0).toNat : Int) := tok_raw _ _ (by omega) (by omega)
  clear hA
  have hlocS : 0 < (s.map b8).length → (hd a).block < B ∧ some g ≠ some (hd a).block := fun h0 => by
    have := hloc (by simpa using h0)
    exact ⟨this.1, fun e => this.2 (by simpa using e.symm)⟩
  have HLOC := Lib.hid hlocS
  have HML : Hid ((moreL s.length).length ≤ s.length) := by
    show _ ≤ _
    rw [moreL_length]; split <;> omega
  have HML2 : Hid ((moreL 0).length ≤ 0) := by
    show _ ≤ _
    rw [moreL_length]; split <;> omega
  clear hlocS hloc
  obtain ⟨v, hB⟩ := h
  have c0 : w.cell? ⟨g, 0, none⟩ = _ := hB.blk.cell rfl
  have f0 := hB.blk.free 0
  have hlt := hB.blk.lt
  obtain ⟨a1, n1, c1, w1, hrun, hB1, hk1⟩ := Buf.append1 (ty := 22) hB eB (tok s.length 0) (by omega)
  have d0 : w1.cell? ⟨g, 0, none⟩ = _ := hB1.blk.cell rfl
  have g0 := hB1.blk.free 0
  have HS : Hid (l ++ [tok s.length 0] ++ moreL s.length ++ s = l ++ seqL s d 0) := by
    show _ = _
    unfold seqL
    rw [if_pos rfl, List.append_nil]; simp
  go_enter Try.func31, Try.ntmps31
  go_upto_if 33 with (at_builtin; refine wpList_append_run hrun rfl rfl rfl rfl ?_)
  have hB2 := hB1.store 0 (.slice a1 n1 c1)
  have hk2 : Kp B (some g) w (w1.setCell ⟨g, 0, none⟩ (.slice a1 n1 c1)) := hk1.none.trans (Kp.set w1 0 _)
  generalize w1.setCell ⟨g, 0, none⟩ (.slice a1 n1 c1) = w2 at *
  replace hB2 : Buf B w2 g 52 5 [.slice a1 n1 c1] (.slice a1 n1 c1) (l ++ [tok s.length 0]) := hB2
  clear hrun c0 f0 d0 g0 hB1 hk1 hB hT hminA hmin0
  have haI : ¬ (15 : Int) ≤ s.length := by omega
  have hB3 : Buf B w2 g 52 5 [.slice a1 n1 c1] (.slice a1 n1 c1) (l ++ [tok s.length 0] ++ moreL s.length) := by
    rw [show moreL s.length = [] from if_pos ha, List.append_nil]; exact hB2
  have hk3 := hk2
  obtain ⟨w3, rfl⟩ : ∃ w3, w3 = w2 := ⟨_, rfl⟩
  obtain ⟨v3, rfl⟩ : ∃ v3, v3 = Value.slice a1 n1 c1 := ⟨_, rfl⟩
  clear hB2 hk2
  have hr3 := hr.kp hk3 HLOC.out
  have c3 : w3.cell? ⟨g, 0, none⟩ = _ := hB3.blk.cell rfl
  have f3 := hB3.blk.free 0
  obtain ⟨a4, n4, c4, w4, hrun4, hB4, hk4, _⟩ := Buf.append (ty := 22) hB3 eB (Src.ofRow eB.ht a s.length c (s.map b8) (by decide) (by simp) hr3 (bytes_one s)) (by have := HML.out; simp; omega)
  have c4' : w4.cell? ⟨g, 0, none⟩ = _ := hB4.blk.cell rfl
  have f4 := hB4.blk.free 0
  go_wp2_with (at_builtin; refine wpList_append_run hrun4 rfl rfl rfl rfl ?_)
  refine bodyPost_ret (results_none (by rfl) _ _ _) rfl ?_
  refine ⟨rfl, ⟨.slice a4 n4 c4, ?_⟩, (hk3.trans hk4.none).trans (Kp.set w4 0 _)⟩
  rw [← HS.out]; exact hB4.store 0 _
set_option maxHeartbeats 1000000 in
theorem bseq_01 {B g d n q : Nat} {l s : List UInt8} {a : Option Addr} {c : Nat} {w : World} (h : BkAt B w g l) (hq : q = s.length) (hr : Row w a (s.map b8)) (hqc : q ≤ c) (hloc : 0 < s.length → (hd a).block < B ∧ (hd a).block ≠ g) (hdd : d ≤ 65535)
    (hl : l.length + s.length + n ≤ 100000000) (ha : s.length < 15) (hn : 4 ≤ n ∧ n < 19) :
    Calls Try.prog 31 #[.pointer (some ⟨g, 0, none⟩), .slice a q c, .int .i64 d, .int .i64 n] w fun e w' => e = .returned (.tuple #[]) ∧ BkAt B w' g (l ++ seqL s d n) ∧ Kp B (some g) w w' := by
  subst hq
  obtain ⟨hn4, hn19⟩ := hn
  obtain ⟨A, hA⟩ : ∃ A, A = min s.length 15 := ⟨_, rfl⟩
  have hA15 : A ≤ 15 := by omega
  have hminA : (if (15 : Int) < (s.length : Int) then (15 : Int) else (s.length : Int)) = (A : Int) := by split <;> omega
  obtain ⟨M, hM⟩ : ∃ M, M = min (n - 4) 15 := ⟨_, rfl⟩
  have hM15 : M ≤ 15 := by omega
  have hminM : (if (15 : Int) < (n : Int) - 4 then (15 : Int) else (n : Int) - 4) = (M : Int) := by split <;> omega
  have hT : bits .or .i64 ((s.length : Int) * 16) ((n : Int) - 4) % 256 = ((tok s.length (n - 4)).toNat : Int) := tok_raw _ _ (by omega) (by omega)
  clear hA hM
  have hlocS : 0 < (s.map b8).length → (hd a).block < B ∧ some g ≠ some (hd a).block := fun h0 => by
    have := hloc (by simpa using h0)
    exact ⟨this.1, fun e => this.2 (by simpa using e.symm)⟩
  have HLOC := Lib.hid hlocS
  have HML : Hid ((moreL s.length).length ≤ s.length) := by
    show _ ≤ _
    rw [moreL_length]; split <;> omega
  have HML2 : Hid ((moreL (n - 4)).length ≤ n) := by
    show _ ≤ _
    rw [moreL_length]; split <;> omega
  clear hlocS hloc
  obtain ⟨v, hB⟩ := h
  have c0 : w.cell? ⟨g, 0, none⟩ = _ := hB.blk.cell rfl
  have f0 := hB.blk.free 0
  have hlt := hB.blk.lt
  obtain ⟨a1, n1, c1, w1, hrun, hB1, hk1⟩ := Buf.append1 (ty := 22) hB eB (tok s.length (n - 4)) (by omega)
  have d0 : w1.cell? ⟨g, 0, none⟩ = _ := hB1.blk.cell rfl
  have g0 := hB1.blk.free 0
  have HS : Hid (l ++ [tok s.length (n - 4)] ++ moreL s.length ++ s ++ putL d 2 ++ moreL (n - 4) = l ++ seqL s d n) := by
    show _ = _
    unfold seqL
    rw [if_neg (by omega)]; simp
  go_enter Try.func31, Try.ntmps31
  go_upto_if 33 with (at_builtin; refine wpList_append_run hrun rfl rfl rfl rfl ?_)
  have hB2 := hB1.store 0 (.slice a1 n1 c1)
  have hk2 : Kp B (some g) w (w1.setCell ⟨g, 0, none⟩ (.slice a1 n1 c1)) := hk1.none.trans (Kp.set w1 0 _)
  generalize w1.setCell ⟨g, 0, none⟩ (.slice a1 n1 c1) = w2 at *
  replace hB2 : Buf B w2 g 52 5 [.slice a1 n1 c1] (.slice a1 n1 c1) (l ++ [tok s.length (n - 4)]) := hB2
  clear hrun c0 f0 d0 g0 hB1 hk1 hB hT hminA hminM
  have haI : ¬ (15 : Int) ≤ s.length := by omega
  have hB3 : Buf B w2 g 52 5 [.slice a1 n1 c1] (.slice a1 n1 c1) (l ++ [tok s.length (n - 4)] ++ moreL s.length) := by
    rw [show moreL s.length = [] from if_pos ha, List.append_nil]; exact hB2
  have hk3 := hk2
  obtain ⟨w3, rfl⟩ : ∃ w3, w3 = w2 := ⟨_, rfl⟩
  obtain ⟨v3, rfl⟩ : ∃ v3, v3 = Value.slice a1 n1 c1 := ⟨_, rfl⟩
  clear hB2 hk2
  have hr3 := hr.kp hk3 HLOC.out
  have c3 : w3.cell? ⟨g, 0, none⟩ = _ := hB3.blk.cell rfl
  have f3 := hB3.blk.free 0
  obtain ⟨a4, n4, c4, w4, hrun4, hB4, hk4, _⟩ := Buf.append (ty := 22) hB3 eB (Src.ofRow eB.ht a s.length c (s.map b8) (by decide) (by simp) hr3 (bytes_one s)) (by have := HML.out; simp; omega)
  have c4' : w4.cell? ⟨g, 0, none⟩ = _ := hB4.blk.cell rfl
  have f4 := hB4.blk.free 0
  have hn0 : ((n : Int) == 0) = false := beq_eq_false_iff_ne.2 (by omega)
  go_wp2_with (at_builtin; refine wpList_append_run hrun4 rfl rfl rfl rfl ?_)
  have hB5 : Buf B (w4.setCell ⟨g, 0, none⟩ (.slice a4 n4 c4)) g 52 5 [.slice a4 n4 c4] (.slice a4 n4 c4) _ := hB4.store 0 (.slice a4 n4 c4)
  have hk5 : Kp B (some g) w (w4.setCell ⟨g, 0, none⟩ (.slice a4 n4 c4)) := (hk3.trans hk4.none).trans (Kp.set w4 0 _)
  generalize w4.setCell ⟨g, 0, none⟩ (.slice a4 n4 c4) = w5 at *
  clear hrun4 c3 f3 c4' f4 hB4 hk4 hB3 hk3 hr3
  have c5 : w5.cell? ⟨g, 0, none⟩ = _ := hB5.blk.cell rfl
  have hdI : (d : Int) ≤ 65535 := by omega
  have hdw : IntKind.u64.wrap (d : Int) = d := by rw [IntKind.wrap_u64]; omega
  go_region_law ((first
    | (refine step_append_run hrun7 rfl rfl rfl rfl ?_)
    | (go_simp; go_at_call 32; refine (put_any d 2 _ (by omega) (by decide) (by decide)).mono ?_; rintro e1 w6 ⟨v6, rfl, hF⟩; obtain ⟨a6, c6, rfl, hr6, hb6, _, _⟩ := hF.open; have hb6' : Below w5.heap.size w5 w6 := ⟨hb6.os, hb6.tape, hb6.output, hb6.size, hb6.block⟩; have hB6 := hB5.keep hb6'; obtain ⟨a7, n7, c7, w7, hrun7, hB7, hk7, _⟩ := Buf.append (ty := 22) hB6 eB (Src.ofRow eB.ht a6 (putL d 2).length c6 ((putL d 2).map b8) (by decide) (by simp) hr6 (bytes_one _)) (by have := HML.out; simp; omega); have c6' : w6.cell? ⟨g, 0, none⟩ = _ := hB6.blk.cell rfl; have c7' : w7.cell? ⟨g, 0, none⟩ = _ := hB7.blk.cell rfl; have f7 := hB7.blk.free 0)))
  all_goals
    have hB8 := hB7.store 0 (.slice a7 n7 c7)
    have hk8 : Kp B (some g) w (w7.setCell ⟨g, 0, none⟩ (.slice a7 n7 c7)) := (hk5.trans ((Kp.ofBelow hb6' hB5.le).trans hk7.none)).trans (Kp.set w7 0 _)
    generalize w7.setCell ⟨g, 0, none⟩ (.slice a7 n7 c7) = w8 at *
    clear hrun7 hB7 hk7 c6' c7' f7 hB6 hB5 c5 hr6 hb6 hb6'
    have hmI : ¬ (15 : Int) ≤ (n : Int) - 4 := by omega
    have HM0 : Hid (moreL (n - 4) = []) := if_pos (by omega)
    go_wp2
    go_end0
    refine ⟨rfl, ⟨.slice a7 n7 c7, ?_⟩, hk8⟩
    rw [← HS.out, HM0.out, List.append_nil]; exact hB8
set_option maxHeartbeats 1000000 in
theorem bseq_02 {B g d n q : Nat} {l s : List UInt8} {a : Option Addr} {c : Nat} {w : World} (h : BkAt B w g l) (hq : q = s.length) (hr : Row w a (s.map b8)) (hqc : q ≤ c) (hloc : 0 < s.length → (hd a).block < B ∧ (hd a).block ≠ g) (hdd : d ≤ 65535)
    (hl : l.length + s.length + n ≤ 100000000) (ha : s.length < 15) (hn : 19 ≤ n) :
    Calls Try.prog 31 #[.pointer (some ⟨g, 0, none⟩), .slice a q c, .int .i64 d, .int .i64 n] w fun e w' => e = .returned (.tuple #[]) ∧ BkAt B w' g (l ++ seqL s d n) ∧ Kp B (some g) w w' := by
  subst hq
  obtain ⟨A, hA⟩ : ∃ A, A = min s.length 15 := ⟨_, rfl⟩
  have hA15 : A ≤ 15 := by omega
  have hminA : (if (15 : Int) < (s.length : Int) then (15 : Int) else (s.length : Int)) = (A : Int) := by split <;> omega
  obtain ⟨M, hM⟩ : ∃ M, M = min (n - 4) 15 := ⟨_, rfl⟩
  have hM15 : M ≤ 15 := by omega
  have hminM : (if (15 : Int) < (n : Int) - 4 then (15 : Int) else (n : Int) - 4) = (M : Int) := by split <;> omega
  have hT : bits .or .i64 ((s.length : Int) * 16) (M : Int) % 256 = ((tok s.length (n - 4)).toNat : Int) := tok_raw _ _ (by omega) (by omega)
  clear hA hM
  have hlocS : 0 < (s.map b8).length → (hd a).block < B ∧ some g ≠ some (hd a).block := fun h0 => by
    have := hloc (by simpa using h0)
    exact ⟨this.1, fun e => this.2 (by simpa using e.symm)⟩
  have HLOC := Lib.hid hlocS
  have HML : Hid ((moreL s.length).length ≤ s.length) := by
    show _ ≤ _
    rw [moreL_length]; split <;> omega
  have HML2 : Hid ((moreL (n - 4)).length ≤ n) := by
    show _ ≤ _
    rw [moreL_length]; split <;> omega
  clear hlocS hloc
  obtain ⟨v, hB⟩ := h
  have c0 : w.cell? ⟨g, 0, none⟩ = _ := hB.blk.cell rfl
  have f0 := hB.blk.free 0
  have hlt := hB.blk.lt
  obtain ⟨a1, n1, c1, w1, hrun, hB1, hk1⟩ := Buf.append1 (ty := 22) hB eB (tok s.length (n - 4)) (by omega)
  have d0 : w1.cell? ⟨g, 0, none⟩ = _ := hB1.blk.cell rfl
  have g0 := hB1.blk.free 0
  have HS : Hid (l ++ [tok s.length (n - 4)] ++ moreL s.length ++ s ++ putL d 2 ++ moreL (n - 4) = l ++ seqL s d n) := by
    show _ = _
    unfold seqL
    rw [if_neg (by omega)]; simp
  go_enter Try.func31, Try.ntmps31
  go_upto_if 33 with (at_builtin; refine wpList_append_run hrun rfl rfl rfl rfl ?_)
  have hB2 := hB1.store 0 (.slice a1 n1 c1)
  have hk2 : Kp B (some g) w (w1.setCell ⟨g, 0, none⟩ (.slice a1 n1 c1)) := hk1.none.trans (Kp.set w1 0 _)
  generalize w1.setCell ⟨g, 0, none⟩ (.slice a1 n1 c1) = w2 at *
  replace hB2 : Buf B w2 g 52 5 [.slice a1 n1 c1] (.slice a1 n1 c1) (l ++ [tok s.length (n - 4)]) := hB2
  clear hrun c0 f0 d0 g0 hB1 hk1 hB hT hminA hminM
  have haI : ¬ (15 : Int) ≤ s.length := by omega
  have hB3 : Buf B w2 g 52 5 [.slice a1 n1 c1] (.slice a1 n1 c1) (l ++ [tok s.length (n - 4)] ++ moreL s.length) := by
    rw [show moreL s.length = [] from if_pos ha, List.append_nil]; exact hB2
  have hk3 := hk2
  obtain ⟨w3, rfl⟩ : ∃ w3, w3 = w2 := ⟨_, rfl⟩
  obtain ⟨v3, rfl⟩ : ∃ v3, v3 = Value.slice a1 n1 c1 := ⟨_, rfl⟩
  clear hB2 hk2
  have hr3 := hr.kp hk3 HLOC.out
  have c3 : w3.cell? ⟨g, 0, none⟩ = _ := hB3.blk.cell rfl
  have f3 := hB3.blk.free 0
  obtain ⟨a4, n4, c4, w4, hrun4, hB4, hk4, _⟩ := Buf.append (ty := 22) hB3 eB (Src.ofRow eB.ht a s.length c (s.map b8) (by decide) (by simp) hr3 (bytes_one s)) (by have := HML.out; simp; omega)
  have c4' : w4.cell? ⟨g, 0, none⟩ = _ := hB4.blk.cell rfl
  have f4 := hB4.blk.free 0
  have hn0 : ((n : Int) == 0) = false := beq_eq_false_iff_ne.2 (by omega)
  go_wp2_with (at_builtin; refine wpList_append_run hrun4 rfl rfl rfl rfl ?_)
  have hB5 : Buf B (w4.setCell ⟨g, 0, none⟩ (.slice a4 n4 c4)) g 52 5 [.slice a4 n4 c4] (.slice a4 n4 c4) _ := hB4.store 0 (.slice a4 n4 c4)
  have hk5 : Kp B (some g) w (w4.setCell ⟨g, 0, none⟩ (.slice a4 n4 c4)) := (hk3.trans hk4.none).trans (Kp.set w4 0 _)
  generalize w4.setCell ⟨g, 0, none⟩ (.slice a4 n4 c4) = w5 at *
  clear hrun4 c3 f3 c4' f4 hB4 hk4 hB3 hk3 hr3
  have c5 : w5.cell? ⟨g, 0, none⟩ = _ := hB5.blk.cell rfl
  have hdI : (d : Int) ≤ 65535 := by omega
  have hdw : IntKind.u64.wrap (d : Int) = d := by rw [IntKind.wrap_u64]; omega
  go_region_law ((first
    | (refine step_append_run hrun7 rfl rfl rfl rfl ?_)
    | (go_simp; go_at_call 32; refine (put_any d 2 _ (by omega) (by decide) (by decide)).mono ?_; rintro e1 w6 ⟨v6, rfl, hF⟩; obtain ⟨a6, c6, rfl, hr6, hb6, _, _⟩ := hF.open; have hb6' : Below w5.heap.size w5 w6 := ⟨hb6.os, hb6.tape, hb6.output, hb6.size, hb6.block⟩; have hB6 := hB5.keep hb6'; obtain ⟨a7, n7, c7, w7, hrun7, hB7, hk7, _⟩ := Buf.append (ty := 22) hB6 eB (Src.ofRow eB.ht a6 (putL d 2).length c6 ((putL d 2).map b8) (by decide) (by simp) hr6 (bytes_one _)) (by have := HML.out; simp; omega); have c6' : w6.cell? ⟨g, 0, none⟩ = _ := hB6.blk.cell rfl; have c7' : w7.cell? ⟨g, 0, none⟩ = _ := hB7.blk.cell rfl; have f7 := hB7.blk.free 0)))
  all_goals
    have hB8 := hB7.store 0 (.slice a7 n7 c7)
    have hk8 : Kp B (some g) w (w7.setCell ⟨g, 0, none⟩ (.slice a7 n7 c7)) := (hk5.trans ((Kp.ofBelow hb6' hB5.le).trans hk7.none)).trans (Kp.set w7 0 _)
    generalize w7.setCell ⟨g, 0, none⟩ (.slice a7 n7 c7) = w8 at *
    clear hrun7 hB7 hk7 c6' c7' f7 hB6 hB5 c5 hr6 hb6 hb6'
    have hmI : (15 : Int) ≤ (n : Int) - 4 := by omega
    have hmc : (n : Int) - 4 = ((n - 4 : Nat) : Int) := by omega
    have HMC := Lib.hid hmc
    clear hmc
    have hB9 : BkAt B w8 g (l ++ [tok s.length (n - 4)] ++ moreL s.length ++ s ++ putL d 2) := ⟨_, hB8⟩
    go_wp2_with fail
    rw [HMC.out]
    refine (more_any hB9 (by omega) (by have := HML.out; simp; omega)).mono ?_
    rintro e w9 ⟨rfl, hB10, hk10⟩
    go_wp2
    go_end0
    refine ⟨rfl, ?_, hk8.trans hk10⟩
    rw [← HS.out]; exact hB10
set_option maxHeartbeats 1000000 in
theorem bseq_10 {B g d n q : Nat} {l s : List UInt8} {a : Option Addr} {c : Nat} {w : World} (h : BkAt B w g l) (hq : q = s.length) (hr : Row w a (s.map b8)) (hqc : q ≤ c) (hloc : 0 < s.length → (hd a).block < B ∧ (hd a).block ≠ g) (_ : d ≤ 65535)
    (hl : l.length + s.length + n ≤ 100000000) (ha : 15 ≤ s.length) (hn : n = 0) :
    Calls Try.prog 31 #[.pointer (some ⟨g, 0, none⟩), .slice a q c, .int .i64 d, .int .i64 n] w fun e w' => e = .returned (.tuple #[]) ∧ BkAt B w' g (l ++ seqL s d n) ∧ Kp B (some g) w w' := by
  subst hq
  subst hn
  obtain ⟨A, hA⟩ : ∃ A, A = min s.length 15 := ⟨_, rfl⟩
  have hA15 : A ≤ 15 := by omega
  have hminA : (if (15 : Int) < (s.length : Int) then (15 : Int) else (s.length : Int)) = (A : Int) := by split <;> omega
  have hmin0 : (if (15 : Int) < 0 then (15 : Int) else 0) = 0 := if_neg (by omega)
  have hT : bits .or .i64 ((A : Int) * 16) 0 % 256 = ((tok s.length 0).toNat : Int) := tok_raw _ _ (by omega) (by omega)
  clear hA
  have hlocS : 0 < (s.map b8).length → (hd a).block < B ∧ some g ≠ some (hd a).block := fun h0 => by
    have := hloc (by simpa using h0)
    exact ⟨this.1, fun e => this.2 (by simpa using e.symm)⟩
  have HLOC := Lib.hid hlocS
  have HML : Hid ((moreL s.length).length ≤ s.length) := by
    show _ ≤ _
    rw [moreL_length]; split <;> omega
  have HML2 : Hid ((moreL 0).length ≤ 0) := by
    show _ ≤ _
    rw [moreL_length]; split <;> omega
  clear hlocS hloc
  obtain ⟨v, hB⟩ := h
  have c0 : w.cell? ⟨g, 0, none⟩ = _ := hB.blk.cell rfl
  have f0 := hB.blk.free 0
  have hlt := hB.blk.lt
  obtain ⟨a1, n1, c1, w1, hrun, hB1, hk1⟩ := Buf.append1 (ty := 22) hB eB (tok s.length 0) (by omega)
  have d0 : w1.cell? ⟨g, 0, none⟩ = _ := hB1.blk.cell rfl
  have g0 := hB1.blk.free 0
  have HS : Hid (l ++ [tok s.length 0] ++ moreL s.length ++ s = l ++ seqL s d 0) := by
    show _ = _
    unfold seqL
    rw [if_pos rfl, List.append_nil]; simp
  go_enter Try.func31, Try.ntmps31
  go_upto_if 33 with (at_builtin; refine wpList_append_run hrun rfl rfl rfl rfl ?_)
  have hB2 := hB1.store 0 (.slice a1 n1 c1)
  have hk2 : Kp B (some g) w (w1.setCell ⟨g, 0, none⟩ (.slice a1 n1 c1)) := hk1.none.trans (Kp.set w1 0 _)
  generalize w1.setCell ⟨g, 0, none⟩ (.slice a1 n1 c1) = w2 at *
  replace hB2 : Buf B w2 g 52 5 [.slice a1 n1 c1] (.slice a1 n1 c1) (l ++ [tok s.length 0]) := hB2
  clear hrun c0 f0 d0 g0 hB1 hk1 hB hT hminA hmin0
  have haI : (15 : Int) ≤ s.length := by omega
  go_wp2_with fail
  refine (more_any (n := s.length) ⟨_, hB2⟩ ha (by simp; omega)).mono ?_
  rintro e w3 ⟨rfl, ⟨v3, hB3⟩, hk3'⟩
  have hk3 := hk2.trans hk3'
  clear hB2 hk2 hk3'
  have hr3 := hr.kp hk3 HLOC.out
  have c3 : w3.cell? ⟨g, 0, none⟩ = _ := hB3.blk.cell rfl
  have f3 := hB3.blk.free 0
  obtain ⟨a4, n4, c4, w4, hrun4, hB4, hk4, _⟩ := Buf.append (ty := 22) hB3 eB (Src.ofRow eB.ht a s.length c (s.map b8) (by decide) (by simp) hr3 (bytes_one s)) (by have := HML.out; simp; omega)
  have c4' : w4.cell? ⟨g, 0, none⟩ = _ := hB4.blk.cell rfl
  have f4 := hB4.blk.free 0
  go_wp2_with (at_builtin; refine wpList_append_run hrun4 rfl rfl rfl rfl ?_)
  refine bodyPost_ret (results_none (by rfl) _ _ _) rfl ?_
  refine ⟨rfl, ⟨.slice a4 n4 c4, ?_⟩, (hk3.trans hk4.none).trans (Kp.set w4 0 _)⟩
  rw [← HS.out]; exact hB4.store 0 _
set_option maxHeartbeats 1000000 in
theorem bseq_11 {B g d n q : Nat} {l s : List UInt8} {a : Option Addr} {c : Nat} {w : World} (h : BkAt B w g l) (hq : q = s.length) (hr : Row w a (s.map b8)) (hqc : q ≤ c) (hloc : 0 < s.length → (hd a).block < B ∧ (hd a).block ≠ g) (hdd : d ≤ 65535)
    (hl : l.length + s.length + n ≤ 100000000) (ha : 15 ≤ s.length) (hn : 4 ≤ n ∧ n < 19) :
    Calls Try.prog 31 #[.pointer (some ⟨g, 0, none⟩), .slice a q c, .int .i64 d, .int .i64 n] w fun e w' => e = .returned (.tuple #[]) ∧ BkAt B w' g (l ++ seqL s d n) ∧ Kp B (some g) w w' := by
  subst hq
  obtain ⟨hn4, hn19⟩ := hn
  obtain ⟨A, hA⟩ : ∃ A, A = min s.length 15 := ⟨_, rfl⟩
  have hA15 : A ≤ 15 := by omega
  have hminA : (if (15 : Int) < (s.length : Int) then (15 : Int) else (s.length : Int)) = (A : Int) := by split <;> omega
  obtain ⟨M, hM⟩ : ∃ M, M = min (n - 4) 15 := ⟨_, rfl⟩
  have hM15 : M ≤ 15 := by omega
  have hminM : (if (15 : Int) < (n : Int) - 4 then (15 : Int) else (n : Int) - 4) = (M : Int) := by split <;> omega
  have hT : bits .or .i64 ((A : Int) * 16) ((n : Int) - 4) % 256 = ((tok s.length (n - 4)).toNat : Int) := tok_raw _ _ (by omega) (by omega)
  clear hA hM
  have hlocS : 0 < (s.map b8).length → (hd a).block < B ∧ some g ≠ some (hd a).block := fun h0 => by
    have := hloc (by simpa using h0)
    exact ⟨this.1, fun e => this.2 (by simpa using e.symm)⟩
  have HLOC := Lib.hid hlocS
  have HML : Hid ((moreL s.length).length ≤ s.length) := by
    show _ ≤ _
    rw [moreL_length]; split <;> omega
  have HML2 : Hid ((moreL (n - 4)).length ≤ n) := by
    show _ ≤ _
    rw [moreL_length]; split <;> omega
  clear hlocS hloc
  obtain ⟨v, hB⟩ := h
  have c0 : w.cell? ⟨g, 0, none⟩ = _ := hB.blk.cell rfl
  have f0 := hB.blk.free 0
  have hlt := hB.blk.lt
  obtain ⟨a1, n1, c1, w1, hrun, hB1, hk1⟩ := Buf.append1 (ty := 22) hB eB (tok s.length (n - 4)) (by omega)
  have d0 : w1.cell? ⟨g, 0, none⟩ = _ := hB1.blk.cell rfl
  have g0 := hB1.blk.free 0
  have HS : Hid (l ++ [tok s.length (n - 4)] ++ moreL s.length ++ s ++ putL d 2 ++ moreL (n - 4) = l ++ seqL s d n) := by
    show _ = _
    unfold seqL
    rw [if_neg (by omega)]; simp
  go_enter Try.func31, Try.ntmps31
  go_upto_if 33 with (at_builtin; refine wpList_append_run hrun rfl rfl rfl rfl ?_)
  have hB2 := hB1.store 0 (.slice a1 n1 c1)
  have hk2 : Kp B (some g) w (w1.setCell ⟨g, 0, none⟩ (.slice a1 n1 c1)) := hk1.none.trans (Kp.set w1 0 _)
  generalize w1.setCell ⟨g, 0, none⟩ (.slice a1 n1 c1) = w2 at *
  replace hB2 : Buf B w2 g 52 5 [.slice a1 n1 c1] (.slice a1 n1 c1) (l ++ [tok s.length (n - 4)]) := hB2
  clear hrun c0 f0 d0 g0 hB1 hk1 hB hT hminA hminM
  have haI : (15 : Int) ≤ s.length := by omega
  go_wp2_with fail
  refine (more_any (n := s.length) ⟨_, hB2⟩ ha (by simp; omega)).mono ?_
  rintro e w3 ⟨rfl, ⟨v3, hB3⟩, hk3'⟩
  have hk3 := hk2.trans hk3'
  clear hB2 hk2 hk3'
  have hr3 := hr.kp hk3 HLOC.out
  have c3 : w3.cell? ⟨g, 0, none⟩ = _ := hB3.blk.cell rfl
  have f3 := hB3.blk.free 0
  obtain ⟨a4, n4, c4, w4, hrun4, hB4, hk4, _⟩ := Buf.append (ty := 22) hB3 eB (Src.ofRow eB.ht a s.length c (s.map b8) (by decide) (by simp) hr3 (bytes_one s)) (by have := HML.out; simp; omega)
  have c4' : w4.cell? ⟨g, 0, none⟩ = _ := hB4.blk.cell rfl
  have f4 := hB4.blk.free 0
  have hn0 : ((n : Int) == 0) = false := beq_eq_false_iff_ne.2 (by omega)
  go_wp2_with (at_builtin; refine wpList_append_run hrun4 rfl rfl rfl rfl ?_)
  have hB5 : Buf B (w4.setCell ⟨g, 0, none⟩ (.slice a4 n4 c4)) g 52 5 [.slice a4 n4 c4] (.slice a4 n4 c4) _ := hB4.store 0 (.slice a4 n4 c4)
  have hk5 : Kp B (some g) w (w4.setCell ⟨g, 0, none⟩ (.slice a4 n4 c4)) := (hk3.trans hk4.none).trans (Kp.set w4 0 _)
  generalize w4.setCell ⟨g, 0, none⟩ (.slice a4 n4 c4) = w5 at *
  clear hrun4 c3 f3 c4' f4 hB4 hk4 hB3 hk3 hr3
  have c5 : w5.cell? ⟨g, 0, none⟩ = _ := hB5.blk.cell rfl
  have hdI : (d : Int) ≤ 65535 := by omega
  have hdw : IntKind.u64.wrap (d : Int) = d := by rw [IntKind.wrap_u64]; omega
  go_region_law ((first
    | (refine step_append_run hrun7 rfl rfl rfl rfl ?_)
    | (go_simp; go_at_call 32; refine (put_any d 2 _ (by omega) (by decide) (by decide)).mono ?_; rintro e1 w6 ⟨v6, rfl, hF⟩; obtain ⟨a6, c6, rfl, hr6, hb6, _, _⟩ := hF.open; have hb6' : Below w5.heap.size w5 w6 := ⟨hb6.os, hb6.tape, hb6.output, hb6.size, hb6.block⟩; have hB6 := hB5.keep hb6'; obtain ⟨a7, n7, c7, w7, hrun7, hB7, hk7, _⟩ := Buf.append (ty := 22) hB6 eB (Src.ofRow eB.ht a6 (putL d 2).length c6 ((putL d 2).map b8) (by decide) (by simp) hr6 (bytes_one _)) (by have := HML.out; simp; omega); have c6' : w6.cell? ⟨g, 0, none⟩ = _ := hB6.blk.cell rfl; have c7' : w7.cell? ⟨g, 0, none⟩ = _ := hB7.blk.cell rfl; have f7 := hB7.blk.free 0)))
  all_goals
    have hB8 := hB7.store 0 (.slice a7 n7 c7)
    have hk8 : Kp B (some g) w (w7.setCell ⟨g, 0, none⟩ (.slice a7 n7 c7)) := (hk5.trans ((Kp.ofBelow hb6' hB5.le).trans hk7.none)).trans (Kp.set w7 0 _)
    generalize w7.setCell ⟨g, 0, none⟩ (.slice a7 n7 c7) = w8 at *
    clear hrun7 hB7 hk7 c6' c7' f7 hB6 hB5 c5 hr6 hb6 hb6'
    have hmI : ¬ (15 : Int) ≤ (n : Int) - 4 := by omega
    have HM0 : Hid (moreL (n - 4) = []) := if_pos (by omega)
    go_wp2
    go_end0
    refine ⟨rfl, ⟨.slice a7 n7 c7, ?_⟩, hk8⟩
    rw [← HS.out, HM0.out, List.append_nil]; exact hB8
set_option maxHeartbeats 1000000 in
theorem bseq_12 {B g d n q : Nat} {l s : List UInt8} {a : Option Addr} {c : Nat} {w : World} (h : BkAt B w g l) (hq : q = s.length) (hr : Row w a (s.map b8)) (hqc : q ≤ c) (hloc : 0 < s.length → (hd a).block < B ∧ (hd a).block ≠ g) (hdd : d ≤ 65535)
    (hl : l.length + s.length + n ≤ 100000000) (ha : 15 ≤ s.length) (hn : 19 ≤ n) :
    Calls Try.prog 31 #[.pointer (some ⟨g, 0, none⟩), .slice a q c, .int .i64 d, .int .i64 n] w fun e w' => e = .returned (.tuple #[]) ∧ BkAt B w' g (l ++ seqL s d n) ∧ Kp B (some g) w w' := by
  subst hq
  obtain ⟨A, hA⟩ : ∃ A, A = min s.length 15 := ⟨_, rfl⟩
  have hA15 : A ≤ 15 := by omega
  have hminA : (if (15 : Int) < (s.length : Int) then (15 : Int) else (s.length : Int)) = (A : Int) := by split <;> omega
  obtain ⟨M, hM⟩ : ∃ M, M = min (n - 4) 15 := ⟨_, rfl⟩
  have hM15 : M ≤ 15 := by omega
  have hminM : (if (15 : Int) < (n : Int) - 4 then (15 : Int) else (n : Int) - 4) = (M : Int) := by split <;> omega
  have hT : bits .or .i64 ((A : Int) * 16) (M : Int) % 256 = ((tok s.length (n - 4)).toNat : Int) := tok_raw _ _ (by omega) (by omega)
  clear hA hM
  have hlocS : 0 < (s.map b8).length → (hd a).block < B ∧ some g ≠ some (hd a).block := fun h0 => by
    have := hloc (by simpa using h0)
    exact ⟨this.1, fun e => this.2 (by simpa using e.symm)⟩
  have HLOC := Lib.hid hlocS
  have HML : Hid ((moreL s.length).length ≤ s.length) := by
    show _ ≤ _
    rw [moreL_length]; split <;> omega
  have HML2 : Hid ((moreL (n - 4)).length ≤ n) := by
    show _ ≤ _
    rw [moreL_length]; split <;> omega
  clear hlocS hloc
  obtain ⟨v, hB⟩ := h
  have c0 : w.cell? ⟨g, 0, none⟩ = _ := hB.blk.cell rfl
  have f0 := hB.blk.free 0
  have hlt := hB.blk.lt
  obtain ⟨a1, n1, c1, w1, hrun, hB1, hk1⟩ := Buf.append1 (ty := 22) hB eB (tok s.length (n - 4)) (by omega)
  have d0 : w1.cell? ⟨g, 0, none⟩ = _ := hB1.blk.cell rfl
  have g0 := hB1.blk.free 0
  have HS : Hid (l ++ [tok s.length (n - 4)] ++ moreL s.length ++ s ++ putL d 2 ++ moreL (n - 4) = l ++ seqL s d n) := by
    show _ = _
    unfold seqL
    rw [if_neg (by omega)]; simp
  go_enter Try.func31, Try.ntmps31
  go_upto_if 33 with (at_builtin; refine wpList_append_run hrun rfl rfl rfl rfl ?_)
  have hB2 := hB1.store 0 (.slice a1 n1 c1)
  have hk2 : Kp B (some g) w (w1.setCell ⟨g, 0, none⟩ (.slice a1 n1 c1)) := hk1.none.trans (Kp.set w1 0 _)
  generalize w1.setCell ⟨g, 0, none⟩ (.slice a1 n1 c1) = w2 at *
  replace hB2 : Buf B w2 g 52 5 [.slice a1 n1 c1] (.slice a1 n1 c1) (l ++ [tok s.length (n - 4)]) := hB2
  clear hrun c0 f0 d0 g0 hB1 hk1 hB hT hminA hminM
  have haI : (15 : Int) ≤ s.length := by omega
  go_wp2_with fail
  refine (more_any (n := s.length) ⟨_, hB2⟩ ha (by simp; omega)).mono ?_
  rintro e w3 ⟨rfl, ⟨v3, hB3⟩, hk3'⟩
  have hk3 := hk2.trans hk3'
  clear hB2 hk2 hk3'
  have hr3 := hr.kp hk3 HLOC.out
  have c3 : w3.cell? ⟨g, 0, none⟩ = _ := hB3.blk.cell rfl
  have f3 := hB3.blk.free 0
  obtain ⟨a4, n4, c4, w4, hrun4, hB4, hk4, _⟩ := Buf.append (ty := 22) hB3 eB (Src.ofRow eB.ht a s.length c (s.map b8) (by decide) (by simp) hr3 (bytes_one s)) (by have := HML.out; simp; omega)
  have c4' : w4.cell? ⟨g, 0, none⟩ = _ := hB4.blk.cell rfl
  have f4 := hB4.blk.free 0
  have hn0 : ((n : Int) == 0) = false := beq_eq_false_iff_ne.2 (by omega)
  go_wp2_with (at_builtin; refine wpList_append_run hrun4 rfl rfl rfl rfl ?_)
  have hB5 : Buf B (w4.setCell ⟨g, 0, none⟩ (.slice a4 n4 c4)) g 52 5 [.slice a4 n4 c4] (.slice a4 n4 c4) _ := hB4.store 0 (.slice a4 n4 c4)
  have hk5 : Kp B (some g) w (w4.setCell ⟨g, 0, none⟩ (.slice a4 n4 c4)) := (hk3.trans hk4.none).trans (Kp.set w4 0 _)
  generalize w4.setCell ⟨g, 0, none⟩ (.slice a4 n4 c4) = w5 at *
  clear hrun4 c3 f3 c4' f4 hB4 hk4 hB3 hk3 hr3
  have c5 : w5.cell? ⟨g, 0, none⟩ = _ := hB5.blk.cell rfl
  have hdI : (d : Int) ≤ 65535 := by omega
  have hdw : IntKind.u64.wrap (d : Int) = d := by rw [IntKind.wrap_u64]; omega
  go_region_law ((first
    | (refine step_append_run hrun7 rfl rfl rfl rfl ?_)
    | (go_simp; go_at_call 32; refine (put_any d 2 _ (by omega) (by decide) (by decide)).mono ?_; rintro e1 w6 ⟨v6, rfl, hF⟩; obtain ⟨a6, c6, rfl, hr6, hb6, _, _⟩ := hF.open; have hb6' : Below w5.heap.size w5 w6 := ⟨hb6.os, hb6.tape, hb6.output, hb6.size, hb6.block⟩; have hB6 := hB5.keep hb6'; obtain ⟨a7, n7, c7, w7, hrun7, hB7, hk7, _⟩ := Buf.append (ty := 22) hB6 eB (Src.ofRow eB.ht a6 (putL d 2).length c6 ((putL d 2).map b8) (by decide) (by simp) hr6 (bytes_one _)) (by have := HML.out; simp; omega); have c6' : w6.cell? ⟨g, 0, none⟩ = _ := hB6.blk.cell rfl; have c7' : w7.cell? ⟨g, 0, none⟩ = _ := hB7.blk.cell rfl; have f7 := hB7.blk.free 0)))
  all_goals
    have hB8 := hB7.store 0 (.slice a7 n7 c7)
    have hk8 : Kp B (some g) w (w7.setCell ⟨g, 0, none⟩ (.slice a7 n7 c7)) := (hk5.trans ((Kp.ofBelow hb6' hB5.le).trans hk7.none)).trans (Kp.set w7 0 _)
    generalize w7.setCell ⟨g, 0, none⟩ (.slice a7 n7 c7) = w8 at *
    clear hrun7 hB7 hk7 c6' c7' f7 hB6 hB5 c5 hr6 hb6 hb6'
    have hmI : (15 : Int) ≤ (n : Int) - 4 := by omega
    have hmc : (n : Int) - 4 = ((n - 4 : Nat) : Int) := by omega
    have HMC := Lib.hid hmc
    clear hmc
    have hB9 : BkAt B w8 g (l ++ [tok s.length (n - 4)] ++ moreL s.length ++ s ++ putL d 2) := ⟨_, hB8⟩
    go_wp2_with fail
    rw [HMC.out]
    refine (more_any hB9 (by omega) (by have := HML.out; simp; omega)).mono ?_
    rintro e w9 ⟨rfl, hB10, hk10⟩
    go_wp2
    go_end0
    refine ⟨rfl, ?_, hk8.trans hk10⟩
    rw [← HS.out]; exact hB10
theorem bseq_any {B g d n q : Nat} {l s : List UInt8} {a : Option Addr} {c : Nat} {w : World} (h : BkAt B w g l) (hq : q = s.length) (hr : Row w a (s.map b8)) (hqc : q ≤ c) (hloc : 0 < s.length → (hd a).block < B ∧ (hd a).block ≠ g) (hdd : d ≤ 65535)
    (hl : l.length + s.length + n ≤ 100000000) (hn : n = 0 ∨ 4 ≤ n) :
    Calls Try.prog 31 #[.pointer (some ⟨g, 0, none⟩), .slice a q c, .int .i64 d, .int .i64 n] w fun e w' => e = .returned (.tuple #[]) ∧ BkAt B w' g (l ++ seqL s d n) ∧ Kp B (some g) w w' := by
  by_cases ha : s.length < 15
  · rcases hn with hn | hn
    · exact bseq_00 h hq hr hqc hloc hdd hl ha hn
    · by_cases h19 : n < 19
      · exact bseq_01 h hq hr hqc hloc hdd hl ha ⟨hn, h19⟩
      · exact bseq_02 h hq hr hqc hloc hdd hl ha (by omega)
  · rcases hn with hn | hn
    · exact bseq_10 h hq hr hqc hloc hdd hl (by omega) hn
    · by_cases h19 : n < 19
      · exact bseq_11 h hq hr hqc hloc hdd hl (by omega) ⟨hn, h19⟩
      · exact bseq_12 h hq hr hqc hloc hdd hl (by omega) (by omega)
end Go.Proofs.Ytpkgcnklpnficaa
