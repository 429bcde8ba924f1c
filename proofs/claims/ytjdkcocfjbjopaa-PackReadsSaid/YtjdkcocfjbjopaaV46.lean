/- Layer 05: the document's Decode, Plain. -/
import Derived.Test.YtjdkcocfjbjopaaV45
import Derived.Deep.RegionLaw
set_option maxRecDepth 20000
namespace Go.Proofs.Ytjdkcocfjbjopaa
open Go.RowKit Go.Hd
attribute [local go_sem ↓] h_ldV h_stV h_alV
attribute [local go_sem] r_ldV r_stV r_alV

/-- Fields that play no part are zero. -/
inductive Pln : PV → Prop
  | mk {k n : Int} {b t : List UInt8} {ks : List (List UInt8)} {l : List PV} (h3 : k ≠ 3 → n = 0) (h4 : k ≠ 4 → b = []) (h5 : k ≠ 5 → t = []) (h7 : k ≠ 7 → ks = []) (h6 : k < 6 → l = []) (hl : ∀ v ∈ l, Pln v) : Pln (.mk k n b t ks l)
theorem Pln.num (n : Int) : Pln (pNum n) := .mk (by simp) (by simp) (by simp) (by simp) (by simp) (by simp)
theorem Pln.txt (t : List UInt8) : Pln (pTxt t) := .mk (by simp) (by simp) (by simp) (by simp) (by simp) (by simp)
theorem Pln.byt (t : List UInt8) : Pln (pByt t) := .mk (by simp) (by simp) (by simp) (by simp) (by simp) (by simp)
theorem Pln.kind (k : Int) : Pln (pKind k) := .mk (by simp) (by simp) (by simp) (by simp) (by simp) (by simp)
theorem Pln.list {l : List PV} (h : ∀ v ∈ l, Pln v) : Pln (pList l) := .mk (by simp) (by simp) (by simp) (by simp) (by simp) h
theorem Pln.dict {ps : PsL} (h : ∀ p ∈ ps, Pln p.2) : Pln (pDict ps) := .mk (by simp) (by simp) (by simp) (by simp) (by simp) (by
  intro v hv
  obtain ⟨p, hp, rfl⟩ := List.mem_map.1 hv
  exact h p hp)
theorem bind_eq_ok {α β : Type} {s : Rs α} {f : α → List UInt8 → Rs β} {y : β} {r : List UInt8} (h : s.bind f = .ok y r) : ∃ x r1, s = .ok x r1 ∧ f x r1 = .ok y r := by
  cases s with
  | no c => cases h
  | ok x r1 => exact ⟨x, r1, rfl, h⟩
theorem listR_pln {f : List UInt8 → Rs PV} (hf : ∀ l v r, f l = .ok v r → Pln v) : ∀ (n : Nat) (l : List UInt8) (vs : List PV) (r : List UInt8), listR f n l = .ok vs r → ∀ v ∈ vs, Pln v
  | 0, l, vs, r, h => by cases h; simp
  | n + 1, l, vs, r, h => by
    unfold listR at h
    obtain ⟨v, r1, h1, h⟩ := bind_eq_ok h
    obtain ⟨ws, r2, h2, h⟩ := bind_eq_ok h
    cases h
    intro u hu
    rcases List.mem_cons.1 hu with rfl | hu
    · exact hf _ _ _ h1
    · exact listR_pln hf n _ _ _ h2 u hu
theorem dictR_pln {f : List UInt8 → Rs PV} (hf : ∀ l v r, f l = .ok v r → Pln v) : ∀ (n : Nat) (k : Option (List UInt8)) (l : List UInt8) (vs : PsL) (r : List UInt8), dictR f n k l = .ok vs r → ∀ v ∈ vs, Pln v.2
  | 0, k, l, vs, r, h => by cases h; simp
  | n + 1, k, l, vs, r, h => by
    unfold dictR at h
    obtain ⟨k1, r0, _, h⟩ := bind_eq_ok h
    obtain ⟨v, r1, h1, h⟩ := bind_eq_ok h
    obtain ⟨ws, r2, h2, h⟩ := bind_eq_ok h
    cases h
    intro u hu
    rcases List.mem_cons.1 hu with rfl | hu
    · exact hf _ _ _ h1
    · exact dictR_pln hf n _ _ _ _ h2 u hu
theorem leadR_pln {f : List UInt8 → Rs PV} (hf : ∀ l v r, f l = .ok v r → Pln v) {c : Nat} {l : List UInt8} {v : PV} {r : List UInt8} (h : leadR f c l = .ok v r) : Pln v := by
  unfold leadR at h
  by_cases g0 : isText c = true
  · rw [if_pos g0] at h; obtain ⟨x, r1, _, h⟩ := bind_eq_ok h; cases h; exact .txt _
  rw [if_neg g0] at h
  by_cases g1 : c ≤ 0x7f ∨ 0xe0 ≤ c
  · rw [if_pos g1] at h; cases h; exact .num _
  rw [if_neg g1] at h
  by_cases g2 : c / 16 = 9
  · rw [if_pos g2] at h; obtain ⟨x, r1, h1, h⟩ := bind_eq_ok h; cases h; exact .list (listR_pln hf _ _ _ _ h1)
  rw [if_neg g2] at h
  by_cases g3 : c / 16 = 8
  · rw [if_pos g3] at h; obtain ⟨x, r1, h1, h⟩ := bind_eq_ok h; cases h; exact .dict (dictR_pln hf _ _ _ _ _ h1)
  rw [if_neg g3] at h
  by_cases g4 : 0xcc ≤ c ∧ c ≤ 0xd3
  · rw [if_pos g4] at h; obtain ⟨x, r1, _, h⟩ := bind_eq_ok h; cases h; exact .num _
  rw [if_neg g4] at h
  by_cases g5 : c = 0xc0
  · rw [if_pos g5] at h; cases h; exact .kind _
  rw [if_neg g5] at h
  by_cases g6 : c = 0xc2
  · rw [if_pos g6] at h; cases h; exact .kind _
  rw [if_neg g6] at h
  by_cases g7 : c = 0xc3
  · rw [if_pos g7] at h; cases h; exact .kind _
  rw [if_neg g7] at h
  by_cases g8 : c = 0xc4
  · rw [if_pos g8] at h; obtain ⟨x, r1, _, h⟩ := bind_eq_ok h; cases h; exact .byt _
  rw [if_neg g8] at h
  by_cases g9 : c = 0xc5
  · rw [if_pos g9] at h; obtain ⟨x, r1, _, h⟩ := bind_eq_ok h; cases h; exact .byt _
  rw [if_neg g9] at h
  by_cases g10 : c = 0xdc
  · rw [if_pos g10] at h; obtain ⟨n, r0, _, h⟩ := bind_eq_ok h; obtain ⟨x, r1, h1, h⟩ := bind_eq_ok h; cases h; exact .list (listR_pln hf _ _ _ _ h1)
  rw [if_neg g10] at h
  by_cases g11 : c = 0xde
  · rw [if_pos g11] at h; obtain ⟨n, r0, _, h⟩ := bind_eq_ok h; obtain ⟨x, r1, h1, h⟩ := bind_eq_ok h; cases h; exact .dict (dictR_pln hf _ _ _ _ _ h1)
  rw [if_neg g11] at h
  cases h
theorem decV_pln : ∀ (d : Nat) (l : List UInt8) (v : PV) (r : List UInt8), decV d l = .ok v r → Pln v
  | 0, l, v, r, h => by
    unfold decV at h
    split at h <;> cases h
  | d + 1, l, v, r, h => by
    unfold decV at h
    cases l with
    | nil => cases h
    | cons c l => exact leadR_pln (decV_pln d) h
theorem decF_pln (l : List UInt8) : Pln (decF l).1 := by
  have h0 : Pln pv0 := Pln.kind 0
  unfold decF
  split
  · exact h0
  · cases hd : decV 16 l with
    | no c => exact h0
    | ok v r =>
      show Pln (if r = [] then (v, (0 : Int)) else (pv0, 6)).1
      split
      · exact decV_pln _ _ _ _ hd
      · exact h0

set_option maxHeartbeats 4000000 in
theorem rplain_any {w0 : World} {cs : List Value} {v : PV} (h : VAt w0 cs v) : Pln v → ∀ (w : World), Below w0.heap.size w0 w →
    Calls Try.prog 21 #[.agg cs.toArray] w fun e w' => e = .returned (.bool true) ∧ Below w.heap.size w w' := by
  induction h with
  | @mk k n b t ks l ab ak al cb ck cl css hk hn hb hbc ht hks hkc hkt hl hlc hcs h6 sub ih =>
  intro hp w hbw
  obtain ⟨p3, p4, p5, p7, p6, pl⟩ := hp
  have hb0 : Below w.heap.size w (w.alloc (.cells (List.toArray (α := Value) [.int .i64 k, .int .i64 n, .slice ab b.length cb, strV t, .slice ak ks.length ck, .slice al l.length cl]) 26)) := (Below.refl _ _).alloc (Nat.le_refl _) _
  have B0 : Blk (w.alloc (.cells (List.toArray (α := Value) [.int .i64 k, .int .i64 n, .slice ab b.length cb, strV t, .slice ak ks.length ck, .slice al l.length cl]) 26)) w.heap.size 26 [.int .i64 k, .int .i64 n, .slice ab b.length cb, strV t, .slice ak ks.length ck, .slice al l.length cl] := Blk.new _ _ _
  have hS0 : k ≠ 5 → strV t = .string { data := #[] } := fun h => by rw [p5 h]; rfl
  have PL := Lib.hid pl
  generalize hS : strV t = S at *
  have hSo : S.oneCell' = true := by rw [← hS]; rfl
  have hSs : ∃ u, S = .string u := ⟨str t, hS.symm⟩
  clear hS p5 pl
  go_enter Try.func21, Try.ntmps21
  go_upto_region 1 with (fail)
  generalize w.alloc (.cells (List.toArray (α := Value) [.int .i64 k, .int .i64 n, .slice ab b.length cb, S, .slice ak ks.length ck, .slice al l.length cl]) 26) = W at *
  have c0 : W.cell? ⟨w.heap.size, 0, none⟩ = some (.int .i64 k) := B0.cell rfl
  have c1 : W.cell? ⟨w.heap.size, 1, none⟩ = some (.int .i64 n) := B0.cell rfl
  have c2 : W.cell? ⟨w.heap.size, 2, none⟩ = some (.slice ab b.length cb) := B0.cell rfl
  have c3 : W.cell? ⟨w.heap.size, 3, none⟩ = some S := B0.cell rfl
  have c4 : W.cell? ⟨w.heap.size, 4, none⟩ = some (.slice ak ks.length ck) := B0.cell rfl
  have c5 : W.cell? ⟨w.heap.size, 5, none⟩ = some (.slice al l.length cl) := B0.cell rfl
  go_cut [54] (fun u wx => u = .bool false ∧ wx = W)
  case first =>
    by_cases k3 : k = 3
    · subst k3
      obtain rfl := p4 (by decide)
      obtain rfl := p7 (by decide)
      obtain rfl := p6 (by decide)
      obtain rfl := hS0 (by decide)
      go_wp2
      go_meet
      exact ⟨rfl, rfl⟩
    obtain rfl := p3 k3
    have e3 : (k != 3) = true := by simpa using k3
    by_cases k4 : k = 4
    · subst k4
      obtain rfl := p7 (by decide)
      obtain rfl := p6 (by decide)
      obtain rfl := hS0 (by decide)
      go_wp2
      go_meet
      exact ⟨rfl, rfl⟩
    obtain rfl := p4 k4
    have e4 : (k != 4) = true := by simpa using k4
    by_cases k5 : k = 5
    · subst k5
      obtain ⟨u, rfl⟩ := hSs
      obtain rfl := p7 (by decide)
      obtain rfl := p6 (by decide)
      go_wp2
      go_meet
      exact ⟨rfl, rfl⟩
    obtain rfl := hS0 k5
    have e5 : (k != 5) = true := by simpa using k5
    by_cases k7 : k = 7
    · subst k7
      go_wp2
      go_meet
      exact ⟨rfl, rfl⟩
    obtain rfl := p7 k7
    have e7 : (k != 7) = true := by simpa using k7
    by_cases k6 : k < 6
    · obtain rfl := p6 k6
      go_wp2
      go_meet
      exact ⟨rfl, rfl⟩
    · go_wp2
      go_meet
      exact ⟨rfl, rfl⟩
  case rest =>
    obtain ⟨rfl, hwc⟩ := hcut
    subst hwc
    clear p4 p7 p6 hS0 hSs p3 c0 c1 c2 c3 c4 c5
    go_wp2
    go_loopw [3] (fun i wr => ∃ j : Nat, j ≤ l.length ∧ i = .int .i64 j ∧ Blk wr w.heap.size 26 [.int .i64 k, .int .i64 n, .slice ab b.length cb, S, .slice ak ks.length ck, .slice al l.length cl] ∧ Below w.heap.size w wr) (fun i _ => l.length - (intOf i).toNat)
    case atStart => exact ⟨0, Nat.zero_le _, rfl, B0, hb0⟩
    case round =>
      obtain ⟨j, hj, rfl, BK, hb⟩ := hrel
      have c5 : wr.cell? ⟨w.heap.size, 5, none⟩ = some (.slice al l.length cl) := BK.cell rfl
      by_cases hlt : j < l.length
      · have hcj : css[j]? = some (css[j]'(by omega)) := by simp
        have hvj : l[j]? = some l[j] := by simp [hlt]
        have hbC : Below w0.heap.size w0 wr := hbw.trans (hb.mono hbw.size)
        have IH := ih j _ _ hcj hvj (PL.out _ (List.getElem_mem hlt)) wr hbC
        have hrow := hl.below hbC
        have s1 := hrow.elemSome (s := 6) h6 (by decide) (i := j) (by omega)
        have q1 := ldOp_at (P := Try.prog) (ty := 26) (hrow.elem (s := 6) h6 hcj) Try.underlying26 rfl (by rw [h6 _ (List.getElem_mem _)]; exact sizeV)
        have hsz := hb.size
        have j0 : (0 : Int) ≤ (j : Int) := by omega
        have j1 : (j : Int) < (l.length : Int) := by omega
        have jb : (j : Int) + 1 ≤ 9223372036854775807 := by unfold maxLen at hlc; omega
        have ew2 : IntKind.i64.wrap ((j : Int) + 1) = (j : Int) + 1 := IntWalk.i64_in _ (by omega)
        generalize css[j]'(by omega) = c at *
        generalize l[j] = v at *
        clear hcj hvj hrow
        go_wp2_with fail
        refine IH.mono ?_
        rintro e w5 ⟨rfl, hb5⟩
        have BK5 := BK.below hb5
        have hbw5 : Below w.heap.size w w5 := hb.trans (hb5.mono hsz)
        go_wp2
        first
          | exact ⟨⟨j + 1, by omega, (by first | rfl | go_num | (congr 1; omega)), BK5, hbw5⟩, by simp [intOf] <;> omega⟩
          | (refine ⟨?_, by simp [intOf] <;> omega⟩; (repeat apply Exists.intro); exact ⟨⟨j + 1, by omega, (by first | rfl | go_num | (congr 1; omega)), BK5, hbw5⟩, rfl⟩)
      · obtain rfl : j = l.length := by omega
        go_wp2
        go_ret
        exact ⟨rfl, hb⟩

set_option maxHeartbeats 2000000 in
theorem rdec_any {a : Option Addr} {n c : Nat} {l : List UInt8} {w : World} (hn : n = l.length) (hl : Row w a (l.map b8)) (hc : l.length ≤ c) (hm : c ≤ maxLen) :
    Calls Try.prog 20 #[.slice a n c] w (DecP w l) := by
  subst hn
  have zs := zV_size
  have hO6 := oneC6
  have hb0 : Below w.heap.size w (w.alloc (.cells zV 26)) := (Below.refl _ _).alloc (Nat.le_refl _) _
  have R0 : Blk (w.alloc (.cells zV 26)) w.heap.size 26 zV.toList := Blk.new _ _ _
  by_cases hbig : 65536 < l.length
  · have i1 : 65536 < (l.length : Int) := by omega
    obtain ⟨HST, HB2, HV⟩ := dec_zero (l := l) (c := 5) R0 (by rfl) hb0 (by unfold decF; rw [if_pos hbig])
    clear R0 hb0
    go_enter Try.func20, Try.ntmps20
    go_wp2
    exact bodyPost_ret (results_cell_tmp (fn := Try.f20) (p := 2) (t := 3) (by rfl) _ _ w.heap.size 26 _ (0, 0) _ (by rfl) HB2 Try.underlying26 rfl sizeV) rfl HV
  · have i1 : ¬ 65536 < (l.length : Int) := by omega
    have HDF : Hid (decF l = match decV 16 l with | .no c => (pv0, c) | .ok v r => if r = [] then (v, 0) else (pv0, 6)) := by show _ = _; unfold decF; rw [if_neg hbig]; cases decV 16 l <;> rfl
    have hsm : l.length ≤ 65536 := by omega
    have hb2 : Below (w.alloc (.cells zV 26)).heap.size (w.alloc (.cells zV 26)) ((w.alloc (.cells zV 26)).alloc (.cells #[.slice a l.length c, .int .i64 0, .int .i64 0] 68)) := (Below.refl _ _).alloc (Nat.le_refl _) _
    have hbw2 : Below w.heap.size w ((w.alloc (.cells zV 26)).alloc (.cells #[.slice a l.length c, .int .i64 0, .int .i64 0] 68)) := Gr.trans hb0 hb2
    have hRD : RRs (w.heap.size + 1) ((w.alloc (.cells zV 26)).alloc (.cells #[.slice a l.length c, .int .i64 0, .int .i64 0] 68)) (w.heap.size + 1) l (.ok () l) := by
      refine ⟨a, c, 0, 0, ?_, hl.below hbw2, ⟨hc, hm⟩, fun h0 => ?_, Nat.le_refl _, Nat.zero_le _, hsm, by simp, rfl⟩
      · have := Blk.new (w.alloc (.cells zV 26)) 68 #[.slice a l.length c, .int .i64 0, .int .i64 0]
        simpa using this
      · have := hl.block_lt (by simpa using h0); omega
    have hval := rvalue_any 16 (by decide) _ _ _ _ _ 1 rfl hRD (by simp)
    rw [Rs.bind_ok] at hval
    have R2 := R0.below hb2
    have hg1 := hRD.lt
    have hWs : ((w.alloc (.cells zV 26)).alloc (.cells #[.slice a l.length c, .int .i64 0, .int .i64 0] 68)).heap.size = w.heap.size + 2 := by simp
    obtain ⟨W, hW⟩ : ∃ W, W = (w.alloc (.cells zV 26)).alloc (.cells #[.slice a l.length c, .int .i64 0, .int .i64 0] 68) := ⟨_, rfl⟩
    rw [← hW] at hval hbw2 R2 hg1 hWs
    generalize decV 16 l = R at *
    clear hRD R0 hb0 hb2 hbig
    go_enter Try.func20, Try.ntmps20
    go_upto_region 4 with (fail)
    rw [← hW]
    clear hW
    go_wp2_with fail
    refine hval.mono ?_
    rintro ee w3 ⟨cs, v, rfl, hv, hv0, hP, hk⟩
    have x6 : (List.toArray cs).size = 6 := hv.len
    have xo : OneC (List.toArray cs) := all_oneCell_toArray hv.one
    have hb4 : Below w3.heap.size w3 (w3.alloc (.cells (List.toArray cs) 26)) := (Below.refl _ _).alloc (Nat.le_refl _) _
    have R3 := hk.blk R2 (by omega) (by omega)
    have R4 := R3.below hb4
    have hbw3 : Below w.heap.size w w3 := hbw2.trans (hk.below hbw2.size (by omega) (by omega))
    have hbw4 : Below w.heap.size w (w3.alloc (.cells (List.toArray cs) 26)) := hbw3.trans (hb4.mono hbw3.size)
    have B5 : Blk (w3.alloc (.cells (List.toArray cs) 26)) w3.heap.size 26 cs := by simpa using Blk.new w3 26 (List.toArray cs)
    have hP4 := hP.keep hb4
    have hv4 := (hv.grow hb4).mono (ok' := fun b => w.heap.size + 2 ≤ b) (fun b hb _ => by omega)
    have q5 : (ldOp 26 (.pointer (some ⟨w3.heap.size, 0, none⟩))).run Try.prog (w3.alloc (.cells (List.toArray cs) 26)) = .ok (.agg (List.toArray cs)) (w3.alloc (.cells (List.toArray cs) 26)) := ldOp_all (P := Try.prog) (ty := 26) B5 Try.underlying26 rfl (by rw [hv.len]; exact sizeV)
    have hq5 : w.heap.size + 2 ≤ w3.heap.size := by have := hk.size; omega
    clear hP hk R2 R3 hbw2 hbw3 hval hv hb4 B5
    go_upto_region 5 with (fail)
    generalize w3.alloc (.cells (List.toArray cs) 26) = w4 at *
    cases R with
    | no c5 =>
      obtain ⟨q1, q2⟩ := hP4.noC
      have e1 : (c5 == 0) = false := by simpa using q2
      have e2 : (c5 != 0) = true := by simpa using q2
      obtain ⟨a4, c4, p, e, k1, k2, k3, k4, k5, k6, k7, ⟨rfl, k9⟩⟩ := hP4
      have q9 : (w4.drew.setRow w.heap.size (List.toArray (α := Value) [.int .i64 0, .int .i64 0, .slice none 0 0, .string { data := #[] }, .slice none 0 0, .slice none 0 0])).cell? ⟨w.heap.size + 1, 2, none⟩ = some (.int .i64 e) := ((show Blk w4.drew (w.heap.size + 1) 68 _ from k1).grown (setRow_gr w4.drew w.heap.size (List.toArray (α := Value) [.int .i64 0, .int .i64 0, .slice none 0 0, .string { data := #[] }, .slice none 0 0, .slice none 0 0])) (by omega)).cell rfl
      clear k1 k2 k3 k4 k5 k6 k7
      obtain ⟨HST, HB2, HV⟩ := dec_zero (w2 := w4.drew) (l := l) (c := e) R4 (by rfl) (Below.drewN hbw4 1) HDF.out
      clear R4 hbw4 hv4 hv0 HDF q5 k9
      go_wp2
      go_region_law (fail)
      all_goals
        go_wp2
        exact bodyPost_ret (results_cell_tmp (fn := Try.f20) (p := 2) (t := 3) (by rfl) _ _ w.heap.size 26 _ (0, 0) _ (by rfl) HB2 Try.underlying26 rfl sizeV) rfl HV
    | ok v0 r =>
      obtain rfl := hv0 v0 r rfl
      have q1 := hP4.ok0
      obtain ⟨a4, c4, p, e, k1, k2, k3, k4, k5, k6, k7, ⟨k8, rfl⟩⟩ := hP4
      have c1 : w4.cell? ⟨w.heap.size + 1, 1, none⟩ = some (.int .i64 (p : Int)) := k1.cell rfl
      by_cases hr : r = []
      · have hpl : l.length ≤ p := by
          have := congrArg List.length k8
          rw [hr, List.length_drop] at this
          simp at this; omega
        have i2 : ¬ (p : Int) < (l.length : Int) := by omega
        have HD2 : Hid (decF l = (v, 0)) := by show _ = _; rw [HDF.out]; exact if_pos hr
        have HST := st_row R4 (by rfl) (List.toArray cs) x6 xo
        have HB2 := setRow_blk R4 cs
        have HG2 := setRow_gr w4 w.heap.size (List.toArray cs)
        have HV : Hid (DecP w l (.returned (.tuple #[.agg (List.toArray cs), .int .i64 0])) (w4.setRow w.heap.size (List.toArray cs))) := by
          refine ⟨cs, by rw [HD2.out], ?_, Below.grown hbw4 HG2 hbw4.size (fun k hk => by cases hk; exact Nat.le_refl _)⟩
          rw [HD2.out]
          exact (hv4.same (w' := w4.setRow w.heap.size _) (fun z hz hlt => HG2.block z hlt (by have hz : w.heap.size + 2 ≤ z := hz; simp; omega))).mono (fun z hz _ => by have hz : w.heap.size + 2 ≤ z := hz; omega)
        clear R4 hbw4 hv4 hv0 hr HG2 HDF HD2 k1 k2 k4 k8 hpl
        go_wp2
        exact bodyPost_ret (results_cell_tmp (fn := Try.f20) (p := 2) (t := 3) (by rfl) _ _ w.heap.size 26 _ (0, 0) _ (by rfl) HB2 Try.underlying26 rfl (by rw [x6]; exact sizeV)) rfl HV.out
      · have hpl : p < l.length := by
          have h1 := congrArg List.length k8
          rw [List.length_drop] at h1
          have h2 := List.length_pos_iff.2 hr
          omega
        have i2 : (p : Int) < (l.length : Int) := by omega
        have hP4 : RRs (w.heap.size + 1) w4 (w.heap.size + 1) l (.ok v r) := ⟨a4, c4, p, 0, k1, k2, k3, k4, k5, k6, k7, k8, rfl⟩
        obtain ⟨hP5, hg5, f2, z, c2⟩ := RRs.fail (β := PV) hP4 6 (by decide)
        have q6 := hP5.noC.1
        obtain ⟨a6, c6, p6, e6, m1, _, _, _, _, _, _, ⟨m2, _⟩⟩ := hP5
        subst m2
        have q9 : ((w4.setCell ⟨w.heap.size + 1, 2, none⟩ (.int .i64 6)).drew.setRow w.heap.size (List.toArray (α := Value) [.int .i64 0, .int .i64 0, .slice none 0 0, .string { data := #[] }, .slice none 0 0, .slice none 0 0])).cell? ⟨w.heap.size + 1, 2, none⟩ = some (.int .i64 6) := ((show Blk (w4.setCell ⟨w.heap.size + 1, 2, none⟩ (.int .i64 6)).drew (w.heap.size + 1) 68 _ from m1).grown (setRow_gr (w4.setCell ⟨w.heap.size + 1, 2, none⟩ (.int .i64 6)).drew w.heap.size (List.toArray (α := Value) [.int .i64 0, .int .i64 0, .slice none 0 0, .string { data := #[] }, .slice none 0 0, .slice none 0 0])) (by omega)).cell rfl
        clear m1
        have hbw5 : Below w.heap.size w (w4.setCell ⟨w.heap.size + 1, 2, none⟩ (.int .i64 6)) := Below.grown hbw4 hg5 hbw4.size (fun k hk => by cases hk; omega)
        obtain ⟨HST, HB2, HV⟩ := dec_zero (w2 := (w4.setCell ⟨w.heap.size + 1, 2, none⟩ (.int .i64 6)).drew) (l := l) (c := 6) ((Dk.one hg5).blk R4 (by omega) (by omega)) (by rfl) (Below.drewN hbw5 1) (by rw [HDF.out]; exact if_neg hr)
        clear R4 hbw4 hv4 hv0 HDF hr k1 k2 k4 k8 hpl hP4 hg5 hbw5 q5
        go_wp2
        go_region_law (fail)
        all_goals
          go_wp2
          exact bodyPost_ret (results_cell_tmp (fn := Try.f20) (p := 2) (t := 3) (by rfl) _ _ w.heap.size 26 _ (0, 0) _ (by rfl) HB2 Try.underlying26 rfl sizeV) rfl HV
end Go.Proofs.Ytjdkcocfjbjopaa
