/- Joined: what one statement of this layer stands on, part 25 of 26; nothing is assumed. -/
import Derived.Test.YtpchogicdnfggaaGreatDoorKI23
import Derived.Test.YtpchogicdnfggaaGreatDoorKI24
set_option maxRecDepth 20000
namespace Go.Proofs.YtpchogicdnfggaaGreatDoor
open Go.RowKit Go.Hd
attribute [local go_sem ↓] h_ldV h_stV h_alV
attribute [local go_sem] r_ldV r_stV r_alV

theorem take1 (l : List UInt8) : takeR 1 l = match l with | [] => .no 3 | c :: r => .ok [c] r := by
  cases l with
  | nil => rfl
  | cons c r => unfold takeR; rw [if_neg (by simp)]; rfl
theorem lead_num {f : List UInt8 → Rs PV} {x : Nat} (r : List UInt8) (h : x < 128 ∨ 224 ≤ x) (hx : x < 256) : leadR f x r = .ok (pNum (int8 x)) r := by
  unfold leadR
  rw [if_neg (by unfold isText; simp; omega), if_pos (by omega)]
theorem lead_dictR {f : List UInt8 → Rs PV} {x : Nat} (r : List UInt8) (h : 128 ≤ x ∧ x < 144) : leadR f x r = (dictR f (x - 128) none r).bind fun l r2 => .ok (pDict l) r2 := by
  unfold leadR
  rw [if_neg (by unfold isText; simp; omega), if_neg (by omega), if_neg (by omega), if_pos (by omega), show x % 16 = x - 128 by omega]
theorem lead_listR {f : List UInt8 → Rs PV} {x : Nat} (r : List UInt8) (h : 144 ≤ x ∧ x < 160) : leadR f x r = (listR f (x - 144) r).bind fun l r2 => .ok (pList l) r2 := by
  unfold leadR
  rw [if_neg (by unfold isText; simp; omega), if_neg (by omega), if_pos (by omega), show x % 16 = x - 144 by omega]
theorem lead_short {x : Nat} (r : List UInt8) (h : 160 ≤ x ∧ x < 192) : textR x r = takeR (x - 160) r := by
  unfold textR
  rw [if_pos (by omega), show x % 32 = x - 160 by omega]
theorem lead_text {f : List UInt8 → Rs PV} {x : Nat} (r : List UInt8) (h : isText x = true) : leadR f x r = (textR x r).bind fun t r2 => .ok (pTxt t) r2 := by
  unfold leadR
  rw [if_pos h]
/-- What begins with a text's lead. -/
theorem rvkey_any {B g : Nat} {L l : List UInt8} {w : World} (h : RRs B w g L (.ok () l)) (hB : B ≤ w.heap.size) (hl : ∀ c r, l = c :: r → isText c.toNat = true) :
    Calls Tryz.prog 32 #[.pointer (some ⟨g, 0, none⟩), .int .i64 1] w (RValP B g L w ((byteR l).bind fun c r => (textR c r).bind fun t r2 => .ok (pTxt t) r2)) := by
  have hg1 := h.lt
  have zs := zV_size
  have hO6 := oneC6
  have hb0 : Below w.heap.size w (w.alloc (.cells zV 50)) := (Below.refl _ _).alloc (Nat.le_refl _) _
  have R0 : Blk (w.alloc (.cells zV 50)) w.heap.size 50 zV.toList := Blk.new _ _ _
  have h0 := h.keep hb0
  have hk0 : Dk g g w (w.alloc (.cells zV 50)) := Dk.ofBelow hb0
  have htk := rtake_any (n := 1) h0 (by decide)
  rw [Rs.bind_ok, take1] at htk
  clear h h0
  cases l with
  | nil =>
    go_enter Tryz.func32, Tryz.ntmps32
    go_wp2_with fail
    refine htk.mono ?_
    rintro ee w1 ⟨a, c, t, rfl, _, hrow, ht, htn, htl, hP, hk⟩
    obtain rfl := htn rfl
    have q1 := hP.noC.1
    obtain ⟨HST, HB2, HV⟩ := rval_end (R := (.no 3 : Rs PV)) (hk.blk R0 (by omega) (by omega)) (by rfl) hP (hk0.trans hk) (VAtP.kindP _ (k := 0) (by unfold in64; omega)) hB hg1 (fun _ _ hh => hh) (fun v0 r hv => by cases hv)
    clear htk hrow ht htn htl hP hk hk0 R0
    go_wp2
    exact bodyPost_ret (results_cell_row (fn := Tryz.f32) (by rfl) _ _ w.heap.size 50 _ (0, 0) _ (by rfl) HB2 Tryz.underlying50 rfl sizeV) rfl HV.out
  | cons c0 r =>
    have htx := hl c0 r rfl
    have hc256 : c0.toNat < 256 := c0.toNat_lt
    have HR : Hid (((byteR (c0 :: r)).bind fun c r => (textR c r).bind fun t r2 => .ok (pTxt t) r2) = (textR c0.toNat r).bind fun t r2 => .ok (pTxt t) r2) := rfl
    generalize ((byteR (c0 :: r)).bind fun c r => (textR c r).bind fun t r2 => .ok (pTxt t) r2) = R at *
    go_enter Tryz.func32, Tryz.ntmps32
    go_wp2_with fail
    refine htk.mono ?_
    rintro ee w1 ⟨a, c, t, rfl, _, hrow, ht, _, _, hP, hk⟩
    obtain rfl := ht _ _ rfl
    have d1 : w1.cell? (hd a) = some (.int .u8 (c0.toNat : Int)) := by
      have := hrow.2 0 (b8 c0) rfl
      rw [hd_add0] at this; exact this
    have d2 : a.isSome = true := hrow.1 (by simp)
    have q1 := hP.ok0
    have ex : IntKind.i64.wrap (c0.toNat : Int) = (c0.toNat : Int) := IntWalk.i64_in _ (by omega)
    have R1 := hk.blk R0 (by omega) (by omega)
    have hk1 := hk0.trans hk
    have hPu : RRs B w1 g L (.ok () r) := hP.cast (fun _ _ hh => hh)
    clear htk hrow ht hk hk0 R0 hl hP
    generalize c0.toNat = x at *
    have HX := Lib.hid htx
    by_cases h5 : x < 192
    · have h160 : 160 ≤ x := by unfold isText at htx; simp at htx; omega
      have i1 : ¬ (x : Int) < 160 := by omega
      have i2 : (x : Int) < 192 := by omega
      have i3 : ¬ (x : Int) < 144 := by omega
      have i4 : ¬ (x : Int) < 128 := by omega
      obtain ⟨m, rfl⟩ : ∃ m, x = 160 + m := ⟨x - 160, by omega⟩
      have e1 : ((160 + m : Nat) : Int) - 160 = (m : Int) := by omega
      have ex3 : IntKind.i64.wrap (((160 + m : Nat) : Int) - 160) = (m : Int) := by rw [e1]; exact IntWalk.i64_in _ (by omega)
      have htk2 := rtake_any (n := m) hPu (by omega)
      have HT : Hid (textR (160 + m) r = takeR m r) := by
        show _ = _
        rw [lead_short r (by omega), Nat.add_sub_cancel_left]
      rw [Rs.bind_ok] at htk2
      generalize ((160 + m : Nat) : Int) = X at *
      generalize takeR m r = T2 at *
      have HM : Hid (m ≤ 100) := by show _ ≤ _; omega
      clear htx h5 hc256 h160 hPu e1
      go_wp2_with fail
      refine htk2.mono ?_
      rintro ee w2 ⟨a2, c2, t, rfl, _, hrow, ht, _, htl, hP, hk2⟩
      have hcv := run_convert_row (P := Tryz.prog) (src := 22) (e := 5) (dst := 9) (c := c2) eB.ht Tryz.underlying5 Tryz.underlying9 rfl hrow
      obtain ⟨HST, HB2, HV⟩ := rval_end (R := R) (hk2.blk R1 (by omega) (by omega)) (by rfl) hP (hk1.trans hk2) (VAtP.plain (k := 5) (n := 0) (t := t) w2 (by unfold in64; omega) (by unfold in64; omega) (by have := HM.out; unfold maxLen; omega)) hB hg1 (fun _ _ hh => by rw [HR.out, HT.out]; cases T2 <;> exact hh) (fun v0 r2 hv => by
        rw [HR.out, HT.out] at hv
        cases T2 with
        | no c => cases hv
        | ok x0 r0 => cases hv; rw [ht _ _ rfl]; rfl)
      clear R1 hk1 hk2 hP hrow ht htl htk2
      go_wp2
      exact bodyPost_ret (results_cell_row (fn := Tryz.f32) (by rfl) _ _ w.heap.size 50 _ (0, 0) _ (by rfl) HB2 Tryz.underlying50 rfl sizeV) rfl HV.out
    · have h17 : x = 217 ∨ x = 218 := by unfold isText at htx; simp at htx; omega
      rcases h17 with rfl | rfl
      · have hoth := roth_217 (D := 1) hPu (Nat.le_trans hB hk1.size)
        rw [Rs.bind_ok] at hoth
        have HT : Hid (R = ((leastR 1 32 r).bind takeR).bind fun t r2 => .ok (pTxt t) r2) := HR.out
        clear HX htx h5 hc256 HR hPu ex
        go_wp2_with fail
        refine hoth.mono ?_
        rintro ee w2 ⟨cs, v, rfl, hv, hv0, hP, hk2⟩
        have x6 : (List.toArray cs).size = 6 := hv.len
        obtain ⟨HST, HB2, HV⟩ := rval_end (R := R) (hk2.blk R1 (by omega) (by omega)) (by rfl) hP (hk1.trans hk2) (hv.mono (fun b hb _ => by have := hk1.size; have := R1.lt; omega)) hB hg1 (fun _ _ hh => by rw [HT.out]; exact hh) (fun v0 r2 hv => by rw [HT.out] at hv; exact hv0 v0 r2 hv)
        clear R1 hk1 hk2 hP hv hv0 hoth
        go_wp2
        exact bodyPost_ret (results_cell_row (fn := Tryz.f32) (by rfl) _ _ w.heap.size 50 _ (0, 0) _ (by rfl) HB2 Tryz.underlying50 rfl (by rw [x6]; exact sizeV)) rfl HV.out
      · have hoth := roth_218 (D := 1) hPu (Nat.le_trans hB hk1.size)
        rw [Rs.bind_ok] at hoth
        have HT : Hid (R = ((leastR 2 256 r).bind takeR).bind fun t r2 => .ok (pTxt t) r2) := HR.out
        clear HX htx h5 hc256 HR hPu ex
        go_wp2_with fail
        refine hoth.mono ?_
        rintro ee w2 ⟨cs, v, rfl, hv, hv0, hP, hk2⟩
        have x6 : (List.toArray cs).size = 6 := hv.len
        obtain ⟨HST, HB2, HV⟩ := rval_end (R := R) (hk2.blk R1 (by omega) (by omega)) (by rfl) hP (hk1.trans hk2) (hv.mono (fun b hb _ => by have := hk1.size; have := R1.lt; omega)) hB hg1 (fun _ _ hh => by rw [HT.out]; exact hh) (fun v0 r2 hv => by rw [HT.out] at hv; exact hv0 v0 r2 hv)
        clear R1 hk1 hk2 hP hv hv0 hoth
        go_wp2
        exact bodyPost_ret (results_cell_row (fn := Tryz.f32) (by rfl) _ _ w.heap.size 50 _ (0, 0) _ (by rfl) HB2 Tryz.underlying50 rfl (by rw [x6]; exact sizeV)) rfl HV.out
end Go.Proofs.YtpchogicdnfggaaGreatDoor
set_option maxRecDepth 20000
namespace Go.Proofs.YtpchogicdnfggaaGreatDoor
open Go.RowKit Go.Hd
attribute [local go_sem ↓] h_ldV h_stV h_alV h_bsV
attribute [local go_sem] r_ldV r_stV r_alV r_bsV

/-- What a map's key is: its lead, the text; the state behind. -/
def keyT (l : List UInt8) : Rs PV := (byteR l).bind fun c r => (textR c r).bind fun t r2 => .ok (pTxt t) r2
theorem keyT_ok {l : List UInt8} {v : PV} {r2 : List UInt8} (h : keyT l = .ok v r2) : ∃ k, v = pTxt k := by
  unfold keyT at h
  cases hb : byteR l with
  | no c => rw [hb] at h; cases h
  | ok c r =>
    rw [hb] at h
    cases ht : textR c r with
    | no c => rw [Rs.bind_ok, ht] at h; cases h
    | ok t r3 => rw [Rs.bind_ok, ht] at h; cases h; exact ⟨t, rfl⟩
/-- The key as the plain law has it, where its lead is a text's. -/
theorem keyR_keyT {prev : Option (List UInt8)} {l : List UInt8} (h : ∀ c r, l = c :: r → isText c.toNat = true) :
    keyR prev l = match keyT l with | .no c => .no c | .ok v r2 => if (match prev with | none => false | some p => leT v.text p) = true then .no 4 else .ok v.text r2 := by
  cases l with
  | nil => rfl
  | cons c r =>
    unfold keyT keyR
    have hb : byteR (c :: r) = .ok c.toNat r := rfl
    simp only [hb, Rs.bind_ok]
    rw [if_neg (by rw [h c r rfl]; decide)]
    cases textR c.toNat r with
    | no c => rfl
    | ok t r2 => rfl
theorem keyR_bad {prev : Option (List UInt8)} {c : UInt8} {r : List UInt8} (h : isText c.toNat = false) : keyR prev (c :: r) = .no 4 := by
  show (if isText c.toNat = false then (Rs.no 4 : Rs (List UInt8)) else _) = Rs.no 4
  exact if_pos h
theorem isText_cases (x : Nat) : (isText x = true ∧ ((160 ≤ x ∧ x < 192) ∨ x = 217 ∨ x = 218)) ∨ (isText x = false ∧ (x < 160 ∨ 191 < x) ∧ x ≠ 217 ∧ x ≠ 218) := by
  unfold isText
  by_cases h1 : x / 32 = 5
  · left; simp [h1]; omega
  · by_cases h2 : x = 217
    · left; simp [h2]
    · by_cases h3 : x = 218
      · left; simp [h3]
      · right; simp [h1, h2, h3]; omega
/-- The cells of a text as a value. -/
theorem VAtP.txt {ok : Nat → Prop} {w : World} {cs : List Value} {k : List UInt8} (h : VAtP ok w cs (pTxt k)) : ∃ x1 x2 x3 x4 x5, cs = [x1, x2, x3, strV k, x4, x5] ∧ k.length ≤ maxLen := by
  unfold pTxt at h
  cases h
  exact ⟨_, _, _, _, _, rfl, by assumption⟩

set_option maxHeartbeats 8000000 in
theorem rrdict_any {d : Nat} (hd : d ≤ 16) (HV : RValH d) {B g n : Nat} {L : List UInt8} {w : World} {s : Rs Unit} (h : RRs B w g L s) (hB : B ≤ w.heap.size) (hn : n ≤ 65536) :
    Calls Tryz.prog 56 #[.pointer (some ⟨g, 0, none⟩), .int .i64 (n : Int), .int .i64 (16 - (d : Int))] w (RValP B g L w (s.bind fun _ r => (dictR (decV d) n none r).bind fun l r2 => .ok (pDict l) r2)) := by
  have hg1 := h.lt
  have zs := zV_size
  have hO6 := oneC6
  have HR : Hid ((s.bind fun _ r => (dictR (decV d) n none r).bind fun ps r2 => .ok (pDict ps) r2) = (restD (decV d) n (s.bind fun _ r => .ok [] r)).bind fun ps r2 => .ok (pDict ps) r2) := by
    show _ = _
    unfold restD
    cases s with
    | no c => rfl
    | ok x r =>
      simp only [Rs.bind_ok, List.nil_append, lastK_nil]
      cases dictR (decV d) n none r <;> rfl
  obtain ⟨W, hW⟩ : ∃ W, W = (w.alloc (.cells zV 50)).alloc (.cells (List.toArray (α := Value) [.int .i64 7, .int .i64 0, .slice none 0 0, .string { data := #[] }, .slice none 0 0, .slice none 0 0]) 50) := ⟨_, rfl⟩
  have hbW : Below w.heap.size w W := by rw [hW]; exact ((Below.refl _ _).alloc (Nat.le_refl _) _).alloc (by simp) _
  have R0 : Blk W w.heap.size 50 zV.toList := by rw [hW]; exact (Blk.new w 50 zV).alloc _
  have B0 : Blk W (w.heap.size + 1) 50 [.int .i64 7, .int .i64 0, .slice none 0 0, strV [], .slice none 0 0, .slice none 0 0] := by
    have := Blk.new (w.alloc (.cells zV 50)) 50 (List.toArray (α := Value) [.int .i64 7, .int .i64 0, .slice none 0 0, .string { data := #[] }, .slice none 0 0, .slice none 0 0])
    rw [drew_alloc_size, ← hW] at this
    exact this
  have hWs : W.heap.size = w.heap.size + 2 := by rw [hW]; simp
  have hI0 : RJ B g L w W 7 (.slice none 0 0) (.slice none 0 0) [] [] (s.bind fun _ r => .ok ([] : PsL) r) :=
    ⟨R0, VB.new (b := []) (t := []) B0 (Nat.le_refl _) (by omega) (by unfold in64; omega) (by unfold in64; omega) (Nat.zero_le _) ⟨Nat.le_refl _, Nat.zero_le _⟩ (Row.nil _ _) (by simp), (h.keep hbW).cast (fun _ _ hh => by cases s <;> exact hh), Dk.ofBelow hbW⟩
  have hgot0 : ∀ ps r, (s.bind fun _ r => .ok ([] : PsL) r) = .ok ps r → ([] : List (List UInt8)) = ps.map (·.1) ∧ ([] : List PV) = ps.map (·.2) := fun ps r hv => by cases s <;> cases hv; exact ⟨rfl, rfl⟩
  generalize (s.bind fun _ r => (dictR (decV d) n none r).bind fun ps r2 => .ok (pDict ps) r2) = R at *
  generalize (s.bind fun _ r => (.ok [] r : Rs PsL)) = T0 at *
  have HVd := Lib.hid HV
  have HW := Lib.hid hWs
  have HD := Lib.hid hd
  have wd : IntKind.i64.wrap ((16 : Int) - (d : Int) + 1) = 17 - (d : Int) := by rw [IntWalk.i64_in _ (by omega)]; omega
  clear HV hWs h R0 B0 hbW hd
  generalize (16 : Int) - (d : Int) = D at *
  go_enter Tryz.func56, Tryz.ntmps56
  go_upto_region 2 with (fail)
  rw [← hW]
  clear hW
  go_upto_block 0 with (fail)
  go_cut [8] (fun _ wx => ∃ (ks : List (List UInt8)) (vs : List PV) (uK uL : Value) (T : Rs PsL), RJ B g L w wx 7 uK uL ks vs T ∧ (∀ ps r, T = .ok ps r → ks = ps.map (·.1) ∧ vs = ps.map (·.2)) ∧ R = T.bind fun ps r2 => .ok (pDict ps) r2)
  case first =>
    go_wp2
    go_loopw [8] (fun i wr => ∃ (j : Nat) (ks : List (List UInt8)) (vs : List PV) (uK uL : Value) (T : Rs PsL), j ≤ n ∧ i = .int .i64 j ∧ ks.length = j ∧ vs.length = j ∧ RJ B g L w wr 7 uK uL ks vs T ∧ (∀ ps r, T = .ok ps r → ks = ps.map (·.1) ∧ vs = ps.map (·.2)) ∧ R = (restD (decV d) (n - j) T).bind fun ps r2 => .ok (pDict ps) r2) (fun i _ => n - (intOf i).toNat)
    case atStart => exact ⟨0, [], [], _, _, T0, Nat.zero_le _, rfl, rfl, rfl, hI0, hgot0, HR.out⟩
    case round =>
      clear hI0 HR hgot0
      obtain ⟨j, ks, vs, uK, uL, T, hj, rfl, hkl, hvl, hI, hgot, hR⟩ := hrel
      have HKL := Lib.hid (And.intro hkl hvl)
      have HGOT := Lib.hid hgot
      have HR := Lib.hid hR
      clear hR hkl hvl hgot
      by_cases hlt : j < n
      · have j1 : (j : Int) < (n : Int) := by omega
        cases T with
        | no cc =>
          obtain ⟨q1, q2⟩ := hI.st.noC
          have e1 : (cc == 0) = false := by simpa using q2
          go_wp2
          go_meet
          exact ⟨ks, vs, uK, uL, _, hI, HGOT.out, by rw [HR.out, restD_no]⟩
        | ok ps r =>
          obtain ⟨hks, hvs⟩ := HGOT.out ps r rfl
          have HKS := Lib.hid (And.intro hks hvs)
          have HSTEP : Hid (R = (restD (decV d) (n - (j + 1)) (stepD (decV d) (.ok ps r))).bind fun ps r2 => .ok (pDict ps) r2) := by
            show _ = _
            rw [HR.out, show n - j = (n - (j + 1)) + 1 by omega, restD_succ]
          -- what a failure means
          have HNO : Hid (∀ c, keyR (lastK ps) r = .no c → R = .no c) := fun c hc => by
            rw [HSTEP.out]
            unfold stepD
            rw [Rs.bind_ok, hc]; rfl
          have HI := Lib.hid hI
          have q1 := hI.st.ok0
          have q6 := hI.vb.blk
          obtain ⟨a, c, p, e, k1, k2, ⟨k3, k3'⟩, k4, k5, k6, k7, k8⟩ := hI.st
          obtain ⟨k8, rfl⟩ := k8
          have HP := Lib.hid k8
          have c0 : wr.cell? ⟨g, 0, none⟩ = _ := k1.cell rfl
          have c1 : wr.cell? ⟨g, 1, none⟩ = _ := k1.cell rfl
          clear hks hvs HR hI k1 k8 k4 k5 k3 k3'
          go_upto_region 6 with (fail)
          go_cut [81] (fun u wx => (∃ bad : Bool, u = .bool bad ∧ (bad = true → ∃ c r1, r = c :: r1 ∧ isText c.toNat = false) ∧ (bad = false → ∀ c r1, r = c :: r1 → isText c.toNat = true)) ∧ wx = wr)
          case first =>
            clear q6
            cases r with
            | nil =>
              have hpe : L.length ≤ p := by
                have := HP.out
                rcases Nat.lt_or_ge p L.length with h | h
                · have h2 : (L.drop p).length = 0 := by rw [← this]; rfl
                  rw [List.length_drop] at h2; omega
                · exact h
              have i1 : ¬ (p : Int) < (L.length : Int) := by omega
              clear k2 hpe k6
              go_wp2
              go_meet
              exact ⟨⟨false, rfl, (by simp), fun _ c r1 h => by cases h⟩, rfl⟩
            | cons c8 r1 =>
              have hlen : p < L.length := by
                have h2 := congrArg List.length HP.out
                rw [List.length_drop] at h2
                simp at h2; omega
              have hc8 : L[p] = c8 := by
                have h3 := HP.out
                rw [List.drop_eq_getElem_cons hlen] at h3
                injection h3 with h3 _
                exact h3.symm
              have d1 : wr.cell? ((hd a).add p) = some (.int .u8 (c8.toNat : Int)) := by
                have := k2.byte hlen
                rw [hc8] at this; exact this
              have d2 : a.isSome = true := k2.byteSome hlen
              have i0 : (0 : Int) ≤ (p : Int) := by omega
              have i1 : (p : Int) < (L.length : Int) := by omega
              have hx256 : c8.toNat < 256 := c8.toNat_lt
              have HC := isText_cases c8.toNat
              have HQ : Hid ((isText c8.toNat = false → ∃ c r1', (c8 :: r1) = c :: r1' ∧ isText c.toNat = false) ∧ (isText c8.toNat = true → ∀ c r1', (c8 :: r1) = c :: r1' → isText c.toNat = true)) := by
                show _ ∧ _
                exact ⟨fun h => ⟨c8, r1, rfl, h⟩, fun h c r1' e => by cases e; exact h⟩
              clear k2 hc8 hlen
              generalize c8.toNat = x at *
              rcases HC with ⟨ht, hx⟩ | ⟨ht, hx, hn1, hn2⟩
              · have HT := Lib.hid ht
                clear ht
                rcases hx with hx | rfl | rfl
                · have i3 : ¬ (x : Int) < 160 := by omega
                  have i4 : ¬ (191 : Int) < (x : Int) := by omega
                  clear hx hx256 k6 k7
                  go_wp2
                  go_meet
                  exact ⟨⟨false, rfl, (by simp), fun _ => HQ.out.2 HT.out⟩, rfl⟩
                · clear hx256 k6 k7
                  go_wp2
                  go_meet
                  exact ⟨⟨false, rfl, (by simp), fun _ => HQ.out.2 HT.out⟩, rfl⟩
                · clear hx256 k6 k7
                  go_wp2
                  go_meet
                  exact ⟨⟨false, rfl, (by simp), fun _ => HQ.out.2 HT.out⟩, rfl⟩
              · have HT := Lib.hid ht
                have m1 : ((x : Int) != 217) = true := by simp; omega
                have m2 : ((x : Int) != 218) = true := by simp; omega
                clear ht
                rcases hx with hx | hx
                · have i3 : (x : Int) < 160 := by omega
                  clear hx hx256 k6 k7 hn1 hn2
                  go_wp2
                  go_meet
                  exact ⟨⟨true, rfl, fun _ => HQ.out.1 HT.out, (by simp)⟩, rfl⟩
                · have i3 : ¬ (x : Int) < 160 := by omega
                  have i4 : (191 : Int) < (x : Int) := by omega
                  clear hx hx256 k6 k7 hn1 hn2
                  go_wp2
                  go_meet
                  exact ⟨⟨true, rfl, fun _ => HQ.out.1 HT.out, (by simp)⟩, rfl⟩
          case rest =>
            obtain ⟨⟨bad, rfl, hbad, hgood⟩, hwc⟩ := hcut
            subst hwc
            clear c0 c1 k2 k6 HP
            cases bad with
            | true =>
              obtain ⟨c8, r1, hrr, htx⟩ := hbad rfl
              have hno : R = .no 4 := HNO.out 4 (by rw [hrr]; exact keyR_bad htx)
              obtain ⟨hP2, hg2, f2, z, c2⟩ := RRs.fail (β := PsL) HI.out.st 4 (by decide)
              have hI2 := HI.out.call hg1 hP2 (Dk.one hg2)
              obtain ⟨o1, o2, o3, HV⟩ := RJ.done (R := R) hI2 hB hg1 (fun p e hh => by rw [hno]; exact hh) (fun v0 r hv => by rw [hno] at hv; cases hv)
              clear hbad hgood hno hP2 hg2 hI2 hrr q6 q1
              generalize strV [] = sT at *
              go_wp2
              exact bodyPost_ret (results_cell_row (fn := Tryz.f56) (by rfl) _ _ w.heap.size 50 _ (0, 0) _ (by rfl) o3 Tryz.underlying50 rfl sizeV) rfl HV.out
            | false =>
              have hkt := hgood rfl
              have hvk := rvkey_any (HI.out.st.cast (s' := .ok () r) (fun _ _ hh => hh)) (Nat.le_trans hB HI.out.dk.size) hkt
              have HK := Lib.hid (keyR_keyT (prev := lastK ps) hkt)
              have hvk : Calls Tryz.prog 32 #[.pointer (some ⟨g, 0, none⟩), .int .i64 1] wc (RValP B g L wc (keyT r)) := hvk
              have HKO : Hid (∀ v r2, keyT r = .ok v r2 → ∃ k, v = pTxt k) := fun v r2 h => keyT_ok h
              clear hbad hgood hkt q6 q1
              generalize keyT r = KT at *
              go_wp2_with fail
              refine hvk.mono ?_
              rintro ee w2 ⟨ck, vk, rfl, hvk1, hvk0, hP2, hk2⟩
              have x6 : (List.toArray ck).size = 6 := hvk1.len
              have xo : OneC (List.toArray ck) := all_oneCell_toArray hvk1.one
              have hb3 : Below w2.heap.size w2 (w2.alloc (.cells (List.toArray ck) 50)) := (Below.refl _ _).alloc (Nat.le_refl _) _
              have B3 : Blk (w2.alloc (.cells (List.toArray ck) 50)) w2.heap.size 50 ck := by simpa using Blk.new w2 50 (List.toArray ck)
              have hI3 := (HI.out.call hg1 hP2 hk2).call hg1 (hP2.keep hb3) (Dk.ofBelow hb3)
              have HI3 := Lib.hid hI3
              have HB3 := Lib.hid B3
              have HVK := Lib.hid (And.intro hvk1 hvk0)
              clear hvk hvk1 hvk0 hP2 hk2 hb3 B3 hI3
              go_upto_region 10 with (fail)
              generalize w2.alloc (.cells (List.toArray ck) 50) = w3 at *
              generalize w2.heap.size = qk at *
              go_cut [107] (fun u wx => ∃ (bad : Bool) (m : Nat), u = .bool bad ∧ wx = w3.drewN m ∧ (bad = true → KT.isNo = false ∧ keyR (lastK ps) r = .no 4) ∧ (bad = false → ∀ v r2, KT = .ok v r2 → keyR (lastK ps) r = .ok v.text r2))
              case first =>
                clear x6 xo
                cases KT with
                | no cc =>
                  obtain ⟨q1, q2⟩ := HI3.out.st.noC
                  have e1 : (cc == 0) = false := by simpa using q2
                  go_quiet (fail)
                  go_wp2
                  go_meet
                  exact ⟨false, _, rfl, rfl, (by simp), fun _ v r2 h => by cases h⟩
                | ok v0 r2 =>
                  have q1 := HI3.out.st.ok0
                  obtain ⟨k, rfl⟩ := HKO.out _ _ rfl
                  obtain rfl := HVK.out.2 _ _ rfl
                  obtain ⟨x1, x2, x3, x4, x5, rfl, hkl⟩ := HVK.out.1.txt
                  have q3 : w3.cell? ⟨qk, 3, none⟩ = some (strV k) := HB3.out.cell rfl
                  unfold strV at q3
                  by_cases hj0 : j = 0
                  · have hps : ps = [] := by
                      have h1 := HKL.out.1
                      rw [HKS.out.1, List.length_map] at h1
                      exact List.eq_nil_of_length_eq_zero (by omega)
                    have HB : Hid (keyR (lastK ps) r = .ok k r2) := by
                      show _ = _
                      rw [HK.out, hps]; rfl
                    subst hj0
                    clear hps hkl
                    go_quiet (fail)
                    go_wp2
                    go_meet
                    exact ⟨false, _, rfl, rfl, (by simp), fun _ v r2 h => by cases h; exact HB.out⟩
                  · obtain ⟨i, rfl⟩ : ∃ i, j = i + 1 := ⟨j - 1, by omega⟩
                    obtain ⟨ak, ckk, hak, hkc, hkm, hkrow, _⟩ := owns_rowN HI3.out.vb.keys (by decide)
                    have q4 : w3.cell? ⟨w.heap.size + 1, 4, none⟩ = some uK := HI3.out.vb.blk.cell rfl
                    have hkl2 : (PV.keys (.mk 7 0 [] [] ks vs)).length = i + 1 := HKL.out.1
                    have hkl9 := HKL.out.1
                    have hil : i < ks.length := by omega
                    have hkrow' : Row w3 ak (ks.map strV) := hkrow
                    have q0 : w3.cell? ((hd ak).add i) = some (strV ks[i]) := hkrow'.cell (by simp [hil])
                    have s1 : ak.isSome = true := hkrow'.isSome (i := i) (by simp; omega)
                    unfold strV at q0
                    have HLK : Hid (lastK ps = some ks[i]) := by
                      show _ = _
                      have h1 := HKS.out.1
                      subst h1
                      exact lastK_get hkl9
                    have ew1 : IntKind.i64.wrap ((i : Int) + 1 - 1) = (i : Int) := by rw [IntWalk.i64_in _ (by omega)]; omega
                    have ew : IntKind.i64.wrap (i : Int) = (i : Int) := IntWalk.i64_in _ (by omega)
                    have i0 : (0 : Int) ≤ (i : Int) := by omega
                    have i1 : (i : Int) < (i : Int) + 1 := by omega
                    have i5 : (0 : Int) < (i : Int) + 1 := by omega
                    have HK2 : Hid (keyR (lastK ps) r = if leT k ks[i] = true then .no 4 else .ok k r2) := by
                      show _ = _
                      rw [HK.out, HLK.out]; rfl
                    rw [hkl2] at hak
                    rw [hak] at q4
                    generalize ks[i] = y at *
                    clear hkrow' hkrow hkl2 hkl9 hil HLK hj0 hkl hkc hkm hak
                    have HLE : Hid (leT k y = (Op.bytesLess (str k).toList (str y).toList || (str k).toList == (str y).toList)) := rfl
                    rcases Bool.eq_false_or_eq_true (Op.bytesLess (str k).toList (str y).toList) with hA | hA
                    · have HB : Hid (keyR (lastK ps) r = .no 4) := by show _ = _; rw [HK2.out, HLE.out, hA]; rfl
                      go_quiet (fail)
                      go_wp2
                      go_meet
                      exact ⟨true, _, rfl, rfl, fun _ => ⟨rfl, HB.out⟩, (by simp)⟩
                    · rcases Bool.eq_false_or_eq_true ((str k).toList == (str y).toList) with hB2 | hB2
                      · have HB : Hid (keyR (lastK ps) r = .no 4) := by show _ = _; rw [HK2.out, HLE.out, hA, hB2]; rfl
                        go_quiet (fail)
                        go_wp2
                        go_meet
                        exact ⟨true, _, rfl, rfl, fun _ => ⟨rfl, HB.out⟩, (by simp)⟩
                      · have HB : Hid (keyR (lastK ps) r = .ok k r2) := by show _ = _; rw [HK2.out, HLE.out, hA, hB2]; rfl
                        go_quiet (fail)
                        go_wp2
                        go_meet
                        exact ⟨false, _, rfl, rfl, (by simp), fun _ v r2 h => by cases h; exact HB.out⟩
              case rest =>
                obtain ⟨bad, m, rfl, hwc, hbad, hgood⟩ := hcut
                have HI4 : Hid (RJ B g L w wc 7 uK uL ks vs KT) := by
                  show RJ _ _ _ _ _ _ _ _ _ _ _
                  rw [hwc]; exact HI3.out.drewN m
                have HB4 : Hid (Blk wc qk 50 ck) := by
                  show Blk _ _ _ _
                  rw [hwc]; exact HB3.out
                clear hwc HI3 HB3 xo x6
                cases KT with
                | no cc =>
                  have hno : R = .no cc := HNO.out cc HK.out
                  obtain ⟨q1, q2⟩ := HI4.out.st.noC
                  have e1 : (cc != 0) = true := by simpa using q2
                  cases bad with
                  | true => exact absurd (hbad rfl).1 (by simp [Rs.isNo])
                  | false =>
                  obtain ⟨o1, o2, o3, HV⟩ := RJ.done (R := R) HI4.out hB hg1 (fun p e hh => by rw [hno]; exact hh) (fun v0 r hv => by rw [hno] at hv; cases hv)
                  clear hbad hgood hno
                  generalize strV [] = sT at *
                  go_wp2
                  exact bodyPost_ret (results_cell_row (fn := Tryz.f56) (by rfl) _ _ w.heap.size 50 _ (0, 0) _ (by rfl) o3 Tryz.underlying50 rfl sizeV) rfl HV.out
                | ok v0 r2 =>
                  cases bad with
                  | true =>
                    have hno : R = .no 4 := HNO.out 4 (hbad rfl).2
                    obtain ⟨hP5, hg5, f2, z, c2⟩ := RRs.fail (β := PsL) HI4.out.st 4 (by decide)
                    have hI5 := HI4.out.call hg1 hP5 (Dk.one hg5)
                    obtain ⟨o1, o2, o3, HV⟩ := RJ.done (R := R) hI5 hB hg1 (fun p e hh => by rw [hno]; exact hh) (fun v0 r hv => by rw [hno] at hv; cases hv)
                    clear hbad hgood hno hP5 hg5 hI5
                    generalize strV [] = sT at *
                    go_wp2
                    exact bodyPost_ret (results_cell_row (fn := Tryz.f56) (by rfl) _ _ w.heap.size 50 _ (0, 0) _ (by rfl) o3 Tryz.underlying50 rfl sizeV) rfl HV.out
                  | false =>
                    have hkeyR := hgood rfl _ _ rfl
                    have q1 := HI4.out.st.ok0
                    obtain ⟨key, rfl⟩ := HKO.out _ _ rfl
                    obtain rfl := HVK.out.2 _ _ rfl
                    obtain ⟨x1, x2, x3, x4, x5, rfl, hkeym⟩ := HVK.out.1.txt
                    have q3 : wc.cell? ⟨qk, 3, none⟩ = some (strV key) := HB4.out.cell rfl
                    unfold strV at q3
                    have HKEY : Hid (keyR (lastK ps) r = .ok key r2) := hkeyR
                    clear hbad hgood hkeyR
                    have hk9 := HKL.out.1
                    have hv9 := HKL.out.2
                    obtain ⟨ak, ckk, rfl, hkc, hkm, hkrow, _⟩ := owns_rowN HI4.out.vb.keys (by decide)
                    have hkl2 : (PV.keys (.mk 7 0 [] [] ks vs)).length = j := HKL.out.1
                    have q4 : wc.cell? ⟨w.heap.size + 1, 4, none⟩ = some (.slice ak (PV.keys (.mk 7 0 [] [] ks vs)).length ckk) := HI4.out.vb.blk.cell rfl
                    obtain ⟨a', c', w', hrun, d4, f4, hVB, hG, hGs⟩ := VB.stepK (ty := 47) HI4.out.vb hkeym (by omega)
                    simp only [hk9] at hrun hVB hG
                    have hI6 := RJ.after HI4.out hB hg1 (.inl hG) hVB
                    have hI6d := hI6.drew
                    have hval := HVd.out B g L _ _ (17 - (d : Int)) rfl hI6d.st.unit (Nat.le_trans hB hI6d.dk.size)
                    have q5 : (w'.setCell ⟨w.heap.size + 1, 4, none⟩ (.slice a' (j + 1) c')).cell? ⟨w.heap.size + 1, 5, none⟩ = some uL := hI6.vb.blk.cell rfl
                    rw [hkl2] at q4
                    have e4 : (Value.slice ak (PV.keys (.mk 7 0 [] [] ks vs)).length ckk) = .slice ak j ckk := by rw [hkl2]
                    rw [e4] at hrun d4
                    have HIK := Lib.hid hI6d
                    clear hVB hG hGs hI6 hkl2 e4 hI6d hk9 hv9 hkc hkm hkrow
                    go_upto_region 15 with (at_builtin; refine wpList_append_run hrun rfl rfl rfl rfl ?_)
                    generalize w'.setCell ⟨w.heap.size + 1, 4, none⟩ (.slice a' (j + 1) c') = w6 at *
                    clear hrun d4 f4 q4 q3 q1 w'
                    go_region_law ((first
                      | (go_simp; go_at_call 32; refine hval.mono ?_; rintro e7 w7 ⟨cs7, v7, rfl, hv7, hv70, hP7, hk7⟩; have hI7 := RJ.call HIK.out hg1 hP7 hk7; obtain ⟨a8, c8, w8, hrun8, d8, f8, hVB8, hG8, hGs8⟩ := VB.stepL (ty := 48) hI7.vb (hv7.mono (fun z hz _ => fresh_okB HIK.out.vb hz)) (by have := HKL.out.2; omega); have q7 : w7.cell? ⟨w.heap.size + 1, 5, none⟩ = some uL := hI7.vb.blk.cell rfl; have hql7 := hI7.vb.blk.lt; have q7b : (w7.alloc (.cells (List.toArray cs7) 50)).cell? ⟨w.heap.size + 1, 5, none⟩ = some uL := Eq.trans (((Below.refl w7.heap.size w7).alloc (Nat.le_refl _) (.cells (List.toArray cs7) 50)).cell hql7) q7; have x6 : (List.toArray cs7).size = 6 := hv7.len)
                      | (refine step_append_run hrun8 rfl rfl rfl rfl ?_)))
                    all_goals
                      have hI9 := RJ.after hI7 hB hg1 (.inr hG8) hVB8
                      have hI10 : RJ B g L w (w8.setCell ⟨w.heap.size + 1, 5, none⟩ (.slice a8 (vs.length + 1) c8)) 7 (.slice a' (j + 1) c') (.slice a8 (vs.length + 1) c8) (ks ++ [key]) (vs ++ [v7]) (stepD (decV d) (.ok ps r)) := hI9.cast (fun p e hh => by
                        unfold stepD
                        rw [Rs.bind_ok, HKEY.out, Rs.bind_ok]
                        have hh : RSst (decV d r2) L p e := hh
                        cases hd : decV d r2 with
                        | no c => rw [hd] at hh; exact hh
                        | ok v r3 => rw [hd] at hh; exact hh)
                      have hgot : ∀ ps2 r4, stepD (decV d) (.ok ps r) = .ok ps2 r4 → ks ++ [key] = ps2.map (·.1) ∧ vs ++ [v7] = ps2.map (·.2) := fun ps2 r4 h => by
                        unfold stepD at h
                        rw [Rs.bind_ok, HKEY.out, Rs.bind_ok] at h
                        cases hd : decV d r2 with
                        | no c => rw [hd] at h; cases h
                        | ok v r5 =>
                          rw [hd] at h
                          cases h
                          have e2 := hv70 v r4 (by show decV d r2 = _; exact hd)
                          rw [HKS.out.1, HKS.out.2, e2]
                          simp
                      have hl1 : (ks ++ [key]).length = j + 1 := by have := HKL.out.1; simp; omega
                      have hl2 : (vs ++ [v7]).length = j + 1 := by have := HKL.out.2; simp; omega
                      have HL12 := Lib.hid (And.intro hl1 hl2)
                      have HGG := Lib.hid hgot
                      have jb : IntKind.i64.wrap ((j : Int) + 1) = (j : Int) + 1 := IntWalk.i64_in _ (by omega)
                      clear hl1 hl2 hgot hI9 hI7 hrun8 d8 f8 hVB8 hG8 hGs8 q7 q7b hql7 hP7 hk7 hv7 hv70 hval q5 x6
                      go_wp2
                      first
                        | exact ⟨⟨j + 1, ks ++ [key], vs ++ [v7], _, _, _, by omega, (by first | rfl | go_num | (congr 1; omega)), HL12.out.1, HL12.out.2, hI10, HGG.out, HSTEP.out⟩, by simp [intOf] <;> omega⟩
                        | (refine ⟨?_, by simp [intOf] <;> omega⟩; (repeat apply Exists.intro); exact ⟨⟨j + 1, ks ++ [key], vs ++ [v7], _, _, _, by omega, (by first | rfl | go_num | (congr 1; omega)), HL12.out.1, HL12.out.2, hI10, HGG.out, HSTEP.out⟩, rfl⟩)
      · obtain rfl : j = n := by omega
        go_wp2
        go_meet
        refine ⟨ks, vs, uK, uL, T, hI, HGOT.out, ?_⟩
        have hr := HR.out
        rw [Nat.sub_self, restD_zero] at hr
        exact hr
  case rest =>
    clear hI0 hgot0 HR
    obtain ⟨ks, vs, uK, uL, T, hI, hgot, hR⟩ := hcut
    obtain ⟨q1, a1, a2, HV⟩ := RJ.done (R := R) hI hB hg1 (fun p e hh => by rw [hR]; cases T <;> exact hh) (fun v0 r hv => by
      rw [hR] at hv
      cases T with
      | no c => cases hv
      | ok ps r' =>
        cases hv
        obtain ⟨e1, e2⟩ := hgot _ _ rfl
        rw [e1, e2]; rfl)
    clear hI hgot hR
    generalize strV [] = sT at *
    go_wp2
    exact bodyPost_ret (results_cell_row (fn := Tryz.f56) (by rfl) _ _ w.heap.size 50 _ (0, 0) _ (by rfl) a2 Tryz.underlying50 rfl sizeV) rfl HV.out
end Go.Proofs.YtpchogicdnfggaaGreatDoor
set_option maxRecDepth 20000
namespace Go.Proofs.YtpchogicdnfggaaGreatDoor
open Go.RowKit Go.Hd
attribute [local go_sem ↓] h_ldV h_stV h_alV
attribute [local go_sem] r_ldV r_stV r_alV

set_option maxHeartbeats 1000000 in
theorem roth_220 {d : Nat} (hd : d ≤ 16) (HV : RValH d) {B g : Nat} {L : List UInt8} {w : World} {s : Rs Unit} (h : RRs B w g L s) (hB : B ≤ w.heap.size) :
    Calls Tryz.prog 58 #[.pointer (some ⟨g, 0, none⟩), .int .i64 220, .int .i64 (16 - (d : Int))] w (RValP B g L w (s.bind fun _ r => (leastR 2 16 r).bind fun n r2 => (listR (decV d) n r2).bind fun l r3 => .ok (pList l) r3)) := by
  have hg1 := h.lt
  have zs := zV_size
  have hO6 := oneC6
  have hb0 : Below w.heap.size w (w.alloc (.cells zV 50)) := (Below.refl _ _).alloc (Nat.le_refl _) _
  have R0 : Blk (w.alloc (.cells zV 50)) w.heap.size 50 zV.toList := Blk.new _ _ _
  have h0 := h.keep hb0
  have hk0 : Dk g g w (w.alloc (.cells zV 50)) := Dk.ofBelow hb0
  have hrd := rrnum_any (n := 2) (lo := 16) h0 (by decide) (by decide) (by decide)
  have HR : Hid ((s.bind fun _ r => (leastR 2 16 r).bind fun n r2 => (listR (decV d) n r2).bind fun l r3 => .ok (pList l) r3) = (s.bind fun _ r => leastR 2 16 r).bind fun n r2 => (listR (decV d) n r2).bind fun l r3 => .ok (pList l) r3) := by
    show _ = _
    cases s <;> rfl
  generalize (s.bind fun _ r => (leastR 2 16 r).bind fun n r2 => (listR (decV d) n r2).bind fun l r3 => .ok (pList l) r3) = R at *
  generalize (s.bind fun _ r => leastR 2 16 r) = T at *
  have HD := Lib.hid hd
  clear hd h0 h
  obtain ⟨D, hD⟩ : ∃ D : Int, D = 16 - (d : Int) := ⟨_, rfl⟩
  rw [← hD]
  have HDD := Lib.hid hD
  clear hD
  go_enter Tryz.func58, Tryz.ntmps58
  go_wp2_with fail
  refine hrd.mono ?_
  rintro ee w1 ⟨x, rfl, hx, hx0, hP, hk⟩
  have hx' : x < 65536 := hx
  have ex1 : IntKind.i64.wrap (x : Int) = (x : Int) := IntWalk.i64_in _ (by omega)
  have hl := rrlist_any (n := x) HD.out HV hP.unit (Nat.le_trans hB (by have := hk.size; simp at this; omega)) (by omega)
  rw [← HDD.out] at hl
  have HT2 : Hid ((T.unit.bind fun _ r => (listR (decV d) x r).bind fun l r2 => .ok (pList l) r2) = R) := by
    show _ = _
    rw [HR.out]
    cases T with
    | no c => rfl
    | ok x0 r =>
      have := hx0 _ _ rfl
      subst this; rfl
  rw [HT2.out] at hl
  have R1 := hk.blk R0 (by omega) (by omega)
  have hk1 := hk0.trans hk
  clear hrd hx hx0 hP hk R0 hk0 HT2 hx'
  go_wp2_with fail
  refine hl.mono ?_
  rintro ee w2 ⟨cs, v, rfl, hv, hv0, hP, hk2⟩
  have x6 : (List.toArray cs).size = 6 := hv.len
  obtain ⟨HST, HB2, HV2⟩ := rval_end (R := R) (hk2.blk R1 (by omega) (by omega)) (by rfl) hP (hk1.trans hk2) (hv.mono (fun b hb _ => by have := hk1.size; have := R1.lt; omega)) hB hg1 (fun _ _ hh => hh) hv0
  clear R1 hk1 hk2 hP hv hv0 hl
  go_wp2
  exact bodyPost_ret (results_cell_row (fn := Tryz.f58) (by rfl) _ _ w.heap.size 50 _ (0, 0) _ (by rfl) HB2 Tryz.underlying50 rfl (by rw [x6]; exact sizeV)) rfl HV2.out

set_option maxHeartbeats 1000000 in
theorem roth_222 {d : Nat} (hd : d ≤ 16) (HV : RValH d) {B g : Nat} {L : List UInt8} {w : World} {s : Rs Unit} (h : RRs B w g L s) (hB : B ≤ w.heap.size) :
    Calls Tryz.prog 58 #[.pointer (some ⟨g, 0, none⟩), .int .i64 222, .int .i64 (16 - (d : Int))] w (RValP B g L w (s.bind fun _ r => (leastR 2 16 r).bind fun n r2 => (dictR (decV d) n none r2).bind fun l r3 => .ok (pDict l) r3)) := by
  have hg1 := h.lt
  have zs := zV_size
  have hO6 := oneC6
  have hb0 : Below w.heap.size w (w.alloc (.cells zV 50)) := (Below.refl _ _).alloc (Nat.le_refl _) _
  have R0 : Blk (w.alloc (.cells zV 50)) w.heap.size 50 zV.toList := Blk.new _ _ _
  have h0 := h.keep hb0
  have hk0 : Dk g g w (w.alloc (.cells zV 50)) := Dk.ofBelow hb0
  have hrd := rrnum_any (n := 2) (lo := 16) h0 (by decide) (by decide) (by decide)
  have HR : Hid ((s.bind fun _ r => (leastR 2 16 r).bind fun n r2 => (dictR (decV d) n none r2).bind fun l r3 => .ok (pDict l) r3) = (s.bind fun _ r => leastR 2 16 r).bind fun n r2 => (dictR (decV d) n none r2).bind fun l r3 => .ok (pDict l) r3) := by
    show _ = _
    cases s <;> rfl
  generalize (s.bind fun _ r => (leastR 2 16 r).bind fun n r2 => (dictR (decV d) n none r2).bind fun l r3 => .ok (pDict l) r3) = R at *
  generalize (s.bind fun _ r => leastR 2 16 r) = T at *
  have HD := Lib.hid hd
  clear hd h0 h
  obtain ⟨D, hD⟩ : ∃ D : Int, D = 16 - (d : Int) := ⟨_, rfl⟩
  rw [← hD]
  have HDD := Lib.hid hD
  clear hD
  go_enter Tryz.func58, Tryz.ntmps58
  go_wp2_with fail
  refine hrd.mono ?_
  rintro ee w1 ⟨x, rfl, hx, hx0, hP, hk⟩
  have hx' : x < 65536 := hx
  have ex1 : IntKind.i64.wrap (x : Int) = (x : Int) := IntWalk.i64_in _ (by omega)
  have hl := rrdict_any (n := x) HD.out HV hP.unit (Nat.le_trans hB (by have := hk.size; simp at this; omega)) (by omega)
  rw [← HDD.out] at hl
  have HT2 : Hid ((T.unit.bind fun _ r => (dictR (decV d) x none r).bind fun l r2 => .ok (pDict l) r2) = R) := by
    show _ = _
    rw [HR.out]
    cases T with
    | no c => rfl
    | ok x0 r =>
      have := hx0 _ _ rfl
      subst this; rfl
  rw [HT2.out] at hl
  have R1 := hk.blk R0 (by omega) (by omega)
  have hk1 := hk0.trans hk
  clear hrd hx hx0 hP hk R0 hk0 HT2 hx'
  go_wp2_with fail
  refine hl.mono ?_
  rintro ee w2 ⟨cs, v, rfl, hv, hv0, hP, hk2⟩
  have x6 : (List.toArray cs).size = 6 := hv.len
  obtain ⟨HST, HB2, HV2⟩ := rval_end (R := R) (hk2.blk R1 (by omega) (by omega)) (by rfl) hP (hk1.trans hk2) (hv.mono (fun b hb _ => by have := hk1.size; have := R1.lt; omega)) hB hg1 (fun _ _ hh => hh) hv0
  clear R1 hk1 hk2 hP hv hv0 hl
  go_wp2
  exact bodyPost_ret (results_cell_row (fn := Tryz.f58) (by rfl) _ _ w.heap.size 50 _ (0, 0) _ (by rfl) HB2 Tryz.underlying50 rfl (by rw [x6]; exact sizeV)) rfl HV2.out

theorem roth_any {d x : Nat} (hd : d ≤ 16) (HV : RValH d) (hx : 192 ≤ x ∧ x < 224) {B g : Nat} {L r : List UInt8} {w : World} (h : RRs B w g L (.ok () r)) (hB : B ≤ w.heap.size) :
    Calls Tryz.prog 58 #[.pointer (some ⟨g, 0, none⟩), .int .i64 (x : Int), .int .i64 (16 - (d : Int))] w (RValP B g L w (leadR (decV d) x r)) := by
  have key : x = 192 ∨ x = 194 ∨ x = 195 ∨ x = 196 ∨ x = 197 ∨ (204 ≤ x ∧ x ≤ 211) ∨ x = 217 ∨ x = 218 ∨ x = 220 ∨ x = 222 ∨ (x ≠ 192 ∧ x ≠ 194 ∧ x ≠ 195 ∧ x ≠ 196 ∧ x ≠ 197 ∧ ¬ (204 ≤ x ∧ x ≤ 211) ∧ x ≠ 217 ∧ x ≠ 218 ∧ x ≠ 220 ∧ x ≠ 222) := by omega
  rcases key with rfl | rfl | rfl | rfl | rfl | hi | rfl | rfl | rfl | rfl | hno
  · exact roth_192 (s := .ok () r) h hB
  · exact roth_194 (s := .ok () r) h hB
  · exact roth_195 (s := .ok () r) h hB
  · have := roth_196 (D := 16 - (d : Int)) (s := .ok () r) h hB
    rw [Rs.bind_ok] at this
    have e : leadR (decV d) 196 r = ((leastR 1 0 r).bind takeR).bind fun t r2 => .ok (pByt t) r2 := by rw [least0]; rfl
    rw [e]; exact this
  · exact roth_197 (s := .ok () r) h hB
  · have e : leadR (decV d) x r = (intR x r).bind fun n r2 => .ok (pNum n) r2 := by
      unfold leadR
      rw [if_neg (by unfold isText; simp; omega), if_neg (by omega), if_neg (by omega), if_neg (by omega), if_pos (by omega)]
    rw [e]
    rcases (by omega : x = 204 ∨ x = 205 ∨ x = 206 ∨ x = 207 ∨ x = 208 ∨ x = 209 ∨ x = 210 ∨ x = 211) with rfl | rfl | rfl | rfl | rfl | rfl | rfl | rfl
    · exact roth_204 (s := .ok () r) h hB
    · exact roth_205 (s := .ok () r) h hB
    · exact roth_206 (s := .ok () r) h hB
    · exact roth_207 (s := .ok () r) h hB
    · exact roth_208 (s := .ok () r) h hB
    · exact roth_209 (s := .ok () r) h hB
    · exact roth_210 (s := .ok () r) h hB
    · exact roth_211 (s := .ok () r) h hB
  · exact roth_217 (s := .ok () r) h hB
  · exact roth_218 (s := .ok () r) h hB
  · exact roth_220 hd HV (s := .ok () r) h hB
  · exact roth_222 hd HV (s := .ok () r) h hB
  · obtain ⟨h1, h2, h3, h4, h5, h6, h7, h8, h9, h10⟩ := hno
    have e : leadR (decV d) x r = .no 4 := by
      unfold leadR
      rw [if_neg (by unfold isText; simp; omega), if_neg (by omega), if_neg (by omega), if_neg (by omega), if_neg (by omega), if_neg h1, if_neg h2, if_neg h3, if_neg h4, if_neg h5, if_neg h9, if_neg h10]
    rw [e]
    exact roth_no (by simp; omega) (by simp; omega) (by simp; omega) (by simp; omega) (by simp; omega) (by simp; omega) (by simp; omega) (by simp; omega) (by simp; omega) (by simp; omega) (by simp; omega) (by simp; omega) (by simp; omega) (by simp; omega) (by simp; omega) (by simp; omega) (by simp; omega) h hB

set_option maxHeartbeats 8000000 in
theorem rvalue_any : ∀ d : Nat, d ≤ 17 → RValH d := by
  intro d
  induction d with
  | zero =>
    intro _ B g L w s D hD h hB
    have hg1 := h.lt
    have zs := zV_size
    have hO6 := oneC6
    have hb0 : Below w.heap.size w (w.alloc (.cells zV 50)) := (Below.refl _ _).alloc (Nat.le_refl _) _
    have R0 : Blk (w.alloc (.cells zV 50)) w.heap.size 50 zV.toList := Blk.new _ _ _
    have h0 := h.keep hb0
    have hk0 : Dk g g w (w.alloc (.cells zV 50)) := Dk.ofBelow hb0
    have hD17 : D = 17 := by omega
    subst hD17
    have htk := rtake_any (n := 1) h0 (by decide)
    have HR : Hid ((s.bind fun _ r => decV 0 r) = (s.bind fun _ r => takeR 1 r).bind fun b r => .no 4) := by
      show _ = _
      cases s with
      | no c => rfl
      | ok x r =>
        rw [Rs.bind_ok, Rs.bind_ok, decV_byte, byteR_take, Rs.bind_bind]
        cases takeR 1 r <;> rfl
    have H1 : Hid (∀ b r, (s.bind fun _ r => takeR 1 r) = .ok b r → ∃ c : UInt8, b = [c]) := fun b r hb => by
      cases s with
      | no c => cases hb
      | ok x r0 =>
        rw [Rs.bind_ok, take1] at hb
        cases r0 with
        | nil => cases hb
        | cons c r1 => cases hb; exact ⟨c, rfl⟩
    generalize (s.bind fun _ r => decV 0 r) = R at *
    generalize (s.bind fun _ r => takeR 1 r) = T at *
    clear hD h0 h
    go_enter Tryz.func32, Tryz.ntmps32
    go_wp2_with fail
    refine htk.mono ?_
    rintro ee w1 ⟨a, c, t, rfl, _, hrow, ht, htn, htl, hP, hk⟩
    have R1 := hk.blk R0 (by omega) (by omega)
    have hk1 := hk0.trans hk
    clear htk hk hk0 R0
    cases T with
    | no cc =>
      obtain ⟨q1, q2⟩ := hP.noC
      have e1 : (cc != 0) = true := by simpa using q2
      obtain ⟨HST, HB2, HV⟩ := rval_end (R := R) R1 (by rfl) hP hk1 (VAtP.kindP _ (k := 0) (by unfold in64; omega)) hB hg1 (fun _ _ hh => by rw [HR.out]; exact hh) (fun v0 r hv => by rw [HR.out] at hv; cases hv)
      clear R1 hk1 hP hrow ht htn htl
      go_wp2
      exact bodyPost_ret (results_cell_row (fn := Tryz.f32) (by rfl) _ _ w.heap.size 50 _ (0, 0) _ (by rfl) HB2 Tryz.underlying50 rfl sizeV) rfl HV.out
    | ok b r =>
      obtain ⟨c0, hb⟩ := H1.out b r rfl
      have hbt := ht _ _ rfl
      subst hb hbt
      have d1 : w1.cell? (hd a) = some (.int .u8 (c0.toNat : Int)) := by
        have := hrow.2 0 (b8 c0) rfl
        rw [hd_add0] at this; exact this
      have d2 : a.isSome = true := hrow.1 (by simp)
      have q1 := hP.ok0
      have hc256 : c0.toNat < 256 := c0.toNat_lt
      have ex : IntKind.i64.wrap (c0.toNat : Int) = (c0.toNat : Int) := IntWalk.i64_in _ (by omega)
      obtain ⟨hP2, hg2, f2, z, c2⟩ := RRs.fail (β := PV) hP 4 (by decide)
      obtain ⟨HST, HB2, HV⟩ := rval_end (R := R) ((Dk.one hg2).blk R1 (by omega) (by omega)) (by rfl) hP2 (hk1.trans (Dk.one hg2)) (VAtP.kindP _ (k := 0) (by unfold in64; omega)) hB hg1 (fun _ _ hh => by rw [HR.out]; exact hh) (fun v0 r hv => by rw [HR.out] at hv; cases hv)
      clear R1 hk1 hP hrow ht htn htl hP2 hg2 hc256
      generalize c0.toNat = x at *
      go_wp2
      exact bodyPost_ret (results_cell_row (fn := Tryz.f32) (by rfl) _ _ w.heap.size 50 _ (0, 0) _ (by rfl) HB2 Tryz.underlying50 rfl sizeV) rfl HV.out
  | succ d ih =>
    intro hd17 B g L w s D hD h hB
    have HVd := ih (by omega)
    have hd16 : d ≤ 16 := by omega
    have hg1 := h.lt
    have zs := zV_size
    have hO6 := oneC6
    have hb0 : Below w.heap.size w (w.alloc (.cells zV 50)) := (Below.refl _ _).alloc (Nat.le_refl _) _
    have R0 : Blk (w.alloc (.cells zV 50)) w.heap.size 50 zV.toList := Blk.new _ _ _
    have h0 := h.keep hb0
    have hk0 : Dk g g w (w.alloc (.cells zV 50)) := Dk.ofBelow hb0
    have hD16 : D = 16 - (d : Int) := by omega
    subst hD16
    have htk := rtake_any (n := 1) h0 (by decide)
    have HR : Hid ((s.bind fun _ r => decV (d + 1) r) = (s.bind fun _ r => takeR 1 r).bind fun b r => leadR (decV d) (getL b) r) := by
      show _ = _
      cases s with
      | no c => rfl
      | ok x r =>
        rw [Rs.bind_ok, Rs.bind_ok, decV_byte, byteR_take, Rs.bind_bind]
        cases takeR 1 r <;> rfl
    have H1 : Hid (∀ b r, (s.bind fun _ r => takeR 1 r) = .ok b r → ∃ c : UInt8, b = [c]) := fun b r hb => by
      cases s with
      | no c => cases hb
      | ok x r0 =>
        rw [Rs.bind_ok, take1] at hb
        cases r0 with
        | nil => cases hb
        | cons c r1 => cases hb; exact ⟨c, rfl⟩
    generalize (s.bind fun _ r => decV (d + 1) r) = R at *
    generalize (s.bind fun _ r => takeR 1 r) = T at *
    have i16 : ¬ (16 : Int) < 16 - (d : Int) := by omega
    have HD16 := Lib.hid hd16
    have HVH := Lib.hid HVd
    clear hD h0 h hd17 ih HVd hd16
    obtain ⟨D, hD⟩ : ∃ D : Int, D = 16 - (d : Int) := ⟨_, rfl⟩
    rw [← hD] at i16 ⊢
    have HDD := Lib.hid hD
    clear hD
    go_enter Tryz.func32, Tryz.ntmps32
    go_wp2_with fail
    refine htk.mono ?_
    rintro ee w1 ⟨a, c, t, rfl, _, hrow, ht, htn, htl, hP, hk⟩
    have R1 := hk.blk R0 (by omega) (by omega)
    have hk1 := hk0.trans hk
    clear htk hk hk0 R0
    cases T with
    | no cc =>
      obtain ⟨q1, q2⟩ := hP.noC
      have e1 : (cc != 0) = true := by simpa using q2
      obtain ⟨HST, HB2, HV⟩ := rval_end (R := R) R1 (by rfl) hP hk1 (VAtP.kindP _ (k := 0) (by unfold in64; omega)) hB hg1 (fun _ _ hh => by rw [HR.out]; exact hh) (fun v0 r hv => by rw [HR.out] at hv; cases hv)
      clear R1 hk1 hP hrow ht htn htl
      go_wp2
      exact bodyPost_ret (results_cell_row (fn := Tryz.f32) (by rfl) _ _ w.heap.size 50 _ (0, 0) _ (by rfl) HB2 Tryz.underlying50 rfl sizeV) rfl HV.out
    | ok b r =>
    obtain ⟨c0, hb⟩ := H1.out b r rfl
    have hbt := ht _ _ rfl
    subst hb hbt
    have d1 : w1.cell? (hd a) = some (.int .u8 (c0.toNat : Int)) := by
      have := hrow.2 0 (b8 c0) rfl
      rw [hd_add0] at this; exact this
    have d2 : a.isSome = true := hrow.1 (by simp)
    have q1 := hP.ok0
    have hc256 : c0.toNat < 256 := c0.toNat_lt
    have ex : IntKind.i64.wrap (c0.toNat : Int) = (c0.toNat : Int) := IntWalk.i64_in _ (by omega)
    have hPu : RRs B w1 g L (.ok () r) := hP.cast (fun _ _ hh => hh)
    have hgl : getL [c0] = c0.toNat := by simp [getL]
    have HR2 : Hid (R = leadR (decV d) c0.toNat r) := by
      show _ = _
      rw [HR.out, Rs.bind_ok, hgl]
    clear HR hgl hrow ht htn htl hP H1
    have hB1 : B ≤ w1.heap.size := Nat.le_trans hB hk1.size
    generalize c0.toNat = x at *
    by_cases h1 : x < 128
    · have i1 : (x : Int) < 128 := by omega
      have hi8 : int8 x = (x : Int) := by unfold int8; rw [if_pos h1]
      have HL : Hid (R = .ok (pNum (x : Int)) r) := by
        show _ = _
        rw [HR2.out, lead_num r (.inl h1) hc256, hi8]
      obtain ⟨HST, HB2, HV⟩ := rval_end (R := R) R1 (by rfl) hPu hk1 (VAtP.numP w1 (n := (x : Int)) (by unfold in64; omega)) hB hg1 (fun _ _ hh => by rw [HL.out]; exact hh) (fun v0 r hv => by rw [HL.out] at hv; cases hv; rfl)
      clear R1 hk1 hPu h1 hc256 hi8
      go_wp2
      exact bodyPost_ret (results_cell_row (fn := Tryz.f32) (by rfl) _ _ w.heap.size 50 _ (0, 0) _ (by rfl) HB2 Tryz.underlying50 rfl sizeV) rfl HV.out
    have i1 : ¬ (x : Int) < 128 := by omega
    by_cases h2 : x < 144
    · have i2 : (x : Int) < 144 := by omega
      have ew : IntKind.i64.wrap ((x : Int) - 128) = ((x - 128 : Nat) : Int) := by rw [IntWalk.i64_in _ (by omega)]; omega
      have hl := rrdict_any (n := x - 128) HD16.out HVH.out hPu hB1 (by omega)
      rw [Rs.bind_ok, ← lead_dictR r (by omega), ← HR2.out, ← HDD.out] at hl
      generalize ((x - 128 : Nat) : Int) = X at *
      clear h1 h2 hc256 hPu
      go_wp2_with fail
      refine hl.mono ?_
      rintro ee w2 ⟨cs, v, rfl, hv, hv0, hP, hk2⟩
      have x6 : (List.toArray cs).size = 6 := hv.len
      obtain ⟨HST, HB2, HV⟩ := rval_end (R := R) (hk2.blk R1 (by omega) (by omega)) (by rfl) hP (hk1.trans hk2) (hv.mono (fun b hb _ => by have := hk1.size; have := R1.lt; omega)) hB hg1 (fun _ _ hh => hh) hv0
      clear R1 hk1 hk2 hP hv hv0 hl
      go_wp2
      exact bodyPost_ret (results_cell_row (fn := Tryz.f32) (by rfl) _ _ w.heap.size 50 _ (0, 0) _ (by rfl) HB2 Tryz.underlying50 rfl (by rw [x6]; exact sizeV)) rfl HV.out
    have i2 : ¬ (x : Int) < 144 := by omega
    by_cases h3 : x < 160
    · have i3 : (x : Int) < 160 := by omega
      have ew : IntKind.i64.wrap ((x : Int) - 144) = ((x - 144 : Nat) : Int) := by rw [IntWalk.i64_in _ (by omega)]; omega
      have hl := rrlist_any (n := x - 144) HD16.out HVH.out hPu hB1 (by omega)
      rw [Rs.bind_ok, ← lead_listR r (by omega), ← HR2.out, ← HDD.out] at hl
      generalize ((x - 144 : Nat) : Int) = X at *
      clear h1 h2 h3 hc256 hPu
      go_wp2_with fail
      refine hl.mono ?_
      rintro ee w2 ⟨cs, v, rfl, hv, hv0, hP, hk2⟩
      have x6 : (List.toArray cs).size = 6 := hv.len
      obtain ⟨HST, HB2, HV⟩ := rval_end (R := R) (hk2.blk R1 (by omega) (by omega)) (by rfl) hP (hk1.trans hk2) (hv.mono (fun b hb _ => by have := hk1.size; have := R1.lt; omega)) hB hg1 (fun _ _ hh => hh) hv0
      clear R1 hk1 hk2 hP hv hv0 hl
      go_wp2
      exact bodyPost_ret (results_cell_row (fn := Tryz.f32) (by rfl) _ _ w.heap.size 50 _ (0, 0) _ (by rfl) HB2 Tryz.underlying50 rfl (by rw [x6]; exact sizeV)) rfl HV.out
    have i3 : ¬ (x : Int) < 160 := by omega
    by_cases h4 : x < 192
    · have i4 : (x : Int) < 192 := by omega
      have ew : IntKind.i64.wrap ((x : Int) - 160) = ((x - 160 : Nat) : Int) := by rw [IntWalk.i64_in _ (by omega)]; omega
      have htk2 := rtake_any (n := x - 160) hPu (by omega)
      rw [Rs.bind_ok] at htk2
      have HL : Hid (R = (takeR (x - 160) r).bind fun t r2 => .ok (pTxt t) r2) := by
        show _ = _
        rw [HR2.out, lead_text r (by unfold isText; simp; omega), lead_short r (by omega)]
      have HM : Hid (x - 160 ≤ 100) := by show _ ≤ _; omega
      generalize x - 160 = m at *
      generalize takeR m r = T2 at *
      clear h1 h2 h3 h4 hc256 hPu
      go_wp2_with fail
      refine htk2.mono ?_
      rintro ee w2 ⟨a2, c2, t, rfl, _, hrow, ht, _, htl, hP, hk2⟩
      have hcv := run_convert_row (P := Tryz.prog) (src := 22) (e := 5) (dst := 9) (c := c2) eB.ht Tryz.underlying5 Tryz.underlying9 rfl hrow
      obtain ⟨HST, HB2, HV⟩ := rval_end (R := R) (hk2.blk R1 (by omega) (by omega)) (by rfl) hP (hk1.trans hk2) (VAtP.plain (k := 5) (n := 0) (t := t) w2 (by unfold in64; omega) (by unfold in64; omega) (by have := HM.out; unfold maxLen; omega)) hB hg1 (fun _ _ hh => by rw [HL.out]; cases T2 <;> exact hh) (fun v0 r2 hv => by
        rw [HL.out] at hv
        cases T2 with
        | no c => cases hv
        | ok x0 r0 => cases hv; rw [ht _ _ rfl]; rfl)
      clear R1 hk1 hk2 hP hrow ht htl htk2
      go_wp2
      exact bodyPost_ret (results_cell_row (fn := Tryz.f32) (by rfl) _ _ w.heap.size 50 _ (0, 0) _ (by rfl) HB2 Tryz.underlying50 rfl sizeV) rfl HV.out
    have i4 : ¬ (x : Int) < 192 := by omega
    by_cases h5 : 224 ≤ x
    · have i5 : 224 ≤ (x : Int) := by omega
      have ew : IntKind.i64.wrap ((x : Int) - 256) = (x : Int) - 256 := IntWalk.i64_in _ (by omega)
      have hi8 : int8 x = (x : Int) - 256 := by unfold int8; rw [if_neg h1]
      have HL : Hid (R = .ok (pNum ((x : Int) - 256)) r) := by
        show _ = _
        rw [HR2.out, lead_num r (.inr h5) hc256, hi8]
      obtain ⟨HST, HB2, HV⟩ := rval_end (R := R) R1 (by rfl) hPu hk1 (VAtP.numP w1 (n := (x : Int) - 256) (by unfold in64; omega)) hB hg1 (fun _ _ hh => by rw [HL.out]; exact hh) (fun v0 r hv => by rw [HL.out] at hv; cases hv; rfl)
      clear R1 hk1 hPu h1 h2 h3 h4 h5 hc256 hi8
      go_wp2
      exact bodyPost_ret (results_cell_row (fn := Tryz.f32) (by rfl) _ _ w.heap.size 50 _ (0, 0) _ (by rfl) HB2 Tryz.underlying50 rfl sizeV) rfl HV.out
    · have i5 : ¬ 224 ≤ (x : Int) := by omega
      have hl := roth_any (x := x) HD16.out HVH.out (by omega) hPu hB1
      rw [← HR2.out, ← HDD.out] at hl
      clear h1 h2 h3 h4 h5 hc256 hPu
      go_wp2_with fail
      refine hl.mono ?_
      rintro ee w2 ⟨cs, v, rfl, hv, hv0, hP, hk2⟩
      have x6 : (List.toArray cs).size = 6 := hv.len
      obtain ⟨HST, HB2, HV⟩ := rval_end (R := R) (hk2.blk R1 (by omega) (by omega)) (by rfl) hP (hk1.trans hk2) (hv.mono (fun b hb _ => by have := hk1.size; have := R1.lt; omega)) hB hg1 (fun _ _ hh => hh) hv0
      clear R1 hk1 hk2 hP hv hv0 hl
      go_wp2
      exact bodyPost_ret (results_cell_row (fn := Tryz.f32) (by rfl) _ _ w.heap.size 50 _ (0, 0) _ (by rfl) HB2 Tryz.underlying50 rfl (by rw [x6]; exact sizeV)) rfl HV.out
end Go.Proofs.YtpchogicdnfggaaGreatDoor
