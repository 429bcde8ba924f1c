/- Joined: what one statement of this layer stands on, part 8 of 20; nothing is assumed. -/
import Derived.Deep.CutBlock
import Derived.Test.YtpchogicdnfggaaDoorKS7
set_option maxRecDepth 20000
namespace Go.Proofs.YtpchogicdnfggaaDoor
open Go.RowKit Go.Hd
attribute [local go_sem ↓] h_ldV h_stV h_alV h_bsV
attribute [local go_sem] r_ldV r_stV r_alV r_bsV

def byteR (l : List UInt8) : Rs Nat := match l with | [] => .no 3 | c :: r => .ok c.toNat r
theorem byteR_take (l : List UInt8) : byteR l = (takeR 1 l).bind fun b r => .ok (getL b) r := by
  unfold byteR takeR
  cases l with
  | nil => rfl
  | cons c r =>
    rw [if_neg (by simp)]
    simp [getL]
theorem rdnum_any {α : Type} {B gr g : Nat} {w : World} {s : Rs α} (h : PRs B w gr g s) :
    Calls Tryd.prog 109 #[.pointer (some ⟨g, 0, none⟩), .int .i64 1] w (NumP B gr g w 256 (s.bind fun _ r => byteR r)) := by
  obtain ⟨l, e, bad, h1, h2, h3, h4, h5⟩ := h
  obtain ⟨t1, t2, t3, t4, t5⟩ := took_st 1 h3
  have hR : (s.bind fun _ r => byteR r) = (s.bind fun _ r => takeR 1 r).bind fun b r => .ok (getL b) r := by
    cases s with
    | no c => rfl
    | ok x r => exact byteR_take r
  have hE : numE e 1 = e := by unfold numE; rw [if_neg (by omega)]
  have hn := num_any (n := 1) h2
  rw [hE] at hn
  refine hn.mono ?_
  rintro ee w1 ⟨rfl, hrd, hg⟩
  have hx : gV (rdGot l e 1) < 256 := by
    unfold gV
    split
    · have h6 := getL_lt (rdGot l e 1)
      have h7 : (rdGot l e 1).length ≤ 1 := t4
      exact Nat.lt_of_lt_of_le h6 (Nat.pow_le_pow_right (by decide) h7)
    · decide
  refine ⟨_, rfl, hx, fun x0 r hr => ?_, fun c hc => ?_, ?_, Dk.ofGrown hg (.inr rfl)⟩
  · rw [hR] at hr
    cases hT : (s.bind fun _ r => takeR 1 r) with
    | no c => rw [hT] at hr; cases hr
    | ok b r' =>
      rw [hT] at hr
      cases hr
      have hgot : rdGot l e 1 = b := t2 _ _ hT
      rw [hgot]
      have hbl : b.length = 1 := by
        cases s with
        | no c => cases hT
        | ok x r0 =>
          have hT : takeR 1 r0 = .ok b r := hT
          unfold takeR at hT
          split at hT
          · cases hT
          · cases hT; simp; omega
      unfold gV
      rw [if_pos (by omega)]
  · rw [hR] at hc
    cases hT : (s.bind fun _ r => takeR 1 r) with
    | no c' =>
      rw [hT] at hc
      cases hc
      rcases t5 _ hT with h | h
      · exact .inl h
      · right
        have h : rdGot l e 1 = [] := h
        rw [h]; rfl
    | ok b r' => rw [hT] at hc; cases hc
  · rw [hR]
    refine ⟨_, _, _, h1.grown hg h5, hrd, ?_, Nat.le_trans t3 h4, h5⟩
    cases hT : (s.bind fun _ r => takeR 1 r) with
    | no c' => rw [hT] at t1; exact t1
    | ok b r' => rw [hT] at t1; exact t1

abbrev PsL := List (List UInt8 × PV)
def lastK (ps : PsL) : Option (List UInt8) := ps.getLast?.map (·.1)
def restD (f : List UInt8 → Rs PV) (n : Nat) (T : Rs PsL) : Rs PsL := T.bind fun ps r => (dictR f n (lastK ps) r).bind fun qs r2 => .ok (ps ++ qs) r2
def stepD (f : List UInt8 → Rs PV) (T : Rs PsL) : Rs PsL := T.bind fun ps r => (keyR (lastK ps) r).bind fun k r2 => (f r2).bind fun v r3 => .ok (ps ++ [(k, v)]) r3
theorem restD_zero (f : List UInt8 → Rs PV) (T : Rs PsL) : restD f 0 T = T := by
  unfold restD
  cases T with
  | no c => rfl
  | ok vs r => simp [dictR]
theorem lastK_snoc (ps : PsL) (k : List UInt8) (v : PV) : lastK (ps ++ [(k, v)]) = some k := by unfold lastK; simp
theorem restD_succ (f : List UInt8 → Rs PV) (n : Nat) (T : Rs PsL) : restD f (n + 1) T = restD f n (stepD f T) := by
  unfold restD stepD
  cases T with
  | no c => rfl
  | ok ps r =>
    simp only [Rs.bind_ok, dictR]
    cases keyR (lastK ps) r with
    | no c => rfl
    | ok k r2 =>
      simp only [Rs.bind_ok]
      cases f r2 with
      | no c => rfl
      | ok v r3 =>
        simp only [Rs.bind_ok, lastK_snoc]
        cases dictR f n (some k) r3 with
        | no c => rfl
        | ok ws r4 => simp
theorem restD_no (f : List UInt8 → Rs PV) (n : Nat) (c : Int) : restD f n (.no c) = .no c := rfl
/-- The state of dict's loop. -/
structure DictJ {α : Type} (B gr g : Nat) (w wr : World) (uK uL : Value) (ks : List (List UInt8)) (vs : List PV) (S : Rs α) : Prop where
  res : Blk wr w.heap.size 30 zV.toList
  vb : VB (w.heap.size + 1) (w.heap.size + 1) wr (.mk 7 0 [] [] ks vs) (.slice none 0 0) uK uL
  st : PRs B wr gr g S
  dk : Dk gr g w wr
theorem DictJ.call {α β : Type} {B gr g : Nat} {w wr w2 : World} {uK uL : Value} {ks : List (List UInt8)} {vs : List PV} {S : Rs α} {S2 : Rs β} (h : DictJ B gr g w wr uK uL ks vs S) (h1 : gr < w.heap.size) (h2 : g < w.heap.size) (hP : PRs B w2 gr g S2) (hk : Dk gr g wr w2) : DictJ B gr g w w2 uK uL ks vs S2 :=
  ⟨hk.blk h.res (by omega) (by omega), h.vb.keep hk.size (fun b hb hlt => hk.block b hlt (by omega) (by omega)), hP, h.dk.trans hk⟩
theorem DictJ.cast {α β : Type} {B gr g : Nat} {w wr : World} {uK uL : Value} {ks : List (List UInt8)} {vs : List PV} {S : Rs α} {S2 : Rs β} (h : DictJ B gr g w wr uK uL ks vs S) (hc : ∀ l e bad, PRst S l e bad → PRst S2 l e bad) : DictJ B gr g w wr uK uL ks vs S2 := ⟨h.res, h.vb, h.st.cast hc, h.dk⟩
theorem DictJ.drew {α : Type} {B gr g : Nat} {w wr : World} {uK uL : Value} {ks : List (List UInt8)} {vs : List PV} {S : Rs α} (h : DictJ B gr g w wr uK uL ks vs S) : DictJ B gr g w wr.drew uK uL ks vs S :=
  ⟨h.res, h.vb.keep (Nat.le_refl _) (fun _ _ _ => rfl), h.st.keep (Gr.drewN wr 1), ⟨h.dk.os, h.dk.tape, h.dk.output, h.dk.size, h.dk.block⟩⟩
theorem DictJ.after {α : Type} {B gr g : Nat} {w wr w' : World} {uK uL u2 uK2 uL2 x : Value} {ks ks2 : List (List UInt8)} {vs vs2 : List PV} {S : Rs α} {i : Nat} (h : DictJ B gr g w wr uK uL ks vs S) (hB : B ≤ w.heap.size) (h1 : gr < w.heap.size) (h2 : g < w.heap.size) (hg : Gro wr w' uK u2 ∨ Gro wr w' uL u2)
    (hv : VB (w.heap.size + 1) (w.heap.size + 1) (w'.setCell ⟨w.heap.size + 1, i, none⟩ x) (.mk 7 0 [] [] ks2 vs2) (.slice none 0 0) uK2 uL2) : DictJ B gr g w (w'.setCell ⟨w.heap.size + 1, i, none⟩ x) uK2 uL2 ks2 vs2 S := by
  have hk := h.vb.kown
  have hs : w'.grownBy (w'.setCell ⟨w.heap.size + 1, i, none⟩ x) (some (w.heap.size + 1)) := grown_set (World.grownBy.refl _ _) _ _
  have key : ∀ {u : Value}, (∀ b, u.ownBlock = some b → w.heap.size + 1 ≤ b ∧ b < wr.heap.size) → wr.grownBy w' u.ownBlock → DictJ B gr g w (w'.setCell ⟨w.heap.size + 1, i, none⟩ x) uK2 uL2 ks2 vs2 S := by
    intro u hu hgr
    refine ⟨?_, hv, (h.st.far hgr (fun k hk => by have := (hu k hk).1; exact ⟨by omega, by omega, by omega⟩)).far hs (fun k hk => by cases hk; exact ⟨by omega, by omega, by omega⟩), ?_⟩
    · exact (h.res.keptBy hgr (fun e => by have := (hu _ e).1; omega)).grown hs (by omega)
    · refine ⟨hgr.os.trans h.dk.os, hgr.tape.trans h.dk.tape, hgr.output.trans h.dk.output, Nat.le_trans h.dk.size (by simpa using hgr.size), fun k hk1 g1 g2 => ?_⟩
      have hws := h.dk.size
      rw [hs.block k (by have := hgr.size; omega) (by simp; omega), hgr.block k (by omega) (fun e => by have := (hu k e.symm).1; omega)]
      exact h.dk.block k hk1 g1 g2
  rcases hg with hg | hg
  · exact key hk.1 hg.gr
  · exact key hk.2 hg.gr
theorem keyR_byte (prev : Option (List UInt8)) (l : List UInt8) : keyR prev l = (byteR l).bind fun c r => if isText c = false then .no 4 else (textR c r).bind fun k r2 => if (match prev with | none => false | some p => leT k p) = true then .no 4 else .ok k r2 := by
  cases l <;> rfl
end Go.Proofs.YtpchogicdnfggaaDoor
set_option maxRecDepth 20000
namespace Go.Proofs.YtpchogicdnfggaaDoor
open Go.RowKit Go.Hd
attribute [local go_sem ↓] h_ldV h_stV h_alV h_bsV
attribute [local go_sem] r_ldV r_stV r_alV r_bsV

/-- The last key is behind in the row of keys. -/
theorem lastK_get {ps : PsL} {i : Nat} (h : (ps.map (·.1)).length = i + 1) : lastK ps = some ((ps.map (·.1))[i]'(by omega)) := by
  unfold lastK
  have h1 : ps.length = i + 1 := by simpa using h
  rw [List.getLast?_eq_getElem?, h1, Nat.add_sub_cancel, List.getElem?_eq_getElem (by omega)]
  simp
theorem lastK_nil : lastK [] = none := rfl
set_option maxHeartbeats 4000000 in
theorem rddict_any {d : Nat} (HV : ValH d) {B gr g n : Nat} {w : World} {s : Rs Unit} (h : PRs B w gr g s) (hB : B ≤ w.heap.size) (hn : n ≤ 65536) :
    Calls Tryd.prog 113 #[.pointer (some ⟨gr, 0, none⟩), .int .i64 (n : Int), .int .i64 (d : Int)] w (ValP B gr g w (s.bind fun _ r => (dictR (decV d) n none r).bind fun ps r2 => .ok (pDict ps) r2)) := by
  obtain ⟨hg1, hg2⟩ := h.lt
  have zs := zV_size
  have hO6 := oneC6
  have HR : Hid ((s.bind fun _ r => (dictR (decV d) n none r).bind fun ps r2 => .ok (pDict ps) r2) = (restD (decV d) n (s.bind fun _ r => .ok [] r)).bind fun ps r2 => .ok (pDict ps) r2) := by
    show _ = _
    unfold restD
    cases s with
    | no c => rfl
    | ok x r =>
      simp only [Rs.bind_ok, List.nil_append, lastK_nil]
      cases dictR (decV d) n none r <;> rfl
  obtain ⟨W, hW⟩ : ∃ W, W = (w.alloc (.cells zV 30)).alloc (.cells (List.toArray (α := Value) [.int .i64 7, .int .i64 0, .slice none 0 0, .string { data := #[] }, .slice none 0 0, .slice none 0 0]) 30) := ⟨_, rfl⟩
  have hbW : Below w.heap.size w W := by rw [hW]; exact ((Below.refl _ _).alloc (Nat.le_refl _) _).alloc (by simp) _
  have R0 : Blk W w.heap.size 30 zV.toList := by rw [hW]; exact (Blk.new w 30 zV).alloc _
  have B0 : Blk W (w.heap.size + 1) 30 [.int .i64 7, .int .i64 0, .slice none 0 0, strV [], .slice none 0 0, .slice none 0 0] := by
    have := Blk.new (w.alloc (.cells zV 30)) 30 (List.toArray (α := Value) [.int .i64 7, .int .i64 0, .slice none 0 0, .string { data := #[] }, .slice none 0 0, .slice none 0 0])
    rw [drew_alloc_size, ← hW] at this
    exact this
  have hWs : W.heap.size = w.heap.size + 2 := by rw [hW]; simp
  have hI0 : DictJ B gr g w W (.slice none 0 0) (.slice none 0 0) [] [] (s.bind fun _ r => .ok ([] : PsL) r) :=
    ⟨R0, VB.new (b := []) (t := []) B0 (Nat.le_refl _) (by omega) (by unfold in64; omega) (by unfold in64; omega) (Nat.zero_le _) ⟨Nat.le_refl _, Nat.zero_le _⟩ (Row.nil _ _) (by simp), (h.keep hbW).cast (fun _ _ _ hh => by cases s <;> exact hh), Dk.ofBelow hbW⟩
  have hgot0 : ∀ ps r, (s.bind fun _ r => .ok ([] : PsL) r) = .ok ps r → ([] : List (List UInt8)) = ps.map (·.1) ∧ ([] : List PV) = ps.map (·.2) := fun ps r hv => by cases s <;> cases hv; exact ⟨rfl, rfl⟩
  generalize (s.bind fun _ r => (dictR (decV d) n none r).bind fun ps r2 => .ok (pDict ps) r2) = R at *
  generalize (s.bind fun _ r => (.ok [] r : Rs PsL)) = T0 at *
  have HVd := Lib.hid HV
  have HW := Lib.hid hWs
  clear HV hWs h R0 B0 hbW
  go_enter Tryd.func113, Tryd.ntmps113
  go_upto_region 2 with (fail)
  rw [← hW]
  clear hW
  go_upto_block 0 with (fail)
  go_cut [8] (fun _ wx => ∃ (ks : List (List UInt8)) (vs : List PV) (uK uL : Value) (T : Rs PsL), DictJ B gr g w wx uK uL ks vs T ∧ (∀ ps r, T = .ok ps r → ks = ps.map (·.1) ∧ vs = ps.map (·.2)) ∧ R = T.bind fun ps r2 => .ok (pDict ps) r2)
  case first =>
    go_wp2
    go_loopw [8] (fun i wr => ∃ (j : Nat) (ks : List (List UInt8)) (vs : List PV) (uK uL : Value) (T : Rs PsL), j ≤ n ∧ i = .int .i64 j ∧ ks.length = j ∧ vs.length = j ∧ DictJ B gr g w wr uK uL ks vs T ∧ (∀ ps r, T = .ok ps r → ks = ps.map (·.1) ∧ vs = ps.map (·.2)) ∧ R = (restD (decV d) (n - j) T).bind fun ps r2 => .ok (pDict ps) r2) (fun i _ => n - (intOf i).toNat)
    case atStart => exact ⟨0, [], [], _, _, T0, Nat.zero_le _, rfl, rfl, rfl, hI0, hgot0, HR.out⟩
    case round =>
      clear hI0 HR hgot0
      obtain ⟨j, ks, vs, uK, uL, T, hj, rfl, hkl, hvl, hI, hgot, hR⟩ := hrel
      have HKL := Lib.hid (And.intro hkl hvl)
      have HGOT := Lib.hid hgot
      have HR := Lib.hid hR
      clear hR hkl hvl hgot
      have hf := failed_any hI.st
      by_cases hlt : j < n
      · have j1 : (j : Int) < (n : Int) := by omega
        cases T with
        | no cc =>
          rw [Rs.isNo_no] at hf
          go_wp2_with fail
          refine hf.mono ?_
          rintro ee w2 ⟨rfl, rfl⟩
          go_wp2
          go_meet
          exact ⟨ks, vs, uK, uL, _, hI, HGOT.out, by rw [HR.out, restD_no]⟩
        | ok ps r =>
          rw [Rs.isNo_ok] at hf
          obtain ⟨hks, hvs⟩ := HGOT.out ps r rfl
          have hnum := rdnum_any hI.st
          have HSTEP : Hid (R = (restD (decV d) (n - (j + 1)) (stepD (decV d) (.ok ps r))).bind fun ps r2 => .ok (pDict ps) r2) := by
            show _ = _
            rw [HR.out, show n - j = (n - (j + 1)) + 1 by omega, restD_succ]
          have HKS := Lib.hid (And.intro hks hvs)
          have c0 := hI.st.ptr
          clear hks hvs HR
          go_wp2_with fail
          refine hf.mono ?_
          rintro ee w2 ⟨rfl, rfl⟩
          clear hf
          go_wp2_with fail
          refine hnum.mono ?_
          rintro ee w3 ⟨x, rfl, hx, hx0, hxn, hP, hk⟩
          have hI3 := hI.call hg1 hg2 hP hk
          have hf := failed_any hI3.st
          have ex : IntKind.u8.wrap (x : Int) = (x : Int) := by rw [IntKind.wrap_u8]; omega
          rw [Rs.bind_ok] at hf hI3 hx0
          have HK1 := Lib.hid (keyR_byte (lastK ps) r)
          cases hb : byteR r with
          | no c1 =>
            rw [hb, Rs.isNo_no] at hf
            have HT : Hid (stepD (decV d) (.ok ps r) = .no c1) := by
              show _ = _
              unfold stepD
              rw [Rs.bind_ok, HK1.out, hb]; rfl
            rw [hb] at hI3
            have HF : Hid (∃ (ks : List (List UInt8)) (vs : List PV) (uK uL : Value) (T : Rs PsL), DictJ B gr g w w3 uK uL ks vs T ∧ (∀ ps r, T = .ok ps r → ks = ps.map (·.1) ∧ vs = ps.map (·.2)) ∧ R = T.bind fun ps r2 => .ok (pDict ps) r2) :=
              ⟨ks, vs, uK, uL, .no c1, hI3.cast (fun _ _ _ hh => hh), (fun _ _ h => by cases h), by rw [HSTEP.out, HT.out, restD_no]⟩
            clear hP hI hI3 hx0 hxn hb
            go_wp2_with fail
            refine hf.mono ?_
            rintro ee w4 ⟨rfl, rfl⟩
            go_wp2
            go_meet
            exact HF.out
          | ok c r1 =>
            rw [hb, Rs.isNo_ok] at hf
            rw [hb] at hI3
            obtain rfl := hx0 c r1 hb
            rw [hb, Rs.bind_ok] at HK1
            clear hP hI hx0 hxn hnum
            have hst3 := hI3.st
            cases ht : isText x with
            | false =>
              have htx := rdtext_no hst3 ht
              obtain ⟨hP2, hk2, f1, zz, c1⟩ := PRs.bad (β := PsL) hst3
              have hI4 := hI3.call hg1 hg2 hP2 hk2
              have HT : Hid (stepD (decV d) (.ok ps r) = .no 4) := by
                show _ = _
                unfold stepD
                rw [Rs.bind_ok, HK1.out, if_pos ht]; rfl
              have HF : Hid (∃ (ks : List (List UInt8)) (vs : List PV) (uK uL : Value) (T : Rs PsL), DictJ B gr g w (w3.setCell ⟨gr, 1, none⟩ (.bool true)) uK uL ks vs T ∧ (∀ ps r, T = .ok ps r → ks = ps.map (·.1) ∧ vs = ps.map (·.2)) ∧ R = T.bind fun ps r2 => .ok (pDict ps) r2) :=
                ⟨ks, vs, uK, uL, .no 4, hI4, (fun _ _ h => by cases h), by rw [HSTEP.out, HT.out, restD_no]⟩
              clear hI3 hI4 hst3 hP2 hk2 ht hb
              go_wp2_with fail
              refine hf.mono ?_
              rintro ee w4 ⟨rfl, rfl⟩
              go_wp2_with fail
              refine htx.mono ?_
              rintro ee w5 ⟨rfl, rfl⟩
              go_wp2
              go_meet
              exact HF.out
            | true =>
              have htx := rdtext_yes hst3 hx ht
              rw [Rs.bind_ok] at htx
              rw [if_neg (by rw [ht]; decide)] at HK1
              have HI3 := Lib.hid hI3
              clear hst3 hI3 hb ht
              go_wp2_with fail
              refine hf.mono ?_
              rintro ee w4 ⟨rfl, rfl⟩
              clear hf
              go_wp2_with fail
              refine htx.mono ?_
              rintro ee w5 ⟨key, rfl, hkl, hk0, hP5, hk5⟩
              have hI5 := HI3.out.call hg1 hg2 hP5 hk5
              have hf := failed_any hP5
              clear HI3 hP5 hk5 htx hk
              have hst5 := Lib.hid hI5.st
              obtain ⟨ak, ck, rfl, hkc, hkm, hkrow, _⟩ := owns_rowN hI5.vb.keys (by decide)
              have q4 : w5.cell? ⟨w.heap.size + 1, 4, none⟩ = some (.slice ak (PV.keys (.mk 7 0 [] [] ks vs)).length ck) := hI5.vb.blk.cell rfl
              have hkl2 : (PV.keys (.mk 7 0 [] [] ks vs)).length = j := HKL.out.1
              have hkrow' : Row w5 ak (ks.map strV) := hkrow
              have HI5 := Lib.hid hI5
              clear hkrow hI5 hkc hkm
              go_upto_region 8 with (fail)
              go_cut [57] (fun u wx => (∃ bad : Bool, u = .bool bad ∧ (bad = true → keyR (lastK ps) r = .no 4) ∧ (bad = false → (∀ l e b, PRst (textR x r1) l e b → PRst (keyR (lastK ps) r) l e b) ∧ ∀ k r2, keyR (lastK ps) r = .ok k r2 → key = k)) ∧ wx = w5)
              case first =>
                cases hK : textR x r1 with
                | no ck' =>
                  have HKh := Lib.hid hK
                  rw [hK, Rs.isNo_no] at hf
                  rw [hK] at HK1
                  have HB : Hid (keyR (lastK ps) r = .no ck') := HK1
                  clear hkrow' q4 hkl2 hst5 hK HK1
                  go_wp2_with fail
                  refine hf.mono ?_
                  rintro ee w6 ⟨rfl, rfl⟩
                  go_wp2
                  go_meet
                  exact ⟨⟨false, rfl, (by simp), fun _ => ⟨fun l e b hh => by rw [HB.out]; rw [HKh.out] at hh; exact hh, fun k r2 h => by rw [HB.out] at h; cases h⟩⟩, rfl⟩
                | ok k r2 =>
                  have HKh := Lib.hid hK
                  rw [hK, Rs.isNo_ok] at hf
                  rw [hK, Rs.bind_ok] at HK1
                  obtain rfl := hk0 k r2 hK
                  by_cases hj0 : j = 0
                  · have hps : ps = [] := by
                      have h1 := HKL.out.1
                      rw [HKS.out.1, List.length_map] at h1
                      exact List.eq_nil_of_length_eq_zero (by omega)
                    have HB : Hid (keyR (lastK ps) r = .ok key r2) := by
                      show _ = _
                      rw [HK1.out, hps]; rfl
                    subst hj0
                    clear hkrow' q4 hkl2 hst5 hK HK1 hps
                    go_wp2_with fail
                    refine hf.mono ?_
                    rintro ee w6 ⟨rfl, rfl⟩
                    go_wp2
                    go_meet
                    exact ⟨⟨false, rfl, (by simp), fun _ => ⟨fun l e b hh => by rw [HB.out]; rw [HKh.out] at hh; exact hh, fun k r2 h => by rw [HB.out] at h; cases h; rfl⟩⟩, rfl⟩
                  · obtain ⟨i, rfl⟩ : ∃ i, j = i + 1 := ⟨j - 1, by omega⟩
                    have hkl9 := HKL.out.1
                    have hil : i < ks.length := by omega
                    have q0 : w5.cell? ((hd ak).add i) = some (strV ks[i]) := hkrow'.cell (by simp [hil])
                    have s1 : ak.isSome = true := hkrow'.isSome (i := i) (by simp; omega)
                    unfold strV at q0
                    have HLK : Hid (lastK ps = some ks[i]) := by
                      show _ = _
                      have h1 := HKS.out.1
                      subst h1
                      exact lastK_get hkl9
                    have ew1 : IntKind.i64.wrap ((i : Int) + 1 - 1) = (i : Int) := by rw [IntWalk.i64_in _ (by omega)]; omega
                    have ew : IntKind.i64.wrap (i : Int) = (i : Int) := IntWalk.i64_in _ (by omega)
                    have i0 : (0 : Int) ≤ (i : Int) := by omega
                    have i1 : (i : Int) < (i : Int) + 1 := by omega
                    have i5 : (0 : Int) < (i : Int) + 1 := by omega
                    have HK2 : Hid (keyR (lastK ps) r = if leT key ks[i] = true then .no 4 else .ok key r2) := by
                      show _ = _
                      rw [HK1.out, HLK.out]
                    generalize ks[i] = y at *
                    rw [hkl2] at q4
                    clear hkrow' hkl2 hst5 hK HK1 hkl9 hil HLK
                    have HLE : Hid (leT key y = (Op.bytesLess (str key).toList (str y).toList || (str key).toList == (str y).toList)) := rfl
                    rcases Bool.eq_false_or_eq_true (Op.bytesLess (str key).toList (str y).toList) with hA | hA
                    · have HB : Hid (keyR (lastK ps) r = .no 4) := by show _ = _; rw [HK2.out, HLE.out, hA]; rfl
                      go_wp2_with fail
                      refine hf.mono ?_
                      rintro ee w6 ⟨rfl, rfl⟩
                      go_wp2
                      go_meet
                      exact ⟨⟨true, rfl, fun _ => HB.out, (by simp)⟩, rfl⟩
                    · rcases Bool.eq_false_or_eq_true ((str key).toList == (str y).toList) with hB2 | hB2
                      · have HB : Hid (keyR (lastK ps) r = .no 4) := by show _ = _; rw [HK2.out, HLE.out, hA, hB2]; rfl
                        go_wp2_with fail
                        refine hf.mono ?_
                        rintro ee w6 ⟨rfl, rfl⟩
                        go_wp2
                        go_meet
                        exact ⟨⟨true, rfl, fun _ => HB.out, (by simp)⟩, rfl⟩
                      · have HB : Hid (keyR (lastK ps) r = .ok key r2) := by show _ = _; rw [HK2.out, HLE.out, hA, hB2]; rfl
                        go_wp2_with fail
                        refine hf.mono ?_
                        rintro ee w6 ⟨rfl, rfl⟩
                        go_wp2
                        go_meet
                        exact ⟨⟨false, rfl, (by simp), fun _ => ⟨fun l e b hh => by rw [HB.out]; rw [HKh.out] at hh; exact hh, fun k r2 h => by rw [HB.out] at h; cases h; rfl⟩⟩, rfl⟩
              case rest =>
                obtain ⟨⟨bad, rfl, hbad, hgood⟩, hwc⟩ := hcut
                subst hwc
                clear hf hkrow'
                cases bad with
                | true =>
                  have hno := hbad rfl
                  obtain ⟨hP2, hk2, f1, zz, c1⟩ := PRs.bad (β := PsL) hst5.out
                  have hI6 := HI5.out.call hg1 hg2 hP2 hk2
                  have HT : Hid (stepD (decV d) (.ok ps r) = .no 4) := by
                    show _ = _
                    unfold stepD
                    rw [Rs.bind_ok, hno]; rfl
                  have HF : Hid (∃ (ks : List (List UInt8)) (vs : List PV) (uK uL : Value) (T : Rs PsL), DictJ B gr g w (wc.setCell ⟨gr, 1, none⟩ (.bool true)) uK uL ks vs T ∧ (∀ ps r, T = .ok ps r → ks = ps.map (·.1) ∧ vs = ps.map (·.2)) ∧ R = T.bind fun ps r2 => .ok (pDict ps) r2) :=
                    ⟨ks, vs, _, uL, .no 4, hI6, (fun _ _ h => by cases h), by rw [HSTEP.out, HT.out, restD_no]⟩
                  clear hI6 hP2 hk2 hno hbad hgood
                  go_wp2
                  go_meet
                  exact HF.out
                | false =>
                  obtain ⟨hst, hkey⟩ := hgood rfl
                  have hIK := (HI5.out.cast hst)
                  have HKEY := Lib.hid hkey
                  have HK1 := HK1
                  generalize hKK : keyR (lastK ps) r = KK at *
                  have HKK := Lib.hid hKK
                  have hkeym : key.length ≤ maxLen := by unfold maxLen; omega
                  have hk9 := HKL.out.1
                  have hv9 := HKL.out.2
                  obtain ⟨a', c', w', hrun, d4, f4, hVB, hG, hGs⟩ := VB.stepK (ty := 27) hIK.vb hkeym (by omega)
                  simp only [hk9] at hrun hVB hG
                  have hI6 := DictJ.after hIK hB hg1 hg2 (.inl hG) hVB
                  have hI6d := hI6.drew
                  have hval := HVd.out B gr g _ _ hI6d.st.unit (Nat.le_trans hB hI6d.dk.size)
                  have q5 : (w'.setCell ⟨w.heap.size + 1, 4, none⟩ (.slice a' (j + 1) c')).cell? ⟨w.heap.size + 1, 5, none⟩ = some uL := hI6.vb.blk.cell rfl
                  rw [hkl2] at q4
                  have e4 : (Value.slice ak (PV.keys (.mk 7 0 [] [] ks vs)).length ck) = .slice ak j ck := by rw [hkl2]
                  rw [e4] at hrun d4
                  have HIK := Lib.hid hI6d
                  clear hbad hgood hst hkey hIK hVB hG hGs hI6 hKK HK1 hkl2 e4 hI6d HI5 hst5 hk9 hv9
                  go_upto_region 11 with (at_builtin; refine wpList_append_run hrun rfl rfl rfl rfl ?_)
                  generalize w'.setCell ⟨w.heap.size + 1, 4, none⟩ (.slice a' (j + 1) c') = w6 at *
                  clear hrun d4 f4 q4 w'
                  go_region_law ((first
                    | (go_simp; go_at_call 99; refine hval.mono ?_; rintro e7 w7 ⟨cs7, v7, rfl, hv7, hv70, hP7, hk7⟩; have hI7 := DictJ.call HIK.out hg1 hg2 hP7 hk7; obtain ⟨a8, c8, w8, hrun8, d8, f8, hVB8, hG8, hGs8⟩ := VB.stepL (ty := 28) hI7.vb (hv7.mono (fun z hz _ => fresh_okB HIK.out.vb hz)) (by have := HKL.out.2; omega); have q7 : w7.cell? ⟨w.heap.size + 1, 5, none⟩ = some uL := hI7.vb.blk.cell rfl; have hql7 := hI7.vb.blk.lt; have q7b : (w7.alloc (.cells (List.toArray cs7) 30)).cell? ⟨w.heap.size + 1, 5, none⟩ = some uL := Eq.trans (((Below.refl w7.heap.size w7).alloc (Nat.le_refl _) (.cells (List.toArray cs7) 30)).cell hql7) q7; have x6 : (List.toArray cs7).size = 6 := hv7.len)
                    | (refine step_append_run hrun8 rfl rfl rfl rfl ?_)))
                  all_goals
                    have hI9 := DictJ.after hI7 hB hg1 hg2 (.inr hG8) hVB8
                    have hI10 : DictJ B gr g w (w8.setCell ⟨w.heap.size + 1, 5, none⟩ (.slice a8 (vs.length + 1) c8)) (.slice a' (j + 1) c') (.slice a8 (vs.length + 1) c8) (ks ++ [key]) (vs ++ [v7]) (stepD (decV d) (.ok ps r)) := hI9.cast (fun l e b hh => by
                      unfold stepD
                      rw [Rs.bind_ok, HKK.out]
                      cases KK with
                      | no c => exact hh
                      | ok k r2 =>
                        have hh : PRst (decV d r2) l e b := hh
                        rw [Rs.bind_ok]
                        cases hd : decV d r2 with
                        | no c => rw [hd] at hh; exact hh
                        | ok v r3 => rw [hd] at hh; exact hh)
                    have hgot : ∀ ps2 r2, stepD (decV d) (.ok ps r) = .ok ps2 r2 → ks ++ [key] = ps2.map (·.1) ∧ vs ++ [v7] = ps2.map (·.2) := fun ps2 r2 h => by
                      unfold stepD at h
                      rw [Rs.bind_ok, HKK.out] at h
                      cases KK with
                      | no c => cases h
                      | ok k r3 =>
                        rw [Rs.bind_ok] at h
                        cases hd : decV d r3 with
                        | no c => rw [hd] at h; cases h
                        | ok v r4 =>
                          rw [hd] at h
                          cases h
                          have e1 := HKEY.out k r3 rfl
                          have e2 := hv70 v r2 (by show decV d r3 = _; exact hd)
                          rw [HKS.out.1, HKS.out.2, e1, e2]
                          simp
                    have hl1 : (ks ++ [key]).length = j + 1 := by have := HKL.out.1; simp; omega
                    have hl2 : (vs ++ [v7]).length = j + 1 := by have := HKL.out.2; simp; omega
                    have HL12 := Lib.hid (And.intro hl1 hl2)
                    have HGG := Lib.hid hgot
                    have jb : IntKind.i64.wrap ((j : Int) + 1) = (j : Int) + 1 := IntWalk.i64_in _ (by omega)
                    clear hl1 hl2 hgot hI9 hI7 hrun8 d8 f8 hVB8 hG8 hGs8 q7 q7b hql7 hP7 hk7 hv7 hv70 hval q5 x6
                    go_wp2
                    first
                      | exact ⟨⟨j + 1, ks ++ [key], vs ++ [v7], _, _, _, by omega, (by first | rfl | go_num | (congr 1; omega)), HL12.out.1, HL12.out.2, hI10, HGG.out, HSTEP.out⟩, by simp [intOf] <;> omega⟩
                      | (refine ⟨?_, by simp [intOf] <;> omega⟩; (repeat apply Exists.intro); exact ⟨⟨j + 1, ks ++ [key], vs ++ [v7], _, _, _, by omega, (by first | rfl | go_num | (congr 1; omega)), HL12.out.1, HL12.out.2, hI10, HGG.out, HSTEP.out⟩, rfl⟩)
      · obtain rfl : j = n := by omega
        go_wp2
        go_meet
        refine ⟨ks, vs, uK, uL, T, hI, HGOT.out, ?_⟩
        have hr := HR.out
        rw [Nat.sub_self, restD_zero] at hr
        exact hr
  case rest =>
    clear hI0 hgot0 HR
    obtain ⟨ks, vs, uK, uL, T, hI, hgot, hR⟩ := hcut
    have HP := hI.vb.done
    have q1 : (ldOp 30 (.pointer (some ⟨w.heap.size + 1, 0, none⟩))).run Tryd.prog wc = .ok (.agg (List.toArray (α := Value) [.int .i64 7, .int .i64 0, .slice none 0 0, strV [], uK, uL])) wc := ldOp_all (P := Tryd.prog) (ty := 30) hI.vb.blk Tryd.underlying30 rfl sizeV
    obtain ⟨a1, a2, a3, a4, a5⟩ := cell_end (cs := [.int .i64 7, .int .i64 0, .slice none 0 0, strV [], uK, uL]) hI.res (by rfl) hI.st hI.dk (HP.mono (fun z hz _ => ⟨by omega, by omega⟩)) hB (Nat.le_refl _) (by omega) (by omega)
    have HV : Hid (ValP B gr g w R (.returned (.agg (List.toArray (α := Value) [.int .i64 7, .int .i64 0, .slice none 0 0, strV [], uK, uL]))) (wc.setRow w.heap.size (List.toArray [.int .i64 7, .int .i64 0, .slice none 0 0, strV [], uK, uL]))) := by
      refine ⟨_, _, rfl, a3, fun v0 r hv => ?_, ?_, a5⟩
      · rw [hR] at hv
        cases T with
        | no c => cases hv
        | ok ps r' =>
          cases hv
          obtain ⟨e1, e2⟩ := hgot _ _ rfl
          rw [e1, e2]; rfl
      · rw [hR]
        refine a4.cast (fun _ _ _ hh => ?_)
        cases T <;> exact hh
    clear a3 a4 a5 HP hI hgot hR
    generalize strV [] = sT at *
    go_wp2
    exact bodyPost_ret (results_cell_row (fn := Tryd.f113) (by rfl) _ _ w.heap.size 30 _ (0, 0) _ (by rfl) a2 Tryd.underlying30 rfl sizeV) rfl HV
end Go.Proofs.YtpchogicdnfggaaDoor
