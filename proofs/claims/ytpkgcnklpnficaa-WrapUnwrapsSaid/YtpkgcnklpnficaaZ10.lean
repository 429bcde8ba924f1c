/- The walk of (*lz.reader).sequence. -/
import Derived.Test.YtpkgcnklpnficaaZ9
import Derived.Deep.RegionHeld3
namespace Go.Proofs.Ytpkgcnklpnficaa
open Go.RowKit Go.Hd

/-- What a sequence answers. -/
def SqPost (w : World) (gr g : Nat) (most : Nat) (S : LoR) (r : Ending) (w' : World) : Prop :=
  Below g w w' ∧ match S with
  | .stop o e => if e = 0 then r = .returned (.tuple #[.bool true, .int .i64 0]) ∧ ∃ l, LzAt w' gr g most l 0 o else o = [] ∧ r = .returned (.tuple #[.bool false, .int .i64 e])
  | .next l o => r = .returned (.tuple #[.bool false, .int .i64 0]) ∧ LzAt w' gr g most l 0 o
theorem SqPost.err {w w' : World} {gr g most : Nat} {e : Int} (hb : Below g w w') (he : e ≠ 0) : SqPost w gr g most (.stop [] e) (.returned (.tuple #[.bool false, .int .i64 e])) w' := by
  refine ⟨hb, ?_⟩
  show if e = 0 then _ else _
  rw [if_neg he]
  exact ⟨rfl, rfl⟩
theorem LzAt_bytes {w w' : World} {gr g : Nat} {most : Int} {l l' : List UInt8} {e e' : Int} {out : List UInt8} (h : LzAt w gr g most l e out) (h' : RdAt gr w' g l' e') (hg : w.grownBy w' (some g)) : LzAt w' gr g most l' e' out ∧ Below g w w' := LzAt_num h h' hg
theorem LzAt_drew {w : World} {gr g : Nat} {most : Int} {l out : List UInt8} {e : Int} (h : LzAt w gr g most l e out) (n : Nat) : LzAt (w.drewN n) gr g most l e out := by
  obtain ⟨h1, h2, v, h3⟩ := h
  exact ⟨h1, h2.drewN n, v, h3.drewN n⟩
theorem gotn (l : List UInt8) (a : Nat) : (a ≤ l.length → rdGot l 0 a = l.take a ∧ rdRest l 0 a = l.drop a ∧ rdErr l 0 a = 0) ∧ (l.length < a → rdGot l 0 a = [] ∧ rdRest l 0 a = l ∧ rdErr l 0 a = 3) := by
  constructor
  · intro h
    simp [rdGot, rdRest, rdErr]
    omega
  · intro h
    simp [rdGot, rdRest, rdErr]
    omega
theorem got_bad (l : List UInt8) (n : Int) : rdGot l 3 n = [] ∧ rdRest l 3 n = l ∧ rdErr l 3 n = 3 := by simp [rdGot, rdRest, rdErr]
set_option maxRecDepth 10000 in
theorem and15 : ∀ t < 256, bits .and .i64 ((t : Nat) : Int) 15 = ((t % 16 : Nat) : Int) := by decide

theorem got2 (l : List UInt8) : (l.length < 2 → gV (rdGot l (numE 0 2) 2) = 0 ∧ rdErr l (numE 0 2) 2 = 3) ∧ (2 ≤ l.length → gV (rdGot l (numE 0 2) 2) = getL (l.take 2) ∧ rdRest l (numE 0 2) 2 = l.drop 2 ∧ rdErr l (numE 0 2) 2 = 0) := by
  have e : numE 0 2 = 0 := by decide
  rw [e]
  constructor
  · intro h
    have hc : (l.length : Int) < 2 := by omega
    refine ⟨?_, ?_⟩
    · unfold rdGot
      rw [if_pos (.inr (.inr hc))]; rfl
    · unfold rdErr
      rw [if_neg (by decide), if_neg (by decide), if_pos hc]
  · intro h
    have hc : ¬ (l.length : Int) < 2 := by omega
    have hn : ¬ ((0 : Int) ≠ 0 ∨ (2 : Int) < 0 ∨ (l.length : Int) < 2) := by omega
    refine ⟨?_, ?_, ?_⟩
    · unfold rdGot
      rw [if_neg hn]
      unfold gV
      rw [if_pos (by simp; omega)]; rfl
    · unfold rdRest
      rw [if_neg hn]; rfl
    · unfold rdErr
      rw [if_neg (by decide), if_neg (by decide), if_neg hc]
set_option maxRecDepth 10000 in
theorem extR_bound : ∀ (l : List UInt8) n m l', extR l n = some (m, l') → m ≤ n + 256 * l.length
  | [], _, _, _, h => by cases h
  | c :: l, n, m, l', h => by
    unfold extR at h
    rw [List.length_cons]
    split at h
    · cases h
      omega
    · have := extR_bound l _ _ _ h
      omega
set_option maxRecDepth 10000 in
theorem extRd_bound {l : List UInt8} {n m : Nat} {l' : List UInt8} (h : extRd l n = some (m, l')) : m ≤ n + 256 * l.length := by
  unfold extRd at h
  split at h
  · cases h; omega
  · exact extR_bound _ _ _ _ h
theorem getL2_lt (l : List UInt8) : getL (l.take 2) < 65536 := by
  have h := getL_lt (l.take 2)
  have h2 : (l.take 2).length ≤ 2 := List.length_take_le _ _
  have h3 : 256 ^ (l.take 2).length ≤ 256 ^ 2 := Nat.pow_le_pow_right (by decide) h2
  omega
set_option maxHeartbeats 4000000 in
set_option maxRecDepth 100000 in
theorem seq_any {w : World} {gr g most : Nat} {l out : List UInt8} (h : LzAt w gr g most l 0 out) (hl : l.length ≤ 100000) (hm : most ≤ 65536) (ho : out.length ≤ most) :
    Calls Try.prog 40 #[.pointer (some ⟨gr, 0, none⟩)] w (SqPost w gr g most (loStep most out l)) := by
  have hat := h
  obtain ⟨hgg, hrd, v, hB⟩ := h
  have c0 : w.cell? ⟨gr, 0, none⟩ = _ := hB.blk.cell rfl
  cases l with
  | nil =>
    have G0 := Lib.hid got0
    have HP : Hid (loStep most out [] = .stop [] 3) := rfl
    go_enter Try.func40, Try.ntmps40
    go_wp2_with fail
    refine (num_any hrd).mono ?_
    rintro e w1 ⟨rfl, hrd1, hg1⟩
    obtain ⟨e1, e2, e3⟩ := G0.out
    rw [e2, e3] at hrd1
    rw [e1]
    clear e1 e2 e3
    obtain ⟨hat1, hb1⟩ := LzAt_num hat hrd1 hg1
    have hat1' := hat1
    obtain ⟨_, _, v1, hB1⟩ := hat1'
    have d0 : w1.cell? ⟨gr, 0, none⟩ = _ := hB1.blk.cell rfl
    clear c0 hB hrd hat
    go_wp2
    go_region_held3 (fun w' => w'.cell? ⟨gr, 0, none⟩ = some (.pointer (some ⟨g, 0, none⟩))) (first | go_keep | assumption) (first
      | (go_at_call 43; refine (rlength_small (k := 0) (by rfl) (by decide)).mono ?_; rintro e3 w3 ⟨rfl, rfl⟩)
      | (go_at_call 42; refine (bytes_any (RdAt.drewN hrd1 1) (by simp)).mono ?_; rintro e3 w3 ⟨vb, rfl, hob, hrd3, hg3⟩; have cz3 : w3.cell? ⟨gr, 0, none⟩ = some (.pointer (some ⟨g, 0, none⟩)) := (by obtain ⟨⟨_, _, v3, hB3⟩, _⟩ := LzAt_num (LzAt_drew hat1 1) hrd3 hg3; exact hB3.blk.cell rfl)))
    obtain ⟨hat3, hb3⟩ := LzAt_num (LzAt_drew hat1 1) hrd3 hg3
    have hb13 : Below g w w3 := hb1.trans ⟨hb3.os, hb3.tape, hb3.output, hb3.size, hb3.block⟩
    rw [(got_bad [] 0).2.2] at hrd3
    clear hat3 hat1 hrd1 hg3 hb3 hb1 d0
    go_wp2_with fail
    refine (err_any hrd3).mono ?_
    rintro e4 w4 ⟨rfl, rfl⟩
    go_wp2
    go_ret2
    rw [HP.out]
    exact SqPost.err hb13 (by decide)
  | cons t l1 =>
    have G1 := Lib.hid (got1 t l1)
    have ht := t.toNat_lt
    have hk16 : t.toNat / 16 < 16 := by omega
    have hk17 : t.toNat % 16 < 16 := by omega
    have hl1 : l1.length ≤ 100000 := by rw [List.length_cons] at hl; omega
    have hand := and15 t.toNat ht
    have htI : (t.toNat : Int) ≤ 255 := by omega
    clear hl
    go_enter Try.func40, Try.ntmps40
    go_wp2_with fail
    refine (num_any hrd).mono ?_
    rintro e w1 ⟨rfl, hrd1, hg1⟩
    obtain ⟨e1, e2, e3⟩ := G1.out
    rw [e2, e3] at hrd1
    rw [e1]
    clear e1 e2 e3
    obtain ⟨hat1, hb1⟩ := LzAt_num hat hrd1 hg1
    have hat1' := hat1
    obtain ⟨_, _, v1, hB1⟩ := hat1'
    have d0 : w1.cell? ⟨gr, 0, none⟩ = _ := hB1.blk.cell rfl
    clear c0 hB hrd hat hg1 hB1
    cases hR : extRd l1 (t.toNat / 16) with
    | none =>
      have HP : Hid (loStep most out (t :: l1) = .stop [] 3) := by
        show _ = _
        rw [loStep, hR]
      have HR := Lib.hid hR
      clear hR
      go_wp2
      go_region_held3 (fun w' => w'.cell? ⟨gr, 0, none⟩ = some (.pointer (some ⟨g, 0, none⟩))) (first | go_keep | assumption) (first
        | (go_at_call 43; refine (rlength_any (k := t.toNat / 16) (by omega) (LzAt_drew hat1 1) hk16 hl1).mono ?_; intro e3 w3 hln; rw [HR.out] at hln; obtain ⟨hb3, v3, l3, rfl, hat3, hl3⟩ := hln; have cz3 : w3.cell? ⟨gr, 0, none⟩ = some (.pointer (some ⟨g, 0, none⟩)) := (by obtain ⟨_, _, v4, hB4⟩ := hat3; exact hB4.blk.cell rfl))
        | (go_at_call 42; refine (bytes_any hat3.2.1 (by omega)).mono ?_; rintro e5 w5 ⟨vb, rfl, hob, hrd5, hg5⟩; have cz5 : w5.cell? ⟨gr, 0, none⟩ = some (.pointer (some ⟨g, 0, none⟩)) := (by obtain ⟨⟨_, _, v6, hB6⟩, _⟩ := LzAt_num hat3 hrd5 hg5; exact hB6.blk.cell rfl)))
      obtain ⟨hat5, hb5⟩ := LzAt_num hat3 hrd5 hg5
      have hb05 : Below g w w5 := (hb1.trans ⟨hb3.os, hb3.tape, hb3.output, hb3.size, hb3.block⟩).trans hb5
      rw [(got_bad l3 v3).2.2] at hrd5
      clear hat5 hat3 hat1 hrd1 hg5 hb5 hb3 hb1 d0 cz3
      go_wp2_with fail
      refine (err_any hrd5).mono ?_
      rintro e4 w4 ⟨rfl, rfl⟩
      go_wp2
      go_ret2
      rw [HP.out]
      exact SqPost.err hb05 (by decide)
    | some r =>
      obtain ⟨a, l2⟩ := r
      have hl2 := extRd_len hR
      have HP : Hid (loStep most out (t :: l1) = loLits most t out a l2) := by
        show _ = _
        rw [loStep, hR]
      have HR := Lib.hid hR
      clear hR
      have hl2' : l2.length ≤ 100000 := by omega
      go_wp2
      go_region_held3 (fun w' => w'.cell? ⟨gr, 0, none⟩ = some (.pointer (some ⟨g, 0, none⟩))) (first | go_keep | assumption) (first
        | (go_at_call 43; refine (rlength_any (k := t.toNat / 16) (by omega) (LzAt_drew hat1 1) hk16 hl1).mono ?_; intro e3 w3 hln; rw [HR.out] at hln; obtain ⟨hb3, rfl, hat3⟩ := hln; have cz3 : w3.cell? ⟨gr, 0, none⟩ = some (.pointer (some ⟨g, 0, none⟩)) := (by obtain ⟨_, _, v4, hB4⟩ := hat3; exact hB4.blk.cell rfl))
        | (go_at_call 42; refine (bytes_any hat3.2.1 (by omega)).mono ?_; rintro e5 w5 ⟨vb, rfl, hob, hrd5, hg5⟩; have cz5 : w5.cell? ⟨gr, 0, none⟩ = some (.pointer (some ⟨g, 0, none⟩)) := (by obtain ⟨⟨_, _, v6, hB6⟩, _⟩ := LzAt_num hat3 hrd5 hg5; exact hB6.blk.cell rfl)))
      obtain ⟨hat5, hb5⟩ := LzAt_num hat3 hrd5 hg5
      have hb05 : Below g w w5 := (hb1.trans ⟨hb3.os, hb3.tape, hb3.output, hb3.size, hb3.block⟩).trans hb5
      clear hat3 hat1 hrd1 hg5 hb5 hb3 hb1 d0 cz3
      by_cases hsh : l2.length < a
      · have HP2 : Hid (loLits most t out a l2 = .stop [] 3) := by
          show _ = _
          unfold loLits
          rw [if_pos hsh]
        rw [((gotn l2 a).2 hsh).2.2] at hrd5
        clear hat5
        go_wp2_with fail
        refine (err_any hrd5).mono ?_
        rintro e4 w4 ⟨rfl, rfl⟩
        go_wp2
        go_ret2
        rw [HP.out, HP2.out]
        exact SqPost.err hb05 (by decide)
      · obtain ⟨e1, e2, e3⟩ := (gotn l2 a).1 (by omega)
        rw [e1] at hob
        rw [e2, e3] at hrd5 hat5
        clear e1 e2 e3
        have hta : (l2.take a).length = a := by rw [List.length_take]; omega
        obtain ⟨s, hs⟩ : ∃ s, s = l2.take a := ⟨_, rfl⟩
        rw [← hs] at hob hta
        obtain ⟨al, cl, rfl, hlc, _, hrl, _⟩ := Own.at (l := s) hob
        have hat5' := hat5
        obtain ⟨_, _, v6, hB6⟩ := hat5'
        obtain ⟨av, cv, rfl, hvc, _, _, _⟩ := Own.at hB6.own
        have d1 : w5.cell? ⟨gr, 1, none⟩ = _ := hB6.blk.cell rfl
        have d2 : w5.cell? ⟨gr, 2, none⟩ = _ := hB6.blk.cell rfl
        have hw1 : IntKind.i64.wrap ((most : Int) - out.length) = (most : Int) - out.length := IntWalk.i64_in _ (by omega)
        have HS := Lib.hid hs
        have HTA := Lib.hid hta
        clear hs hta
        go_wp2_with fail
        refine (err_any hrd5).mono ?_
        rintro e4 w4 ⟨rfl, rfl⟩
        by_cases hbig : most < out.length + a
        · have HP2 : Hid (loLits most t out a l2 = .stop [] 5) := by
            show _ = _
            unfold loLits
            rw [if_neg hsh, if_pos hbig]
          have hbI : (most : Int) - out.length < s.length := by have := HTA.out; omega
          go_wp2
          go_quiet (fail)
          go_wp2
          go_ret2
          rw [HP.out, HP2.out]
          exact SqPost.err (Below.drewN hb05 nq) (by decide)
        · have hbI : ¬ (most : Int) - out.length < s.length := by have := HTA.out; omega
          have hsl : s.length ≤ most := by have := HTA.out; omega
          go_wp2
          go_quiet (fail)
          have hat6 := LzAt_drew hat5 nq
          have hrd6 := hrd5.drewN nq
          have hB7 := hB6.drewN nq
          have hrl7 := hrl.drewN nq
          have hb06 := Below.drewN hb05 nq
          generalize w5.drewN nq = w6 at *
          obtain ⟨a8, n8, c8, w8, hrun8, hB8, hk8, _⟩ := Buf.append (ty := 22) hB7 eB (Src.ofRow eB.ht al s.length cl (s.map b8) (by decide) (by simp) hrl7 (bytes_one s)) (by omega)
          have c7 : w6.cell? ⟨gr, 1, none⟩ = _ := hB7.blk.cell rfl
          have c8' : w8.cell? ⟨gr, 1, none⟩ = _ := hB8.blk.cell rfl
          have f8 := hB8.blk.free 1
          have hl8 := hB8.blk.lt
          clear d1 d2 hw1 hB6 hrl hat5 hrd5 hob hat6
          go_upto_region 9 with (at_builtin; refine wpList_append_run hrun8 rfl rfl rfl rfl ?_)
          have hB9 := hB8.store 1 (.slice a8 n8 c8)
          have hk9 : Kp (gr + 1) (some gr) w6 (w8.setCell ⟨gr, 1, none⟩ (.slice a8 n8 c8)) := hk8.none.trans (Kp.set w8 1 _)
          obtain ⟨hat9, hb9⟩ := LzAt_out hgg hrd6 hB9 hk9
          have hb09 := hb06.trans hb9
          generalize w8.setCell ⟨gr, 1, none⟩ (.slice a8 n8 c8) = w9 at *
          have hat9' := hat9
          obtain ⟨_, hrd9, v9, hBB⟩ := hat9'
          have c9 : w9.cell? ⟨gr, 0, none⟩ = _ := hBB.blk.cell rfl
          clear hrun8 hB7 hB8 hB9 hk8 hk9 c7 c8' f8 hl8 hb06 hb9 hrl7 hrd6
          have h3l : (l2.drop a).length = l2.length - a := List.length_drop
          obtain ⟨l3, hl3⟩ : ∃ l3, l3 = l2.drop a := ⟨_, rfl⟩
          rw [← hl3] at h3l hrd9 hat9
          have HL3 := Lib.hid hl3
          have H3L := Lib.hid h3l
          obtain ⟨o1, ho1⟩ : ∃ o1, o1 = out ++ s := ⟨_, rfl⟩
          have ho1l : o1.length = out.length + a := by rw [ho1, List.length_append, HTA.out]
          rw [← ho1] at hat9 hBB
          have HO1 := Lib.hid ho1
          have HO1L := Lib.hid ho1l
          have ho1m : o1.length ≤ most := by omega
          have hl3b : l3.length ≤ 100000 := by omega
          clear hl3 h3l ho1 ho1l
          go_wp2_with fail
          refine (left_any hrd9).mono ?_
          rintro e10 w10 ⟨rfl, rfl⟩
          by_cases hz : l3.length = 0
          · have HP2 : Hid (loLits most t out a l2 = .stop o1 0) := by
              show _ = _
              have := H3L.out
              unfold loLits
              rw [if_neg hsh, if_neg hbig, if_pos (by omega), HO1.out, HS.out, List.take_of_length_le (by omega)]
            have hzB : ((l3.length : Int) == 0) = true := by simp [hz]
            have HF : Hid (∃ l, LzAt w9 gr g most l 0 o1) := ⟨_, hat9⟩
            clear hz hat9 hBB c9 hrd9
            go_wp2
            go_ret2
            rw [HP.out, HP2.out]
            exact ⟨hb09, by show if (0 : Int) = 0 then _ else _; rw [if_pos rfl]; exact ⟨rfl, HF.out⟩⟩
          · have hzB : ((l3.length : Int) == 0) = false := by simp; exact fun h => hz (by simp [h])
            have HP2 : Hid (loLits most t out a l2 = loCopy most t o1 l3) := by
              show _ = _
              have := H3L.out
              unfold loLits
              rw [if_neg hsh, if_neg hbig, if_neg (by omega), HO1.out, HS.out, HL3.out]
            clear hz
            have G2 := Lib.hid (got2 l3)
            go_wp2_with fail
            refine (num_any hrd9).mono ?_
            rintro e11 w11 ⟨rfl, hrd11, hg11⟩
            obtain ⟨hat11, hb11⟩ := LzAt_num hat9 hrd11 hg11
            have hb011 := hb09.trans hb11
            have hat11' := hat11
            obtain ⟨_, _, v11, hB11⟩ := hat11'
            have c11 : w11.cell? ⟨gr, 0, none⟩ = _ := hB11.blk.cell rfl
            by_cases h2 : l3.length < 2
            · have HP3 : Hid (loCopy most t o1 l3 = .stop [] 3) := by
                show _ = _
                unfold loCopy
                rw [if_pos h2]
              obtain ⟨e1, e2⟩ := G2.out.1 h2
              rw [e2] at hrd11
              rw [e1]
              clear e1 e2 hat9 hrd9 hg11 hat11 hb11 hBB c9
              go_wp2_with fail
              refine (err_any hrd11).mono ?_
              rintro e12 w12 ⟨rfl, rfl⟩
              go_wp2
              go_ret2
              rw [HP.out, HP2.out, HP3.out]
              exact SqPost.err hb011 (by decide)
            · obtain ⟨e1, e2, e3⟩ := G2.out.2 (by omega)
              rw [e2, e3] at hrd11 hat11
              rw [e1]
              have hd16 := getL2_lt l3
              obtain ⟨d, hd⟩ : ∃ d, d = getL (l3.take 2) := ⟨_, rfl⟩
              rw [← hd] at hd16 ⊢
              have HD := Lib.hid hd
              have hd16I : (d : Int) < 65536 := by omega
              obtain ⟨av, cv, rfl, hvc, _, _, _⟩ := Own.at hB11.own
              have k11 : w11.cell? ⟨gr, 1, none⟩ = _ := hB11.blk.cell rfl
              clear e1 e2 e3 hat9 hrd9 hg11 hb11 hBB c9 hd
              go_wp2_with fail
              refine (err_any hrd11).mono ?_
              rintro e12 w12 ⟨rfl, rfl⟩
              by_cases hd0 : d = 0
              · have HP3 : Hid (loCopy most t o1 l3 = .stop [] 4) := by
                  show _ = _
                  unfold loCopy
                  rw [if_neg h2, ← HD.out, if_pos (.inl hd0)]
                have hdB : ((d : Int) == 0) = true := by simp [hd0]
                clear hd0
                go_wp2
                go_ret2
                rw [HP.out, HP2.out, HP3.out]
                exact SqPost.err hb011 (by decide)
              · have hdB : ((d : Int) == 0) = false := by simp [hd0]
                by_cases hdl : o1.length < d
                · have HP3 : Hid (loCopy most t o1 l3 = .stop [] 4) := by
                    show _ = _
                    unfold loCopy
                    rw [if_neg h2, ← HD.out, if_pos (.inr hdl)]
                  have hdlI : (o1.length : Int) < d := by omega
                  clear hd0
                  go_wp2
                  go_ret2
                  rw [HP.out, HP2.out, HP3.out]
                  exact SqPost.err hb011 (by decide)
                · have hdlI : ¬ (o1.length : Int) < d := by omega
                  have hd1 : 1 ≤ d := by omega
                  have hdo : d ≤ o1.length := by omega
                  have H2 := Lib.hid h2
                  have HD0 : Hid (¬ (d = 0 ∨ o1.length < d)) := by
                    show ¬ _
                    omega
                  have hl4 : (l3.drop 2).length ≤ 100000 := by rw [List.length_drop]; omega
                  obtain ⟨l4, hl4e⟩ : ∃ l4, l4 = l3.drop 2 := ⟨_, rfl⟩
                  rw [← hl4e] at hl4 hat11 hrd11
                  have HL4 := Lib.hid hl4e
                  clear hd0 h2 hl4e
                  go_wp2_with fail
                  refine (rlength_any (k := t.toNat % 16) (by rfl) hat11 hk17 hl4).mono ?_
                  intro e13 w13 hln
                  cases hR2 : extRd l4 (t.toNat % 16) with
                  | none =>
                    have HP3 : Hid (loCopy most t o1 l3 = .stop [] 3) := by
                      show _ = _
                      unfold loCopy
                      rw [if_neg H2.out, ← HD.out, if_neg HD0.out, ← HL4.out, hR2]
                    rw [hR2] at hln
                    obtain ⟨hb13, v13, l13, rfl, hat13, _⟩ := hln
                    have hb013 := hb011.trans hb13
                    obtain ⟨_, hrd13, v14, hB13⟩ := hat13
                    have c13 : w13.cell? ⟨gr, 0, none⟩ = _ := hB13.blk.cell rfl
                    clear hR2 hat11 hrd11 hB11 c11 k11
                    go_wp2_with fail
                    refine (err_any hrd13).mono ?_
                    rintro e14 w14 ⟨rfl, rfl⟩
                    go_wp2
                    go_ret2
                    rw [HP.out, HP2.out, HP3.out]
                    exact SqPost.err hb013 (by decide)
                  | some r2 =>
                    obtain ⟨m, l5⟩ := r2
                    have hl5 := extRd_len hR2
                    have HP3 : Hid (loCopy most t o1 l3 = if most < o1.length + (m + 4) then .stop [] 5 else .next l5 (copyF o1 d (m + 4))) := by
                      show _ = _
                      unfold loCopy
                      rw [if_neg H2.out, ← HD.out, if_neg HD0.out, ← HL4.out, hR2]
                    rw [hR2] at hln
                    obtain ⟨hb13, rfl, hat13⟩ := hln
                    have hb013 := hb011.trans hb13
                    have hat13' := hat13
                    obtain ⟨_, hrd13, v14, hB13⟩ := hat13'
                    have c13 : w13.cell? ⟨gr, 0, none⟩ = _ := hB13.blk.cell rfl
                    obtain ⟨av, cv, rfl, hvc, _, _, _⟩ := Own.at hB13.own
                    have k13 : w13.cell? ⟨gr, 1, none⟩ = _ := hB13.blk.cell rfl
                    have j13 : w13.cell? ⟨gr, 2, none⟩ = _ := hB13.blk.cell rfl
                    have HM : Hid (m ≤ 100000000) := by
                      show _ ≤ _
                      have := extRd_bound hR2
                      omega
                    clear hR2 hat11 hrd11 hB11 c11 k11
                    have hmb : (m : Int) ≤ 100000000 := by have := HM.out; omega
                    have hw2 : IntKind.i64.wrap ((most : Int) - o1.length) = (most : Int) - o1.length := IntWalk.i64_in _ (by omega)
                    have hw3 : IntKind.i64.wrap ((m : Int) + 4) = (m : Int) + 4 := IntWalk.i64_in _ (by omega)
                    go_wp2_with fail
                    refine (err_any hrd13).mono ?_
                    rintro e14 w14 ⟨rfl, rfl⟩
                    by_cases hb5 : most < o1.length + (m + 4)
                    · have hbI2 : (most : Int) - o1.length < (m : Int) + 4 := by omega
                      rw [if_pos hb5] at HP3
                      go_wp2
                      go_quiet (fail)
                      go_wp2
                      go_ret2
                      rw [HP.out, HP2.out, HP3.out]
                      exact SqPost.err (Below.drewN hb013 nq) (by decide)
                    · have hbI2 : decide ((most : Int) - o1.length < (m : Int) + 4) = false := by
                        rw [decide_eq_false_iff_not]; omega
                      rw [if_neg hb5] at HP3
                      go_wp2
                      go_quiet (fail)
                      have hat14 := LzAt_drew hat13 nq
                      have hb014 := Below.drewN hb013 nq
                      generalize w13.drewN nq = w14 at *
                      have hm4 : (m : Int) + 4 = ((m + 4 : Nat) : Int) := by omega
                      have HM4 := Lib.hid hm4
                      clear hat13 hrd13 hB13 c13 k13 j13 hw2 hw3 hm4 hand
                      go_wp2_with fail
                      rw [HM4.out]
                      refine (copied_any hat14 hd1 hdo (by omega)).mono ?_
                      rintro e15 w15 ⟨rfl, hat15, hb15⟩
                      go_wp2
                      go_ret2
                      have HPE : loStep most out (t :: l1) = .next l5 (copyF o1 d (m + 4)) := (HP.out.trans HP2.out).trans HP3.out
                      rw [HPE]
                      exact ⟨hb014.trans hb15, rfl, hat15⟩
end Go.Proofs.Ytpkgcnklpnficaa
