/- The walk of the document's Loosen. -/
import Derived.Test.YtpkgcnklpnficaaZ7
import Derived.Test.YtpkgcnklpnficaaZ11
namespace Go.Proofs.Ytpkgcnklpnficaa
open Go.RowKit Go.Hd

theorem extR_suffix : ∀ {l : List UInt8} {n m : Nat} {l' : List UInt8}, extR l n = some (m, l') → ∃ pre, l = pre ++ l'
  | [], _, _, _, h => by cases h
  | c :: l, n, m, l', h => by
    unfold extR at h
    split at h
    · cases h; exact ⟨[c], rfl⟩
    · obtain ⟨pre, hp⟩ := extR_suffix h
      exact ⟨c :: pre, by rw [hp]; rfl⟩
theorem extRd_suffix {l : List UInt8} {n m : Nat} {l' : List UInt8} (h : extRd l n = some (m, l')) : ∃ pre, l = pre ++ l' := by
  unfold extRd at h
  split at h
  · cases h; exact ⟨[], rfl⟩
  · exact extR_suffix h
/-- Where what is behind a length begins. -/
theorem ext_place {C l' : List UInt8} {p k m : Nat} (hp : p ≤ C.length) (h : extRd (C.drop p) k = some (m, l')) : C.drop (C.length - l'.length) = l' ∧ p ≤ C.length - l'.length ∧ l'.length ≤ C.length := by
  obtain ⟨pre, hpre⟩ := extRd_suffix h
  obtain ⟨h1, h2⟩ := drop_suffix hpre hp
  refine ⟨?_, by omega, by omega⟩
  rw [show C.length - l'.length = p + pre.length by omega]
  exact h1
theorem getL_pair {l : List UInt8} {p : Nat} (h1 : p < l.length) (h2 : p + 1 < l.length) : getL ((l.drop p).take 2) = l[p].toNat + 256 * l[p + 1].toNat := by
  rw [List.drop_eq_getElem_cons h1, List.drop_eq_getElem_cons h2]
  show getL [l[p], l[p + 1]] = _
  simp [getL]
def RoRel (w : World) (M : Nat) (l : List UInt8) (F : List UInt8 × Int) (vo at_ : Value) (wr : World) : Prop :=
  ∃ (f p : Nat) (o : List UInt8), at_ = .int .i64 p ∧ loGo M f (l.drop p) o = F ∧ p ≤ l.length ∧ l.length < f + p ∧ o.length ≤ M ∧ Own 5 wr w.heap.size vo o ∧ Below w.heap.size w wr
def CqRel (w : World) (o : List UInt8) (d n : Nat) (vo i : Value) (wr : World) : Prop :=
  ∃ (j : Nat) (o' : List UInt8), j ≤ n ∧ i = .int .i64 j ∧ copyF o' d (n - j) = copyF o d n ∧ o'.length = o.length + j ∧ Own 5 wr w.heap.size vo o' ∧ Below w.heap.size w wr
theorem rloosen_bad {a : Option Addr} {n c : Nat} {l : List UInt8} {most : Int} {w : World} (h : most < 0 ∨ 65536 < most) :
    Calls Try.prog 25 #[.slice a n c, .int .i64 most] w (LoPost w (loosenF l most)) := by
  have HP : Hid (loosenF l most = ([], 2)) := if_pos h
  have fin : LoPost w (loosenF l most) (.returned (.tuple #[.slice none 0 0, .int .i64 2])) w := by
    rw [HP.out]
    exact ⟨_, rfl, Own.nil _ _ _, Below.refl _ _⟩
  have FIN := Lib.hid fin
  clear fin
  by_cases h0 : most < 0
  · clear h
    go_enter Try.func25, Try.ntmps25
    go_wp2
    go_ret2
    exact FIN.out
  · have h1 : 65536 < most := h.resolve_left h0
    clear h
    go_enter Try.func25, Try.ntmps25
    go_wp2
    go_ret2
    exact FIN.out
set_option maxHeartbeats 4000000 in
set_option maxRecDepth 100000 in
theorem rloosen_good {a : Option Addr} {n c M : Nat} {l : List UInt8} {w : World} (hn : n = l.length) (hl : Row w a (l.map b8)) (hc : n ≤ c) (hm : l.length ≤ 100000) (hM : M ≤ 65536) :
    Calls Try.prog 25 #[.slice a n c, .int .i64 M] w (LoPost w (loosenF l M)) := by
  subst hn
  obtain ⟨F, hF⟩ : ∃ F, F = loosenF l M := ⟨_, rfl⟩
  have hF0 : loGo M (l.length + 1) (l.drop 0) [] = F := by
    rw [hF]; unfold loosenF
    rw [if_neg (by omega)]
    rfl
  rw [← hF]
  clear hF
  have h0 : ¬ (M : Int) < 0 := by omega
  have h1 : ¬ (65536 : Int) < M := by omega
  go_enter Try.func25, Try.ntmps25
  go_wp2
  go_loopw [6, 7, 8, 9, 10, 11, 12, 13, 14, 15, 16] (fun vo at_ _ _ _ _ _ _ _ _ _ wr => RoRel w M l F vo at_ wr) (fun _ at_ _ _ _ _ _ _ _ _ _ _ => l.length + 1 - (intOf at_).toNat)
  case atStart => exact ⟨l.length + 1, 0, [], rfl, hF0, Nat.zero_le _, by omega, Nat.zero_le _, Own.nil _ _ _, Below.refl _ _⟩
  case round =>
    clear hF0
    obtain ⟨f, p, o, rfl, hlo, hp, hf, hoM, hown, hb⟩ := hrel
    obtain ⟨f, rfl⟩ : ∃ f', f = f' + 1 := ⟨f - 1, by omega⟩
    have HLO := Lib.hid hlo
    have hlr := hl.below hb
    obtain ⟨av, cv, rfl, _, _, _, _⟩ := Own.at hown
    have errF : ∀ e, loGo M (f + 1) (l.drop p) o = ([], e) → Hid (LoPost w F (.returned (.tuple #[.slice none 0 0, .int .i64 e])) wr) := by
      intro e he
      show LoPost _ _ _ _
      rw [← HLO.out, he]
      exact ⟨_, rfl, Own.nil _ _ _, hb⟩
    have ERR := Lib.hid errF
    clear hlo errF
    by_cases hpl : l.length ≤ p
    · have hpI : (l.length : Int) ≤ p := by omega
      have E := ERR.out 3 (by rw [List.drop_eq_nil_of_le hpl]; rfl)
      clear hown
      go_wp2
      go_ret2
      exact E.out
    · have hpI : ¬ (l.length : Int) ≤ p := by omega
      have hp1 : p < l.length := by omega
      have hd : l.drop p = l[p] :: l.drop (p + 1) := List.drop_eq_getElem_cons hp1
      have cb := hlr.byte hp1
      have sb := hlr.byteSome hp1
      obtain ⟨t, ht⟩ : ∃ t, t = l[p] := ⟨_, rfl⟩
      rw [← ht] at cb hd
      have HD1 := Lib.hid hd
      have htl := t.toNat_lt
      have hk16 : t.toNat / 16 < 16 := by omega
      have hk17 : t.toNat % 16 < 16 := by omega
      have htI : (t.toNat : Int) ≤ 255 := by omega
      clear hd ht
      go_wp2_with fail
      refine (extended_any (p := p + 1) (k := t.toNat / 16) (by omega) (by omega) (by rfl) hlr (by omega) hk16 (by omega)).mono ?_
      rintro e w3 ⟨x, q, ok, rfl, hex, rfl⟩
      cases hR : extRd (l.drop (p + 1)) (t.toNat / 16) with
      | none =>
        rw [hR] at hex
        obtain ⟨_, _, rfl⟩ := hex
        have E := ERR.out 3 (by rw [HD1.out, loGo, loStep, hR])
        clear hown hR
        go_wp2
        go_ret2
        exact E.out
      | some r =>
        obtain ⟨a1, l2⟩ := r
        obtain ⟨pl1, pl2, pl3⟩ := ext_place (by omega) hR
        have hst : loStep M o (l.drop p) = loLits M t o a1 l2 := by rw [HD1.out, loStep, hR]
        rw [hR] at hex
        obtain ⟨hxa, hq, rfl⟩ := hex
        obtain rfl : a1 = x := hxa.symm
        rw [← hq] at pl1 pl2
        have hql : q + l2.length = l.length := by omega
        have HST := Lib.hid hst
        have HL2 := Lib.hid pl1
        have hqb : (q : Int) ≤ 100000 := by omega
        have hxb : a1 ≤ 100000000 := by
          have := extRd_bound hR
          rw [List.length_drop] at this
          omega
        clear hR hst pl1 hq
        by_cases hsh : l2.length < a1
        · have hshI : (l.length : Int) - q < a1 := by omega
          have E := ERR.out 3 (by rw [loGo, HST.out]; unfold loLits; rw [if_pos hsh])
          clear hown
          go_wp2
          go_ret2
          exact E.out
        · have hshI : ¬ (l.length : Int) - q < a1 := by omega
          by_cases hbig : M < o.length + a1
          · have hbI : (M : Int) - o.length < a1 := by omega
            have E := ERR.out 5 (by rw [loGo, HST.out]; unfold loLits; rw [if_neg hsh, if_pos hbig])
            clear hown
            go_wp2
            go_ret2
            exact E.out
          · have hbI : ¬ (M : Int) - o.length < a1 := by omega
            obtain ⟨P, hP⟩ : ∃ P, P = q + a1 := ⟨_, rfl⟩
            have hPI : (q : Int) + a1 = (P : Int) := by omega
            have hPq : P - q = a1 := by omega
            obtain ⟨a2, c2, hsl2, h21, h22, hrow2⟩ := cut_lh (P := Try.prog) (t := 22) (e := 5) (s := 1) eB.ht (by kernel_rfl) hlr (k1 := .i64) (k2 := .i64) (c := c) (n := l.length) (i := (q : Int)) (j := (P : Int)) (p := q) (q := P) rfl rfl (by omega) (by omega)
            simp only [Nat.mul_one, hPq] at hsl2 h21 hrow2
            clear hPq
            rw [← List.map_drop, ← List.map_take, HL2.out] at hrow2
            have hsl : a1 = (l2.take a1).length := by rw [List.length_take]; omega
            obtain ⟨s, hs⟩ : ∃ s, s = l2.take a1 := ⟨_, rfl⟩
            rw [← hs] at hrow2 hsl
            obtain ⟨v4, w4, hrun4, o4, g4, _, hb4⟩ := Own.append (ty := 22) (n := a1) (c := c2) hown eB hrow2 hsl (by omega) hb.size
            have hb04 := hb.trans hb4
            have ho1l : (o ++ s).length = o.length + a1 := by rw [List.length_append, ← hsl]
            obtain ⟨o1, ho1⟩ : ∃ o1, o1 = o ++ s := ⟨_, rfl⟩
            rw [← ho1] at o4 ho1l
            have HO1 := Lib.hid (show o1 = o ++ l2.take a1 by rw [ho1, hs])
            have HO1L := Lib.hid ho1l
            have ho1M : o1.length ≤ M := by omega
            obtain ⟨va, vc, rfl, hvc, _, _, _⟩ := Own.at o4
            have hlr4 := hl.below hb04
            have errG : ∀ e, loGo M (f + 1) (l.drop p) o = ([], e) → Hid (LoPost w F (.returned (.tuple #[.slice none 0 0, .int .i64 e])) w4) := by
              intro e he
              show LoPost _ _ _ _
              rw [← HLO.out, he]
              exact ⟨_, rfl, Own.nil _ _ _, hb04⟩
            have ERG := Lib.hid errG
            clear hs hsl ho1 ho1l hown g4 hb4 hrow2 hlr hb cb errG ERR
            have hwq : (q : Int) + a1 ≤ 200000000 := by omega
            by_cases hz : l2.length = a1
            · have hzB : ((P : Int) == l.length) = true := by
                have : (P : Int) = l.length := by omega
                simpa using this
              have E : Hid (LoPost w F (.returned (.tuple #[.slice va o1.length vc, .int .i64 0])) w4) := by
                show LoPost _ _ _ _
                rw [← HLO.out, loGo, HST.out]
                unfold loLits
                rw [if_neg hsh, if_neg hbig, if_pos hz]
                refine ⟨_, rfl, ?_, hb04⟩
                show Own _ _ _ _ (o ++ l2)
                have := HO1.out
                rw [List.take_of_length_le (by omega)] at this
                rw [← this]; exact o4
              clear hz o4 hlr4 hP
              go_wp2_with (at_builtin; refine wpList_append_run hrun4 rfl rfl rfl rfl ?_)
              go_ret2
              exact E.out
            · have hzB : ((P : Int) == l.length) = false := beq_eq_false_iff_ne.2 (by omega)
              have hl3 : l.drop (q + a1) = l2.drop a1 := by rw [← List.drop_drop, HL2.out]
              rw [← hP] at hl3
              have hPl : P < l.length := by omega
              have hl3l : (l2.drop a1).length = l.length - P := by rw [List.length_drop]; omega
              obtain ⟨l3, hl3e⟩ : ∃ l3, l3 = l2.drop a1 := ⟨_, rfl⟩
              rw [← hl3e] at hl3 hl3l
              have HCP : Hid (loStep M o (l.drop p) = loCopy M t o1 l3) := by
                show _ = _
                rw [HST.out]
                unfold loLits
                rw [if_neg hsh, if_neg hbig, if_neg hz, HO1.out, hl3e]
              have HL3 := Lib.hid hl3
              have HL3L := Lib.hid hl3l
              have hpP : p < P := by omega
              clear hz hl3 hl3l hl3e hP
              by_cases h2 : l3.length < 2
              · have h2I : (l.length : Int) - P < 2 := by have := HL3L.out; omega
                have E := ERG.out 3 (by rw [loGo, HCP.out]; unfold loCopy; rw [if_pos h2])
                clear o4 hlr4
                go_wp2_with (at_builtin; refine wpList_append_run hrun4 rfl rfl rfl rfl ?_)
                go_ret2
                exact E.out
              · have h2I : ¬ (l.length : Int) - P < 2 := by have := HL3L.out; omega
                have b2 : P + 1 < l.length := by have := HL3L.out; omega
                have hpair := getL_pair hPl b2
                rw [HL3.out] at hpair
                have c1 := hlr4.byte hPl
                have c2' := hlr4.byte b2
                have s1 := hlr4.byteSome hPl
                have c3' : w4.cell? ⟨(hd a).block, (hd a).off + (P + 1), none⟩ = some (.int .u8 (l[P + 1].toNat : Int)) := by
                  have := c2'
                  unfold Addr.add at this
                  rwa [if_neg (by omega)] at this
                obtain ⟨x, hx⟩ : ∃ x, x = l[P] := ⟨_, rfl⟩
                obtain ⟨y, hy⟩ : ∃ y, y = l[P + 1] := ⟨_, rfl⟩
                rw [← hx] at c1 hpair
                rw [← hy] at c2' c3' hpair
                obtain ⟨d, hde⟩ : ∃ d, d = getL (l3.take 2) := ⟨_, rfl⟩
                rw [← hde] at hpair
                have HDE := Lib.hid hde
                have hxb' := u8_le x
                have hyb' := u8_le y
                have hdI : (x.toNat : Int) + 256 * (y.toNat : Int) = (d : Int) := by omega
                have hd16 : d < 65536 := by omega
                have wx1 : IntKind.i64.wrap (256 * (y.toNat : Int)) = 256 * (y.toNat : Int) := IntWalk.i64_in _ (by omega)
                have wx2 : IntKind.i64.wrap (d : Int) = (d : Int) := IntWalk.i64_in _ (by omega)
                have wx4 : IntKind.i64.wrap (x.toNat : Int) = (x.toNat : Int) := IntWalk.i64_in _ (by omega)
                have wx5 : IntKind.i64.wrap (y.toNat : Int) = (y.toNat : Int) := IntWalk.i64_in _ (by omega)
                have wx3 : IntKind.i64.wrap ((P : Int) + 1) = (P : Int) + 1 := IntWalk.i64_in _ (by omega)
                have tx3 : ((P : Int) + 1).toNat = P + 1 := by omega
                have zx3 : 0 ≤ (P : Int) + 1 := by omega
                have bx3 : (P : Int) + 1 < l.length := by omega
                have bx4 : (P : Int) < l.length := by omega
                clear hx hy hde hpair
                go_wp2_with (at_builtin; refine wpList_append_run hrun4 rfl rfl rfl rfl ?_)
                go_quiet (fail)
                have o5 : Own 5 (w4.drewN nq) w.heap.size (.slice va o1.length vc) o1 := o4.below (Gr.drewN _ _)
                have hlr5 := hlr4.drewN nq
                have hb05 := Below.drewN hb04 nq
                have errH : ∀ e, loGo M (f + 1) (l.drop p) o = ([], e) → Hid (LoPost w F (.returned (.tuple #[.slice none 0 0, .int .i64 e])) (w4.drewN nq)) := by
                  intro e he
                  show LoPost _ _ _ _
                  rw [← HLO.out, he]
                  exact ⟨_, rfl, Own.nil _ _ _, hb05⟩
                generalize w4.drewN nq = w5 at *
                have ERH := Lib.hid errH
                clear o4 hlr4 hb04 errH ERG hrun4 c1 c2' c3' wx1 wx2 wx3 tx3 zx3 wx4 wx5
                by_cases hd0 : d = 0 ∨ o1.length < d
                · have E := ERH.out 4 (by rw [loGo, HCP.out]; unfold loCopy; rw [if_neg h2, ← HDE.out, if_pos hd0])
                  by_cases hd00 : d = 0
                  · have hdB : ((d : Int) == 0) = true := by simp [hd00]
                    clear hd00 hd0
                    go_wp2
                    go_ret2
                    exact E.out
                  · have hdB : ((d : Int) == 0) = false := by simp [hd00]
                    have hdlI : (o1.length : Int) < d := by omega
                    clear hd00 hd0
                    go_wp2
                    go_ret2
                    exact E.out
                · have HD0 := Lib.hid hd0
                  have hd1 : 1 ≤ d := by omega
                  have hdo : d ≤ o1.length := by omega
                  have hdB : ((d : Int) == 0) = false := beq_eq_false_iff_ne.2 (by omega)
                  have hdlI : ¬ (o1.length : Int) < d := by omega
                  have H2 := Lib.hid h2
                  have hl4e : l.drop (P + 2) = l3.drop 2 := by rw [← List.drop_drop, HL3.out]
                  have HL4 := Lib.hid hl4e
                  clear hd0 h2 hl4e
                  go_wp2_with fail
                  refine (extended_any (p := P + 2) (k := t.toNat % 16) (by omega) (by omega) (by rfl) hlr5 (by omega) hk17 (by omega)).mono ?_
                  rintro e w6 ⟨z, q2, ok2, rfl, hex2, rfl⟩
                  cases hR2 : extRd (l.drop (P + 2)) (t.toNat % 16) with
                  | none =>
                    rw [hR2] at hex2
                    obtain ⟨_, _, rfl⟩ := hex2
                    have E := ERH.out 3 (by rw [loGo, HCP.out]; unfold loCopy; rw [if_neg H2.out, ← HDE.out, if_neg HD0.out, ← HL4.out, hR2])
                    clear hR2 o5
                    go_wp2
                    go_ret2
                    exact E.out
                  | some r2 =>
                    obtain ⟨m, l5⟩ := r2
                    obtain ⟨pp1, pp2, pp3⟩ := ext_place (by omega) hR2
                    have hmb : m ≤ 100000000 := by
                      have := extRd_bound hR2
                      rw [List.length_drop] at this
                      omega
                    have hcp : loStep M o (l.drop p) = if M < o1.length + (m + 4) then .stop [] 5 else .next l5 (copyF o1 d (m + 4)) := by
                      rw [HCP.out]
                      unfold loCopy
                      rw [if_neg H2.out, ← HDE.out, if_neg HD0.out, ← HL4.out, hR2]
                    rw [hR2] at hex2
                    obtain ⟨hxm, hq2, rfl⟩ := hex2
                    obtain rfl : m = z := hxm.symm
                    rw [← hq2] at pp1 pp2
                    have hl5 : q2 + l5.length = l.length := by omega
                    have hmbI : (m : Int) ≤ 100000000 := by omega
                    have HPP := Lib.hid pp1
                    clear hR2 pp1 hq2
                    by_cases hb5 : M < o1.length + (m + 4)
                    · rw [if_pos hb5] at hcp
                      have E := ERH.out 5 (by rw [loGo, hcp])
                      have hbI2 : (M : Int) - o1.length < (m : Int) + 4 := by omega
                      clear o5 hcp
                      go_wp2
                      go_ret2
                      exact E.out
                    · rw [if_neg hb5] at hcp
                      have HCC := Lib.hid hcp
                      have hbI2 : decide ((M : Int) - o1.length < (m : Int) + 4) = false := by
                        rw [decide_eq_false_iff_not]; omega
                      obtain ⟨N, hN⟩ : ∃ N, N = m + 4 := ⟨_, rfl⟩
                      have hNI : (m : Int) + 4 = (N : Int) := by omega
                      have hNb : o1.length + N ≤ 200000 := by omega
                      rw [← hN] at HCC hb5
                      clear hN hcp
                      go_wp2
                      obtain ⟨wo, hwo⟩ : ∃ wo : World, wo = wr := ⟨_, rfl⟩
                      rw [← hwo] at *
                      clear hwo
                      go_loopw [6, 16] (fun vo i wq => CqRel w o1 d N vo i wq) (fun _ i _ => N - (intOf i).toNat)
                      case atStart => exact ⟨0, o1, Nat.zero_le _, rfl, rfl, rfl, o5, hb05⟩
                      case round =>
                        clear o5 hb05 hlr5
                        obtain ⟨j, o', hj, rfl, hoj, hol, hown, hb⟩ := hrel
                        have HOJ := Lib.hid hoj
                        have HOL := Lib.hid hol
                        obtain ⟨va', vc', rfl, hvc', _, hrow, _⟩ := Own.at hown
                        by_cases hlt : j < N
                        · have hjI : (j : Int) < N := by omega
                          have hpos : o'.length - d < o'.length := by omega
                          have cb := hrow.byte hpos
                          have sb := hrow.byteSome hpos
                          obtain ⟨ch, hch⟩ : ∃ ch, ch = o'[o'.length - d] := ⟨_, rfl⟩
                          rw [← hch] at cb
                          have HN : Hid (copyF (o' ++ [ch]) d (N - (j + 1)) = copyF o1 d N) := by
                            show _ = _
                            rw [← HOJ.out, show N - j = (N - (j + 1)) + 1 by omega, copyF, hch]
                            congr 3
                            rw [List.getD_eq_getElem?_getD, List.getElem?_eq_getElem hpos]; rfl
                          have h02 : (o'.length : Int) - d < o'.length := by omega
                          have h01 : 0 ≤ (o'.length : Int) - d := by omega
                          have hdI2 : (d : Int) ≤ o'.length := by omega
                          have hob : (o'.length : Int) ≤ 200000 := by omega
                          have ht2 : ((o'.length : Int) - d).toNat = o'.length - d := by omega
                          obtain ⟨v7, w7, hrun7, o7, _, _, hb7⟩ := Own.append1 (ty := 22) hown eB ch (by omega) hb.size
                          have hb07 := hb.trans hb7
                          have hl7 : (o' ++ [ch]).length = o1.length + (j + 1) := by rw [List.length_append]; simp; omega
                          have HL7 := Lib.hid hl7
                          have hjn : (j : Int) ≤ 200000 := by omega
                          clear hch hoj hol hown hb hb7 hl7
                          go_wp2_with (at_builtin; refine wpList_append_run hrun7 rfl rfl rfl rfl ?_)
                          first
                            | exact ⟨⟨j + 1, o' ++ [ch], by omega, (by first | rfl | go_num | (congr 1; omega)), HN.out, HL7.out, o7, hb07⟩, by simp [intOf] <;> omega⟩
                            | (refine ⟨?_, by simp [intOf] <;> omega⟩; (repeat apply Exists.intro); exact ⟨⟨j + 1, o' ++ [ch], by omega, (by first | rfl | go_num | (congr 1; omega)), HN.out, HL7.out, o7, hb07⟩, rfl⟩)
                        · have hjI : ¬ (j : Int) < N := by omega
                          have hjN : j = N := by omega
                          have hoj2 : o' = copyF o1 d N := by
                            have := HOJ.out
                            rw [hjN, Nat.sub_self] at this
                            exact this
                          have hrel' : RoRel w M l F (.slice va' o'.length vc') (.int .i64 (q2 : Int)) wr := by
                            refine ⟨f, q2, o', rfl, ?_, by omega, by omega, by omega, hown, hb⟩
                            rw [← HLO.out, loGo, HCC.out, HPP.out, hoj2]
                          have HREL := Lib.hid hrel'
                          have hqp : p < q2 := by omega
                          clear hrel' hown hb hrow hoj hol hoj2 hjN
                          go_wp2
                          first
                            | exact ⟨HREL.out, by simp [intOf] <;> omega⟩
                            | (refine ⟨?_, by simp [intOf] <;> omega⟩; (repeat apply Exists.intro); exact ⟨HREL.out, rfl⟩)
end Go.Proofs.Ytpkgcnklpnficaa
