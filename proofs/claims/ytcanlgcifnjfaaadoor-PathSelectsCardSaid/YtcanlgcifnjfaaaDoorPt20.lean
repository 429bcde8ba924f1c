/- Layer 20: the document's look, by the token that begins at a place. -/
import Derived.Test.YtcanlgcifnjfaaaDoorPt19
import Derived.Deep.CutBlock
import Derived.Deep.DeepCutAuto
import Derived.Deep.RegionHeld3
import Derived.StillTail
set_option maxRecDepth 20000
namespace Go.Proofs.YtcanlgcifnjfaaaDoor
open Go.RowKit Go.Hd

def GlR (R : Bool) (gb sb N c : Nat) (sh : Bool) (P S : List UInt8) (L : List Value) (s : Nat) (w : World) (e : Ending) (w' : World) : Prop :=
  e = .returned (.bool R) ∧ GlI gb sb N c sh P S L s w w'
theorem GlI.drewN {gb sb N c : Nat} {sh : Bool} {P S : List UInt8} {L0 : List Value} {s : Nat} {w0 w : World} (h : GlI gb sb N c sh P S L0 s w0 w) (n : Nat) : GlI gb sb N c sh P S L0 s w0 (w.drewN n) := by
  obtain ⟨L, h1, h2, h3, h4⟩ := h
  exact ⟨L, ⟨h1.glob, h1.seen, h1.ne, h1.size, h1.le⟩, h2, h3, grownBy_drewN h4 n⟩
theorem more_lt {sh : Bool} {S : List UInt8} {k : Nat} (h : moreA sh S k = true) : k < S.length := by
  rcases Nat.lt_or_ge k S.length with h1 | h1
  · exact h1
  · rw [more_end h1] at h; cases h
set_option maxHeartbeats 4000000 in
theorem look_any {gb sb N c : Nat} {sh : Bool} {P S : List UInt8} (hP : P.length ≤ 100000) (hS : S.length ≤ 1000000) (m : Nat)
    (IH : ∀ i k w L, i ≤ P.length → k ≤ S.length → (P.length - i) + (S.length - k) < m → okA sh P i → GlobAt w gb sb N c sh P S L → SeenOK sh P S L (i + k) →
      Calls Tryd.prog 53 #[.pointer (some ⟨gb, 0, none⟩), .int .i64 (i : Int), .int .i64 (k : Int)] w (GlR (mtA sh P S i k) gb sb N c sh P S L (i + k) w))
    (i k : Nat) (w : World) (L : List Value) (hi : i ≤ P.length) (hk : k ≤ S.length) (hm : (P.length - i) + (S.length - k) = m) (hok : okA sh P i) (hg : GlobAt w gb sb N c sh P S L) (hs : SeenOK sh P S L (i + k + 1)) :
    Calls Tryd.prog 66 #[.pointer (some ⟨gb, 0, none⟩), .int .i64 (i : Int), .int .i64 (k : Int)] w (GlR (mtA sh P S i k) gb sb N c sh P S L (i + k + 1) w) := by
  have hz : (str P).size = P.length := str_size P
  have hzS : (str S).size = S.length := str_size S
  have HPS := Lib.hid (And.intro hP hS)
  have hI0 : Hid (GlI gb sb N c sh P S L (i + k + 1) w w) := GlI.start hg hs
  have hM : Hid (∀ i' k' w', i' ≤ P.length → k' ≤ S.length → i ≤ i' → k ≤ k' → i + k + 1 ≤ i' + k' → okA sh P i' → GlI gb sb N c sh P S L (i + k + 1) w w' →
      Calls Tryd.prog 53 #[.pointer (some ⟨gb, 0, none⟩), .int .i64 (i' : Int), .int .i64 (k' : Int)] w' fun e w'' => e = .returned (.bool (mtA sh P S i' k')) ∧ Hid (GlI gb sb N c sh P S L (i + k + 1) w w'')) := by
    intro i' k' w' h1 h2 h3 h4 h5 h6 h7
    obtain ⟨L', g1, g2, g3, g4⟩ := h7
    refine (IH i' k' w' L' h1 h2 (by omega) h6 g1 (g2.mono h5)).mono ?_
    rintro e w'' ⟨rfl, hh⟩
    exact ⟨rfl, GlI.next g1 g2 g3 g4 h5 hh⟩
  have c0 : w.cell? ⟨gb, 0, none⟩ = some (.string (str P)) := hg.glob.cell rfl
  have c1 : w.cell? ⟨gb, 1, none⟩ = some (.string (str S)) := hg.glob.cell rfl
  have c2 : w.cell? ⟨gb, 2, none⟩ = some (.bool sh) := hg.glob.cell rfl
  have i0 : (0 : Int) ≤ (i : Int) := by omega
  have k0 : (0 : Int) ≤ (k : Int) := by omega
  have ib : (i : Int) ≤ (P.length : Int) := by omega
  have i1 : IntKind.i64.wrap ((i : Int) + 1) = (i : Int) + 1 := IntWalk.i64_in _ (by omega)
  have i3 : IntKind.i64.wrap ((i : Int) + 3) = (i : Int) + 3 := IntWalk.i64_in _ (by omega)
  have k1 : IntKind.i64.wrap ((k : Int) + 1) = (k : Int) + 1 := IntWalk.i64_in _ (by omega)
  have HL := Lib.hid (And.intro hi hk)
  have HOK := Lib.hid hok
  clear hg hs IH hm hok hP hS
  by_cases hend : i = P.length
  · subst hend
    have hR : Hid (mtA sh P S P.length k = decide (k = S.length)) := mtA_end hk
    by_cases hk2 : k = S.length
    · have e2 : ((k : Int) == (S.length : Int)) = true := by rw [hk2]; simp
      have hR2 : Hid (mtA sh P S P.length k = true) := by show _ = _; rw [hR.out, decide_eq_true hk2]
      clear hR hk2 hM
      go_enter Tryd.func66, Tryd.ntmps66
      go_wp2
      go_ret
      show _ ∧ _
      exact ⟨by rw [hR2.out] <;> rfl, hI0.out⟩
    · have e2 : ((k : Int) == (S.length : Int)) = false := by rw [beq_eq_false_iff_ne]; omega
      have hR2 : Hid (mtA sh P S P.length k = false) := by show _ = _; rw [hR.out, decide_eq_false hk2]
      clear hR hk2 hM
      go_enter Tryd.func66, Tryd.ntmps66
      go_wp2
      go_ret
      show _ ∧ _
      exact ⟨by rw [hR2.out] <;> rfl, hI0.out⟩
  · have hi2 : i < P.length := by omega
    have ib2 : (i : Int) < (P.length : Int) := by omega
    have e1 : ((i : Int) == (P.length : Int)) = false := by rw [beq_eq_false_iff_ne]; omega
    have hszi : i < (str P).size := by rw [hz]; exact hi2
    go_enter Tryd.func66, Tryd.ntmps66
    go_upto_region 3 with (fail)
    go_cut [50] (fun u wx => u = .bool (sh && beginsB (P.drop i) [42, 42, 47] && slB P i) ∧ wx = w)
    case first =>
      clear hM
      cases sh
      · go_wp2
        go_meet
        exact ⟨rfl, rfl⟩
      · have hbg := rbegins_any (P.drop i) [42, 42, 47] w
        rw [show str [42, 42, 47] = ⟨#[42, 42, 47]⟩ from rfl] at hbg
        have e2 : (str P).extract i P.length = str (P.drop i) := str_drop P i P.length (Nat.le_refl _)
        generalize beginsB (P.drop i) [42, 42, 47] = b at *
        generalize P.drop i = q at *
        cases b
        · go_wp2_with fail
          refine hbg.mono ?_
          rintro e w1 ⟨rfl, rfl⟩
          go_wp2
          go_meet
          exact ⟨rfl, rfl⟩
        · by_cases h0 : i = 0
          · subst h0
            go_wp2_with fail
            refine hbg.mono ?_
            rintro e w1 ⟨rfl, rfl⟩
            go_wp2
            go_meet
            exact ⟨rfl, rfl⟩
          · have f0 : ((i : Int) == 0) = false := by rw [beq_eq_false_iff_ne]; omega
            obtain ⟨j, hj⟩ : ∃ j, j = i - 1 := ⟨_, rfl⟩
            have hjl : j < P.length := by omega
            have hji : (j : Int) = (i : Int) - 1 := by omega
            have im : IntKind.i64.wrap ((i : Int) - 1) = (j : Int) := by rw [IntWalk.i64_in _ (by have := HPS.out.1; omega)]; omega
            have j0 : (0 : Int) ≤ (j : Int) := by omega
            have jl : (j : Int) < (P.length : Int) := by omega
            have hszj : j < (str P).size := by rw [hz]; exact hjl
            have t := byte_num hszj hjl 47 47 rfl
            have hsl : Hid (slB P i = (P[j]'hjl == 47)) := by
              show _ = _
              rw [show i = j + 1 by omega, slB_succ hjl]
            clear hj hji h0
            cases h47 : (P[j]'hjl == 47)
            · have hs2 : Hid (slB P i = false) := by show _ = _; rw [hsl.out, h47]
              rw [h47] at t
              clear h47 hsl
              go_wp2_with fail
              refine hbg.mono ?_
              rintro e w1 ⟨rfl, rfl⟩
              go_wp2
              go_meet
              exact ⟨by rw [hs2.out] <;> rfl, rfl⟩
            · have hs2 : Hid (slB P i = true) := by show _ = _; rw [hsl.out, h47]
              rw [h47] at t
              clear h47 hsl
              go_wp2_with fail
              refine hbg.mono ?_
              rintro e w1 ⟨rfl, rfl⟩
              go_wp2
              go_meet
              exact ⟨by rw [hs2.out] <;> rfl, rfl⟩
    case rest =>
      obtain ⟨rfl, hwc⟩ := hcut
      subst hwc
      by_cases hD : sh = true ∧ slB P i = true ∧ beginsB (P.drop i) [42, 42, 47] = true
      · obtain ⟨rfl, hs1, hb1⟩ := hD
        obtain ⟨d1, d2, d3⟩ := mtA_deep (S := S) (k := k) HOK.out hs1 hb1
        rw [hs1, hb1]
        have hm3 := hM.out (i + 3) k wc d1 hk (by omega) (Nat.le_refl _) (by omega) d2 hI0.out
        rw [show (((i + 3 : Nat) : Int)) = (i : Int) + 3 by omega] at hm3
        have HM3 : Hid (∀ n w', n < S.length → k ≤ n → GlI gb sb N c true P S L (i + k + 1) wc w' → Calls Tryd.prog 53 #[.pointer (some ⟨gb, 0, none⟩), .int .i64 ((i : Int) + 3), .int .i64 ((n : Int) + 1)] w' fun e w'' => e = .returned (.bool (mtA true P S (i + 3) (n + 1))) ∧ Hid (GlI gb sb N c true P S L (i + k + 1) wc w'')) := fun n w' h1 h2 h3 => by
          have := hM.out (i + 3) (n + 1) w' d1 (by omega) (by omega) (by omega) (by omega) d2 h3
          rw [show (((i + 3 : Nat) : Int)) = (i : Int) + 3 by omega, show (((n + 1 : Nat) : Int)) = (n : Int) + 1 by omega] at this
          exact this
        have D3 := Lib.hid d3
        have hSL := HPS.out.2
        clear hM d3 hs1 hb1
        go_wp2_with fail
        refine hm3.mono ?_
        rintro e w1 ⟨rfl, hI1⟩
        clear hm3
        cases hr : mtA true P S (i + 3) k
        · have D4 : Hid (mtA true P S i k = behA true P S (i + 3) k) := by show _ = _; rw [D3.out, hr]; rfl
          clear D3 hr c0 c1 c2
          go_wp2
          go_loopw [7] (fun v wr => ∃ n : Nat, k ≤ n ∧ n ≤ S.length ∧ v = .int .i64 n ∧ Hid (mtA true P S i k = behA true P S (i + 3) n) ∧ Hid (GlI gb sb N c true P S L (i + k + 1) wc wr)) (fun v _ => S.length - (intOf v).toNat)
          case atStart => exact ⟨k, Nat.le_refl _, hk, rfl, D4, hI1⟩
          case round =>
            obtain ⟨n, hkn, hn, rfl, hD, hI⟩ := hrel
            have c1 : wr.cell? ⟨gb, 1, none⟩ = some (.string (str S)) := hI.out.glob.cell rfl
            have n0 : (0 : Int) ≤ (n : Int) := by omega
            have nb : IntKind.i64.wrap ((n : Int) + 1) = (n : Int) + 1 := IntWalk.i64_in _ (by omega)
            clear D4 hI1
            by_cases hlt : n < S.length
            · have j1 : (n : Int) < (S.length : Int) := by omega
              have hsz : n < (str S).size := by rw [hzS]; exact hlt
              have t := byte_num hsz hlt 47 47 rfl
              have hB : Hid (behA true P S (i + 3) n = ((S[n]'hlt == 47 && mtA true P S (i + 3) (n + 1)) || behA true P S (i + 3) (n + 1))) := behA_step hlt
              cases h47 : (S[n]'hlt == 47)
              · have hD2 : Hid (mtA true P S i k = behA true P S (i + 3) (n + 1)) := by show _ = _; rw [hD.out, hB.out, h47]; rfl
                rw [h47] at t
                clear h47 hB hD HM3
                go_wp2
                first
                  | exact ⟨⟨n + 1, by omega, by omega, (by first | rfl | go_num | (congr 1; omega)), hD2, hI⟩, by simp [intOf] <;> omega⟩
                  | (refine ⟨?_, by simp [intOf] <;> omega⟩; (repeat apply Exists.intro); exact ⟨⟨n + 1, by omega, by omega, (by first | rfl | go_num | (congr 1; omega)), hD2, hI⟩, rfl⟩)
              · have hD2 : Hid (mtA true P S i k = (mtA true P S (i + 3) (n + 1) || behA true P S (i + 3) (n + 1))) := by show _ = _; rw [hD.out, hB.out, h47]; rfl
                have hm4 := HM3.out n wr hlt hkn hI.out
                rw [h47] at t
                clear h47 hB hD HM3
                generalize mtA true P S (i + 3) (n + 1) = r at *
                go_wp2_with fail
                refine hm4.mono ?_
                rintro e w2 ⟨rfl, hI2⟩
                clear hm4
                cases r
                · have hD3 : Hid (mtA true P S i k = behA true P S (i + 3) (n + 1)) := by show _ = _; rw [hD2.out]; rfl
                  clear hD2
                  go_wp2
                  first
                    | exact ⟨⟨n + 1, by omega, by omega, (by first | rfl | go_num | (congr 1; omega)), hD3, hI2⟩, by simp [intOf] <;> omega⟩
                    | (refine ⟨?_, by simp [intOf] <;> omega⟩; (repeat apply Exists.intro); exact ⟨⟨n + 1, by omega, by omega, (by first | rfl | go_num | (congr 1; omega)), hD3, hI2⟩, rfl⟩)
                · have hR : Hid (mtA true P S i k = true) := by show _ = _; rw [hD2.out]; rfl
                  clear hD2
                  go_wp2
                  go_ret
                  show _ ∧ _
                  exact ⟨by rw [hR.out] <;> rfl, hI2.out⟩
            · have j1 : ¬ (n : Int) < (S.length : Int) := by omega
              have hR : Hid (mtA true P S i k = false) := by show _ = _; rw [hD.out, behA_end (by omega)]
              clear hD HM3
              go_wp2
              go_ret
              show _ ∧ _
              exact ⟨by rw [hR.out] <;> rfl, hI.out⟩
        · have hR : Hid (mtA true P S i k = true) := by show _ = _; rw [D3.out, hr]; rfl
          clear D3 hr HM3
          go_wp2
          go_ret
          show _ ∧ _
          exact ⟨by rw [hR.out] <;> rfl, hI1.out⟩
      · have hDf : (sh && beginsB (P.drop i) [42, 42, 47] && slB P i) = false := by
          cases sh
          · rfl
          · cases h1 : slB P i
            · simp
            · cases h2 : beginsB (P.drop i) [42, 42, 47]
              · rfl
              · exact absurd ⟨rfl, h1, h2⟩ hD
        rw [hDf]
        have HD := Lib.hid hD
        clear hDf hD
        go_upto_region 12 with (fail)
        go_cut [8] (fun u wx => u = .bool (moreA sh S k) ∧ wx = wc)
        case first =>
          clear hM HD HOK
          by_cases hlt : k < S.length
          · have j1 : (k : Int) < (S.length : Int) := by omega
            have hsz : k < (str S).size := by rw [hzS]; exact hlt
            have t := byte_num hsz hlt 47 47 rfl
            have hmr := Lib.hid (takes_more (sh := sh) hlt)
            cases sh
            · clear t
              go_wp2
              go_meet
              exact ⟨by rw [hmr.out] <;> rfl, rfl⟩
            · cases h47 : (S[k]'hlt == 47)
              · rw [h47] at t hmr
                clear h47
                go_wp2
                go_meet
                exact ⟨by rw [hmr.out] <;> rfl, rfl⟩
              · rw [h47] at t hmr
                clear h47
                go_wp2
                go_meet
                exact ⟨by rw [hmr.out] <;> rfl, rfl⟩
          · have j1 : ¬ (k : Int) < (S.length : Int) := by omega
            have hmr := Lib.hid (more_end (sh := sh) (S := S) (k := k) (by omega))
            go_wp2
            go_meet
            exact ⟨by rw [hmr.out] <;> rfl, rfl⟩
        case rest =>
          obtain ⟨rfl, hwd⟩ := hcut
          subst hwd
          have t42 := byte_num hszi hi2 42 42 rfl
          have t63 := byte_num hszi hi2 63 63 rfl
          have t91 := byte_num hszi hi2 91 91 rfl
          have hmk := fun (h : moreA sh S k = true) => more_lt h
          by_cases h42 : P[i]'hi2 = 42
          · obtain ⟨o1, o2⟩ := mtA_star (S := S) (k := k) hi2 HD.out h42 HOK.out
            rw [show (P[i]'hi2 == 42) = true by rw [h42]; rfl] at t42
            have hm1 := fun w' h => hM.out (i + 1) k w' (by omega) hk (by omega) (Nat.le_refl _) (by omega) o1 h
            have hm2 := fun w' h (h2 : k < S.length) => hM.out i (k + 1) w' hi (by omega) (Nat.le_refl _) (by omega) (by omega) HOK.out h
            rw [show (((i + 1 : Nat) : Int)) = (i : Int) + 1 by omega] at hm1
            rw [show (((k + 1 : Nat) : Int)) = (k : Int) + 1 by omega] at hm2
            have O2 := Lib.hid o2
            have HM1 := Lib.hid hm1
            have HM2 := Lib.hid hm2
            clear o2 hm1 hm2 hM h42 t63 t91
            generalize mtA sh P S (i + 1) k = r1 at *
            generalize mtA sh P S i (k + 1) = r2 at *
            generalize mtA sh P S i k = R at *
            generalize moreA sh S k = M at *
            have hm1 := HM1.out _ hI0.out
            go_wp2_with fail
            refine hm1.mono ?_
            rintro e w1 ⟨rfl, hI1⟩
            clear hm1 HM1
            cases r1
            · cases M
              · have hR : Hid (R = false) := O2.out
                clear O2 HM2
                go_wp2
                go_ret
                show _ ∧ _
                exact ⟨by rw [hR.out] <;> rfl, hI1.out⟩
              · have hR : Hid (R = r2) := O2.out
                have hm2 := HM2.out _ hI1.out (hmk rfl)
                clear O2 HM2
                go_wp2_with fail
                refine hm2.mono ?_
                rintro e w2 ⟨rfl, hI2⟩
                go_wp2
                go_ret
                show _ ∧ _
                exact ⟨by rw [hR.out] <;> rfl, hI2.out⟩
            · have hR : Hid (R = true) := O2.out
              clear O2 HM2
              go_wp2
              go_ret
              show _ ∧ _
              exact ⟨by rw [hR.out] <;> rfl, hI1.out⟩
          rw [show (P[i]'hi2 == 42) = false by simpa using h42] at t42
          by_cases h63 : P[i]'hi2 = 63
          · obtain ⟨o1, o2⟩ := mtA_any (S := S) (k := k) hi2 HD.out h63 HOK.out
            rw [show (P[i]'hi2 == 63) = true by rw [h63]; rfl] at t63
            have hm1 := fun w' h (h2 : k < S.length) => hM.out (i + 1) (k + 1) w' (by omega) (by omega) (by omega) (by omega) (by omega) o1 h
            rw [show (((i + 1 : Nat) : Int)) = (i : Int) + 1 by omega, show (((k + 1 : Nat) : Int)) = (k : Int) + 1 by omega] at hm1
            have O2 := Lib.hid o2
            have HM1 := Lib.hid hm1
            clear o2 hm1 hM h42 h63 t91
            generalize mtA sh P S (i + 1) (k + 1) = r1 at *
            generalize mtA sh P S i k = R at *
            generalize moreA sh S k = M at *
            cases M
            · have hR : Hid (R = false) := O2.out
              clear O2 HM1
              go_wp2
              go_ret
              show _ ∧ _
              exact ⟨by rw [hR.out] <;> rfl, hI0.out⟩
            · have hR : Hid (R = r1) := O2.out
              have hm1 := HM1.out _ hI0.out (hmk rfl)
              clear O2 HM1
              go_wp2_with fail
              refine hm1.mono ?_
              rintro e w1 ⟨rfl, hI1⟩
              go_wp2
              go_ret
              show _ ∧ _
              exact ⟨by rw [hR.out] <;> rfl, hI1.out⟩
          rw [show (P[i]'hi2 == 63) = false by simpa using h63] at t63
          by_cases h91 : P[i]'hi2 = 91
          · obtain ⟨f, n, q1, q2, q3, q4, q5, q6⟩ := mtA_set (S := S) (k := k) hi2 HD.out h91 HOK.out
            rw [show (P[i]'hi2 == 91) = true by rw [h91]; rfl] at t91
            have hcl := closes_any P (i + 1) wc (by have := HPS.out.1; omega) (by omega)
            rw [(clF_some q1).1, show (((i + 1 : Nat) : Int)) = (i : Int) + 1 by omega] at hcl
            have hin := fun d w' => in_any d w' (by have := HPS.out.1; omega) q1
            rw [show (((i + 1 : Nat) : Int)) = (i : Int) + 1 by omega] at hin
            have hE : i + 1 + n = (i + 1 + n - 1) + 1 := by omega
            have hm1 := fun w' h (h2 : k < S.length) => hM.out (i + 1 + n) (k + 1) w' (by omega) (by omega) (by omega) (by omega) (by omega) q4 h
            rw [hE] at hm1 q6 q2
            have q5' := q5
            have hEb : IntKind.i64.wrap (((i + 1 + n - 1 : Nat) : Int) + 1) = ((i + 1 + n - 1 : Nat) : Int) + 1 := IntWalk.i64_in _ (by have := HPS.out.1; omega)
            clear q1 q3 q4 hM h42 h63 h91 hE q5
            generalize i + 1 + n - 1 = E at *
            rw [show (((E + 1 : Nat) : Int)) = (E : Int) + 1 by omega, show (((k + 1 : Nat) : Int)) = (k : Int) + 1 by omega] at hm1
            have HM1 := Lib.hid hm1
            have Q6 := Lib.hid q6
            have Q5 := Lib.hid q5'
            clear hm1 q6 q5' q2
            by_cases hMT : moreA sh S k = true
            · have hkl := hmk hMT
              have hR0 : Hid (mtA sh P S i k = (f (S[k]'hkl).toNat && mtA sh P S (E + 1) (k + 1))) := by show _ = _; rw [Q6.out hkl, hMT]; rfl
              have j1 : (k : Int) < (S.length : Int) := by omega
              have hsz : k < (str S).size := by rw [hzS]; exact hkl
              have hbt : ((str S)[k]'hsz).toNat = (S[k]'hkl).toNat := congrArg (fun c : UInt8 => c.toNat) (str_at S k hsz hkl)
              have hin1 := fun w' => hin (S[k]'hkl) w'
              rw [← hbt] at hR0 hin1
              have hm1 := fun w' h => HM1.out w' h hkl
              rw [hMT]
              generalize mtA sh P S (E + 1) (k + 1) = r1 at *
              generalize mtA sh P S i k = R at *
              have HM1' := Lib.hid hm1
              clear HM1 hm1 Q6 Q5 hmk hMT hin hbt
              cases hf : f ((str S)[k]'hsz).toNat
              · have hR : Hid (R = false) := by show _ = _; rw [hR0.out, hf]; rfl
                rw [hf] at hin1
                clear hR0 hf HM1'
                go_wp2_with fail
                refine hcl.mono ?_
                rintro e w1 ⟨rfl, rfl⟩
                go_wp2
                go_quiet ((go_at_call 77; exact Calls.quiet_of (quiet0 (hin1 _))))
                go_wp2
                go_ret
                show _ ∧ _
                exact ⟨by rw [hR.out] <;> rfl, hI0.out.drewN nq⟩
              · have hR : Hid (R = r1) := by show _ = _; rw [hR0.out, hf]; rfl
                rw [hf] at hin1
                clear hR0 hf
                go_wp2_with fail
                refine hcl.mono ?_
                rintro e w1 ⟨rfl, rfl⟩
                have hcur : Hid (GlI gb sb N c sh P S L (i + k + 1) wc wc.drew) := hI0.out.drewN 1
                have d0 : wc.drew.cell? ⟨gb, 0, none⟩ = some (.string (str P)) := c0
                have d1 : wc.drew.cell? ⟨gb, 1, none⟩ = some (.string (str S)) := c1
                clear c0 c1 c2
                go_upto_region 20 with (fail)
                go_region_held3 (fun w' => w'.cell? ⟨gb, 0, none⟩ = some (.string (str P)) ∧ w'.cell? ⟨gb, 1, none⟩ = some (.string (str S))) (first | exact ⟨by assumption, by assumption⟩ | go_keep) (first
                  | (go_at_call 77; refine (hin1 _).mono ?_; rintro e ws ⟨rfl, hws⟩; subst hws)
                  | (go_at_call 53; refine (HM1'.out _ hcur.out).mono ?_; rintro e ws ⟨rfl, hcur⟩; have d0 : ws.cell? ⟨gb, 0, none⟩ = some (.string (str P)) := hcur.out.glob.cell rfl; have d1 : ws.cell? ⟨gb, 1, none⟩ = some (.string (str S)) := hcur.out.glob.cell rfl))
                go_wp2
                go_ret
                show _ ∧ _
                exact ⟨by rw [hR.out] <;> rfl, hcur.out⟩
            · have hMF : moreA sh S k = false := by simpa using hMT
              have hR : Hid (mtA sh P S i k = false) := by
                show _ = _
                rcases Nat.lt_or_ge k S.length with h | h
                · rw [Q6.out h, hMF]; rfl
                · exact Q5.out h
              rw [hMF]
              clear Q6 Q5 HM1 hMT hMF hin
              go_wp2_with fail
              refine hcl.mono ?_
              rintro e w1 ⟨rfl, rfl⟩
              go_wp2
              go_quiet (fail)
              go_wp2
              go_ret
              show _ ∧ _
              exact ⟨by rw [hR.out] <;> rfl, hI0.out.drewN nq⟩
          rw [show (P[i]'hi2 == 91) = false by simpa using h91] at t91
          obtain ⟨o1, o2, o3⟩ := mtA_one (S := S) (k := k) hi2 HD.out h42 h63 h91 HOK.out
          have hm1 := fun w' h (h2 : k < S.length) => hM.out (i + 1) (k + 1) w' (by omega) (by omega) (by omega) (by omega) (by omega) o1 h
          rw [show (((i + 1 : Nat) : Int)) = (i : Int) + 1 by omega, show (((k + 1 : Nat) : Int)) = (k : Int) + 1 by omega] at hm1
          have HM1 := Lib.hid hm1
          have O2 := Lib.hid o2
          have O3 := Lib.hid o3
          clear hm1 o2 o3 hM h42 h63 h91 hmk
          generalize moreA sh S k = M at *
          by_cases hkl : k < S.length
          · have j1 : (k : Int) < (S.length : Int) := by omega
            have hsz : k < (str S).size := by rw [hzS]; exact hkl
            have hcmp : ((((str S)[k]'hsz).toNat : Int) == (((str P)[i]'hszi).toNat : Int)) = (S[k]'hkl == P[i]'hi2) := by
              have h1 := byte_eq hsz hkl (P[i]'hi2)
              rw [← h1, show ((str P)[i]'hszi) = P[i]'hi2 from str_at P i hszi hi2]
            have hm1 := fun w' h => HM1.out w' h hkl
            have hR0 : Hid (mtA sh P S i k = ((S[k]'hkl == P[i]'hi2) && mtA sh P S (i + 1) (k + 1))) := O3.out hkl
            generalize mtA sh P S (i + 1) (k + 1) = r1 at *
            generalize mtA sh P S i k = R at *
            have HM1' := Lib.hid hm1
            clear HM1 hm1 O2 O3
            cases hf : (S[k]'hkl == P[i]'hi2)
            · have hR : Hid (R = false) := by show _ = _; rw [hR0.out, hf]; rfl
              rw [hf] at hcmp
              clear hR0 hf HM1'
              go_wp2
              go_quiet (fail)
              go_wp2
              go_ret
              show _ ∧ _
              exact ⟨by rw [hR.out] <;> rfl, hI0.out.drewN nq⟩
            · have hR : Hid (R = r1) := by show _ = _; rw [hR0.out, hf]; rfl
              rw [hf] at hcmp
              clear hR0 hf
              have hI1 := Lib.hid (hI0.out.drewN 1)
              have hm1 := HM1'.out _ hI1.out
              clear HM1'
              go_wp2
              refine wp_region_still_tail 28 (by kernel_rfl) (by kernel_rfl) ?_
              simp only [List.take_succ_cons, List.take_zero, List.drop_succ_cons, List.drop_zero]
              change wpStill _ _ (wc.drewN 1) _ _ _
              repeat still_step
              try refine wpStill_nil ?_
              change wpList _ _ _ _ _ (wc.drewN 1)
              go_wp2_with fail
              refine hm1.mono ?_
              rintro e w1 ⟨rfl, hI2⟩
              go_wp2
              go_ret
              show _ ∧ _
              exact ⟨by rw [hR.out] <;> rfl, hI2.out⟩
          · have j1 : ¬ (k : Int) < (S.length : Int) := by omega
            have hR : Hid (mtA sh P S i k = false) := O2.out (by omega)
            clear O2 O3 HM1
            go_wp2
            go_quiet (fail)
            go_wp2
            go_ret
            show _ ∧ _
            exact ⟨by rw [hR.out] <;> rfl, hI0.out.drewN nq⟩
end Go.Proofs.YtcanlgcifnjfaaaDoor
