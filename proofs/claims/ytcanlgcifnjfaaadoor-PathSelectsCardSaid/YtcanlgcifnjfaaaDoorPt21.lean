/- Layer 20: the document's match from places on: what was found already is kept, and right. -/
import Derived.Test.YtcanlgcifnjfaaaDoorPt20
set_option maxRecDepth 20000
namespace Go.Proofs.YtcanlgcifnjfaaaDoor
open Go.RowKit Go.Hd

theorem GlobAt.set {w : World} {gb sb N c : Nat} {sh : Bool} {P S : List UInt8} {L : List Value} (h : GlobAt w gb sb N c sh P S L) (x : Nat) (v : Value) : GlobAt (w.setCell ⟨sb, x, none⟩ v) gb sb N c sh P S (L.set x v) := by
  refine ⟨?_, h.seen.set x v, h.ne, h.size, by rw [List.length_set]; exact h.le⟩
  have := h.glob
  unfold Blk at *
  rw [Below.heap_setCell w ⟨sb, x, none⟩ v gb h.ne]; exact this
theorem grown_set (w : World) (sb x : Nat) (v : Value) : w.grownBy (w.setCell ⟨sb, x, none⟩ v) (some sb) := ⟨rfl, rfl, rfl, by simp, fun k _ hk => Below.heap_setCell w _ v k (fun e => hk (by rw [e]))⟩
set_option maxHeartbeats 2000000 in
theorem gmatch_any {gb sb N c : Nat} {sh : Bool} {P S : List UInt8} (hP : P.length ≤ 100000) (hS : S.length ≤ 1000000) : ∀ (m i k : Nat) (w : World) (L : List Value), i ≤ P.length → k ≤ S.length → (P.length - i) + (S.length - k) = m → okA sh P i → GlobAt w gb sb N c sh P S L → SeenOK sh P S L (i + k) →
    Calls Tryd.prog 53 #[.pointer (some ⟨gb, 0, none⟩), .int .i64 (i : Int), .int .i64 (k : Int)] w (GlR (mtA sh P S i k) gb sb N c sh P S L (i + k) w) := by
  intro m
  induction m using Nat.strongRecOn with
  | ind m ih =>
  intro i k w L hi hk hm hok hg hs
  have hlk := fun w L hg hs => look_any (gb := gb) (sb := sb) (N := N) (c := c) hP hS m (fun i k w L h1 h2 h3 h4 h5 h6 => ih _ h3 i k w L h1 h2 rfl h4 h5 h6) i k w L hi hk hm hok hg hs
  have hxN : iX S i k < N := by rw [hg.size]; exact iX_lt hi hk
  have hxL : iX S i k < L.length := Nat.lt_of_lt_of_le hxN hg.le
  obtain ⟨v, hv, hv2⟩ := hs i k hi hk (Nat.le_refl _) hok
  have hzS : (str S).size = S.length := str_size S
  have hq : i * (S.length + 1) ≤ 100000 * 1000001 := Nat.mul_le_mul (by omega) (by omega)
  have a1 : IntKind.i64.wrap ((S.length : Int) + 1) = (S.length : Int) + 1 := IntWalk.i64_in _ (by omega)
  obtain ⟨q, hqe⟩ : ∃ q, q = i * (S.length + 1) := ⟨_, rfl⟩
  have a2 : IntKind.i64.wrap ((i : Int) * ((S.length : Int) + 1)) = (q : Int) := by
    have e : (i : Int) * ((S.length : Int) + 1) = ((i * (S.length + 1) : Nat) : Int) := by simp
    rw [e, IntWalk.i64_in _ (by omega), hqe]
  have hxq : iX S i k = q + k := by rw [hqe]; rfl
  obtain ⟨x, hx⟩ : ∃ x, x = iX S i k := ⟨_, rfl⟩
  have a3 : IntKind.i64.wrap ((q : Int) + (k : Int)) = (x : Int) := by rw [IntWalk.i64_in _ (by omega)]; omega
  have x0 : (0 : Int) ≤ (x : Int) := by omega
  have x1 : (x : Int) < (N : Int) := by omega
  have c1 : w.cell? ⟨gb, 1, none⟩ = some (.string (str S)) := hg.glob.cell rfl
  have c3 : w.cell? ⟨gb, 3, none⟩ = some (.slice (some ⟨sb, 0, none⟩) N c) := hg.glob.cell rfl
  have c4 : w.cell? ⟨sb, x, none⟩ = some (.int .i64 v) := hg.seen.cell (by rw [hx]; exact hv)
  have c5 : w.frozen? ⟨sb, x, none⟩ = false := hg.seen.free _
  have hD : Hid (∀ (v : Value) (L2 L3 : List Value), SeenOK sh P S L2 (i + k + 1) → SameTo P S (L.set x v) L2 (i + k + 1) → L3 = L2.set x (.int .i64 (yes (mtA sh P S i k))) → SeenOK sh P S L3 (i + k) ∧ SameTo P S L L3 (i + k) ∧ L3[x]? = some (.int .i64 (yes (mtA sh P S i k)))) := by
    intro v L2 L3 g1 g2 g3
    rw [hx] at g2 g3 ⊢
    exact SeenOK.done hs hi hk hxL v g1 g2 g3
  have hS1 : Hid (SeenOK sh P S (L.set x (.int .i64 1)) (i + k + 1)) := by rw [hx]; exact SeenOK.begin hs hk _
  have hAt : Hid (∀ L2, SameTo P S (L.set x (.int .i64 1)) L2 (i + k + 1) → L2[x]? = some (.int .i64 1)) := fun L2 g => by
    have := g.2 i k hi hk (by omega)
    rw [← hx] at this
    rw [this, List.getElem?_set_self (by omega)]
  have HG := Lib.hid hg
  have HS := Lib.hid hs
  have HLK := Lib.hid hlk
  clear hg hs hlk ih hxN hxL hq hqe hxq hv hm hok hP hS hx
  by_cases hv0 : v = 0
  · subst hv0
    clear hv2
    have hg1 : Hid (GlobAt (w.setCell ⟨sb, x, none⟩ (.int .i64 1)) gb sb N c sh P S (L.set x (.int .i64 1))) := HG.out.set x _
    have hr1 : Hid (w.grownBy (w.setCell ⟨sb, x, none⟩ (.int .i64 1)) (some sb)) := grown_set _ _ _ _
    go_enter Tryd.func53, Tryd.ntmps53
    go_upto_region 4 with (fail)
    generalize w.setCell ⟨sb, x, none⟩ (.int .i64 1) = w1 at *
    clear c1 c3 c4 c5
    go_wp2_with fail
    refine (HLK.out w1 _ hg1.out hS1.out).mono ?_
    rintro e w2 ⟨rfl, L2, hg2, hs2, hsm, hgr⟩
    have d3 : w2.cell? ⟨gb, 3, none⟩ = some (.slice (some ⟨sb, 0, none⟩) N c) := hg2.glob.cell rfl
    have d5 : w2.frozen? ⟨sb, x, none⟩ = false := hg2.seen.free _
    have hgr2 := Lib.hid (grownBy_trans hr1.out hgr)
    have hg2' := Lib.hid hg2
    have hx2 := hAt.out L2 hsm
    have HDn := Lib.hid (hD.out _ L2 (L2.set x (.int .i64 (yes (mtA sh P S i k)))) hs2 hsm rfl)
    have d4 : w2.cell? ⟨sb, x, none⟩ = some (.int .i64 1) := hg2.seen.cell hx2
    have HX2 := Lib.hid hx2
    clear hg2 hs2 hsm hgr hr1 hg1 hS1 hAt hD HLK hx2
    generalize mtA sh P S i k = R at *
    cases R
    · go_wp2
      go_ret
      show _ ∧ _
      rw [show L2.set x (.int .i64 (yes false)) = L2 from set_same HX2.out] at HDn
      exact ⟨rfl, L2, hg2'.out, HDn.out.1, HDn.out.2.1, hgr2.out⟩
    · have hg3 : Hid (GlobAt (w2.setCell ⟨sb, x, none⟩ (.int .i64 2)) gb sb N c sh P S (L2.set x (.int .i64 2))) := hg2'.out.set x _
      have hr3 : Hid (w.grownBy (w2.setCell ⟨sb, x, none⟩ (.int .i64 2)) (some sb)) := grownBy_trans hgr2.out (grown_set _ _ _ _)
      go_upto_region 6 with (fail)
      generalize w2.setCell ⟨sb, x, none⟩ (.int .i64 2) = w3 at *
      clear d3 d4 d5
      have d3 : w3.cell? ⟨gb, 3, none⟩ = some (.slice (some ⟨sb, 0, none⟩) N c) := hg3.out.glob.cell rfl
      have d4 : w3.cell? ⟨sb, x, none⟩ = some (.int .i64 2) := hg3.out.seen.cell HDn.out.2.2
      go_wp2
      go_ret
      show _ ∧ _
      exact ⟨rfl, _, hg3.out, HDn.out.1, HDn.out.2.1, hr3.out⟩
  · have e0 : (v == 0) = false := by simpa using hv0
    have e0' : (v != 0) = true := by simpa using hv0
    have hvy : v = yes (mtA sh P S i k) := hv2.resolve_left hv0
    have hI : Hid (GlI gb sb N c sh P S L (i + k) w w) := GlI.start HG.out HS.out
    clear hv2 hv0 hD hS1 hAt HG HS HLK
    generalize mtA sh P S i k = R at *
    subst hvy
    cases R
    · have y1 : yes false = 1 := rfl
      rw [y1] at e0 e0' c4
      go_enter Tryd.func53, Tryd.ntmps53
      go_wp2
      go_ret
      show _ ∧ _
      exact ⟨rfl, hI.out⟩
    · have y1 : yes true = 2 := rfl
      rw [y1] at e0 e0' c4
      go_enter Tryd.func53, Tryd.ntmps53
      go_wp2
      go_ret
      show _ ∧ _
      exact ⟨rfl, hI.out⟩
end Go.Proofs.YtcanlgcifnjfaaaDoor
