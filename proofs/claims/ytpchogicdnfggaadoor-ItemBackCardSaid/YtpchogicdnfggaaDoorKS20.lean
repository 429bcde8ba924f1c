/- Joined: what one statement of this layer stands on, part 20 of 20; nothing is assumed. -/
import Derived.Deep.CutBlock
import Derived.Deep.DeepCutAuto
import Derived.Test.YtpchogicdnfggaaDoorKS4
import Derived.Test.YtpchogicdnfggaaDoorKS14
import Derived.Test.YtpchogicdnfggaaDoorKS19
set_option maxRecDepth 20000
namespace Go.Proofs.YtpchogicdnfggaaDoor
open Go.RowKit Go.Hd
attribute [local go_sem ↓] h_ldIT h_stIT h_alIT
attribute [local go_sem] r_ldIT r_stIT r_alIT
theorem ItsAt.load {w : World} {a : Option Addr} {l : List Itm} (h : ItsAt w a l) {j : Nat} (hj : j < l.length) : ∃ cs, ItAt w cs l[j] ∧ a.isSome = true ∧ ∀ w', Below w.heap.size w w' → (ldOp 24 (.pointer (some ((hd a).add (j * 7))))).run Tryd.prog w' = .ok (.agg (List.toArray cs)) w' := by
  obtain ⟨css, h1, h2, h3, h4⟩ := h
  have hjc : j < css.length := by omega
  have e1 : css[j]? = some css[j] := List.getElem?_eq_getElem hjc
  have c7 := h3 _ (List.getElem_mem hjc)
  refine ⟨css[j], h4 j _ _ e1 (List.getElem?_eq_getElem hj), h2.elemSome h3 (by decide) hjc, fun w' hb => ?_⟩
  exact ldOp_at (P := Tryd.prog) (ty := 24) (cs := css[j]) ((h2.below hb).elem h3 e1) Tryd.underlying24 rfl (by rw [c7]; exact sizeIT)
end Go.Proofs.YtpchogicdnfggaaDoor
set_option maxRecDepth 20000
namespace Go.Proofs.YtpchogicdnfggaaDoor
open Go.RowKit Go.Hd Go.ChangeShapes Go.WideShapes Go.ChangeAt
theorem fewIt_small {l : List Itm} {m : Nat} (hm : m ≤ 1000) : (fewIt l m).length ≤ 1000 ∧ ∀ x ∈ fewIt l m, x.path.length ≤ 1000000 ∧ x.parts.length ≤ 1000 := by
  refine ⟨by unfold fewIt; simp; omega, fun x hx => ?_⟩
  obtain ⟨y, _, rfl⟩ := List.mem_map.1 hx
  have := cutI_small y
  omega
end Go.Proofs.YtpchogicdnfggaaDoor
set_option maxRecDepth 20000
namespace Go.Proofs.YtpchogicdnfggaaDoor
open Go.RowKit Go.Hd Go.ChangeShapes Go.WideShapes Go.ChangeAt
theorem strE_all : ∀ {L : List Itm}, strE L = 0 → ∀ x ∈ L, checkI x = 0
  | [], _, x, hx => by cases hx
  | y :: L, h, x, hx => by
    unfold strE at h
    by_cases hc : checkI y = 0
    case neg => rw [if_pos hc] at h; exact absurd h hc
    rw [if_neg (fun h => h hc)] at h
    by_cases he : (encF (itV y)).2 = 0
    case neg => rw [if_pos he] at h; exact absurd h he
    rw [if_neg (fun h => h he)] at h
    rcases List.mem_cons.1 hx with rfl | hx
    · exact hc
    · exact strE_all h x hx
theorem streamF_ok {L : List Itm} (h : (streamF L).2 = 0) : ∀ x ∈ L, checkI x = 0 := by
  unfold streamF at h
  by_cases h1 : 100 < L.length
  · rw [if_pos h1] at h; cases h
  rw [if_neg h1] at h
  by_cases h2 : strE L = 0
  · exact strE_all h2
  · rw [if_pos h2] at h; exact absurd h h2
theorem sm_itV {x : Itm} (hp : x.path.length ≤ 65536) (ht : x.target.length ≤ 65536) (hl : x.parts.length ≤ 65536) (hi : ∀ p ∈ x.parts, p.id.length = 32) : Sm (itV x) := by
  have k := fun n => sm_plain 3 n [] (by simp)
  have t1 := sm_plain 5 0 x.path hp
  have t2 := sm_plain 5 0 x.target ht
  have c : Sm (pList (x.parts.map ptV)) := sm_list _ (by simpa using hl) (by
    intro y hy
    obtain ⟨p, hp, rfl⟩ := List.mem_map.1 hy
    refine sm_list _ (by simp) ?_
    intro z hz
    simp only [List.mem_cons, List.not_mem_nil, or_false] at hz
    rcases hz with rfl | rfl
    · exact sm_byt _ (by rw [hi p hp]; omega)
    · exact k _)
  unfold itV
  split
  · exact sm_zero
  · split
    · refine .mk (by simp) (by simp) (by simp) ?_ (by simp)
      intro y hy
      simp only [List.mem_cons, List.not_mem_nil, or_false] at hy
      rcases hy with rfl | rfl | rfl | rfl | rfl | rfl
      · exact c
      · exact k _
      · exact k _
      · exact t1
      · exact k _
      · exact k _
    · split
      · refine .mk (by simp) (by simp) (by simp) ?_ (by simp)
        intro y hy
        simp only [List.mem_cons, List.not_mem_nil, or_false] at hy
        rcases hy with rfl | rfl | rfl | rfl
        · exact k _
        · exact k _
        · exact t1
        · exact k _
      · refine .mk (by simp) (by simp) (by simp) ?_ (by simp)
        intro y hy
        simp only [List.mem_cons, List.not_mem_nil, or_false] at hy
        rcases hy with rfl | rfl | rfl | rfl | rfl
        · exact k _
        · exact t2
        · exact k _
        · exact t1
        · exact k _
theorem ItsAt.oks {w : World} {a : Option Addr} {l : List Itm} (h : ItsAt w a l) : ∀ x ∈ l, ItmOk x := by
  intro x hx
  obtain ⟨i, hi, rfl⟩ := List.getElem_of_mem hx
  obtain ⟨cs, _, ⟨_, _, _, _, _, _, hok⟩, _⟩ := h.get hi
  exact hok
theorem few_stream2 (l : List Itm) : (streamF (fewIt l 8)).1.length ≤ 100000000 := by
  have hl : (fewIt l 8).length ≤ 8 := by unfold fewIt; simp; omega
  have hs := strB_len (fewIt l 8)
  unfold streamF
  split
  · simp
  · split
    · simp
    · split
      · simp only; omega
      · simp
theorem few_small (l : List Itm) : ∀ x ∈ fewIt l 8, x.path.length ≤ 250 ∧ x.target.length ≤ 250 ∧ x.parts.length ≤ 70 := by
  intro x hx
  obtain ⟨y, _, rfl⟩ := List.mem_map.1 hx
  unfold cutI
  simp; omega
attribute [local go_sem ↓] h_ldIT h_stIT h_alIT
attribute [local go_sem] r_ldIT r_stIT r_alIT
set_option maxHeartbeats 4000000 in
theorem iback_law {a : Option Addr} {n c : Nat} {l : List Itm} {W : World} (hn : n = l.length) (hI : ItsAt W a l) (hl : l.length ≤ maxLen) : Calls Tryd.prog 7 #[.slice a n c] W fun e W' => e = .returned (.bool true) ∧ Below W.heap.size W W' := by
  subst hn
  have zi := zIT_size
  have hfew := fewI_any (c := c) (m := 8) rfl hI hl (by decide)
  have e8 : ((8 : Nat) : Int) = 8 := rfl
  rw [e8] at hfew
  clear e8
  obtain ⟨hs1, hs2⟩ := fewIt_small (l := l) (m := 8) (by decide)
  have hsm := few_small l
  have hbl := few_stream2 l
  have hlv := fun w' => lives21_any w'
  have hst := fun (a : Option Addr) (c : Nat) (w : World) (h : ItsAt w a (fewIt l 8)) => stream_any (c := c) rfl h hs2 (by omega)
  have hbad : Hid ((streamF (fewIt l 8)).2 ≠ 0 → (streamF (fewIt l 8)).1 = []) := stream_bad
  have hthere : Hid ((streamF (fewIt l 8)).2 = 0 → (∀ x ∈ fewIt l 8, ItmOk x) → itemsF (streamF (fewIt l 8)).1 = (fewIt l 8, 0)) := fun h hok => stream_there (by rw [← h]) hok
  have hck : Hid ((streamF (fewIt l 8)).2 = 0 → ∀ x ∈ fewIt l 8, checkI x = 0) := streamF_ok
  have HS2 := Lib.hid hs2
  have HS1 : Hid ((fewIt l 8).length ≤ 1000) := hs1
  have HSM := Lib.hid hsm
  have HBL := Lib.hid hbl
  clear hI hs1 hs2 hsm hbl hl
  generalize (streamF (fewIt l 8)).1 = FB at *
  generalize (streamF (fewIt l 8)).2 = FE at *
  generalize fewIt l 8 = L at *
  go_enter Tryd.func7, Tryd.ntmps7
  go_wp2_with fail
  refine hfew.mono ?_
  rintro e w1 ⟨u, rfl, hO, hb1⟩
  obtain ⟨a1, c1, rfl, k1, k2, hI1⟩ := hO.at
  clear hO hfew k1 k2
  go_wp2_with fail
  refine (hst a1 c1 w1 hI1).mono ?_
  rintro e w2 ⟨u2, rfl, ⟨a2, c2, rfl, _, _, hr2⟩, hb2⟩
  have hI2 := hI1.below hb2
  have hbW2 := hb1.trans (hb2.mono hb1.size)
  clear hI1 hb2 hb1 hst
  by_cases hE : FE = 0
  case neg =>
    have t1 : (FE != 0) = true := by simpa using hE
    have hM := hbad.out hE
    subst hM
    clear hbad hthere hck hE hr2
    go_wp2_with fail
    refine (hlv _).mono ?_
    rintro e w5 ⟨rfl, hb5⟩
    go_wp2
    go_ret
    exact ⟨rfl, hbW2.trans (hb5.mono hbW2.size)⟩
  case pos =>
  subst hE
  have hoks := hI2.oks
  have hth := hthere.out rfl hoks
  have HC := Lib.hid (hck.out rfl)
  have HOK := Lib.hid hoks
  have hit := items_any (c := c2) rfl hr2 HBL.out
  rw [hth] at hit
  simp only at hit
  clear hbad hthere hck hoks hth hr2
  go_wp2_with fail
  refine hit.mono ?_
  rintro e w3 ⟨u3, rfl, hO3, hb3⟩
  obtain ⟨a3, c3, rfl, _, _, hI3⟩ := hO3.at
  have hI4 := hI2.below hb3
  have hbW3 := hbW2.trans (hb3.mono hbW2.size)
  have hsame := sameIs_any (c := c1) (d := c3) rfl rfl hI4 hI3 (fun x hx => by have := HSM.out x hx; omega) (by have := HS1.out; omega)
  clear hO3 hI2 hb3 hbW2 hI3 hit
  go_wp2_with fail
  refine hsame.mono ?_
  rintro e w4 ⟨rfl, hb4⟩
  have hI5 := Lib.hid (hI4.below hb4)
  have hbW4 := Lib.hid (hbW3.trans (hb4.mono hbW3.size))
  clear hI4 hb4 hbW3 hsame
  go_wp2
  go_loopw [7] (fun i wr => ∃ j : Nat, j ≤ L.length ∧ i = .int .i64 j ∧ Hid (Below w4.heap.size w4 wr)) (fun i _ => L.length - (intOf i).toNat)
  case atStart => exact ⟨0, Nat.zero_le _, rfl, Lib.hid (Below.refl _ _)⟩
  case round =>
    obtain ⟨j, hj, rfl, hb⟩ := hrel
    have j0 : (0 : Int) ≤ (j : Int) := by omega
    have jb : IntKind.i64.wrap ((j : Int) + 1) = (j : Int) + 1 := IntWalk.i64_in _ (by have := HS1.out; omega)
    by_cases hlt : j < L.length
    case neg =>
      have j1 : ¬ (j : Int) < (L.length : Int) := by omega
      have hbF := Lib.hid (hbW4.out.trans (hb.out.mono hbW4.out.size))
      clear hb
      go_wp2_with fail
      refine (hlv _).mono ?_
      rintro e w5 ⟨rfl, hb5⟩
      go_wp2
      go_ret
      exact ⟨rfl, hbF.out.trans (hb5.mono hbF.out.size)⟩
    case pos =>
      have j1 : (j : Int) < (L.length : Int) := by omega
      obtain ⟨cs, hIt, s1, hld⟩ := (hI5.out.below hb.out).load hlt
      have q1 := hld _ (Below.refl _ _)
      have hx := List.getElem_mem hlt
      have hP := HS2.out _ hx
      have hSx := HSM.out _ hx
      have hokx := HOK.out _ hx
      have hcx := HC.out _ hx
      have hof := of_itV hcx (fun p hp => (hokx.parts p hp).id)
      have hSm := sm_itV (x := L[j]) (by omega) (by omega) (by omega) (fun p hp => (hokx.parts p hp).id)
      generalize L[j] = x at *
      clear hx hokx hcx
      go_wp2_with fail
      refine (ivalue_at hIt hP.2 hP.1).mono ?_
      rintro e w6 ⟨cv, rfl, hV, hb6⟩
      have hofc := iof_any hV.at hSm w6 (Below.refl _ _)
      unfold OfP at hofc
      rw [hof] at hofc
      simp only at hofc
      clear hof hSm hV q1
      go_wp2_with fail
      refine hofc.mono ?_
      rintro e w7 ⟨ds, rfl, hD, hb7⟩
      have s7 := hD.at.len
      have e7 : (List.toArray ds).size = 7 := by simpa using s7
      have eo : OneC (List.toArray ds) := all_oneCell_toArray hD.at.one
      have hbA : Below w7.heap.size w7 (w7.alloc (.cells (List.toArray ds) 24)) := (Below.refl _ _).alloc (Nat.le_refl _) _
      have hXB : Blk (w7.alloc (.cells (List.toArray ds) 24)) w7.heap.size 24 ds := Blk.new _ _ _
      have hb69 := Gr.trans (Gr.trans hb6 hb7) hbA
      have hD9 := (hD.below hbA).at
      have hIt9 := hIt.below hb69
      have hld9 := hld _ (hb69.trans ((Below.drewN (Below.refl _ _) 1).mono hb69.size))
      have hbN := Lib.hid (hb.out.trans (hb69.mono hb.out.size))
      clear hbA hb6 hb7 hb69 hD hIt hld hofc hb
      go_upto_region 12 with (fail)
      generalize w7.alloc (.cells (List.toArray ds) 24) = w9 at *
      generalize w7.heap.size = qx at *
      have lX := ldOp_all (P := Tryd.prog) (ty := 24) (hXB.drewN 1) Tryd.underlying24 rfl (by rw [s7]; exact sizeIT)
      have hsi := sameI_any (w := w9.drewN 1) (hD9.below (Below.drewN (Below.refl _ _) 1)) (hIt9.below (Below.drewN (Below.refl _ _) 1)) (by omega)
      have hbN2 := Lib.hid (Below.drewN hbN.out 1)
      clear hD9 hIt9 hXB hbN
      refine wp_region_still_tail 8 (by kernel_rfl) (by kernel_rfl) ?_
      simp only [List.take_succ_cons, List.take_zero, List.drop_succ_cons, List.drop_zero]
      change wpStill _ _ (w9.drewN 1) _ _ _
      repeat still_step
      try refine wpStill_nil ?_
      change wpList _ _ _ _ _ (w9.drewN 1)
      go_wp2_with fail
      refine hsi.mono ?_
      rintro e w10 ⟨rfl, hb10⟩
      have hbN3 := Lib.hid (hbN2.out.trans (hb10.mono hbN2.out.size))
      clear hbN2 hb10 hsi lX hld9
      go_wp2
      first
        | exact ⟨⟨j + 1, by omega, (by first | rfl | go_num | (congr 1; omega)), hbN3⟩, by simp [intOf] <;> omega⟩
        | (refine ⟨?_, by simp [intOf] <;> omega⟩; (repeat apply Exists.intro); exact ⟨⟨j + 1, by omega, (by first | rfl | go_num | (congr 1; omega)), hbN3⟩, rfl⟩)
theorem itemBack_calls {H : Type} {enc : TypeId × Value → H} {W : World} {base : Nat} {v0 : Value} {d0 : DataW H} {p0 : List MemPlace}
    (o0 : Value.okWide Tryd.prog W .any base 39 v0) (h0 : DataW.Trod enc Tryd.prog W 0 (fun _ => true) true 39 v0 d0 p0) :
    Calls Tryd.prog 7 #[v0] W fun e W' => e = .returned (.bool true) ∧ Below W.heap.size W W' := by
  obtain ⟨a, n, c, l, rfl, h1, h2, h3, hI⟩ := open_items o0 h0
  exact iback_law h1 hI (by omega)
end Go.Proofs.YtpchogicdnfggaaDoor
