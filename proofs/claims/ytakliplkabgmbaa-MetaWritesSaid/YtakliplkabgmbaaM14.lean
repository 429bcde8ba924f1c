/- Layer 23: MetaWrites. -/
import Derived.Test.YtakliplkabgmbaaM13
import Derived.Test.YtakliplkabgmbaaM6
set_option maxRecDepth 20000
namespace Go.Proofs.Ytakliplkabgmbaa
open Go.ChangeShapes Go.WideShapes Go.ChangeAt Go.RowKit Go.Hd
attribute [local go_sem ↓] h_ldAB h_stAB h_alAB h_bsAB
attribute [local go_sem] r_ldAB r_stAB r_alAB r_bsAB
theorem cutL_one (x : Abt) : cutL [x] 1 = [cutX x] := rfl
theorem prt_take {w : World} {a : Option Addr} {ps : List Prt} (n : Nat) (hk : ∀ p ∈ ps, PrtOk p) (h : Row w a (ps.map prtC).flatten) : Row w a ((ps.take n).map prtC).flatten := by
  have e : ((ps.take n).map prtC).flatten = ((ps.map prtC).flatten).take (n * 33) := by
    rw [List.map_take]
    have : ∀ {xs : List (List Value)} (n : Nat), (∀ x ∈ xs, x.length = 33) → (xs.take n).flatten = xs.flatten.take (n * 33) := by
      intro xs
      induction xs with
      | nil => intro n _; simp
      | cons x xs ih =>
        intro n hs
        cases n with
        | zero => simp
        | succ n =>
          rw [List.take_succ_cons, List.flatten_cons, List.flatten_cons, ih n (fun y hy => hs y (by simp [hy])), Nat.add_mul, Nat.one_mul, Nat.add_comm (n * 33) 33]
          have := hs x (by simp)
          rw [← this, List.take_length_add_append]
    exact this n (prts33 hk)
  rw [e]
  exact h.take _
theorem mwrites_law {a a3 : Option Addr} {c c3 : Nat} {l : List Abt} {x : Abt} {ps : List Prt} {W : World} (hc3 : ps.length ≤ c3) (hlm : l.length ≤ maxLen) (hr : Row W a (l.map abtC).flatten) (hr3 : Row W a3 (ps.map prtC).flatten) (hok : ∀ x ∈ l, AbtOk x) (hx : AbtOk x) (hps : ∀ p ∈ ps, PrtOk p) :
    Calls Try.prog 4 #[.slice a l.length c, .agg (List.toArray (abtC x)), .slice a3 ps.length c3] W fun e W' => e = .returned (.bool true) ∧ Below W.heap.size W W' := by
  have x1 : (List.toArray (abtC x)).size = 37 := by simpa using abtC_len hx
  have x2 : OneC (List.toArray (abtC x)) := all_oneCell_toArray (abtC_one x)
  have hB0 : Blk (W.alloc (.cells (List.toArray (abtC x)) 31)) W.heap.size 31 (abtC x) := Blk.new _ _ _
  have hb0 : Below W.heap.size W (W.alloc (.cells (List.toArray (abtC x)) 31)) := (Below.refl _ _).alloc (Nat.le_refl _) _
  have hr0 := hr.below hb0
  have hs0 : (W.alloc (.cells (List.toArray (abtC x)) 31)).heap.size = W.heap.size + 1 := by simp
  have hcut := fun w' (hb : Below W.heap.size W w') => abtCut_any (c := c) (m := 70) rfl (hr.below hb) hok (by decide) hlm
  have hfew := fun w' => prtFew_any (a := a3) (c := c3) (l := ps) (w := w') rfl hc3
  have hP3 := prt_take 70 hps hr3
  have hPok : ∀ p ∈ ps.take 70, PrtOk p := fun p h => hps p (List.mem_of_mem_take h)
  have hPl : (ps.take 70).length ≤ 1000 := by simp; omega
  have hLok : ∀ y ∈ cutL l 70, AbtOk y := cutL_ok hok
  have hLn : ∀ y ∈ cutL l 70, y.name.length ≤ 1000 := cutL_name
  have hLl : (cutL l 70).length ≤ 1000 := Nat.le_trans cutL_len (by decide)
  have hcx := cutX_ok hx
  have hXn : (cutX x).name.length ≤ 1000 := cutL_name (l := [x]) (m := 1) _ (by simp [cutL])
  have z1 : (List.toArray (abtC (cutX x))).size = 37 := by simpa using abtC_len hcx
  have z2 : OneC (List.toArray (abtC (cutX x))) := all_oneCell_toArray (abtC_one _)
  have hAl := abtC_len hcx
  have hcut2 : ∀ w1 w2 : World, w2 = w1.alloc (.cells (List.toArray (abtC x)) 31) → Calls Try.prog 12 #[.slice (some ⟨w1.heap.size, 0, none⟩) 1 1, .int .i64 1] w2 fun e w' => ∃ p2 c', e = .returned (.slice (some p2) 1 c') ∧ Row w' (some p2) (abtC (cutX x)) ∧ Below w1.heap.size w1 w' := by
    rintro w1 w2 rfl
    have hRx : Row (w1.alloc (.cells (List.toArray (abtC x)) 31)) (some ⟨w1.heap.size, 0, none⟩) ([x].map abtC).flatten := by
      have := (Blk.new w1 31 (List.toArray (abtC x))).row; simpa using this
    refine (abtCut_any (c := 1) (m := 1) (l := [x]) rfl hRx (by simp; exact hx) (by decide) (by simp [maxLen])).mono ?_
    rintro e w' ⟨a', c', rfl, h1, _, h2⟩
    rw [cutL_one] at h1 ⊢
    have h3 : Row w' a' (abtC (cutX x)) := by simpa using h1
    have h4 := h3.isSome (i := 0) (by rw [hAl]; decide)
    obtain ⟨p2, rfl⟩ := Option.isSome_iff_exists.1 h4
    exact ⟨p2, c', rfl, h3, ((Below.refl _ _).alloc (Nat.le_refl _) _).trans (h2.mono (by simp))⟩
  have hml := fun (b1 : Option Addr) (d1 : Nat) (w' : World) (h : Row w' b1 ((cutL l 70).map abtC).flatten) => mlist_any (c := d1) rfl h hLok hLl
  have hrl := fun (b1 : Option Addr) (d1 : Nat) (w' : World) (h : Row w' b1 ((cutL l 70).map abtC).flatten) => rmlist_any (c := d1) rfl h hLok hLn hLl
  have hma := fun (d3 : Nat) (w' : World) (h : Row w' a3 ((ps.take 70).map prtC).flatten) => march_any (c := d3) rfl h hPok hcx hPl
  have hra := fun (d3 : Nat) (w' : World) (h : Row w' a3 ((ps.take 70).map prtC).flatten) => rmarch_any (c := d3) rfl h hPok hcx hXn hPl
  have q1' := fun (w' : World) (h : Blk w' W.heap.size 31 (abtC x)) => ldOp_all (P := Try.prog) (ty := 31) h Try.underlying31 rfl (by rw [abtC_len hx]; exact sizeAB)
  have qs' := fun (w' : World) (h : Blk w' W.heap.size 31 (abtC x)) => stOp_blk (P := Try.prog) (ty := 31) (o := 0) (cs := abtC (cutX x)) h (by rw [abtC_len hx, hAl]; decide) (by rw [hAl]; exact sizeAB) (abtC_one _)
  have hxl := abtC_len hx
  have q3' := fun (w' : World) (h : Blk w' W.heap.size 31 (abtC (cutX x))) => ldOp_all (P := Try.prog) (ty := 31) h Try.underlying31 rfl (by rw [hAl]; exact sizeAB)
  have hlv := fun w' => lives23_any w'
  clear hr hr0 hok hx hps hlm hc3 hLok hLn hLl hPok hPl hXn
  generalize abtC (cutX x) = cx at *
  generalize hR1 : metaL (cutL l 70) = R1 at *
  generalize metaA (cutX x) (ps.take 70) = R2 at *
  generalize ps.take 70 = P3 at *
  generalize hcl : cutL l 70 = L1 at *
  go_enter Try.func4, Try.ntmps4
  go_wp2_with fail
  refine (hcut _ hb0).mono ?_
  rintro e w1 ⟨b1, d1, rfl, hR1, hbk1, hb1⟩
  go_wp2_with fail
  refine (hfew _).mono ?_
  rintro e w2 ⟨d3, rfl, rfl⟩
  have hB1 := hB0.below hb1
  have q1 := q1' _ hB1
  go_wp2_with fail
  refine (hcut2 w1 _ rfl).mono ?_
  rintro e w3 ⟨p2, d2, rfl, hR2, hb3⟩
  have hB3 := hB1.below hb3
  have q2 : (ldOp 31 (.pointer (some p2))).run Try.prog w3 = .ok (.agg cx.toArray) w3 := ldOp_at (P := Try.prog) (ty := 31) (cs := cx) (fun j v hv => hR2.2 j v hv) Try.underlying31 rfl (by rw [hAl]; exact sizeAB)
  obtain ⟨w4, qs, hB4, hg4⟩ := qs' _ hB3
  have hB4' : Blk w4 W.heap.size 31 cx := by
    have := hB4; simp only [List.take_zero, List.nil_append, Nat.zero_add, hAl, ← hxl, List.drop_length, List.append_nil] at this; exact this
  have q4 := q3' _ hB4'
  have hR4 : Row w4 b1 (L1.map abtC).flatten := (hR1.below hb3).grown hg4 (fun h => by
    have := hbk1 (by
      rcases Nat.eq_zero_or_pos L1.length with h0 | h0
      · obtain rfl := List.eq_nil_of_length_eq_zero h0; simp at h
      · exact h0)
    omega)
  have hP1 := hP3.below (hb0.trans (hb1.mono (by omega)))
  have hP4 : Row w4 a3 (P3.map prtC).flatten := (hP1.below hb3).grown hg4 (fun h => by have := hP3.block_lt h; omega)
  have hbW4 : Below W.heap.size W w4 := (hb0.trans ((hb1.mono (by omega)).trans (hb3.mono (by have := hb1.size; omega)))).trans ⟨hg4.os, hg4.tape, hg4.output, hg4.size, fun i hi => hg4.block i (by have := hb1.size; have := hb3.size; omega) (fun e => by cases e; omega)⟩
  have hb4 := Below.refl w4.heap.size w4
  clear hB4 hg4 hB3 hB1 hB0 hb1 hb3 hR1 hP1 hP3 hcut hcut2 hfew q1' qs' hbk1 hR2
  go_wp2_with fail
  refine (hml _ _ _ hR4).mono ?_
  rintro e w5 ⟨u1, rfl, hu1, hb5⟩
  go_wp2_with fail
  refine (hrl _ _ _ (hR4.below hb5)).mono ?_
  rintro e w6 ⟨u2, rfl, hu2, hb6⟩
  have hb46 := Gr.trans hb5 hb6
  have q6 := q3' _ (hB4'.below hb46)
  go_wp2_with fail
  refine (hma _ _ (hP4.below hb46)).mono ?_
  rintro e w7 ⟨u3, rfl, hu3, hb7⟩
  have hb47 := Gr.trans hb46 hb7
  have q7 := q3' _ (hB4'.below hb47)
  go_wp2_with fail
  refine (hra _ _ (hP4.below hb47)).mono ?_
  rintro e w8 ⟨u4, rfl, hu4, hb8⟩
  have hb48 := Gr.trans hb47 hb8
  obtain ⟨a1, c1, rfl, hc1, hm1, hu1⟩ := (hu1.below hb6).below (Gr.trans hb7 hb8)
  obtain ⟨a2, c2, rfl, hc2, hm2, hu2⟩ := hu2.below (Gr.trans hb7 hb8)
  obtain ⟨a4, c4, rfl, hc4, hm4, hu4⟩ := hu4
  obtain ⟨a5, c5, rfl, hc5, hm5, hu3⟩ := hu3.below hb8
  have hsm := same_any (c := c1) (d := c2) rfl rfl hu1 hu2 (by omega)
  have hsm2 := fun n => same_any (c := c5) (d := c4) (w := w8.drewN n) rfl rfl (hu3.drewN n) (hu4.drewN n) (by omega)
  rw [beq_self_eq_true] at hsm
  simp only [beq_self_eq_true] at hsm2
  clear hml hrl hma hra q3' q4 q6 q7 qs q1 q2 hb5 hb6 hb7 hb8 hb46 hb47 hP4 hR4 hB4' hu1 hu2 hu3 hu4
  go_wp2_with fail
  refine hsm.mono ?_
  rintro e w9 ⟨rfl, n1, rfl⟩
  go_wp2_with fail
  refine (hsm2 n1).mono ?_
  rintro e w10 ⟨rfl, n2, rfl⟩
  go_wp2_with fail
  refine (hlv _).mono ?_
  rintro e w11 ⟨rfl, hb11⟩
  go_wp2
  go_ret
  have hbd : Below w8.heap.size w8 (w8.drewN (n1 + n2)) := Below.drewN (Below.refl _ _) _
  exact ⟨rfl, hbW4.trans ((Gr.trans hb48 (Gr.trans hbd hb11)).mono hbW4.size)⟩
section
variable {H : Type} {enc : TypeId × Value → H} {W : World} {base : Nat} {v0 v1 v2 : Value} {d0 d1 d2 : DataW H} {p0 p1 p2 : List MemPlace}
theorem metaWrites_calls (o0 : Value.okWide Try.prog W .any base 27 v0) (h0 : DataW.Trod enc Try.prog W 0 (fun _ => true) true 27 v0 d0 p0)
    (o1 : Value.okWide Try.prog W .any base 31 v1) (h1 : DataW.Trod enc Try.prog W 0 (fun _ => true) true 31 v1 d1 p1)
    (o2 : Value.okWide Try.prog W .any base 32 v2) (h2 : DataW.Trod enc Try.prog W 0 (fun _ => true) true 32 v2 d2 p2) :
    Calls Try.prog 4 #[v0, v1, v2] W fun e W' => e = .returned (.bool true) ∧ Below W.heap.size W W' := by
  obtain ⟨a1, n1, c1, l1, rfl, rfl, hc1, hm1, r1, k1⟩ := open_all (C := abtC) Try.underlying27 (by kernel_rfl) abt_of o0 h0
  obtain ⟨x, rfl, hx⟩ := open_abt o1 h1
  obtain ⟨a2, n2, c2, l2, rfl, rfl, hc2, hm2, r2, k2⟩ := open_all (C := prtC) Try.underlying32 (by kernel_rfl) prt_of o2 h2
  exact mwrites_law hc2 (by omega) r1 r2 k1 hx k2
end
end Go.Proofs.Ytakliplkabgmbaa
