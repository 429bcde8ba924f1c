/- The walk of WrapUnwraps. -/
import Derived.Test.YtpkgcnklpnficaaY5
namespace Go.Proofs.Ytpkgcnklpnficaa
open Go.ChangeShapes Go.WideShapes Go.ChangeAt Go.RowKit Go.Hd

def OwnU (w0 : World) (r : Option Nat) (n : Nat) (am : Option Addr) (i : Value) (wr : World) : Prop :=
  ∃ k : Nat, k ≤ n ∧ i = .int .i64 k ∧ w0.grownBy wr r ∧ (0 < n → ∃ mb, am = some ⟨mb, 0, none⟩ ∧ r = some mb ∧ Byts 5 wr mb n)
set_option maxHeartbeats 2000000 in
theorem unwraps_law (a : Option Addr) (n c : Nat) (l0 : List UInt8) (w : World) (hn : n = l0.length) (hc : n ≤ c) (hl0 : Row w a (l0.map b8)) :
    Calls Try.prog 4 #[.slice a n c] w fun e w' => e = .returned (.bool true) ∧ Below w.heap.size w w' := by
  subst hn
  have hl : Row w a ((l0.take 1500).map b8) := by rw [List.map_take]; exact hl0.take 1500
  have hk : (l0.take 1500).length ≤ 1500 := List.length_take_le _ _
  have hkc : (l0.take 1500).length ≤ c := by simp; omega
  have hml : min l0.length 1500 = (l0.take 1500).length := by simp; omega
  generalize l0.take 1500 = l at *
  go_enter Try.func4, Try.ntmps4
  go_wp2_with fail
  refine (cut_any a _ c 1500 w (by decide) hc).mono ?_
  rintro e w1 ⟨rfl, rfl⟩
  go_wp2_with fail
  refine (copy_any a _ c l _ (by first | rfl | exact hml) hl (by omega)).mono ?_
  rintro e w1 ⟨v, rfl, hF⟩
  obtain ⟨a1, c1, rfl, hr, hb, _, hc1⟩ := hF.open
  have hl1 := hl.below hb
  clear hF
  go_wp2_with fail
  refine (unwrap_any (l := l) (by rfl) hr hc1 (by omega)).mono ?_
  rintro e w2 ⟨v2, rfl, hF2⟩
  obtain ⟨am, cm, rb, rfl, hcm, hcm2, hrb, hrowb, hbb⟩ := own_byts hF2.1
  have hb2 := hF2.2
  have hl2 := hl1.below hb2
  have hr2 := hr.below hb2
  clear hF2
  go_wp2_with fail
  refine (runwrap_any (l := l) (by first | rfl | exact hml) hl2 (by omega) (by omega)).mono ?_
  rintro e w3 ⟨a3, c3, rfl, hr3, hb3⟩
  have hl3 := hl2.below hb3
  have hrr3 := hr2.below hb3
  have hrowb3 := hrowb.below hb3
  generalize unwrapF l = F at *
  obtain ⟨d, f⟩ := F
  simp only at *
  have hdm : d.length ≤ maxLen := by omega
  have hdm2 : d.length ≤ 9223372036854775807 := by unfold maxLen at hdm; omega
  have hbb3 : 0 < d.length → ∃ mb, am = some ⟨mb, 0, none⟩ ∧ rb = some mb ∧ Byts 5 w3 mb d.length := by
    intro h0
    obtain ⟨mb, e1, e2, ys, k1, k2⟩ := hbb h0
    exact ⟨mb, e1, e2, ys, k1.below hb3, k2⟩
  clear hbb
  go_wp2_with fail
  refine (look_any (l := l) (by rfl) hrr3 hc1).mono ?_
  rintro e w4 ⟨rfl, rfl⟩
  go_wp2_with fail
  refine (rlook_any (l := l) (by first | rfl | exact hml) hl3 (by omega)).mono ?_
  rintro e w4 ⟨rfl, rfl⟩
  generalize lookF l = r at *
  obtain ⟨k, m, g⟩ := r
  simp only at *
  have e4 : (d == d) = true := by simp
  have e5 : (l == l) = true := by simp
  have e6 : (f == f) = true := by simp
  have e7 : (g == g) = true := by simp
  go_wp2_with fail
  refine (same_any (l := d) (m := d) (by rfl) (by rfl) hrowb3 hr3 hdm).mono ?_
  rintro e w5 ⟨rfl, n5, rfl⟩
  go_wp2_with fail
  refine (same_any (l := l) (m := l) (by rfl) (by first | rfl | exact hml) (hrr3.drewN n5) (hl3.drewN n5) (by unfold maxLen; omega)).mono ?_
  rintro e w6 ⟨rfl, n6, rfl⟩
  have hl6 := (hl3.drewN n5).drewN n6
  have hr6 := (hrr3.drewN n5).drewN n6
  have hb6 : Below w.heap.size w ((w3.drewN n5).drewN n6) := Below.drewN (Below.drewN (Gr.trans (Gr.trans hb hb2) hb3) n5) n6
  have hbb6 : 0 < d.length → ∃ mb, am = some ⟨mb, 0, none⟩ ∧ rb = some mb ∧ Byts 5 ((w3.drewN n5).drewN n6) mb d.length := by
    intro h0
    obtain ⟨mb, e1, e2, ys, k1, k2⟩ := hbb3 h0
    exact ⟨mb, e1, e2, ys, k1.below (Below.drewN (Gr.drewN w3 n5) n6), k2⟩
  have hb1s := hb.size
  have hra : 0 < l.length → (hd a).block < w1.heap.size ∧ (hd a1).block < w1.heap.size := fun h0 => ⟨hl1.block_lt (by simpa using h0), hr.block_lt (by simpa using h0)⟩
  clear hbb3 hl3 hl2 hl1 hl hr hr2 hrr3 hr3 hrowb hrowb3 hb hb2 hb3
  generalize (w3.drewN n5).drewN n6 = w7 at *
  go_wp2
  go_loopw [14] (fun i wq => OwnU w7 rb d.length am i wq) (fun i _ => d.length - (intOf i).toNat)
  case atStart => exact ⟨0, Nat.zero_le _, rfl, World.grownBy.refl _ _, hbb6⟩
  case round =>
    obtain ⟨j, hj, rfl, hgr, hby⟩ := hrel
    by_cases hlt : j < d.length
    · obtain ⟨mb, rfl, rfl, hbm⟩ := hby (by omega)
      obtain ⟨z, cz, cf⟩ := hbm.cell hlt
      have hjI : (j : Int) < d.length := by omega
      go_wp2
      first
        | exact ⟨⟨j + 1, by omega, (by first | rfl | go_num | (congr 1; omega)), grown_set hgr _ _, fun _ => ⟨mb, rfl, rfl, hbm.set j _⟩⟩, by simp [intOf] <;> omega⟩
        | (refine ⟨?_, by simp [intOf] <;> omega⟩; (repeat apply Exists.intro); exact ⟨⟨j + 1, by omega, (by first | rfl | go_num | (congr 1; omega)), grown_set hgr _ _, fun _ => ⟨mb, rfl, rfl, hbm.set j _⟩⟩, rfl⟩)
    · have hjI : ¬ (j : Int) < d.length := by omega
      have hb8 : Below w.heap.size w wr := Gr.ofOwn hb6 hgr (fun k hk => by have := (hrb k hk).1; omega)
      have hl8 : Row wr a (l.map b8) := hl6.keptFar hgr (fun h0 e => by have h1 := (hra (by simpa using h0)).1; have := (hrb _ e).1; omega)
      have hr8 : Row wr a1 (l.map b8) := hr6.keptFar hgr (fun h0 e => by have h1 := (hra (by simpa using h0)).2; have := (hrb _ e).1; omega)
      clear hby hbb6 hgr
      go_wp2_with fail
      refine (same_any (l := l) (m := l) (by rfl) (by first | rfl | exact hml) hr8 hl8 (by unfold maxLen; omega)).mono ?_
      rintro e w8 ⟨rfl, n8, rfl⟩
      go_wp2_with fail
      refine (lives9_any _).mono ?_
      rintro e w9 ⟨rfl, hb9⟩
      go_wp2
      go_ret
      exact ⟨rfl, Gr.transN hb8 hb9⟩
section
variable {H : Type} {enc : TypeId × Value → H} {W : World} {base : Nat} {v0 v1 : Value} {d0 d1 : DataW H} {p0 p1 : List MemPlace}
theorem wrapUnwraps_calls (o0 : Value.okWide Try.prog W .any base 22 v0) (h0 : DataW.Trod enc Try.prog W 0 (fun _ => true) true 22 v0 d0 p0) :
    Calls Try.prog 4 #[v0] W fun e W' => e = .returned (.bool true) ∧ Below W.heap.size W W' := by
  obtain ⟨a, n, c, l, rfl, hn, hc, _, hl⟩ := open_byt Try.underlying22 Try.underlying5 (by kernel_rfl) o0 h0
  exact unwraps_law a n c l W hn hc hl
end
end Go.Proofs.Ytpkgcnklpnficaa
