/- Layer 05: PackReads. -/
import Derived.Test.YtjdkcocfjbjopaaV46
set_option maxRecDepth 20000
namespace Go.Proofs.Ytjdkcocfjbjopaa
open Go.RowKit Go.Hd Go.ChangeShapes Go.WideShapes Go.ChangeAt
attribute [local go_sem ↓] h_ldV h_stV h_alV
attribute [local go_sem] r_ldV r_stV r_alV

/-- Two values that were read, in their boxes; the row they were read from lies elsewhere. -/
structure TwoR (W wx : World) (p q r : Nat) (cs ds : List Value) (v : PV) : Prop where
  b1 : Blk wx q 26 cs
  b2 : Blk wx r 26 ds
  v1 : VAtP (fun b => p ≤ b) wx cs v
  v2 : VAtP (fun b => p ≤ b) wx ds v
  hq : p ≤ q ∧ p ≤ r ∧ W.heap.size ≤ p
  bel : Below W.heap.size W wx
theorem TwoR.go {W wx w' : World} {p q r : Nat} {cs ds : List Value} {v : PV} (h : TwoR W wx p q r cs ds v) (hb : Below wx.heap.size wx w') : TwoR W w' p q r cs ds v :=
  ⟨h.b1.below hb, h.b2.below hb, h.v1.grow hb, h.v2.grow hb, h.hq, h.bel.trans (hb.mono h.bel.size)⟩
theorem TwoR.far {W wx w' : World} {p q r : Nat} {cs ds : List Value} {v : PV} (h : TwoR W wx p q r cs ds v) {o : Option Nat} (hg : wx.grownBy w' o) (ho : ∀ b, o = some b → W.heap.size ≤ b ∧ b < p) : TwoR W w' p q r cs ds v :=
  ⟨h.b1.keptBy hg (fun e => by have := (ho _ e).2; have := h.hq.1; omega), h.b2.keptBy hg (fun e => by have := (ho _ e).2; have := h.hq.2.1; omega), h.v1.same (fun b hb hlt => hg.block b hlt (fun e => by have := (ho _ e.symm).2; omega)), h.v2.same (fun b hb hlt => hg.block b hlt (fun e => by have := (ho _ e.symm).2; omega)), h.hq, Below.grown h.bel hg h.bel.size (fun k hk => (ho k hk).1)⟩
theorem TwoR.l1 {W wx : World} {p q r : Nat} {cs ds : List Value} {v : PV} (h : TwoR W wx p q r cs ds v) : (ldOp 26 (.pointer (some ⟨q, 0, none⟩))).run Try.prog wx = .ok (.agg (List.toArray cs)) wx := ldOp_all (P := Try.prog) (ty := 26) h.b1 Try.underlying26 rfl (by rw [h.v1.len]; exact sizeV)
theorem TwoR.l2 {W wx : World} {p q r : Nat} {cs ds : List Value} {v : PV} (h : TwoR W wx p q r cs ds v) : (ldOp 26 (.pointer (some ⟨r, 0, none⟩))).run Try.prog wx = .ok (.agg (List.toArray ds)) wx := ldOp_all (P := Try.prog) (ty := 26) h.b2 Try.underlying26 rfl (by rw [h.v2.len]; exact sizeV)
theorem TwoR.same {W wx : World} {p q r : Nat} {cs ds : List Value} {v : PV} (h : TwoR W wx p q r cs ds v) : Calls Try.prog 14 #[.agg cs.toArray, .agg ds.toArray] wx fun e w' => e = .returned (.bool true) ∧ Below wx.heap.size wx w' := by
  have := rsame_any h.v1.at _ _ _ h.v2.at (Below.refl _ _)
  rw [sameV_refl] at this
  exact this
theorem inc8 (c : UInt8) : IntKind.u8.wrap ((c.toNat : Int) + 1) = ((c + 1).toNat : Int) := by
  have h := c.toNat_lt
  rw [IntKind.wrap_u8, UInt8.toNat_add]
  simp
set_option maxHeartbeats 8000000 in
theorem preads_law {W : World} {a0 : Option Addr} {c0 : Nat} {l : List UInt8} (hl : Row W a0 (l.map b8)) (hc0 : l.length ≤ c0) (hm0 : c0 ≤ maxLen) :
    Calls Try.prog 5 #[.slice a0 l.length c0] W fun e W' => e = .returned (.bool true) ∧ Below W.heap.size W W' := by
  have zs := zV_size
  have hO6 := oneC6
  obtain ⟨L, hL⟩ : ∃ L, L = l.take 2000 := ⟨_, rfl⟩
  have hLl : min l.length (2000 : Int).toNat = L.length := by rw [hL, List.length_take]; exact Nat.min_comm _ _
  have hcut := cut_any a0 l.length c0 2000 W (by decide) hc0
  rw [hLl] at hcut
  have hLr : Row W a0 (L.map b8) := by
    have := hl.take 2000
    rw [← List.map_take, ← hL] at this
    exact this
  have hLm : L.length ≤ 2000 := by rw [hL]; simp; omega
  have hLc : L.length ≤ c0 := by rw [hL]; simp; omega
  have HLM := Lib.hid hLm
  have hcp := copy_any a0 L.length c0 L W rfl hLr (by omega)
  clear hL hLl hl
  go_enter Try.func5, Try.ntmps5
  go_wp2_with fail
  refine hcut.mono ?_
  rintro e w0 ⟨rfl, rfl⟩
  clear hcut
  go_wp2_with fail
  refine hcp.mono ?_
  rintro e w1 ⟨u1, rfl, ⟨hown, hb1⟩⟩
  obtain ⟨a1, c1, rfl, hc1, hm1, hr1, hat1⟩ := owns_at hown
  have hdec := dec_any (w := w1) (c := c1) rfl hr1 (by have := HLM.out; unfold maxLen; omega)
  unfold DecP at hdec
  clear hcp
  go_wp2_with fail
  refine hdec.mono ?_
  rintro e w2 ⟨cs, rfl, hv1, hb2⟩
  have x6 : (List.toArray cs).size = 6 := hv1.len
  have xo : OneC (List.toArray cs) := all_oneCell_toArray hv1.one
  have hb3 : Below w2.heap.size w2 (w2.alloc (.cells (List.toArray cs) 26)) := (Below.refl _ _).alloc (Nat.le_refl _) _
  have B3 : Blk (w2.alloc (.cells (List.toArray cs) 26)) w2.heap.size 26 cs := by simpa using Blk.new w2 26 (List.toArray cs)
  have hb13 := Gr.trans hb2 hb3
  have hbW3 := Gr.trans hb1 hb13
  have hrd := rdec_any (w := w2.alloc (.cells (List.toArray cs) 26)) (c := c0) rfl (hLr.below hbW3) hLc hm0
  unfold DecP at hrd
  have hw21 : w1.heap.size ≤ w2.heap.size := hb2.size
  have hv3 := hv1.grow hb3
  clear hdec hv1 hb2 hb3 hr1
  go_upto_region 4 with (fail)
  generalize w2.alloc (.cells (List.toArray cs) 26) = w3 at *
  generalize w2.heap.size = q at *
  have hq3 := B3.lt
  go_wp2_with fail
  refine hrd.mono ?_
  rintro e w4 ⟨ds, rfl, hv4, hb4⟩
  have y6 : (List.toArray ds).size = 6 := hv4.len
  have yo : OneC (List.toArray ds) := all_oneCell_toArray hv4.one
  have hb5 : Below w4.heap.size w4 (w4.alloc (.cells (List.toArray ds) 26)) := (Below.refl _ _).alloc (Nat.le_refl _) _
  have B5 : Blk (w4.alloc (.cells (List.toArray ds) 26)) w4.heap.size 26 ds := by simpa using Blk.new w4 26 (List.toArray ds)
  have hb35 := Gr.trans hb4 hb5
  have hT : TwoR W (w4.alloc (.cells (List.toArray ds) 26)) w1.heap.size q w4.heap.size cs ds (decF L).1 := ⟨B3.below hb35, B5, hv3.grow hb35, (hv4.grow hb5).mono (fun b hb _ => by omega), ⟨hw21, by have := hb4.size; omega, hb1.size⟩, hbW3.trans (hb35.mono hbW3.size)⟩
  have hown5 := ownsRow_below hown (Gr.trans hb13 hb35)
  have hpl := decF_pln L
  have HB1 : Hid (∀ b, (Value.slice a1 L.length c1).ownBlock = some b → W.heap.size ≤ b ∧ b < w1.heap.size) := fun b hb => World.ownsRow.lt hown b hb
  clear hrd hv4 hb5 hb4 B5 B3 hv3 hb13 hb35 hbW3 hown hw21 hq3
  go_upto_region 5 with (fail)
  generalize w4.alloc (.cells (List.toArray ds) 26) = w5 at *
  generalize w4.heap.size = r at *
  generalize (decF L).2 = z at *
  generalize (decF L).1 = v at *
  have t1 : (z != z) = false := by simp
  have hs1 := hT.same
  have g1 := hT.l1
  have g2 := hT.l2
  have HOWN := Lib.hid hown5
  clear hown5 x6 xo y6 yo
  go_wp2_with fail
  refine hs1.mono ?_
  rintro e w6 ⟨rfl, hb6⟩
  have hT6 := hT.go hb6
  have hpl6 := rplain_any hT6.v1.at hpl _ (Below.refl _ _)
  have g3 := hT6.l1
  have HOWN6 := Lib.hid (ownsRow_below HOWN.out hb6)
  clear hs1 g1 g2 hT
  go_wp2_with fail
  refine hpl6.mono ?_
  rintro e w7 ⟨rfl, hb7⟩
  have hT7 := hT6.go hb7
  have HOWN7 := Lib.hid (ownsRow_below HOWN6.out hb7)
  obtain ⟨a1', c1', hu, _, _, hr7, _⟩ := owns_at HOWN7.out
  have hsm := same_any (w := w7) (a := a1) (c := c1) (d := c0) (l := L) (m := L) rfl rfl (by injection hu with h1 h2 h3; rw [h1]; exact hr7) (hLr.below hT7.bel) (by have := HLM.out; unfold maxLen; omega)
  rw [show (L == L) = true by simp] at hsm
  clear hpl6 g3 hT6 hr7 hu
  go_wp2_with fail
  refine hsm.mono ?_
  rintro e w8 ⟨rfl, nd, rfl⟩
  have hT8 := hT7.go (Gr.drewN w7 nd)
  have HOWN8 := Lib.hid (ownsRow_below HOWN7.out (Gr.drewN w7 nd))
  clear hsm hT7 HOWN7 HOWN6 HOWN hb6 hb7 hLr
  generalize w7.drewN nd = w8 at *
  go_wp2
  go_loopw [8] (fun i wr => ∃ (j : Nat) (m : List UInt8), j ≤ L.length ∧ i = .int .i64 j ∧ m.length = L.length ∧ wr.ownsRow W.heap.size 5 1 (.slice a1 L.length c1) L.length (m.map b8) ∧ TwoR W wr w1.heap.size q r cs ds v) (fun i _ => L.length - (intOf i).toNat)
  case atStart => exact ⟨0, L, Nat.zero_le _, rfl, rfl, HOWN8.out, hT8⟩
  case round =>
    clear hT8 HOWN8
    obtain ⟨j, m, hj, rfl, hml, hO, hT⟩ := hrel
    by_cases hlt : j < L.length
    · rw [← hml] at hO
      rcases owns_bytes hO with ⟨_, h0⟩ | ⟨g, c, rest, hv, hg, hB, k1, k2, k3⟩
      · subst h0
        simp at hml; omega
      · simp only [Value.slice.injEq] at hv
        obtain ⟨rfl, _, rfl⟩ := hv
        have hjm : j < m.length := by omega
        have hgp : W.heap.size ≤ g ∧ g < w1.heap.size := HB1.out g rfl
        have d1 : wr.cell? ⟨g, j, none⟩ = some (.int .u8 (m[j].toNat : Int)) := hB.byteL hjm
        have f1 := hB.free j
        have ew := inc8 m[j]
        have hS := hB.setL hjm (m[j] + 1)
        have hT2 := hT.far (w' := wr.setCell ⟨g, j, none⟩ (b8 (m[j] + 1))) (grown_set (World.grownBy.refl _ _) _ _) (fun b hb => by cases hb; exact hgp)
        have hsl : (m.set j (m[j] + 1)).length = L.length := by rw [List.length_set]; exact hml
        have hO2 : (wr.setCell ⟨g, j, none⟩ (b8 (m[j] + 1))).ownsRow W.heap.size 5 1 (.slice (some ⟨g, 0, none⟩) L.length c1) L.length ((m.set j (m[j] + 1)).map b8) := by
          have := Blk.ownsB (base := W.heap.size) hS hg (by rw [hsl]; omega) k2 (by rw [hsl]; omega)
          rw [hsl] at this; exact this
        have j0 : (0 : Int) ≤ (j : Int) := by omega
        have j1 : (j : Int) < (L.length : Int) := by omega
        have jb : IntKind.i64.wrap ((j : Int) + 1) = (j : Int) + 1 := IntWalk.i64_in _ (by have := HLM.out; omega)
        have HF := Lib.hid (And.intro hsl (And.intro hO2 hT2))
        clear hsl hO2 hT2 hS hO hT hB k1 k2 k3 hml hg
        unfold b8 at HF
        generalize m.set j (m[j] + 1) = m2 at *
        generalize ((m[j] + 1).toNat : Int) = y at *
        generalize (m[j].toNat : Int) = x at *
        clear hjm
        go_wp2
        first
          | exact ⟨⟨j + 1, m2, by omega, (by first | rfl | go_num | (congr 1; omega)), HF.out.1, HF.out.2.1, HF.out.2.2⟩, by simp [intOf] <;> omega⟩
          | (refine ⟨?_, by simp [intOf] <;> omega⟩; (repeat apply Exists.intro); exact ⟨⟨j + 1, m2, by omega, (by first | rfl | go_num | (congr 1; omega)), HF.out.1, HF.out.2.1, HF.out.2.2⟩, rfl⟩)
    · obtain rfl : j = L.length := by omega
      have hs := hT.same
      have g1 := hT.l1
      have g2 := hT.l2
      have hlv := fun w' => lives05_any w'
      clear hO hml
      go_wp2_with fail
      refine hs.mono ?_
      rintro e w9 ⟨rfl, hb9⟩
      have hT9 := hT.go hb9
      go_wp2_with fail
      refine (hlv _).mono ?_
      rintro e w10 ⟨rfl, hb10⟩
      go_wp2
      go_ret
      exact ⟨rfl, (hT9.go hb10).bel⟩
theorem packReads_calls {H : Type} {enc : TypeId × Value → H} {W : World} {base : Nat} {v0 : Value} {d0 : DataW H} {p0 : List MemPlace}
    (o0 : Value.okWide Try.prog W .any base 22 v0) (h0 : DataW.Trod enc Try.prog W 0 (fun _ => true) true 22 v0 d0 p0) :
    Calls Try.prog 5 #[v0] W fun e W' => e = .returned (.bool true) ∧ Below W.heap.size W W' := by
  obtain ⟨a, n, c, l, rfl, rfl, hc, hm, hr⟩ := open_byt Try.underlying22 Try.underlying5 (by kernel_rfl) o0 h0
  exact preads_law hr hc hm
end Go.Proofs.Ytjdkcocfjbjopaa
