/- The walk of layer 13's key, the document's. -/
import Derived.Test.YtcomcljpnjeogaaB18
set_option maxRecDepth 20000
namespace Go.Proofs.Ytcomcljpnjeogaa
open Go.RowKit Go.Hd
attribute [local go_sem ↓] h_ldID h_stID h_alID
attribute [local go_sem] r_alID

def keyC (l : List UInt8) (t : Nat) : List Value := (l.take t).map b8 ++ List.replicate (32 - t) (.int .u8 0)
theorem keyC_step {l : List UInt8} {t : Nat} (h : l.length = 32) (ht : t < 32) : (keyC l t).set t (b8 (l[t]'(by omega))) = keyC l (t + 1) := by
  unfold keyC
  have e1 : ((l.take t).map b8).length = t := by simp; omega
  rw [List.set_append_right _ _ (by omega), e1, Nat.sub_self, List.take_succ_eq_append_getElem (by omega), List.map_append, List.append_assoc]
  congr 1
  obtain ⟨m, hm⟩ : ∃ m, 32 - t = m + 1 := ⟨31 - t, by omega⟩
  rw [hm, show 32 - (t + 1) = m by omega]
  simp [List.replicate_succ]
theorem keyC_len {l : List UInt8} {t : Nat} (h : l.length = 32) (ht : t ≤ 32) : (keyC l t).length = 32 := by
  simp [keyC]; omega
theorem keyC_all {l : List UInt8} (h : l.length = 32) : keyC l 32 = l.map b8 := by
  unfold keyC
  rw [List.take_of_length_le (by omega)]
  simp
theorem zID_keyC (l : List UInt8) : zID.toList = keyC l 0 := by simp [keyC, zID]

theorem key_any {w : World} {a : Option Addr} {n c i : Nat} {l : List UInt8} (hn : n = l.length) (_hc : n ≤ c) (hl : Row w a (l.map b8)) (hi : i + 32 ≤ l.length) (hm : l.length ≤ 140737488355328) :
    Calls Try.prog 52 #[.slice a n c, .int .i64 (i : Int)] w fun e w' => e = .returned (.agg (kcs ((l.drop i).take 32))) ∧ Below w.heap.size w w' := by
  subst hn
  obtain ⟨K, hK⟩ : ∃ K, K = (l.drop i).take 32 := ⟨_, rfl⟩
  have hk : K.length = 32 := by rw [hK]; simp; omega
  have hx : ∀ t (_ : t < 32) (h2 : t < K.length), K[t] = l[i + t]'(by omega) := by
    intro t ht h2
    subst hK
    simp
  rw [← hK]
  clear hK
  have hb0 : Below w.heap.size w ((w.alloc (.cells zID 67)).alloc (.cells zID 67)) := ((Below.refl _ _).alloc (Nat.le_refl _) _).alloc (by simp) _
  have B0 : Blk ((w.alloc (.cells zID 67)).alloc (.cells zID 67)) (w.heap.size + 1) 67 (keyC K 0) := by
    rw [← zID_keyC]
    have := Blk.new (w.alloc (.cells zID 67)) 67 zID
    simpa using this
  have R0 : Blk ((w.alloc (.cells zID 67)).alloc (.cells zID 67)) w.heap.size 67 zID.toList := (Blk.new w 67 zID).alloc _
  have HX := Lib.hid hx
  have HK := Lib.hid hk
  clear hx hk
  go_enter Try.func52, Try.ntmps52
  go_wp2
  go_loopw [6] (fun j wr => ∃ t : Nat, t ≤ 32 ∧ j = .int .i64 t ∧ Blk wr w.heap.size 67 zID.toList ∧ Blk wr (w.heap.size + 1) 67 (keyC K t) ∧ Below w.heap.size w wr) (fun j _ => 32 - (intOf j).toNat)
  case atStart => exact ⟨0, by omega, rfl, R0, B0, hb0⟩
  case round =>
    clear B0 hb0 R0
    obtain ⟨t, ht, rfl, hR, hB, hb⟩ := hrel
    by_cases htl : t < 32
    · have hrow := hl.below hb
      have cb := hrow.byte (i := i + t) (by omega)
      have sb := hrow.byteSome (i := i + t) (by omega)
      have ew : IntKind.i64.wrap ((i : Int) + (t : Int)) = ((i + t : Nat) : Int) := by rw [IntWalk.i64_in _ (by omega)]; omega
      have j0 : (0 : Int) ≤ (i : Int) + (t : Int) := by omega
      have j1 : (i : Int) + (t : Int) < (l.length : Int) := by omega
      have j2 : ((i : Int) + (t : Int)).toNat = i + t := by omega
      have ck : ∃ v, wr.cell? ⟨w.heap.size + 1, t, none⟩ = some (.int .u8 v) := by
        have hk := HK.out
        have e1 : ((K.take t).map b8).length = t := by simp; omega
        obtain ⟨m, hm⟩ : ∃ m, 32 - t = m + 1 := ⟨31 - t, by omega⟩
        refine ⟨0, hB.cell ?_⟩
        unfold keyC
        rw [List.getElem?_append_right (by omega), e1, Nat.sub_self, hm]
        rfl
      obtain ⟨zz, ck⟩ := ck
      have fk := hB.free t
      have HN : Hid (Blk (wr.setCell ⟨w.heap.size + 1, t, none⟩ (b8 (l[i + t]'(by omega)))) (w.heap.size + 1) 67 (keyC K (t + 1))) := by
        show Blk _ _ _ _
        have := hB.set t (b8 (l[i + t]'(by omega)))
        have hk := HK.out
        rw [← HX.out t htl (by omega), keyC_step hk htl] at this
        rw [← HX.out t htl (by omega)]
        exact this
      have HR2 : Hid (Blk (wr.setCell ⟨w.heap.size + 1, t, none⟩ (b8 (l[i + t]'(by omega)))) w.heap.size 67 zID.toList) := hR.keptBy (grown_set (World.grownBy.refl _ _) _ _) (by simp)
      have HB2 : Hid (Below w.heap.size w (wr.setCell ⟨w.heap.size + 1, t, none⟩ (b8 (l[i + t]'(by omega))))) := hb.setCell (Nat.le_succ _) _
      generalize l[i + t]'(by omega) = y at *
      clear hB hb hrow hR
      go_wp2
      first
        | exact ⟨⟨t + 1, by omega, (by first | rfl | go_num | (congr 1; omega)), HR2.out, HN.out, HB2.out⟩, by simp [intOf] <;> omega⟩
        | (refine ⟨?_, by simp [intOf] <;> omega⟩; (repeat apply Exists.intro); exact ⟨⟨t + 1, by omega, (by first | rfl | go_num | (congr 1; omega)), HR2.out, HN.out, HB2.out⟩, rfl⟩)
    · obtain rfl : t = 32 := by omega
      have q1 : (ldOp 67 (.pointer (some ⟨w.heap.size + 1, 0, none⟩))).run Try.prog wr = .ok (.agg (kcs K)) wr := by
        have := ldOp_all (P := Try.prog) (ty := 67) hB Try.underlying67 rfl (by rw [keyC_len HK.out (Nat.le_refl _)]; exact sizeID)
        rw [keyC_all HK.out] at this
        exact this
      obtain ⟨w3, hst, B3, hg3⟩ := stOp_blk (P := Try.prog) (ty := 67) (o := 0) (cs := K.map b8) hR (by have := HK.out; simp [zID]; omega) (by rw [List.length_map, HK.out]; exact sizeID) (bytes_one _)
      have e3 : zID.toList.take 0 ++ K.map b8 ++ zID.toList.drop (0 + (K.map b8).length) = K.map b8 := by
        rw [List.drop_of_length_le (by have := HK.out; simp [zID]; omega)]
        simp
      rw [e3] at B3
      have hst' : (stoOp 67 (.pointer (some ⟨w.heap.size, 0, none⟩)) (.agg (kcs K))).run Try.prog wr = .ok () w3 := hst
      have hbw : Below w.heap.size w w3 := Gr.ofGrown hb hg3 (Nat.le_refl _)
      clear hB hR hst e3 hb hg3
      go_wp2
      refine bodyPost_ret (results_cell_row (fn := Try.f52) (by rfl) _ _ w.heap.size 67 _ (0, 0) _ (by rfl) B3 Try.underlying67 rfl (by rw [List.size_toArray, List.length_map, HK.out]; exact sizeID)) rfl ⟨rfl, hbw⟩
end Go.Proofs.Ytcomcljpnjeogaa
