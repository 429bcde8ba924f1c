/- Walks of layer 13: which key is ahead. -/
import Derived.Test.YtcomcljpnjeogaaB2
import Derived.Lib.BytesEntry
import Derived.Laws.Externs
set_option maxRecDepth 20000
namespace Go.Proofs.Ytcomcljpnjeogaa
open Go.RowKit Go.Hd

theorem run_loadL {P : Program} {w : World} {a : Addr} {l : List UInt8} (h : ∀ j x, l[j]? = some x → w.cell? (a.add j) = some (.int .u8 (x.toNat : Int))) :
    (Extern.Bytes.loadBytes a l.length .empty).run P w = .ok (str l) w := by
  have := Lib.run_loadBytesX (P := P) w (l.map fun c => (c.toNat : Int)) a .empty (fun j x hx => by
    rw [List.getElem?_map] at hx
    cases hq : l[j]? with
    | none => rw [hq] at hx; cases hx
    | some c => rw [hq] at hx; simp only [Option.map_some, Option.some.injEq] at hx; subst hx; exact h j c hq)
  rw [List.length_map] at this
  rw [this]
  congr 1
  apply ByteArray.ext
  show (#[] : Array UInt8) ++ (Lib.bytesOf (l.map fun c => (c.toNat : Int))).toArray = l.toArray
  rw [Array.empty_append]
  congr 1
  simp [Lib.bytesOf, Function.comp_def]
theorem run_bytesOfL {P : Program} {w : World} {a : Option Addr} {n c : Nat} {l : List UInt8} (hn : n = l.length) (h : Row w a (l.map b8)) : (Extern.Bytes.bytesOf (.slice a n c)).run P w = .ok (str l) w := by
  subst hn
  cases a with
  | none =>
    have : l = [] := by
      cases l with
      | nil => rfl
      | cons x l => have := h.1 (by simp); cases this
    subst this
    rfl
  | some a => exact run_loadL (fun j x hx => h.2 j _ (by rw [List.getElem?_map, hx]; rfl))
theorem run_compareL {P : Program} {w : World} {a b : Option Addr} {n m c d : Nat} {l k : List UInt8} (hn : n = l.length) (hm : m = k.length) (hl : Row w a (l.map b8)) (hk : Row w b (k.map b8)) :
    (Extern.BytealgCompare.compare #[.slice a n c, .slice b m d]).run P w = .ok (.int .i64 (Lib.compareBytes l k)) w := by
  change Sem.run P (do pure (goInt (Extern.BytealgCompare.cmp (← Extern.Bytes.bytesOf (.slice a n c)) (← Extern.Bytes.bytesOf (.slice b m d))))) w = _
  simp only [Sem.run_bind, Sem.run_pure, run_bytesOfL hn hl, run_bytesOfL hm hk, Result.andThen]
  rw [Lib.cmp_eq]
  simp [goInt]
theorem bcmp_any {a b : Option Addr} {n m c d : Nat} {l k : List UInt8} {w : World} (hn : n = l.length) (hm : m = k.length) (hl : Row w a (l.map b8)) (hk : Row w b (k.map b8)) :
    Calls Try.prog 84 #[.slice a n c, .slice b m d] w fun e w' => e = .returned (.int .i64 (Lib.compareBytes l k)) ∧ w = w' := by
  have he : (callFunc 86 #[.slice a n c, .slice b m d]).run Try.prog w = .ok (.value (.int .i64 (Lib.compareBytes l k))) w := by
    rw [run_callFunc_extern Try.func86 (by kernel_rfl) (by kernel_rfl) (by kernel_rfl) (e := Extern.BytealgCompare.compare) (by kernel_rfl), run_compareL hn hm hl hk]
    rfl
  clear hn hm hl hk
  go_enter Try.func84, Try.ntmps84
  go_wp2
  go_ret
  exact ⟨rfl, rfl⟩
theorem less_any {l k : List UInt8} (w : World) (hl : l.length = 32) (hk : k.length = 32) :
    Calls Try.prog 79 #[.agg (kcs l), .agg (kcs k)] w fun e w' => e = .returned (.bool (ltB l k)) ∧ Below w.heap.size w w' := by
  have hb0 : Below w.heap.size w ((w.alloc (.cells (kcs l) 67)).alloc (.cells (kcs k) 67)) := ((Below.refl _ _).alloc (Nat.le_refl _) _).alloc (by simp) _
  have r1 : Row ((w.alloc (.cells (kcs l) 67)).alloc (.cells (kcs k) 67)) (some ⟨w.heap.size, 0, none⟩) (l.map b8) := ((Blk.new w 67 (kcs l)).alloc _).row
  have r2 : Row ((w.alloc (.cells (kcs l) 67)).alloc (.cells (kcs k) 67)) (some ⟨w.heap.size + 1, 0, none⟩) (k.map b8) := by
    have := (Blk.new (w.alloc (.cells (kcs l) 67)) 67 (kcs k)).row
    rw [drew_alloc_size] at this
    exact this
  have hlt : Hid (decide (Lib.compareBytes l k < 0) = ltB l k) := rfl
  generalize kcs l = cl at *
  generalize kcs k = ck at *
  go_enter Try.func79, Try.ntmps79
  go_wp2
  go_quiet ((go_at_call 84; exact Calls.quiet_of (quiet0 (bcmp_any (by omega) (by omega) (Row.drewN r1 _) (Row.drewN r2 _)))))
  go_wp2
  go_ret
  exact ⟨ret_bool hlt.out, Below.drewN hb0 _⟩
theorem rless_any {l k : List UInt8} (w : World) (hl : l.length = 32) (hk : k.length = 32) :
    Calls Try.prog 41 #[.agg (kcs l), .agg (kcs k)] w fun e w' => e = .returned (.bool (ltB l k)) ∧ Below w.heap.size w w' := by
  have hb0 : Below w.heap.size w ((w.alloc (.cells (kcs l) 67)).alloc (.cells (kcs k) 67)) := ((Below.refl _ _).alloc (Nat.le_refl _) _).alloc (by simp) _
  have B1 : Blk ((w.alloc (.cells (kcs l) 67)).alloc (.cells (kcs k) 67)) w.heap.size 67 (l.map b8) := (Blk.new w 67 (kcs l)).alloc _
  have B2 : Blk ((w.alloc (.cells (kcs l) 67)).alloc (.cells (kcs k) 67)) (w.heap.size + 1) 67 (k.map b8) := by
    have := Blk.new (w.alloc (.cells (kcs l) 67)) 67 (kcs k)
    rw [drew_alloc_size] at this
    exact this
  generalize kcs l = cl at *
  generalize kcs k = ck at *
  go_enter Try.func41, Try.ntmps41
  go_wp2
  go_loopw [5] (fun i wr => ∃ j : Nat, j ≤ 32 ∧ i = .int .i64 j ∧ l.take j = k.take j ∧ Blk wr w.heap.size 67 (l.map b8) ∧ Blk wr (w.heap.size + 1) 67 (k.map b8) ∧ Below w.heap.size w wr) (fun i _ => 32 - (intOf i).toNat)
  case atStart => exact ⟨0, by omega, rfl, rfl, B1, B2, hb0⟩
  case round =>
    obtain ⟨j, hj, rfl, ht, D1, D2, hb⟩ := hrel
    have HT := Lib.hid ht
    clear ht B1 B2 hb0
    by_cases hlt : j < 32
    · have c1 := D1.byte (show j < l.length by omega)
      have c2 := D2.byte (show j < k.length by omega)
      have hj0 : (0 : Int) ≤ (j : Int) := by omega
      have hj1 : (j : Int) < 32 := by omega
      by_cases he : l[j]'(by omega) = k[j]'(by omega)
      · have e1 : ((((l[j]'(by omega)).toNat : Int) != ((k[j]'(by omega)).toNat : Int))) = false := by simp [he]
        have HK : Hid (l.take (j + 1) = k.take (j + 1)) := by
          show _ = _
          rw [List.take_succ_eq_append_getElem (by omega), List.take_succ_eq_append_getElem (by omega), HT.out, he]
        clear he
        go_wp2
        go_quiet (fail)
        go_wp2
        first
          | exact ⟨⟨j + 1, by omega, (by first | rfl | go_num | (congr 1; omega)), HK.out, D1.drewN _, D2.drewN _, Below.drewN hb _⟩, by simp [intOf] <;> omega⟩
          | (refine ⟨?_, by simp [intOf] <;> omega⟩; (repeat apply Exists.intro); exact ⟨⟨j + 1, by omega, (by first | rfl | go_num | (congr 1; omega)), HK.out, D1.drewN _, D2.drewN _, Below.drewN hb _⟩, rfl⟩)
      · have e1 : ((((l[j]'(by omega)).toNat : Int) != ((k[j]'(by omega)).toNat : Int))) = true := by
          rw [bne_iff_ne]
          intro e
          exact he (UInt8.toNat_inj.1 (by omega))
        have HR : Hid (decide ((l[j]'(by omega)).toNat < (k[j]'(by omega)).toNat) = ltB l k) := by
          show _ = _
          rw [ltB_at (by omega) (by omega) HT.out he, decide_eq_decide, UInt8.lt_iff_toNat_lt]
        clear he
        go_wp2
        go_quiet (fail)
        go_wp2
        go_quiet (fail)
        go_wp2
        go_ret
        exact ⟨ret_bool HR.out, Below.drewN (Below.drewN hb _) _⟩
    · obtain rfl : j = 32 := by omega
      go_wp2
      go_ret
      refine ⟨ret_bool ?_, hb⟩
      have h := HT.out
      rw [List.take_of_length_le (by omega), List.take_of_length_le (by omega)] at h
      rw [h, ltB_same]
end Go.Proofs.Ytcomcljpnjeogaa
