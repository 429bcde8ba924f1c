/- Layer 20: skip. -/
import Derived.Test.YtcanlgcifnjfaaaDoorPt2
import Derived.Test.YtcanlgcifnjfaaaDoorLibR
set_option maxRecDepth 20000
namespace Go.Hd
open Go Go.RowKit
def stC (n : Nat) (v : Nat → Nat) : List Value := (List.range (n + 1)).map fun k => .int .i64 (v k : Int)
theorem stC_len (n : Nat) (v : Nat → Nat) : (stC n v).length = n + 1 := by simp [stC]
theorem stC_at (n : Nat) (v : Nat → Nat) {k : Nat} (h : k ≤ n) : (stC n v)[k]? = some (.int .i64 (v k : Int)) := by
  unfold stC
  rw [List.getElem?_map, List.getElem?_range (by omega)]; rfl
theorem stC_set (n : Nat) (v : Nat → Nat) (k x : Nat) : (stC n v).set k (.int .i64 (x : Int)) = stC n (upd v k x) := by
  apply List.ext_getElem?
  intro j
  by_cases hk : k = j
  · subst hk
    by_cases hl : k < n + 1
    · rw [List.getElem?_set_self (by rw [stC_len]; exact hl), stC_at n _ (by omega), upd_at]
    · rw [List.getElem?_eq_none (by rw [List.length_set, stC_len]; omega), List.getElem?_eq_none (by rw [stC_len]; omega)]
  · rw [List.getElem?_set_ne hk]
    by_cases hl : j < n + 1
    · rw [stC_at n _ (by omega), stC_at n _ (by omega), upd_ne _ _ (Ne.symm hk)]
    · rw [List.getElem?_eq_none (by rw [stC_len]; omega), List.getElem?_eq_none (by rw [stC_len]; omega)]
abbrev TokRow (w : World) (a : Option Addr) (T : List Tok) : Prop := Row w a (T.map tokC).flatten
theorem tokC_all (T : List Tok) : ∀ x ∈ T.map tokC, x.length = 258 := by
  intro x hx
  obtain ⟨t, _, rfl⟩ := List.mem_map.1 hx
  exact tokC_len t
theorem skipN_succ (T : List Tok) (v : Nat → Nat) (b : Bool) {m : Nat} (hm : m < T.length) :
    skipN T v b (m + 1) = if skipN T v b m m ≠ 0 ∧ skips T[m] b (skipN T v b m m) = true then upd (skipN T v b m) (m + 1) 1 else skipN T v b m := by
  show (match T[m]? with | none => skipN T v b m | some t => if skipN T v b m m ≠ 0 ∧ skips t b (skipN T v b m m) = true then upd (skipN T v b m) (m + 1) 1 else skipN T v b m) = _
  rw [List.getElem?_eq_getElem hm]
theorem Grown.alloc {a b : World} {r : Option Nat} (h : a.grownBy b r) (o : Obj) : a.grownBy (b.alloc o) r :=
  ⟨h.os, h.tape, h.output, by simpa using Nat.le_succ_of_le h.size, fun i hi hne => by rw [Below.heap_alloc _ _ _ (by have := h.size; omega)]; exact h.block i hi hne⟩
theorem Grown.set {a b : World} {g : Nat} (h : a.grownBy b (some g)) (i : Nat) (v : Value) : a.grownBy (b.setCell ⟨g, i, none⟩ v) (some g) :=
  ⟨h.os, h.tape, h.output, by simpa using h.size, fun k hk hne => by rw [Below.heap_setCell b _ v k (fun e => hne (by rw [e]))]; exact h.block k hk hne⟩
theorem Grown.refl (a : World) (r : Option Nat) : a.grownBy a r := ⟨rfl, rfl, rfl, Nat.le_refl _, fun _ _ _ => rfl⟩
end Go.Hd
namespace Go.Proofs.YtcanlgcifnjfaaaDoor
open Go.RowKit Go.Hd
attribute [local go_sem ↓] h_ldTK h_stTK h_alTK
attribute [local go_sem] r_alTK r_stTK

set_option maxHeartbeats 2000000 in
theorem skip_any {st tx : ByteArray} {a : Option Addr} {n c g m cn : Nat} {T : List Tok} {v : Nat → Nat} (b : Bool) {w : World} (hn : n = T.length) (hm : m = T.length + 1) (hrow : TokRow w a T) (hbn : Blk w g 3 (stC T.length v)) (hag : 0 < T.length → (hd a).block ≠ g) (hT : T.length ≤ 1000) :
    Calls Tryd.prog 63 #[.agg #[.string st, .string tx, .slice a n c], .slice (some ⟨g, 0, none⟩) m cn, .bool b] w fun e w' => e = .returned (.tuple #[]) ∧ Blk w' g 3 (stC T.length (skipF T v b)) ∧ w.grownBy w' (some g) := by
  subst hn hm
  have zs := zTK_size
  go_enter Tryd.func63, Tryd.ntmps63
  go_wp2
  go_loopw [11] (fun i wr => ∃ k : Nat, i = .int .i64 k ∧ k ≤ T.length ∧ Hid (Blk wr g 3 (stC T.length (skipN T v b k))) ∧ Hid (w.grownBy wr (some g))) (fun i _ => T.length - (intOf i).toNat)
  case atStart => exact ⟨0, rfl, Nat.zero_le _, Lib.hid (hbn.below ((Below.refl _ _).alloc (Nat.le_refl _) _)), Lib.hid (Grown.alloc (Grown.refl _ _) _)⟩
  case round =>
    obtain ⟨k, rfl, hk, hB, hG⟩ := hrel
    have k0 : (0 : Int) ≤ (k : Int) := by omega
    have k1 : (0 : Int) ≤ (k : Int) + 1 := by omega
    have kb : IntKind.i64.wrap ((k : Int) + 1) = (k : Int) + 1 := IntWalk.i64_in _ (by omega)
    by_cases hlt : k < T.length
    · have hS := Lib.hid (skipN_succ T v b hlt)
      have hrow2 := hrow.grown hG.out (fun h => hag (by simp at h; omega))
      have s1 := hrow2.elemSome (s := 258) (tokC_all T) (by decide) (i := k) (by simp; omega)
      have q1 := ldOp_at (P := Tryd.prog) (ty := 85) (hrow2.elem (s := 258) (tokC_all T) (i := k) (c := tokC T[k]) (by simp [hlt])) Tryd.underlying85 rfl (by rw [tokC_len]; exact sizeTK)
      have t2 := tokA_size T[k]
      have t3 : OneC (tokA T[k]) := all_oneCell_toArray (tokC_one _)
      change (ldOp 85 _).run _ _ = .ok (.agg (tokA T[k])) _ at q1
      generalize T[k] = t at *
      have i1 : (k : Int) < (T.length : Int) := by omega
      clear hrow2
      go_upto_region 4 with (fail)
      have hBT : Blk (wr.alloc (.cells (tokA t) 85)) wr.heap.size 85 (tokC t) := Blk.new wr 85 (tokA t)
      have hBN := hB.out.below ((Below.refl _ _).alloc (Nat.le_refl _) (.cells (tokA t) 85))
      have hGN := Grown.alloc hG.out (.cells (tokA t) 85)
      generalize hqW : wr.alloc (.cells (tokA t) 85) = W at *
      clear hqW hB hG q1
      have q2 : W.cell? ⟨wr.heap.size, 0, none⟩ = some (.int .i64 (kindT t)) := hBT.cell rfl
      have q3 : W.cell? ⟨g, k, none⟩ = some (.int .i64 (skipN T v b k k : Int)) := hBN.cell (stC_at _ _ (by omega))
      have q4 : W.cell? ⟨g, k + 1, none⟩ = some (.int .i64 (skipN T v b k (k + 1) : Int)) := hBN.cell (stC_at _ _ (by omega))
      have q5 : W.frozen? ⟨g, k + 1, none⟩ = false := hBN.free _
      have HA : Hid (skipN T v b (k + 1) = upd (skipN T v b k) (k + 1) 1 → Blk (W.setCell ⟨g, k + 1, none⟩ (.int .i64 1)) g 3 (stC T.length (skipN T v b (k + 1))) ∧ w.grownBy (W.setCell ⟨g, k + 1, none⟩ (.int .i64 1)) (some g)) := fun e => by
        have := hBN.set (k + 1) (.int .i64 ((1 : Nat) : Int))
        rw [stC_set] at this
        rw [e]
        exact ⟨this, Grown.set hGN _ _⟩
      have HN : Hid (skipN T v b (k + 1) = skipN T v b k → Blk W g 3 (stC T.length (skipN T v b (k + 1))) ∧ w.grownBy W (some g)) := fun e => by
        rw [e]; exact ⟨hBN, hGN⟩
      generalize skipN T v b k (k + 1) = y at *
      have i2 : (k : Int) < (T.length : Int) + 1 := by omega
      have i3 : (k : Int) + 1 < (T.length : Int) + 1 := by omega
      clear hBT hBN hGN zs t2 t3
      have hSx := hS.out
      generalize skipN T v b k = u at *
      generalize hx : u k = x at *
      clear hx hS
      by_cases hx0 : x = 0
      · subst hx0
        obtain ⟨hN1, hN2⟩ := HN.out (by rw [hSx, if_neg (fun h => h.1 rfl)])
        replace hN1 := Lib.hid hN1
        replace hN2 := Lib.hid hN2
        clear HA HN hSx
        go_wp2
        first
          | exact ⟨⟨k + 1, (by first | rfl | go_num | (congr 1; omega)), by omega, hN1, hN2⟩, by simp [intOf] <;> omega⟩
          | (refine ⟨?_, by simp [intOf] <;> omega⟩; (repeat apply Exists.intro); exact ⟨⟨k + 1, (by first | rfl | go_num | (congr 1; omega)), by omega, hN1, hN2⟩, rfl⟩)
      · have x0 : ((x : Int) == 0) = false := by simpa using hx0
        by_cases hs : skips t b x = true
        · obtain ⟨hA1, hA2⟩ := HA.out (by rw [hSx, if_pos ⟨hx0, hs⟩])
          replace hA1 := Lib.hid hA1
          replace hA2 := Lib.hid hA2
          clear HA HN hSx
          cases t with
          | star =>
            unfold kindT at q2
            go_wp2
            first
              | exact ⟨⟨k + 1, (by first | rfl | go_num | (congr 1; omega)), by omega, hA1, hA2⟩, by simp [intOf] <;> omega⟩
              | (refine ⟨?_, by simp [intOf] <;> omega⟩; (repeat apply Exists.intro); exact ⟨⟨k + 1, (by first | rfl | go_num | (congr 1; omega)), by omega, hA1, hA2⟩, rfl⟩)
          | deep =>
            unfold kindT at q2
            cases b
            · have hx1 : x = 1 := by simpa [skips] using hs
              subst hx1
              go_wp2
              first
                | exact ⟨⟨k + 1, (by first | rfl | go_num | (congr 1; omega)), by omega, hA1, hA2⟩, by simp [intOf] <;> omega⟩
                | (refine ⟨?_, by simp [intOf] <;> omega⟩; (repeat apply Exists.intro); exact ⟨⟨k + 1, (by first | rfl | go_num | (congr 1; omega)), by omega, hA1, hA2⟩, rfl⟩)
            · go_wp2
              first
                | exact ⟨⟨k + 1, (by first | rfl | go_num | (congr 1; omega)), by omega, hA1, hA2⟩, by simp [intOf] <;> omega⟩
                | (refine ⟨?_, by simp [intOf] <;> omega⟩; (repeat apply Exists.intro); exact ⟨⟨k + 1, (by first | rfl | go_num | (congr 1; omega)), by omega, hA1, hA2⟩, rfl⟩)
          | _ => exact absurd hs (by simp [skips])
        · obtain ⟨hN1, hN2⟩ := HN.out (by rw [hSx, if_neg (fun h => hs h.2)])
          replace hN1 := Lib.hid hN1
          replace hN2 := Lib.hid hN2
          clear HA HN hSx
          cases t with
          | star => exact absurd rfl hs
          | deep =>
            unfold kindT at q2
            simp [skips] at hs
            obtain ⟨rfl, hx1⟩ := hs
            have x1 : ((x : Int) == 1) = false := by rw [beq_eq_false_iff_ne]; omega
            go_wp2
            first
              | exact ⟨⟨k + 1, (by first | rfl | go_num | (congr 1; omega)), by omega, hN1, hN2⟩, by simp [intOf] <;> omega⟩
              | (refine ⟨?_, by simp [intOf] <;> omega⟩; (repeat apply Exists.intro); exact ⟨⟨k + 1, (by first | rfl | go_num | (congr 1; omega)), by omega, hN1, hN2⟩, rfl⟩)
          | one c =>
            unfold kindT at q2
            go_wp2
            first
              | exact ⟨⟨k + 1, (by first | rfl | go_num | (congr 1; omega)), by omega, hN1, hN2⟩, by simp [intOf] <;> omega⟩
              | (refine ⟨?_, by simp [intOf] <;> omega⟩; (repeat apply Exists.intro); exact ⟨⟨k + 1, (by first | rfl | go_num | (congr 1; omega)), by omega, hN1, hN2⟩, rfl⟩)
          | any1 =>
            unfold kindT at q2
            go_wp2
            first
              | exact ⟨⟨k + 1, (by first | rfl | go_num | (congr 1; omega)), by omega, hN1, hN2⟩, by simp [intOf] <;> omega⟩
              | (refine ⟨?_, by simp [intOf] <;> omega⟩; (repeat apply Exists.intro); exact ⟨⟨k + 1, (by first | rfl | go_num | (congr 1; omega)), by omega, hN1, hN2⟩, rfl⟩)
          | set f =>
            unfold kindT at q2
            go_wp2
            first
              | exact ⟨⟨k + 1, (by first | rfl | go_num | (congr 1; omega)), by omega, hN1, hN2⟩, by simp [intOf] <;> omega⟩
              | (refine ⟨?_, by simp [intOf] <;> omega⟩; (repeat apply Exists.intro); exact ⟨⟨k + 1, (by first | rfl | go_num | (congr 1; omega)), by omega, hN1, hN2⟩, rfl⟩)
    · obtain rfl : k = T.length := by omega
      go_wp2
      exact bodyPost_end (results_none (fn := Tryd.f63) rfl _ _ _) rfl ⟨rfl, hB.out, hG.out⟩
end Go.Proofs.YtcanlgcifnjfaaaDoor
