/- Joined: what one statement of this layer stands on, part 8 of 17; nothing is assumed. -/
import Derived.Laws.Externs
import Derived.Lib.AppendZerosOnto
import Derived.Lib.Overlaps
import Derived.StillTailTactics
import Derived.Test.YtpchogicdnfggaaDoorKX3
import Derived.Test.YtpchogicdnfggaaDoorKX4
import Derived.Test.YtpchogicdnfggaaDoorKX7
set_option maxRecDepth 20000
namespace Go.Proofs.YtpchogicdnfggaaDoor
open Go.RowKit Go.Hd
attribute [local go_sem ↓] h_ldV h_stV h_alV
attribute [local go_sem] r_ldV r_stV r_alV
/-- The first value whose key it is. -/
def findK : List (List UInt8) → List PV → List UInt8 → Option PV
  | k :: ks, v :: vs, key => if k = key then some v else findK ks vs key
  | _, _, _ => none
def fldV (v : PV) (key : List UInt8) : PV := if v.kind = 7 then (findK v.keys v.list key).getD pv0 else pv0
def getV (v : PV) (key : List UInt8) : PV := if v.kind = 7 then ((findK v.keys v.list key).map normV).getD pv0 else pv0
theorem findK_step {ks : List (List UInt8)} {vs : List PV} {key : List UInt8} {j : Nat} (h1 : j < ks.length) (h2 : ¬ (ks[j] = key ∧ j < vs.length)) : findK (ks.drop j) (vs.drop j) key = findK (ks.drop (j + 1)) (vs.drop (j + 1)) key := by
  rw [List.drop_eq_getElem_cons h1]
  by_cases hv : j < vs.length
  · rw [List.drop_eq_getElem_cons hv, findK, if_neg (fun e => h2 ⟨e, hv⟩)]
  · rw [List.drop_of_length_le (l := vs) (i := j) (by omega), List.drop_of_length_le (l := vs) (i := j + 1) (by omega)]
    cases ks.drop (j + 1) <;> rfl
theorem findK_hit {ks : List (List UInt8)} {vs : List PV} {key : List UInt8} {j : Nat} (h1 : j < ks.length) (h2 : j < vs.length) (h : ks[j] = key) : findK (ks.drop j) (vs.drop j) key = some vs[j] := by
  rw [List.drop_eq_getElem_cons h1, List.drop_eq_getElem_cons h2, findK, if_pos h]
theorem findK_end {ks : List (List UInt8)} {vs : List PV} {key : List UInt8} : findK (ks.drop ks.length) (vs.drop ks.length) key = none := by
  rw [List.drop_length]; cases vs.drop ks.length <;> rfl
theorem fldV_mk (k n : Int) (b t : List UInt8) (ks : List (List UInt8)) (l : List PV) (key : List UInt8) : fldV (.mk k n b t ks l) key = if k = 7 then (findK ks l key).getD pv0 else pv0 := rfl
theorem getV_mk (k n : Int) (b t : List UInt8) (ks : List (List UInt8)) (l : List PV) (key : List UInt8) : getV (.mk k n b t ks l) key = if k = 7 then ((findK ks l key).map normV).getD pv0 else pv0 := rfl
/-- A result of six cells in block r. -/
def ResP (w : World) (r : Nat) (W : World) (c2 : List Value) (v : PV) : Prop :=
  ∃ W2, (stoOp 30 (.pointer (some ⟨r, 0, none⟩)) (.agg c2.toArray)).run Tryd.prog W = .ok () W2 ∧ Blk W2 r 30 c2 ∧ VAtP (fun b => w.heap.size ≤ b) W2 c2 v ∧ Below w.heap.size w W2
theorem res_any {w W : World} {r : Nat} {old cs : List Value} {v : PV} (hR : Blk W r 30 old) (ho : old.length = 6) (hr : w.heap.size ≤ r) (hv : VAtP (fun b => w.heap.size ≤ b ∧ b ≠ r) W cs v) (hb : Below w.heap.size w W) : ResP w r W cs v := by
  have h6 := hv.len
  have hgr := setRow_gr W r cs.toArray
  refine ⟨W.setRow r cs.toArray, st_row hR ho cs.toArray (by simpa using h6) (by exact all_oneCell_toArray hv.one), setRow_blk hR cs, ?_, ?_⟩
  · exact (hv.same (w' := W.setRow r cs.toArray) (fun b hb hlt => hgr.block b hlt (by simp; omega))).mono (fun b hb _ => by omega)
  · exact hb.trans ⟨hgr.os, hgr.tape, hgr.output, hgr.size, fun k hk => hgr.block k (Nat.lt_of_lt_of_le hk hb.size) (by simp; omega)⟩
theorem res_zero {w W : World} {r : Nat} {old : List Value} (hR : Blk W r 30 old) (ho : old.length = 6) (hr : w.heap.size ≤ r) (hb : Below w.heap.size w W) : ResP w r W [.int .i64 0, .int .i64 0, .slice none 0 0, .string { data := #[] }, .slice none 0 0, .slice none 0 0] pv0 :=
  res_any hR ho hr (VAtP.plain (k := 0) (n := 0) (t := []) _ (by unfold in64; omega) (by unfold in64; omega) (Nat.zero_le _)) hb
end Go.Proofs.YtpchogicdnfggaaDoor
set_option maxRecDepth 20000
namespace Go.Hd
open Go.RowKit
section
variable {P : Program}
/-- A copy into a block known whole: elements of s cells. -/
theorem run_copy_rowN (w : World) (dT sT ty elem : TypeId) (s g o dLen dCap : Nat) (a : Addr) (sLen sCap : Nat) (cur : List Value) (t : TypeId) (cs : List Value)
    (hu : P.underlying dT = some (.slice elem)) (hs : (P.info? elem).map (·.size) = some s)
    (hg : Blk w g t cur) (hn : cs.length = Nat.min sLen dLen * s)
    (hsrc : ∀ j v, cs[j]? = some v → w.cell? (a.add j) = some v) (hfit : o + cs.length ≤ cur.length) (h1 : ∀ v ∈ cs, v.oneCell' = true) :
    ∃ z, (Builtin.copy_ #[dT, sT] ty #[.slice (some ⟨g, o, none⟩) dLen dCap, .slice (some a) sLen sCap]).run P w =
      .ok (goInt z) (w.setRow g (cur.take o ++ cs ++ cur.drop (o + cs.length)).toArray) := by
  have hl := run_loadCells_list (P := P) w a cs hsrc
  have hst := run_storeCells_at P g o t cs 0 cur.toArray w hg (by simpa using hfit) h1
  cases hq : P.info? elem with
  | none => simp [hq] at hs
  | some i =>
    have hi : i.size = s := by simpa [hq] using hs
    refine ⟨Nat.min sLen dLen, ?_⟩
    rw [hn] at hl
    simp [Builtin.copy_, run_underlying hu, Builtin.lenOf, Builtin.firstCells, sizeOf, typeInfo, hq, hi, hl, hst]
/-- The operation 'copy' where its run is known. -/
theorem wp_copy_known (w : World) {o : Oper} {a : Act} {K : Act → World → Prop} {Q : Exit → Act → World → Prop} (d s : Operand) (t t' : TypeId)
    (ho : o.op = .call { callee := .builtin .copy, args := #[d, s], argTypes := #[t, t'] }) (v u : Value) (hd : a.eval d = v) (hs : a.eval s = u) {v' : Value} {w' : World}
    (hr : (Builtin.copy_ #[t, t'] o.type #[v, u]).run P w = .ok v' w') (h : K (a.put o.dst v') w') : o.wp P a w K Q := by
  unfold Oper.wp execOp
  simp only [ho, resolve, invoke, builtin, Sem.run_bind, Sem.run_pure, Result.andThen_ok, List.map_toArray, List.map_cons, List.map_nil, hd, hs, hr]
  exact h
theorem wpList_copy_known (w : World) {ops : Array Oper} {rest : List Oper} {o : Oper} {a : Act} {Q : Exit → Act → World → Prop} (hgd : o.guard = none) (d s : Operand) (t t' : TypeId)
    (ho : o.op = .call { callee := .builtin .copy, args := #[d, s], argTypes := #[t, t'] }) (v u : Value) (hd : a.eval d = v) (hs : a.eval s = u) {v' : Value} {w' : World}
    (hr : (Builtin.copy_ #[t, t'] o.type #[v, u]).run P w = .ok v' w') (h : wpList P ops Q rest (a.put o.dst v') w') : wpList P ops Q (o :: rest) a w :=
  wpList_plain hgd fun _ hK => wp_copy_known w d s t t' ho v u hd hs hr (hK _ _ h)
end
/-- x put in at place p, into a new row. -/
theorem ins_new {R xs x : List Value} {p s q : Nat} (hp : R.take p = xs.take p) (_hpl : p ≤ R.length) (hpx : p ≤ xs.length) (hx : x.length = s) :
    ((R.take p ++ x ++ R.drop (p + s)).take (p + s) ++ xs.drop p ++ (R.take p ++ x ++ R.drop (p + s)).drop q).take (xs.length + s) = xs.take p ++ x ++ xs.drop p := by
  have h1 : (R.take p ++ x ++ R.drop (p + s)).take (p + s) = xs.take p ++ x := by
    rw [hp]; exact List.take_left' (by simp; omega)
  rw [h1]
  exact List.take_left' (by simp; omega)
/-- .. in place. -/
theorem ins_old {C xs x : List Value} {p s q : Nat} (hc : C.take xs.length = xs) (hpl : p + s ≤ C.length) (hpx : p ≤ xs.length) (hx : x.length = s) :
    ((C.take (p + s) ++ xs.drop p ++ C.drop q).take p ++ x ++ (C.take (p + s) ++ xs.drop p ++ C.drop q).drop (p + s)).take (xs.length + s) = xs.take p ++ x ++ xs.drop p := by
  have h1 : (C.take (p + s) ++ xs.drop p ++ C.drop q).take p = xs.take p := by
    rw [List.append_assoc, List.take_append_of_le_length (by simp; omega), List.take_take, Nat.min_eq_left (by omega)]
    conv => rhs; rw [← hc]
    rw [List.take_take, Nat.min_eq_left hpx]
  have h2 : (C.take (p + s) ++ xs.drop p ++ C.drop q).drop (p + s) = xs.drop p ++ C.drop q := by
    rw [List.append_assoc]
    exact List.drop_left' (by simp; omega)
  rw [h1, h2, ← List.append_assoc]
  exact List.take_left' (by simp; omega)
theorem blk_shape {w : World} {g : Nat} {e : TypeId} {xs : List Value} (h : Blk w g e xs) : w.shape? g = some (e, xs.length) := by
  unfold Blk at h
  simp [World.shape?, h]
theorem blk_free {w : World} {g o : Nat} {e : TypeId} {xs : List Value} (h : Blk w g e xs) : w.frozen? ⟨g, o, none⟩ = false := by
  unfold Blk at h
  simp [World.frozen?, h]
end Go.Hd
set_option maxRecDepth 20000
namespace Go.Proofs.YtpchogicdnfggaaDoor
open Go.RowKit Go.Hd

set_option maxHeartbeats 4000000 in
/-- The list is this call's own; x, in a block of its own, goes to place i. -/
theorem insV_any {w : World} {base n : Nat} {u : Value} {xs x : List Value} (h : w.ownsRow base 30 6 u n xs) (hn : n ≤ 1000) {i : Nat} (hi : i ≤ n) {g : Nat} (hx : x.length = 6) (h1 : ∀ v ∈ x, v.oneCell' = true) (hB : Blk w g 30 x) (hug : u.ownBlock ≠ some g)
    (h1c : ∀ v ∈ xs, v.oneCell' = true) (hbase : base ≤ w.heap.size) :
    Calls Tryd.prog 58 #[u, .int .i64 (i : Int), .slice (some ⟨g, 0, none⟩) 1 1] w fun e w' => ∃ a' c', e = .returned (.slice a' (n + 1) c') ∧ w'.ownsRow base 30 6 (.slice a' (n + 1) c') (n + 1) (xs.take (i * 6) ++ x ++ xs.drop (i * 6)) ∧ Gro w w' u (.slice a' (n + 1) c') := by
  obtain ⟨RES, hRES⟩ : ∃ R, R = xs.take (i * 6) ++ x ++ xs.drop (i * 6) := ⟨_, rfl⟩
  rw [← hRES]
  have HR := Lib.hid hRES
  clear hRES
  have n0 : (0 : Int) ≤ (n : Int) := by omega
  have i0 : (0 : Int) ≤ (i : Int) := by omega
  have i1 : (i : Int) ≤ (n : Int) := by omega
  have wn : IntKind.i64.wrap ((n : Int) + 1) = (n : Int) + 1 := IntWalk.i64_in _ (by omega)
  have wi : IntKind.i64.wrap ((i : Int) + 1) = (i : Int) + 1 := IntWalk.i64_in _ (by omega)
  have wd : IntKind.i64.wrap ((n : Int) + 1 - (i : Int)) = (n : Int) + 1 - (i : Int) := IntWalk.i64_in _ (by omega)
  by_cases he : i = n
  · subst he
    have hl : xs.length = i * 6 := h.1
    have hsrc : Src Tryd.prog 6 28 (.slice (some ⟨g, 0, none⟩) 1 1) 1 x w := Src.ofRow eV.ht _ 1 1 x (by decide) (by rw [hx]) hB.row h1
    obtain ⟨v', w', hrun, hO, hG, hK⟩ := append_srcK (ty := 28) eV h hsrc (by unfold maxLen; omega) (by omega) hbase
    obtain ⟨a', c', rfl, _⟩ := owns_rowN hO (by decide)
    have hfin : w'.ownsRow base 30 6 (.slice a' (i + 1) c') (i + 1) RES := by
      rw [HR.out, ← hl, List.take_length, List.drop_length, List.append_nil]; exact hO
    have hGG : Gro w w' u (.slice a' (i + 1) c') := ⟨hG, hK⟩
    obtain ⟨a, c, rfl, hic, hcm, _, _⟩ := owns_rowN h (by decide)
    clear hO hsrc hB h
    by_cases hci : c = i
    · subst hci
      go_enter Tryd.func58, Tryd.ntmps58
      go_wp2_with (at_builtin; refine wpList_append_run hrun rfl rfl rfl rfl ?_)
      go_ret
      exact ⟨a', c', rfl, hfin, hGG⟩
    · go_enter Tryd.func58, Tryd.ntmps58
      go_wp2_with (at_builtin; refine wpList_append_run hrun rfl rfl rfl rfl ?_)
      go_ret
      exact ⟨a', c', rfl, hfin, hGG⟩
  · have hlt : i < n := by omega
    have ne : ¬ ((i : Int) = (n : Int)) := by omega
    obtain ⟨hl, ⟨_, h0⟩ | ⟨b, c, cur, rfl, hbb, hb, hnc, hcm, hcs, hct⟩⟩ := h
    · omega
    have hcm' : (c : Int) ≤ 9223372036854775807 := by unfold maxLen at hcm; omega
    have hgb : g ≠ b := fun e => hug (by rw [e]; rfl)
    have hCB : Blk w b 30 cur.toList := by unfold Blk; simpa using hb
    have hcl : cur.toList.length = c * 6 := by simpa using hcs
    have hgl := hB.lt
    have hbl := hCB.lt
    have hdl : (xs.drop (i * 6)).length = (n - i) * 6 := by rw [List.length_drop, hl]; omega
    have hone : ∀ v ∈ xs.drop (i * 6), v.oneCell' = true := fun v hv => h1c v (List.mem_of_mem_drop hv)
    have hsz : (Tryd.prog.info? 30).map (·.size) = some 6 := by kernel_rfl
    have tn : ((i : Int) + 1).toNat = i + 1 := by omega
    have hR : Row w (some ⟨b, 0, none⟩) xs := by rw [← hct]; exact hCB.row.take _
    have hR2 : Row w (some ⟨g, 0, none⟩) x := hB.row
    have i3 : (0 : Int) ≤ (i : Int) + 1 := by omega
    have i4 : (i : Int) + 1 ≤ (n : Int) + 1 := by omega
    have i5 : (i : Int) ≤ (n : Int) + 1 := by omega
    have n3 : (0 : Int) ≤ (n : Int) + 1 := by omega
    by_cases hroom : c < n + 1
    · obtain rfl : c = n := by omega
      have k1 : (c : Int) < (c : Int) + 1 := by omega
      obtain ⟨i0', hi0, hz0, hzs, hzb⟩ := info_parts (eV).hi
      have hold : (Builtin.firstCells i0'.size i (.slice (some ⟨b, 0, none⟩) i c)).run Tryd.prog w.drew = .ok (xs.take (i * 6)).toArray w.drew := by
        rw [hzs]
        exact run_firstCells_some w.drew 6 i ⟨b, 0, none⟩ i c (xs.take (i * 6)) (by rw [List.length_take, hl]; omega) (fun j v hj => by
          rw [List.getElem?_take] at hj
          split at hj
          · exact hR.2 j v hj
          · cases hj)
      obtain ⟨G, hG⟩ : ∃ G, G = grownCap w (c + 1) c 30 := ⟨_, rfl⟩
      have hGn : c + 1 ≤ G := by rw [hG]; exact grownCap_ge w _ _ _
      have hG63 : G ≤ maxLen := by rw [hG]; exact grownCap_le_maxLen w (c + 1) c 30 (by unfold maxLen; omega)
      have hrz : ∀ ty, ∃ W1 ROW, W1 = w.drew.alloc (.cells (List.toArray ROW) 30) ∧ ROW.length = G * 6 ∧ ROW.take (i * 6) = xs.take (i * 6) ∧ (Builtin.append_ #[28, 3] ty #[.slice (some ⟨b, 0, none⟩) i c, .int .i64 ((c : Int) + 1 - (i : Int))]).run Tryd.prog w =
          .ok (.slice (some ⟨w.heap.size, 0, none⟩) (c + 1) G) W1 := fun ty => by
        have h := Lib.run_append_grow_zeros w 28 3 ty 30 i0' _ .i64 .i64 Tryd.underlying28 Tryd.underlying3 hi0 hz0 (some ⟨b, 0, none⟩) i c (xs.take (i * 6)) hold (c + 1 - i) (by omega) (by rw [hzs]; decide) (by omega) (by omega) (by rw [hzb]; omega) (by
          have e : i + (c + 1 - i) = c + 1 := by omega
          rw [hzb, e]; exact growslice_fits hroom (by omega))
        have e : i + (c + 1 - i) = c + 1 := by omega
        rw [e] at h
        have e2 : ((c : Int) + 1 - (i : Int)) = ((c + 1 - i : Nat) : Int) := by omega
        rw [← hG] at h
        refine ⟨_, ((xs.take (i * 6)).toArray ++ Builtin.zeroCells (Value.agg zV).cells (c + 1 - i) ++ Builtin.zeroCells (Value.agg zV).cells (G - (c + 1))).toList, rfl, ?_, ?_, ?_⟩
        · simp [Builtin.zeroCells, Value.cells, zV_size, hl]; omega
        · simp only [Array.toList_append, List.append_assoc]
          exact List.take_left' (by simp [hl]; omega)
        · rw [e2]
          simp only [Array.toArray_toList]
          exact h
      obtain ⟨W1, ROW, hW1, hRl, hRt, hrun⟩ := hrz 28
      clear hrz hold
      have hBN : Blk W1 w.heap.size 30 ROW := by rw [hW1]; exact Blk.new w.drew 30 (List.toArray ROW)
      have hb1 : Below w.heap.size w W1 := by rw [hW1]; exact (Below.drewN (Below.refl _ _) 1).alloc (Nat.le_refl _) _
      obtain ⟨N, hN⟩ : ∃ N, N = w.heap.size := ⟨_, rfl⟩
      rw [← hN] at hBN hrun hgl hbl hbase
      clear hW1
      obtain ⟨zA, hcA⟩ := run_copy_rowN (P := Tryd.prog) W1 28 28 3 30 6 N (i * 6) (c + 1 - i) (G - i) ⟨g, 0, none⟩ 1 1 ROW 30 x Tryd.underlying28 hsz hBN (by rw [hx]; simp only [Nat.min_def]; split <;> omega) (fun j v hj => (hR2.below hb1).2 j v hj) (by rw [hx, hRl]; omega) h1
      have hW2B := setRow_blk hBN (ROW.take (i * 6) ++ x ++ ROW.drop ((i * 6) + x.length))
      have hW2G := setRow_gr W1 N (ROW.take (i * 6) ++ x ++ ROW.drop ((i * 6) + x.length)).toArray
      obtain ⟨L1, hL1⟩ : ∃ L1, L1 = ROW.take (i * 6) ++ x ++ ROW.drop ((i * 6) + x.length) := ⟨_, rfl⟩
      have hL1l : L1.length = G * 6 := by rw [hL1]; simp [hRl, hx]; omega
      rw [← hL1] at hcA hW2B hW2G
      generalize W1.setRow N L1.toArray = W2 at *
      have hb2 : Below w.heap.size w W2 := hb1.trans ⟨hW2G.os, hW2G.tape, hW2G.output, hW2G.size, fun k hk => hW2G.block k (Nat.lt_of_lt_of_le hk hb1.size) (fun e => by cases e; omega)⟩
      obtain ⟨zB, hcB⟩ := run_copy_rowN (P := Tryd.prog) W2.drew 28 28 3 30 6 N ((i + 1) * 6) (c - i) (G - (i + 1)) ⟨b, (i * 6), none⟩ (c - i) (c - i) L1 30 (xs.drop (i * 6)) Tryd.underlying28 hsz (by exact hW2B) (by rw [hdl]; simp only [Nat.min_def]; split <;> omega)
        (fun j v hj => by
          have := (hR.below hb2).2 (i * 6 + j) v (by rwa [List.getElem?_drop] at hj)
          rw [Addr.add_lit]
          have e : (hd (some (⟨b, 0, none⟩ : Addr))).add (i * 6 + j) = ⟨b, i * 6 + j, none⟩ := by
            show Addr.add ⟨b, 0, none⟩ _ = _
            rw [Addr.add_lit, Nat.zero_add]
          rw [e] at this
          simpa using this) (by rw [hdl, hL1l]; omega) hone
      have hfl : (L1.take ((i + 1) * 6) ++ xs.drop (i * 6) ++ L1.drop (((i + 1) * 6) + (xs.drop (i * 6)).length)).take ((c + 1) * 6) = RES := by
        rw [HR.out, hL1, hx]
        have := ins_new (R := ROW) (xs := xs) (x := x) (p := i * 6) (s := 6) (q := ((i + 1) * 6) + (xs.drop (i * 6)).length) hRt (by omega) (by omega) hx
        rw [hl] at this
        simpa [Nat.add_mul] using this
      have hW3B := setRow_blk (w := W2.drew) (q := N) (T := 30) (old := L1) hW2B (L1.take ((i + 1) * 6) ++ xs.drop (i * 6) ++ L1.drop (((i + 1) * 6) + (xs.drop (i * 6)).length))
      have hW3G := setRow_gr W2.drew N (L1.take ((i + 1) * 6) ++ xs.drop (i * 6) ++ L1.drop (((i + 1) * 6) + (xs.drop (i * 6)).length)).toArray
      have hl3 : (L1.take ((i + 1) * 6) ++ xs.drop (i * 6) ++ L1.drop (((i + 1) * 6) + (xs.drop (i * 6)).length)).length = G * 6 := by simp [hL1l, hl]; omega
      generalize L1.take ((i + 1) * 6) ++ xs.drop (i * 6) ++ L1.drop (((i + 1) * 6) + (xs.drop (i * 6)).length) = L2 at *
      generalize W2.drew.setRow N L2.toArray = W3 at *
      have hb2' : Below w.heap.size w W2.drew := Below.drewN hb2 1
      have hb3 : Below w.heap.size w W3 := hb2'.trans ⟨hW3G.os, hW3G.tape, hW3G.output, hW3G.size, fun k hk => hW3G.block k (Nat.lt_of_lt_of_le hk hb2'.size) (fun e => by cases e; omega)⟩
      have hfin : W3.ownsRow base 30 6 (.slice (some ⟨N, 0, none⟩) (c + 1) G) (c + 1) RES := by
        refine ⟨?_, .inr ⟨N, G, L2.toArray, rfl, hbase, hW3B, hGn, hG63, by simpa using hl3, by simpa using hfl⟩⟩
        rw [← hfl, List.length_take, hl3]; omega
      have hGG : Gro w W3 (.slice (some ⟨b, 0, none⟩) c c) (.slice (some ⟨N, 0, none⟩) (c + 1) G) := ⟨grownBy_below hb3, fun k hk => .inr (by cases hk; show w.heap.size ≤ N; omega)⟩
      have kG1 : ¬ (G = i) := by omega
      have kG2 : ¬ (G = i + 1) := by omega
      have kc : ¬ (c = i) := by omega
      have kG3 : ((c : Int) + 1) ≤ (G : Int) := by omega
      clear hb hct hcs hCB hB hR hR2 hBN hb1 hW2B hW2G hb2 hfl hW3B hW3G hl3 hb2' hb3 hRl hRt hL1 hL1l hG hGn hone hdl hl hsz hi0 hz0 hzs hzb hN
      go_enter Tryd.func58, Tryd.ntmps58
      go_upto_region 11 with (first
        | (at_builtin; refine wpList_append_run hrun rfl rfl rfl rfl ?_)
        | (at_builtin; refine wpList_copy_known _ rfl _ _ 28 28 rfl _ _ rfl rfl hcA ?_))
      refine wp_region_still_tail 8 (by kernel_rfl) (by kernel_rfl) ?_
      simp only [List.take_succ_cons, List.take_zero, List.drop_succ_cons, List.drop_zero]
      change wpStill _ _ W2.drew _ _ _
      repeat still_step
      try refine wpStill_nil ?_
      change wpList _ _ _ _ _ W2.drew
      have hcB2 : (Builtin.copy_ #[28, 28] 3 #[.slice (some ⟨N, ((i + 1) * 6), none⟩) (c + 1 - (i + 1)) (G - (i + 1)), .slice (some ⟨b, (i * 6), none⟩) (c - i) (c - i)]).run Tryd.prog W2.drew = .ok (goInt zB) W3 := by
        rw [show c + 1 - (i + 1) = c - i from by omega]; exact hcB
      first
        | refine wpList_copy_known _ rfl _ _ 28 28 rfl _ _ rfl rfl hcB ?_
        | refine wpList_copy_known _ rfl _ _ 28 28 rfl _ _ rfl rfl hcB2 ?_
      go_wp2
      go_ret
      exact ⟨_, _, rfl, hfin, hGG⟩
    · have k1 : ¬ ((c : Int) < (n : Int) + 1) := by omega
      have k2 : (n : Int) + 1 ≤ (c : Int) := by omega
      have hov : ∀ lb cb, (callFunc 84 #[.slice (some ⟨g, 0, none⟩) 1 1, .slice (some ⟨b, ((i + 1) * 6), none⟩) lb cb]).run Tryd.prog w = .ok (.value (.bool false)) w := fun lb cb => by
        rw [run_callFunc_extern Tryd.func84 (by kernel_rfl) (by kernel_rfl) (by kernel_rfl) (e := Extern.SlicesOverlaps.overlaps #[28, 28] #[4]) (by kernel_rfl),
          Lib.run_overlaps_apart w 28 4 30 Tryd.underlying28 6 (by exact Tryd.sizeOf30) ⟨g, 0, none⟩ ⟨b, ((i + 1) * 6), none⟩ 1 1 lb cb hgb 30 30 x.length cur.toList.length (blk_shape hB) (blk_shape hCB) (by rw [hcl]; omega) (blk_free hB) (blk_free hB)]
        rfl
      obtain ⟨zA, hcA⟩ := run_copy_rowN (P := Tryd.prog) w.drew 28 28 3 30 6 b ((i + 1) * 6) (n - i) (c - (i + 1)) ⟨b, (i * 6), none⟩ (n + 1 - i) (c - i) cur.toList 30 (xs.drop (i * 6)) Tryd.underlying28 hsz (by exact hCB) (by rw [hdl]; simp only [Nat.min_def]; split <;> omega)
        (fun j v hj => by
          have := hR.2 (i * 6 + j) v (by rwa [List.getElem?_drop] at hj)
          rw [Addr.add_lit]
          have e : (hd (some (⟨b, 0, none⟩ : Addr))).add (i * 6 + j) = ⟨b, i * 6 + j, none⟩ := by
            show Addr.add ⟨b, 0, none⟩ _ = _
            rw [Addr.add_lit, Nat.zero_add]
          rw [e] at this
          show w.cell? _ = _
          simpa using this) (by rw [hdl, hcl]; omega) hone
      have hW2B := setRow_blk (w := w.drew) (q := b) (T := 30) (old := cur.toList) hCB (cur.toList.take ((i + 1) * 6) ++ xs.drop (i * 6) ++ cur.toList.drop (((i + 1) * 6) + (xs.drop (i * 6)).length))
      have hW2G := setRow_gr w.drew b (cur.toList.take ((i + 1) * 6) ++ xs.drop (i * 6) ++ cur.toList.drop (((i + 1) * 6) + (xs.drop (i * 6)).length)).toArray
      obtain ⟨L1, hL1⟩ : ∃ L1, L1 = cur.toList.take ((i + 1) * 6) ++ xs.drop (i * 6) ++ cur.toList.drop (((i + 1) * 6) + (xs.drop (i * 6)).length) := ⟨_, rfl⟩
      have hL1l : L1.length = c * 6 := by
        rw [hL1]; simp only [List.length_append, List.length_take, List.length_drop, hcl, hl]; omega
      rw [← hL1] at hcA hW2B hW2G
      generalize w.drew.setRow b L1.toArray = W2 at *
      have hG1 : w.grownBy W2 (some b) := ⟨hW2G.os, hW2G.tape, hW2G.output, hW2G.size, fun k hk hne => hW2G.block k hk hne⟩
      obtain ⟨zB, hcB⟩ := run_copy_rowN (P := Tryd.prog) W2 28 28 3 30 6 b (i * 6) (n + 1 - i) (c - i) ⟨g, 0, none⟩ 1 1 L1 30 x Tryd.underlying28 hsz hW2B (by rw [hx]; simp only [Nat.min_def]; split <;> omega) (fun j v hj => (hR2.grown hG1 (fun _ => hgb)).2 j v hj) (by rw [hx, hL1l]; omega) h1
      have hW3B := setRow_blk hW2B (L1.take (i * 6) ++ x ++ L1.drop ((i * 6) + x.length))
      have hW3G := setRow_gr W2 b (L1.take (i * 6) ++ x ++ L1.drop ((i * 6) + x.length)).toArray
      have hl3 : (L1.take (i * 6) ++ x ++ L1.drop ((i * 6) + x.length)).length = c * 6 := by simp [hL1l, hx]; omega
      have hfl : (L1.take (i * 6) ++ x ++ L1.drop ((i * 6) + x.length)).take ((n + 1) * 6) = RES := by
        have hct' : cur.toList.take xs.length = xs := by rw [hl]; exact hct
        have := ins_old (C := cur.toList) (xs := xs) (x := x) (p := i * 6) (s := 6) (q := ((i + 1) * 6) + (xs.drop (i * 6)).length) hct' (by rw [hcl]; omega) (by omega) hx
        rw [HR.out, hL1, hx]
        rw [hl] at this
        simpa [Nat.add_mul] using this
      generalize L1.take (i * 6) ++ x ++ L1.drop ((i * 6) + x.length) = L2 at *
      generalize W2.setRow b L2.toArray = W3 at *
      have hfin : W3.ownsRow base 30 6 (.slice (some ⟨b, 0, none⟩) (n + 1) c) (n + 1) RES := by
        refine ⟨?_, .inr ⟨b, c, L2.toArray, rfl, hbb, hW3B, by omega, hcm, by simpa using hl3, by simpa using hfl⟩⟩
        rw [← hfl, List.length_take, hl3]; omega
      have hGG : Gro w W3 (.slice (some ⟨b, 0, none⟩) n c) (.slice (some ⟨b, 0, none⟩) (n + 1) c) := ⟨⟨hW3G.os.trans hG1.os, hW3G.tape.trans hG1.tape, hW3G.output.trans hG1.output, Nat.le_trans hG1.size hW3G.size, fun k hk hne => (hW3G.block k (Nat.lt_of_lt_of_le hk hG1.size) hne).trans (hG1.block k hk hne)⟩, fun k hk => .inl hk⟩
      have kc : ¬ (c = i) := by omega
      have kc2 : ¬ (c = i + 1) := by omega
      have hcA2 : (Builtin.copy_ #[28, 28] 3 #[.slice (some ⟨b, ((i + 1) * 6), none⟩) (n + 1 - (i + 1)) (c - (i + 1)), .slice (some ⟨b, (i * 6), none⟩) (n + 1 - i) (c - i)]).run Tryd.prog w.drew = .ok (goInt zA) W2 := by
        rw [show n + 1 - (i + 1) = n - i from by omega]; exact hcA
      clear hb hct hcs hCB hB hR hR2 hW2B hW2G hfl hW3B hW3G hl3 hL1 hL1l hone hdl hl hsz hcl hG1
      go_enter Tryd.func58, Tryd.ntmps58
      go_upto_region 15 with (simp only [hov])
      refine wp_region_still_tail 8 (by kernel_rfl) (by kernel_rfl) ?_
      simp only [List.take_succ_cons, List.take_zero, List.drop_succ_cons, List.drop_zero]
      change wpStill _ _ w.drew _ _ _
      repeat still_step
      try refine wpStill_nil ?_
      change wpList _ _ _ _ _ w.drew
      first
        | refine wpList_copy_known _ rfl _ _ 28 28 rfl _ _ rfl rfl hcA ?_
        | refine wpList_copy_known _ rfl _ _ 28 28 rfl _ _ rfl rfl hcA2 ?_
      go_wp2_with (at_builtin; refine wpList_copy_known _ rfl _ _ 28 28 rfl _ _ rfl rfl hcB ?_)
      go_ret
      exact ⟨_, _, rfl, hfin, hGG⟩

set_option maxHeartbeats 4000000 in
/-- The list is this call's own; x, in a block of its own, goes to place i. -/
theorem insS_any {w : World} {base n : Nat} {u : Value} {xs x : List Value} (h : w.ownsRow base 9 1 u n xs) (hn : n ≤ 1000) {i : Nat} (hi : i ≤ n) {g : Nat} (hx : x.length = 1) (h1 : ∀ v ∈ x, v.oneCell' = true) (hB : Blk w g 9 x) (hug : u.ownBlock ≠ some g)
    (h1c : ∀ v ∈ xs, v.oneCell' = true) (hbase : base ≤ w.heap.size) :
    Calls Tryd.prog 57 #[u, .int .i64 (i : Int), .slice (some ⟨g, 0, none⟩) 1 1] w fun e w' => ∃ a' c', e = .returned (.slice a' (n + 1) c') ∧ w'.ownsRow base 9 1 (.slice a' (n + 1) c') (n + 1) (xs.take (i * 1) ++ x ++ xs.drop (i * 1)) ∧ Gro w w' u (.slice a' (n + 1) c') := by
  obtain ⟨RES, hRES⟩ : ∃ R, R = xs.take (i * 1) ++ x ++ xs.drop (i * 1) := ⟨_, rfl⟩
  rw [← hRES]
  have HR := Lib.hid hRES
  clear hRES
  have n0 : (0 : Int) ≤ (n : Int) := by omega
  have i0 : (0 : Int) ≤ (i : Int) := by omega
  have i1 : (i : Int) ≤ (n : Int) := by omega
  have wn : IntKind.i64.wrap ((n : Int) + 1) = (n : Int) + 1 := IntWalk.i64_in _ (by omega)
  have wi : IntKind.i64.wrap ((i : Int) + 1) = (i : Int) + 1 := IntWalk.i64_in _ (by omega)
  have wd : IntKind.i64.wrap ((n : Int) + 1 - (i : Int)) = (n : Int) + 1 - (i : Int) := IntWalk.i64_in _ (by omega)
  by_cases he : i = n
  · subst he
    have hl : xs.length = i * 1 := h.1
    have hsrc : Src Tryd.prog 1 27 (.slice (some ⟨g, 0, none⟩) 1 1) 1 x w := Src.ofRow eS.ht _ 1 1 x (by decide) (by rw [hx]) hB.row h1
    obtain ⟨v', w', hrun, hO, hG, hK⟩ := append_srcK (ty := 27) eS h hsrc (by unfold maxLen; omega) (by omega) hbase
    obtain ⟨a', c', rfl, _⟩ := owns_rowN hO (by decide)
    have hfin : w'.ownsRow base 9 1 (.slice a' (i + 1) c') (i + 1) RES := by
      rw [HR.out, ← hl, List.take_length, List.drop_length, List.append_nil]; exact hO
    have hGG : Gro w w' u (.slice a' (i + 1) c') := ⟨hG, hK⟩
    obtain ⟨a, c, rfl, hic, hcm, _, _⟩ := owns_rowN h (by decide)
    clear hO hsrc hB h
    by_cases hci : c = i
    · subst hci
      go_enter Tryd.func57, Tryd.ntmps57
      go_wp2_with (at_builtin; refine wpList_append_run hrun rfl rfl rfl rfl ?_)
      go_ret
      exact ⟨a', c', rfl, hfin, hGG⟩
    · go_enter Tryd.func57, Tryd.ntmps57
      go_wp2_with (at_builtin; refine wpList_append_run hrun rfl rfl rfl rfl ?_)
      go_ret
      exact ⟨a', c', rfl, hfin, hGG⟩
  · have hlt : i < n := by omega
    have ne : ¬ ((i : Int) = (n : Int)) := by omega
    obtain ⟨hl, ⟨_, h0⟩ | ⟨b, c, cur, rfl, hbb, hb, hnc, hcm, hcs, hct⟩⟩ := h
    · omega
    have hcm' : (c : Int) ≤ 9223372036854775807 := by unfold maxLen at hcm; omega
    have hgb : g ≠ b := fun e => hug (by rw [e]; rfl)
    have hCB : Blk w b 9 cur.toList := by unfold Blk; simpa using hb
    have hcl : cur.toList.length = c * 1 := by simpa using hcs
    have hgl := hB.lt
    have hbl := hCB.lt
    have hdl : (xs.drop (i * 1)).length = (n - i) * 1 := by rw [List.length_drop, hl]; omega
    have hone : ∀ v ∈ xs.drop (i * 1), v.oneCell' = true := fun v hv => h1c v (List.mem_of_mem_drop hv)
    have hsz : (Tryd.prog.info? 9).map (·.size) = some 1 := by kernel_rfl
    have tn : ((i : Int) + 1).toNat = i + 1 := by omega
    have hR : Row w (some ⟨b, 0, none⟩) xs := by rw [← hct]; exact hCB.row.take _
    have hR2 : Row w (some ⟨g, 0, none⟩) x := hB.row
    have i3 : (0 : Int) ≤ (i : Int) + 1 := by omega
    have i4 : (i : Int) + 1 ≤ (n : Int) + 1 := by omega
    have i5 : (i : Int) ≤ (n : Int) + 1 := by omega
    have n3 : (0 : Int) ≤ (n : Int) + 1 := by omega
    by_cases hroom : c < n + 1
    · obtain rfl : c = n := by omega
      have k1 : (c : Int) < (c : Int) + 1 := by omega
      obtain ⟨i0', hi0, hz0, hzs, hzb⟩ := info_parts (eS).hi
      have hold : (Builtin.firstCells i0'.size i (.slice (some ⟨b, 0, none⟩) i c)).run Tryd.prog w.drew = .ok (xs.take (i * 1)).toArray w.drew := by
        rw [hzs]
        exact run_firstCells_some w.drew 1 i ⟨b, 0, none⟩ i c (xs.take (i * 1)) (by rw [List.length_take, hl]; omega) (fun j v hj => by
          rw [List.getElem?_take] at hj
          split at hj
          · exact hR.2 j v hj
          · cases hj)
      obtain ⟨G, hG⟩ : ∃ G, G = grownCap w (c + 1) c 9 := ⟨_, rfl⟩
      have hGn : c + 1 ≤ G := by rw [hG]; exact grownCap_ge w _ _ _
      have hG63 : G ≤ maxLen := by rw [hG]; exact grownCap_le_maxLen w (c + 1) c 9 (by unfold maxLen; omega)
      have hrz : ∀ ty, ∃ W1 ROW, W1 = w.drew.alloc (.cells (List.toArray ROW) 9) ∧ ROW.length = G * 1 ∧ ROW.take (i * 1) = xs.take (i * 1) ∧ (Builtin.append_ #[27, 3] ty #[.slice (some ⟨b, 0, none⟩) i c, .int .i64 ((c : Int) + 1 - (i : Int))]).run Tryd.prog w =
          .ok (.slice (some ⟨w.heap.size, 0, none⟩) (c + 1) G) W1 := fun ty => by
        have h := Lib.run_append_grow_zeros w 27 3 ty 9 i0' _ .i64 .i64 Tryd.underlying27 Tryd.underlying3 hi0 hz0 (some ⟨b, 0, none⟩) i c (xs.take (i * 1)) hold (c + 1 - i) (by omega) (by rw [hzs]; decide) (by omega) (by omega) (by rw [hzb]; omega) (by
          have e : i + (c + 1 - i) = c + 1 := by omega
          rw [hzb, e]; exact growslice_fits hroom (by omega))
        have e : i + (c + 1 - i) = c + 1 := by omega
        rw [e] at h
        have e2 : ((c : Int) + 1 - (i : Int)) = ((c + 1 - i : Nat) : Int) := by omega
        rw [← hG] at h
        refine ⟨_, ((xs.take (i * 1)).toArray ++ Builtin.zeroCells (Value.string .empty).cells (c + 1 - i) ++ Builtin.zeroCells (Value.string .empty).cells (G - (c + 1))).toList, rfl, ?_, ?_, ?_⟩
        · simp [Builtin.zeroCells, Value.cells, hl]; omega
        · simp only [Array.toList_append, List.append_assoc]
          exact List.take_left' (by simp [hl]; omega)
        · rw [e2]
          simp only [Array.toArray_toList]
          exact h
      obtain ⟨W1, ROW, hW1, hRl, hRt, hrun⟩ := hrz 27
      clear hrz hold
      have hBN : Blk W1 w.heap.size 9 ROW := by rw [hW1]; exact Blk.new w.drew 9 (List.toArray ROW)
      have hb1 : Below w.heap.size w W1 := by rw [hW1]; exact (Below.drewN (Below.refl _ _) 1).alloc (Nat.le_refl _) _
      obtain ⟨N, hN⟩ : ∃ N, N = w.heap.size := ⟨_, rfl⟩
      rw [← hN] at hBN hrun hgl hbl hbase
      clear hW1
      obtain ⟨zA, hcA⟩ := run_copy_rowN (P := Tryd.prog) W1 27 27 3 9 1 N i (c + 1 - i) (G - i) ⟨g, 0, none⟩ 1 1 ROW 9 x Tryd.underlying27 hsz hBN (by rw [hx]; simp only [Nat.min_def]; split <;> omega) (fun j v hj => (hR2.below hb1).2 j v hj) (by rw [hx, hRl]; omega) h1
      have hW2B := setRow_blk hBN (ROW.take i ++ x ++ ROW.drop (i + x.length))
      have hW2G := setRow_gr W1 N (ROW.take i ++ x ++ ROW.drop (i + x.length)).toArray
      obtain ⟨L1, hL1⟩ : ∃ L1, L1 = ROW.take i ++ x ++ ROW.drop (i + x.length) := ⟨_, rfl⟩
      have hL1l : L1.length = G * 1 := by rw [hL1]; simp [hRl, hx]; omega
      rw [← hL1] at hcA hW2B hW2G
      generalize W1.setRow N L1.toArray = W2 at *
      have hb2 : Below w.heap.size w W2 := hb1.trans ⟨hW2G.os, hW2G.tape, hW2G.output, hW2G.size, fun k hk => hW2G.block k (Nat.lt_of_lt_of_le hk hb1.size) (fun e => by cases e; omega)⟩
      obtain ⟨zB, hcB⟩ := run_copy_rowN (P := Tryd.prog) W2.drew 27 27 3 9 1 N (i + 1) (c - i) (G - (i + 1)) ⟨b, i, none⟩ (c - i) (c - i) L1 9 (xs.drop (i * 1)) Tryd.underlying27 hsz (by exact hW2B) (by rw [hdl]; simp only [Nat.min_def]; split <;> omega)
        (fun j v hj => by
          have := (hR.below hb2).2 (i * 1 + j) v (by rwa [List.getElem?_drop] at hj)
          rw [Addr.add_lit]
          have e : (hd (some (⟨b, 0, none⟩ : Addr))).add (i * 1 + j) = ⟨b, i * 1 + j, none⟩ := by
            show Addr.add ⟨b, 0, none⟩ _ = _
            rw [Addr.add_lit, Nat.zero_add]
          rw [e] at this
          simpa using this) (by rw [hdl, hL1l]; omega) hone
      have hfl : (L1.take (i + 1) ++ xs.drop (i * 1) ++ L1.drop ((i + 1) + (xs.drop (i * 1)).length)).take ((c + 1) * 1) = RES := by
        rw [HR.out, hL1, hx]
        have := ins_new (R := ROW) (xs := xs) (x := x) (p := i * 1) (s := 1) (q := (i + 1) + (xs.drop (i * 1)).length) hRt (by omega) (by omega) hx
        rw [hl] at this
        simpa [Nat.add_mul] using this
      have hW3B := setRow_blk (w := W2.drew) (q := N) (T := 9) (old := L1) hW2B (L1.take (i + 1) ++ xs.drop (i * 1) ++ L1.drop ((i + 1) + (xs.drop (i * 1)).length))
      have hW3G := setRow_gr W2.drew N (L1.take (i + 1) ++ xs.drop (i * 1) ++ L1.drop ((i + 1) + (xs.drop (i * 1)).length)).toArray
      have hl3 : (L1.take (i + 1) ++ xs.drop (i * 1) ++ L1.drop ((i + 1) + (xs.drop (i * 1)).length)).length = G * 1 := by simp [hL1l, hl]; omega
      generalize L1.take (i + 1) ++ xs.drop (i * 1) ++ L1.drop ((i + 1) + (xs.drop (i * 1)).length) = L2 at *
      generalize W2.drew.setRow N L2.toArray = W3 at *
      have hb2' : Below w.heap.size w W2.drew := Below.drewN hb2 1
      have hb3 : Below w.heap.size w W3 := hb2'.trans ⟨hW3G.os, hW3G.tape, hW3G.output, hW3G.size, fun k hk => hW3G.block k (Nat.lt_of_lt_of_le hk hb2'.size) (fun e => by cases e; omega)⟩
      have hfin : W3.ownsRow base 9 1 (.slice (some ⟨N, 0, none⟩) (c + 1) G) (c + 1) RES := by
        refine ⟨?_, .inr ⟨N, G, L2.toArray, rfl, hbase, hW3B, hGn, hG63, by simpa using hl3, by simpa using hfl⟩⟩
        rw [← hfl, List.length_take, hl3]; omega
      have hGG : Gro w W3 (.slice (some ⟨b, 0, none⟩) c c) (.slice (some ⟨N, 0, none⟩) (c + 1) G) := ⟨grownBy_below hb3, fun k hk => .inr (by cases hk; show w.heap.size ≤ N; omega)⟩
      have kG1 : ¬ (G = i) := by omega
      have kG2 : ¬ (G = i + 1) := by omega
      have kc : ¬ (c = i) := by omega
      have kG3 : ((c : Int) + 1) ≤ (G : Int) := by omega
      clear hb hct hcs hCB hB hR hR2 hBN hb1 hW2B hW2G hb2 hfl hW3B hW3G hl3 hb2' hb3 hRl hRt hL1 hL1l hG hGn hone hdl hl hsz hi0 hz0 hzs hzb hN
      go_enter Tryd.func57, Tryd.ntmps57
      go_upto_region 11 with (first
        | (at_builtin; refine wpList_append_run hrun rfl rfl rfl rfl ?_)
        | (at_builtin; refine wpList_copy_known _ rfl _ _ 27 27 rfl _ _ rfl rfl hcA ?_))
      refine wp_region_still_tail 8 (by kernel_rfl) (by kernel_rfl) ?_
      simp only [List.take_succ_cons, List.take_zero, List.drop_succ_cons, List.drop_zero]
      change wpStill _ _ W2.drew _ _ _
      repeat still_step
      try refine wpStill_nil ?_
      change wpList _ _ _ _ _ W2.drew
      have hcB2 : (Builtin.copy_ #[27, 27] 3 #[.slice (some ⟨N, (i + 1), none⟩) (c + 1 - (i + 1)) (G - (i + 1)), .slice (some ⟨b, i, none⟩) (c - i) (c - i)]).run Tryd.prog W2.drew = .ok (goInt zB) W3 := by
        rw [show c + 1 - (i + 1) = c - i from by omega]; exact hcB
      first
        | refine wpList_copy_known _ rfl _ _ 27 27 rfl _ _ rfl rfl hcB ?_
        | refine wpList_copy_known _ rfl _ _ 27 27 rfl _ _ rfl rfl hcB2 ?_
      go_wp2
      go_ret
      exact ⟨_, _, rfl, hfin, hGG⟩
    · have k1 : ¬ ((c : Int) < (n : Int) + 1) := by omega
      have k2 : (n : Int) + 1 ≤ (c : Int) := by omega
      have hov : ∀ lb cb, (callFunc 82 #[.slice (some ⟨g, 0, none⟩) 1 1, .slice (some ⟨b, (i + 1), none⟩) lb cb]).run Tryd.prog w = .ok (.value (.bool false)) w := fun lb cb => by
        rw [run_callFunc_extern Tryd.func82 (by kernel_rfl) (by kernel_rfl) (by kernel_rfl) (e := Extern.SlicesOverlaps.overlaps #[27, 27] #[4]) (by kernel_rfl),
          Lib.run_overlaps_apart w 27 4 9 Tryd.underlying27 1 (by exact Tryd.sizeOf9) ⟨g, 0, none⟩ ⟨b, (i + 1), none⟩ 1 1 lb cb hgb 9 9 x.length cur.toList.length (blk_shape hB) (blk_shape hCB) (by rw [hcl]; omega) (blk_free hB) (blk_free hB)]
        rfl
      obtain ⟨zA, hcA⟩ := run_copy_rowN (P := Tryd.prog) w.drew 27 27 3 9 1 b (i + 1) (n - i) (c - (i + 1)) ⟨b, i, none⟩ (n + 1 - i) (c - i) cur.toList 9 (xs.drop (i * 1)) Tryd.underlying27 hsz (by exact hCB) (by rw [hdl]; simp only [Nat.min_def]; split <;> omega)
        (fun j v hj => by
          have := hR.2 (i * 1 + j) v (by rwa [List.getElem?_drop] at hj)
          rw [Addr.add_lit]
          have e : (hd (some (⟨b, 0, none⟩ : Addr))).add (i * 1 + j) = ⟨b, i * 1 + j, none⟩ := by
            show Addr.add ⟨b, 0, none⟩ _ = _
            rw [Addr.add_lit, Nat.zero_add]
          rw [e] at this
          show w.cell? _ = _
          simpa using this) (by rw [hdl, hcl]; omega) hone
      have hW2B := setRow_blk (w := w.drew) (q := b) (T := 9) (old := cur.toList) hCB (cur.toList.take (i + 1) ++ xs.drop (i * 1) ++ cur.toList.drop ((i + 1) + (xs.drop (i * 1)).length))
      have hW2G := setRow_gr w.drew b (cur.toList.take (i + 1) ++ xs.drop (i * 1) ++ cur.toList.drop ((i + 1) + (xs.drop (i * 1)).length)).toArray
      obtain ⟨L1, hL1⟩ : ∃ L1, L1 = cur.toList.take (i + 1) ++ xs.drop (i * 1) ++ cur.toList.drop ((i + 1) + (xs.drop (i * 1)).length) := ⟨_, rfl⟩
      have hL1l : L1.length = c * 1 := by
        rw [hL1]; simp only [List.length_append, List.length_take, List.length_drop, hcl, hl]; omega
      rw [← hL1] at hcA hW2B hW2G
      generalize w.drew.setRow b L1.toArray = W2 at *
      have hG1 : w.grownBy W2 (some b) := ⟨hW2G.os, hW2G.tape, hW2G.output, hW2G.size, fun k hk hne => hW2G.block k hk hne⟩
      obtain ⟨zB, hcB⟩ := run_copy_rowN (P := Tryd.prog) W2 27 27 3 9 1 b i (n + 1 - i) (c - i) ⟨g, 0, none⟩ 1 1 L1 9 x Tryd.underlying27 hsz hW2B (by rw [hx]; simp only [Nat.min_def]; split <;> omega) (fun j v hj => (hR2.grown hG1 (fun _ => hgb)).2 j v hj) (by rw [hx, hL1l]; omega) h1
      have hW3B := setRow_blk hW2B (L1.take i ++ x ++ L1.drop (i + x.length))
      have hW3G := setRow_gr W2 b (L1.take i ++ x ++ L1.drop (i + x.length)).toArray
      have hl3 : (L1.take i ++ x ++ L1.drop (i + x.length)).length = c * 1 := by simp [hL1l, hx]; omega
      have hfl : (L1.take i ++ x ++ L1.drop (i + x.length)).take ((n + 1) * 1) = RES := by
        have hct' : cur.toList.take xs.length = xs := by rw [hl]; exact hct
        have := ins_old (C := cur.toList) (xs := xs) (x := x) (p := i * 1) (s := 1) (q := (i + 1) + (xs.drop (i * 1)).length) hct' (by rw [hcl]; omega) (by omega) hx
        rw [HR.out, hL1, hx]
        rw [hl] at this
        simpa [Nat.add_mul] using this
      generalize L1.take i ++ x ++ L1.drop (i + x.length) = L2 at *
      generalize W2.setRow b L2.toArray = W3 at *
      have hfin : W3.ownsRow base 9 1 (.slice (some ⟨b, 0, none⟩) (n + 1) c) (n + 1) RES := by
        refine ⟨?_, .inr ⟨b, c, L2.toArray, rfl, hbb, hW3B, by omega, hcm, by simpa using hl3, by simpa using hfl⟩⟩
        rw [← hfl, List.length_take, hl3]; omega
      have hGG : Gro w W3 (.slice (some ⟨b, 0, none⟩) n c) (.slice (some ⟨b, 0, none⟩) (n + 1) c) := ⟨⟨hW3G.os.trans hG1.os, hW3G.tape.trans hG1.tape, hW3G.output.trans hG1.output, Nat.le_trans hG1.size hW3G.size, fun k hk hne => (hW3G.block k (Nat.lt_of_lt_of_le hk hG1.size) hne).trans (hG1.block k hk hne)⟩, fun k hk => .inl hk⟩
      have kc : ¬ (c = i) := by omega
      have kc2 : ¬ (c = i + 1) := by omega
      have hcA2 : (Builtin.copy_ #[27, 27] 3 #[.slice (some ⟨b, (i + 1), none⟩) (n + 1 - (i + 1)) (c - (i + 1)), .slice (some ⟨b, i, none⟩) (n + 1 - i) (c - i)]).run Tryd.prog w.drew = .ok (goInt zA) W2 := by
        rw [show n + 1 - (i + 1) = n - i from by omega]; exact hcA
      clear hb hct hcs hCB hB hR hR2 hW2B hW2G hfl hW3B hW3G hl3 hL1 hL1l hone hdl hl hsz hcl hG1
      go_enter Tryd.func57, Tryd.ntmps57
      go_upto_region 15 with (simp only [hov])
      refine wp_region_still_tail 8 (by kernel_rfl) (by kernel_rfl) ?_
      simp only [List.take_succ_cons, List.take_zero, List.drop_succ_cons, List.drop_zero]
      change wpStill _ _ w.drew _ _ _
      repeat still_step
      try refine wpStill_nil ?_
      change wpList _ _ _ _ _ w.drew
      first
        | refine wpList_copy_known _ rfl _ _ 27 27 rfl _ _ rfl rfl hcA ?_
        | refine wpList_copy_known _ rfl _ _ 27 27 rfl _ _ rfl rfl hcA2 ?_
      go_wp2_with (at_builtin; refine wpList_copy_known _ rfl _ _ 27 27 rfl _ _ rfl rfl hcB ?_)
      go_ret
      exact ⟨_, _, rfl, hfin, hGG⟩
end Go.Proofs.YtpchogicdnfggaaDoor
set_option maxRecDepth 20000
namespace Go.Proofs.YtpchogicdnfggaaDoor
open Go.RowKit Go.Hd
theorem cnan_any (s : ByteArray) (w : World) : Calls Tryd.prog 101 #[.string s] w fun e w' => e = .returned (.bool false) ∧ w = w' := by
  go_enter Tryd.func101, Tryd.ntmps101
  go_wp2
  go_ret
  exact ⟨rfl, rfl⟩
theorem snan_any (s : ByteArray) (w : World) : Calls Tryd.prog 81 #[.string s] w fun e w' => e = .returned (.bool false) ∧ w = w' := by
  go_enter Tryd.func81, Tryd.ntmps81
  go_wp2
  go_ret
  exact ⟨rfl, rfl⟩
theorem less_any2 (s t : List UInt8) (w : World) : Calls Tryd.prog 80 #[.string (str s), .string (str t)] w fun e w' => e = .returned (.bool (Op.bytesLess (str s).toList (str t).toList)) ∧ w = w' := by
  have hc := fun (x : ByteArray) w' => cnan_any x w'
  obtain ⟨S, hS⟩ : ∃ S, S = Op.bytesLess (str s).toList (str t).toList := ⟨_, rfl⟩
  rw [← hS]
  have hS2 : Op.bytesLess (str s).toList (str t).toList = S := hS.symm
  clear hS
  go_enter Tryd.func80, Tryd.ntmps80
  go_wp2_with fail
  refine (hc _ _).mono ?_
  rintro e w1 ⟨rfl, rfl⟩
  go_wp2
  go_ret
  exact ⟨rfl, rfl⟩
set_option maxHeartbeats 1000000 in
/-- The place of a key that is not there yet: i0. -/
theorem bs_any {a : Option Addr} {n c : Nat} {ks : List (List UInt8)} {k : List UInt8} {w : World} (hn : n = ks.length) (hr : Row w a (ks.map strV)) (hl : ks.length ≤ 1000) {i0 : Nat} (hi : i0 ≤ ks.length)
    (h1 : ∀ t (ht : t < ks.length), t < i0 → Op.bytesLess (str ks[t]).toList (str k).toList = true) (h2 : ∀ t (ht : t < ks.length), i0 ≤ t → Op.bytesLess (str ks[t]).toList (str k).toList = false) (hne : ∀ t (ht : t < ks.length), ((str ks[t]).toList == (str k).toList) = false) :
    Calls Tryd.prog 56 #[.slice a n c, .string (str k)] w fun e w' => e = .returned (.tuple #[.int .i64 (i0 : Int), .bool false]) ∧ Below w.heap.size w w' := by
  subst hn
  have hc := fun (x : ByteArray) w' => snan_any x w'
  have hls := fun s w' => less_any2 s k w'
  go_enter Tryd.func56, Tryd.ntmps56
  go_wp2
  go_loopw [7, 8] (fun i j wr => ∃ x y : Nat, i = .int .i64 x ∧ j = .int .i64 y ∧ x ≤ i0 ∧ i0 ≤ y ∧ y ≤ ks.length ∧ Hid (wr = w)) (fun i j _ => (intOf j).toNat - (intOf i).toNat)
  case atStart => exact ⟨0, ks.length, rfl, rfl, Nat.zero_le _, hi, Nat.le_refl _, Lib.hid rfl⟩
  case round =>
    obtain ⟨x, y, rfl, rfl, hx, hy, hyl, hw⟩ := hrel
    have hw := hw.out
    subst hw
    by_cases hlt : x < y
    · obtain ⟨m, hm⟩ : ∃ m, m = (x + y) / 2 := ⟨_, rfl⟩
      have hm1 : x ≤ m := by omega
      have hm2 : m < y := by omega
      have hml : m < ks.length := by omega
      have j1 : (x : Int) < (y : Int) := by omega
      have j2 : IntKind.i64.wrap ((x : Int) + (y : Int)) = (x : Int) + (y : Int) := IntWalk.i64_in _ (by omega)
      have j3 : IntKind.u64.wrap ((x : Int) + (y : Int)) = (x : Int) + (y : Int) := by rw [IntKind.wrap_u64]; omega
      have j6 : IntKind.i64.wrap ((m : Int) + 1) = (m : Int) + 1 := IntWalk.i64_in _ (by omega)
      have j7 : (0 : Int) ≤ (m : Int) := by omega
      have j8 : (m : Int) < (ks.length : Int) := by omega
      have s1 := hr.isSome (i := m) (by simpa using hml)
      have c1 : wr.cell? ((hd a).add m) = some (.string (str ks[m])) := hr.cell (i := m) (u := strV ks[m]) (by simp [hml])
      have hmI : Hid (((x : Int) + (y : Int)) / 2 = (m : Int)) := by show _ = _; omega
      clear hm
      have hlm := hls ks[m] wr
      have hlo : m < i0 → Op.bytesLess (str ks[m]).toList (str k).toList = true := h1 m hml
      have hhi : i0 ≤ m → Op.bytesLess (str ks[m]).toList (str k).toList = false := h2 m hml
      generalize Op.bytesLess (str ks[m]).toList (str k).toList = T at *
      generalize ks[m] = km at *
      go_upto_region 5 with (fail)
      rw [hmI.out]
      clear hmI
      go_wp2_with fail
      refine hlm.mono ?_
      rintro e w2 ⟨rfl, hw2⟩
      subst hw2
      by_cases hmi : m < i0
      · obtain rfl := hlo hmi
        clear hlo hhi
        go_wp2
        go_roundw
        case rel => exact ⟨m + 1, y, (by first | rfl | go_num | (congr 1; omega)), (by first | rfl | go_num | (congr 1; omega)), by omega, by omega, by omega, (by first | exact Lib.hid rfl | exact Lib.hid trivial)⟩
        case measure => simp [intOf]; omega
      · obtain rfl := hhi (by omega)
        clear hlo hhi
        go_wp2
        go_roundw
        case rel => exact ⟨x, m, (by first | rfl | go_num | (congr 1; omega)), (by first | rfl | go_num | (congr 1; omega)), by omega, by omega, by omega, (by first | exact Lib.hid rfl | exact Lib.hid trivial)⟩
        case measure => simp [intOf]; omega
    · obtain rfl : x = i0 := by omega
      obtain rfl : y = x := by omega
      have j1 : ¬ (y : Int) < (y : Int) := by omega
      by_cases hin : y < ks.length
      · have j2 : (y : Int) < (ks.length : Int) := by omega
        have j3 : (0 : Int) ≤ (y : Int) := by omega
        have s1 := hr.isSome (i := y) (by simpa using hin)
        have c1 : wr.cell? ((hd a).add y) = some (.string (str ks[y])) := hr.cell (i := y) (u := strV ks[y]) (by simp [hin])
        have hne1 := hne y hin
        generalize ks[y] = ky at *
        clear h1 h2 hne hls
        go_wp2_with fail
        refine (hc _ _).mono ?_
        rintro e w2 ⟨rfl, hw2⟩
        subst hw2
        go_wp2
        go_ret2
        exact ⟨rfl, Below.refl _ _⟩
      · have j2 : ¬ (y : Int) < (ks.length : Int) := by omega
        clear h1 h2 hne hls
        go_wp2
        go_ret2
        exact ⟨rfl, Below.refl _ _⟩
end Go.Proofs.YtpchogicdnfggaaDoor
