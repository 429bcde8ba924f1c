/- Joined: what one statement of this layer stands on, part 21 of 26; nothing is assumed. -/
import Derived.Test.YtpchogicdnfggaaGreatDoorKI5
import Derived.Test.YtpchogicdnfggaaGreatDoorKI6
import Derived.Test.YtpchogicdnfggaaGreatDoorKI20
set_option maxRecDepth 20000
namespace Go.Proofs.YtpchogicdnfggaaGreatDoor
open Go.RowKit Go.Hd
/-- What stands in memory while the document reads an item. -/
def RfI (w wx : World) (gx bs : Nat) (cs : List Value) (x : Itm) (a : Option Addr) (c : Nat) : Prop :=
  Blk wx gx 40 (itC x a c) ∧ Blk wx w.heap.size 50 cs ∧ Blk wx (w.heap.size + 1) 40 zIT.toList ∧ Below w.heap.size w wx ∧ wx.ownsRow bs 77 33 (.slice a x.parts.length c) x.parts.length (x.parts.map prtC).flatten ∧ w.heap.size + 2 ≤ gx ∧ gx + 1 ≤ bs
theorem RfI.below {w W W' : World} {gx bs : Nat} {cs : List Value} {x : Itm} {a : Option Addr} {c : Nat} (h : RfI w W gx bs cs x a c) (hb : Below W.heap.size W W') : RfI w W' gx bs cs x a c := by
  obtain ⟨h2, h3, h4, h5, h6, h7, h8⟩ := h
  exact ⟨h2.below hb, h3.below hb, h4.below hb, h5.trans (hb.mono h5.size), ownsRow_below h6 hb, h7, h8⟩
theorem RfI.set {w W : World} {gx bs : Nat} {cs : List Value} {x x' : Itm} {a : Option Addr} {c : Nat} (h : RfI w W gx bs cs x a c) (i : Nat) (u : Value) (hx : (itC x a c).set i u = itC x' a c) (hp : x'.parts = x.parts) : RfI w (W.setCell ⟨gx, i, none⟩ u) gx bs cs x' a c := by
  obtain ⟨h2, h3, h4, h5, h6, h7, h8⟩ := h
  have hg := grown_set (⟨rfl, rfl, rfl, Nat.le_refl _, fun _ _ _ => rfl⟩ : W.grownBy W (some gx)) i u
  refine ⟨?_, h3.grown hg (by omega), h4.grown hg (by omega), Below.grown h5 hg h5.size (fun k hk => by cases hk; omega), ?_, h7, h8⟩
  · rw [← hx]; exact h2.set i u
  · rw [hp]; exact ownsRow_setCell_other h6 (a := ⟨gx, i, none⟩) (fun e => by have := own_lt h6 _ e; simp at this; omega) u
/-- A cell of another block is set: one that is newer than all that counts. -/
theorem RfI.far {w W : World} {gx bs : Nat} {cs : List Value} {x : Itm} {a : Option Addr} {c : Nat} (h : RfI w W gx bs cs x a c) (q i : Nat) (u : Value) (hq : gx < q) (ho : (Value.slice a x.parts.length c).ownBlock ≠ some q) : RfI w (W.setCell ⟨q, i, none⟩ u) gx bs cs x a c := by
  obtain ⟨h2, h3, h4, h5, h6, h7, h8⟩ := h
  have hg := grown_set (⟨rfl, rfl, rfl, Nat.le_refl _, fun _ _ _ => rfl⟩ : W.grownBy W (some q)) i u
  exact ⟨h2.grown hg (by omega), h3.grown hg (by omega), h4.grown hg (by omega), Below.grown h5 hg h5.size (fun k hk => by cases hk; omega), ownsRow_setCell_other h6 (a := ⟨q, i, none⟩) ho u, h7, h8⟩
theorem RfI.put {w W w2 : World} {gx bs n : Nat} {cs : List Value} {x : Itm} {a a' : Option Addr} {c c' : Nat} {p : Prt} (h : RfI w W gx bs cs x a c) (hn : n = x.parts.length) (hO : w2.ownsRow bs 77 33 (.slice a' (n + 1) c') (n + 1) ((x.parts.map prtC).flatten ++ prtC p)) (hG : Gro W w2 (.slice a x.parts.length c) (.slice a' (n + 1) c')) :
    RfI w (w2.setCell ⟨gx, 6, none⟩ (.slice a' (n + 1) c')) gx bs cs { x with parts := x.parts ++ [p] } a' c' := by
  subst hn
  obtain ⟨h2, h3, h4, h5, h6, h7, h8⟩ := h
  have hlo := own_lt h6
  have hs5 := h5.size
  have g2 := hG.blkB h2 hlo (by omega)
  have g3 := hG.blkB h3 hlo (by omega)
  have g4 := hG.blkB h4 hlo (by omega)
  have g5 := h5.trans (hG.below hlo (old := w.heap.size) (by omega) (by omega))
  have hg := grown_set (⟨rfl, rfl, rfl, Nat.le_refl _, fun _ _ _ => rfl⟩ : w2.grownBy w2 (some gx)) 6 (.slice a' (x.parts.length + 1) c')
  refine ⟨?_, g3.grown hg (by omega), g4.grown hg (by omega), Below.grown g5 hg g5.size (fun k hk => by cases hk; omega), ?_, h7, h8⟩
  · have := g2.set 6 (.slice a' (x.parts.length + 1) c')
    have e : (itC x a c).set 6 (.slice a' (x.parts.length + 1) c') = itC { x with parts := x.parts ++ [p] } a' c' := by unfold itC; simp
    rw [e] at this; exact this
  · have := ownsRow_setCell_other hO (a := ⟨gx, 6, none⟩) (fun e => by have := own_lt hO _ e; simp at this; omega) (.slice a' (x.parts.length + 1) c')
    have e1 : ({ x with parts := x.parts ++ [p] } : Itm).parts.length = x.parts.length + 1 := by simp
    have e2 : (({ x with parts := x.parts ++ [p] } : Itm).parts.map prtC).flatten = (x.parts.map prtC).flatten ++ prtC p := by simp
    rw [e1, e2]; exact this
def RfJ (w wx : World) (gx : Nat) (cs : List Value) (v : PV) : Prop :=
  ∃ bs x a c, RfI w wx gx bs cs x a c ∧ x = refX v ∧ ItmOk x ∧ x.path.length ≤ 65536 ∧ x.parts.length ≤ 65536
theorem fldV_sm {v : PV} (h : Sm v) (key : List UInt8) : Sm (fldV v key) := by
  cases h with
  | @mk k n b t ks l a1 a2 a3 a4 _ =>
    rw [fldV_mk]
    split
    · cases hF : findK ks l key with
      | none => exact sm_zero
      | some x => exact a4 x (findK_mem hF)
    · exact sm_zero
/-- The part has a number of 32 bytes and a size. -/
def is32 (x : PV) : Bool := match x.list with
  | [a, _] => decide (a.bytes.length = 32)
  | _ => false
theorem is32_no2 {x : PV} (h : x.list.length ≠ 2) : is32 x = false := by
  unfold is32
  split
  · rename_i a b he; rw [he] at h; exact absurd rfl h
  · rfl
theorem is32_two {x a b : PV} (h : x.list = [a, b]) : is32 x = decide (a.bytes.length = 32) := by unfold is32; rw [h]
theorem refP_no {x : PV} (h : is32 x = false) : refP x = ⟨z32, 0⟩ := by
  unfold is32 at h
  unfold refP
  split at h
  · rename_i a b he
    rw [he]
    simp only
    rw [if_neg (by simpa using h)]
  · rename_i hne
    split
    · rename_i a b he; exact absurd he (hne a b)
    · rfl
theorem is32_yes {x : PV} (h : is32 x = true) : ∃ a b, x.list = [a, b] ∧ a.bytes.length = 32 ∧ refP x = ⟨a.bytes, b.int⟩ := by
  unfold is32 at h
  split at h
  · rename_i a b he
    refine ⟨a, b, he, by simpa using h, ?_⟩
    unfold refP
    rw [he]
    simp only
    rw [if_pos (by simpa using h)]
  · cases h
/-- A part half read: n bytes of its number. -/
def pcN (ids : List UInt8) (n : Nat) : List Value := (ids.take n ++ z32.drop n).map b8 ++ [.int .i64 0]
theorem pcN_set {ids : List UInt8} (hl : ids.length = 32) {n : Nat} (hn : n < 32) : (pcN ids n).set n (b8 (ids[n]'(by omega))) = pcN ids (n + 1) := by
  have e1 : ids.take (n + 1) = ids.take n ++ [ids[n]'(by omega)] := List.take_succ_eq_append_getElem (by omega)
  have hz : z32.length = 32 := by simp [z32]
  have e2 : z32.drop n = (z32[n]'(by omega)) :: z32.drop (n + 1) := List.drop_eq_getElem_cons (by omega)
  have hA : (ids.take n).length = n := by simp; omega
  unfold pcN
  rw [e1, e2]
  generalize ids.take n = A at *
  generalize z32.drop (n + 1) = Z at *
  simp only [List.map_append, List.map_cons, List.append_assoc, List.map_nil]
  rw [List.set_append_right n _ (by simp; omega)]
  simp [hA]
theorem pcN_end {ids : List UInt8} (hl : ids.length = 32) (n : Int) : (pcN ids 32).set 32 (.int .i64 n) = prtC ⟨ids, n⟩ := by
  have hz : z32.drop 32 = [] := by simp [z32]
  unfold pcN prtC
  rw [hz, List.take_of_length_le (by omega), List.append_nil]
  rw [List.set_append_right 32 _ (by simp; omega)]
  simp [hl]
theorem pcN_zero (ids : List UInt8) : pcN ids 0 = zPA.toList := by
  unfold pcN
  rw [List.take_zero, List.nil_append, List.drop_zero]
  rfl
theorem pcN_at {ids : List UInt8} (hl : ids.length = 32) {n : Nat} (hn : n < 32) : (pcN ids n)[n]? = some (b8 0) := by
  have hz : z32.length = 32 := by simp [z32]
  have e2 : z32.drop n = (z32[n]'(by omega)) :: z32.drop (n + 1) := List.drop_eq_getElem_cons (by omega)
  have e3 : z32[n]'(by omega) = 0 := List.getElem_replicate _
  have hA : (ids.take n).length = n := by simp; omega
  unfold pcN
  rw [e2, e3]
  generalize ids.take n = A at *
  generalize z32.drop (n + 1) = Z at *
  simp only [List.map_append, List.map_cons, List.append_assoc]
  rw [List.getElem?_append_right (by simp; omega)]
  simp [hA]
theorem pcN_32 {ids : List UInt8} (hl : ids.length = 32) : (pcN ids 32)[32]? = some (.int .i64 0) := by
  have hz : z32.drop 32 = [] := by simp [z32]
  unfold pcN
  rw [hz, List.take_of_length_le (by omega), List.append_nil]
  rw [List.getElem?_append_right (by simp; omega)]
  simp [hl]
theorem refP_ok {w : World} {cs : List Value} {x : PV} (h : VAt w cs x) : PrtOk (refP x) := by
  refine ⟨refP_id x, ?_⟩
  have hz : in64 0 := by unfold in64; decide
  obtain ⟨_, _, _, _, _, _, css, _, hcss, _, _, sub, _, _, _⟩ := VAt.cellsL h
  unfold refP
  split
  · rename_i a b he
    split
    · rw [he] at hcss sub
      have := sub 1 (css[1]'(by rw [hcss]; simp)) b (List.getElem?_eq_getElem _) rfl
      obtain ⟨_, _, _, _, _, _, _, _, _, _, _, _, _, h7, _⟩ := VAt.cellsL this
      exact h7
    · exact hz
  · exact hz
theorem Sm.listL {v : PV} (h : Sm v) : v.list.length ≤ 65536 := by cases h with | mk a b c d _ => exact c
theorem run_alIT {w : World} {ρ : Operand → Value} {dst : Option Tmp} {ty : TypeId} {pos : String} {after : Array Edge} {guard : Option (Nat × Bool)} : (execOp ρ { dst, op := .alloc 40, type := ty, pos, after, guard }).run Tryz.prog w = .ok (.value (.pointer (some ⟨w.heap.size, 0, none⟩))) (w.alloc (.cells zIT 40)) := by
  rw [h_alIT, Sem.run_bind, r_alIT]; rfl
theorem VAt.int5 {w : World} {cs : List Value} {v : PV} (h : VAt w cs v) : in64 v.int ∧ v.text.length ≤ maxLen := by
  obtain ⟨_, _, _, _, _, _, _, _, _, _, _, _, _, h1, h2⟩ := VAt.cellsL h
  exact ⟨h1, h2⟩
theorem run_bdOp21 {P : Program} {ρ : Operand → Value} {dst : Option Tmp} {ty : TypeId} {pos : String} {after : Array Edge} {guard : Option (Nat × Bool)} {t : TypeId} {parts : Array (Nat × Operand)} {vals : Array (Nat × Value)} {v : Value} {w w' : World} (hp : (parts.map fun (i, x) => (i, ρ x)) = vals) (h : (bdOp t vals).run P w = .ok v w') :
    (execOp ρ { dst, op := .build t parts, type := ty, pos, after, guard }).run P w = .ok (.value v) w' := by
  rw [ex_bd, hp, Sem.run_bind, h]; rfl
attribute [local go_sem ↓] h_ldV h_stV h_alV h_ldIT h_stIT h_alIT h_bdIT h_ldPA h_stPA h_alPA h_bsPA h_bdPA
attribute [local go_sem] r_ldV r_stV r_alV r_ldIT r_stIT r_alIT r_ldPA r_stPA r_alPA r_bsPA
set_option maxHeartbeats 8000000 in
set_option pp.deepTerms true in
theorem rof_any {w0 : World} {cs : List Value} {v : PV} (h : VAt w0 cs v) (hsm : Sm v) (w : World) (hbw : Below w0.heap.size w0 w) : Calls Tryz.prog 18 #[.agg (List.toArray cs)] w (OfP w v) := by
  have hcl := h.len
  have hone : OneC (List.toArray cs) := all_oneCell_toArray h.one
  have c6 : (List.toArray cs).size = 6 := by simpa using hcl
  have zs := zIT_size
  have zv := zV_size
  have zp := zPA_size
  have zpo := zPA_one
  have hO6c := oneC6
  have hszw := hbw.size
  obtain ⟨dp, hdp, cp⟩ := rfield_any [112] h hsm
  obtain ⟨dk, hdk, ck⟩ := rfield_any [107] h hsm
  obtain ⟨dm, hdm, cm⟩ := rfield_any [109] h hsm
  obtain ⟨dt, hdt, ct⟩ := rfield_any [116] h hsm
  obtain ⟨dl, hdl, cl⟩ := rfield_any [108] h hsm
  obtain ⟨ds, hds, cs1⟩ := rfield_any [115] h hsm
  obtain ⟨dc, hdc, cc⟩ := rfield_any [99] h hsm
  have fp := fldTxt hdp
  have fk := fldInt hdk
  have fm := fldInt hdm
  have ft := fldInt hdt
  have fl := fldTxt hdl
  have fs := fldInt hds
  have hRX : Hid (refX v = ⟨(fldV v [112]).text, (fldV v [107]).int, (fldV v [109]).int, (fldV v [116]).int, if (fldV v [107]).int = 3 then (fldV v [108]).text else [], if (fldV v [107]).int = 1 then (fldV v [115]).int else 0, if (fldV v [107]).int = 1 then ((fldV v [99]).list.take 65).map refP else []⟩) := rfl
  have HLM : Hid (in64 (fldV v [107]).int ∧ in64 (fldV v [109]).int ∧ in64 (fldV v [116]).int ∧ in64 (fldV v [115]).int ∧ (fldV v [112]).text.length ≤ 65536 ∧ (fldV v [108]).text.length ≤ maxLen) := ⟨(VAt.int5 hdk).1, (VAt.int5 hdm).1, (VAt.int5 hdt).1, (VAt.int5 hds).1, (fldV_sm hsm _).text, (VAt.int5 hdl).2⟩
  generalize (fldV v [112]).text = P at *
  generalize (fldV v [107]).int = K at *
  generalize (fldV v [109]).int = M at *
  generalize (fldV v [116]).int = T at *
  generalize (fldV v [108]).text = TT at *
  generalize (fldV v [115]).int = SZ at *
  have HLs := (fldV_sm hsm [99]).listL
  clear hdp hdk hdm hdt hdl hds
  have hb0 : Below w.heap.size w ((w.alloc (.cells (List.toArray cs) 50)).alloc (.cells zIT 40)) := ((Below.refl _ _).alloc (Nat.le_refl _) _).alloc (by simp) _
  have hB0 : Blk ((w.alloc (.cells (List.toArray cs) 50)).alloc (.cells zIT 40)) w.heap.size 50 cs := by simpa using (Blk.new w 50 (List.toArray cs)).alloc (.cells zIT 40)
  have hR0 : Blk ((w.alloc (.cells (List.toArray cs) 50)).alloc (.cells zIT 40)) (w.heap.size + 1) 40 zIT.toList := by
    have := Blk.new (w.alloc (.cells (List.toArray cs) 50)) 40 zIT
    simpa using this
  have hSz0 : ((w.alloc (.cells (List.toArray cs) 50)).alloc (.cells zIT 40)).heap.size = w.heap.size + 2 := by simp
  go_enter Tryz.func18, Tryz.ntmps18
  go_upto_region 1 with (fail)
  generalize (w.alloc (.cells (List.toArray cs) 50)).alloc (.cells zIT 40) = W at *
  have hbi := fun w' => bd_itm (p := P) (k := K) (m := M) (t := T) (w := w')
  obtain ⟨X, hX⟩ : ∃ X, X = itC ⟨P, K, M, T, [], 0, []⟩ none 0 := ⟨_, rfl⟩
  rw [← hX] at hbi
  have HX := Lib.hid hX
  have X7 : (List.toArray X).size = 7 := by rw [hX]; rfl
  have Xo : OneC (List.toArray X) := all_oneCell_toArray (by rw [hX]; exact itC_one _ _ _)
  clear hX
  --REGION1
  have hSm : ∀ (L : Array Bool) (w1 w2 : World), (Blk w1 w.heap.size 50 cs ∧ Mo (W.drewN 1) w1) → Mo w1 w2 → (Blk w2 w.heap.size 50 cs ∧ Mo (W.drewN 1) w2) := fun _ w1 w2 h hm => ⟨h.1.below hm, Mo.trans h.2 hm⟩
  have hSi : ∀ i, i ≠ 99 → ∀ (L : Array Bool) (w1 : World), (Blk w1 w.heap.size 50 cs ∧ Mo (W.drewN 1) w1) ↔ (Blk w1 w.heap.size 50 cs ∧ Mo (W.drewN 1) w1) := fun _ _ _ _ => Iff.rfl
  have hS0 : (Blk (W.drewN 1) w.heap.size 50 cs ∧ Mo (W.drewN 1) (W.drewN 1)) := ⟨hB0.drewN 1, Mo.refl _⟩
  have hbT : ∀ w1, Mo (W.drewN 1) w1 → Below w0.heap.size w0 w1 := fun w1 hm => (hbw.trans (hb0.mono hszw)).trans ((Below.drewN' hm).mono (Nat.le_trans hszw hb0.size))
  refine wp_region_upN (S := fun _ w1 => (Blk w1 w.heap.size 50 cs ∧ Mo (W.drewN 1) w1)) 15 rfl (by kernel_rfl) ?_
  refine wpAnyU_take (i := 0) (A := fun w1 => (Blk w1 w.heap.size 50 cs ∧ Mo (W.drewN 1) w1)) (v := .agg (List.toArray cs)) (a' := ⟨#[.agg (List.toArray cs), .pointer (some ⟨w.heap.size, 0, none⟩), .pointer (some ⟨w.heap.size + 1, 0, none⟩), .int .i64 0, undef, undef, undef, undef, undef, undef, undef, .agg (List.toArray cs), undef, undef, undef, undef, undef, undef, undef, undef, undef, undef, undef, undef, undef, undef, undef, undef, undef, undef, undef, undef, undef, undef, undef, undef, undef, undef, undef, undef, undef, undef, undef, undef, undef, undef, undef, undef, undef, undef, undef, undef, undef, undef, undef, undef, undef, undef, undef, undef, undef, undef, undef, undef, undef, undef, undef, undef, undef, undef, undef, undef, undef, undef, undef, undef, undef, undef, undef, undef, undef, undef, undef, undef, undef, undef, undef, undef, undef, undef, undef, undef, undef, undef, undef, undef, undef, undef, undef, undef, undef, undef, undef, undef, undef, undef, undef, undef, undef, undef, undef, undef], []⟩) hSm (hSi 0 (by decide)) (fun _ _ h => h) rfl (by kernel_rfl) (by kernel_rfl) (by kernel_rfl) (fun _ _ _ h => h) hS0 (Tame.val rfl (fun w' hA => run_ldOp (ldOp_all hA.1 Tryz.underlying50 rfl (by rw [hcl]; exact sizeV)))) rfl ?_
  refine wpAnyU_take (i := 1) (A := fun w1 => (Blk w1 w.heap.size 50 cs ∧ Mo (W.drewN 1) w1)) (v := .agg (List.toArray dp)) (a' := ⟨#[.agg (List.toArray cs), .pointer (some ⟨w.heap.size, 0, none⟩), .pointer (some ⟨w.heap.size + 1, 0, none⟩), .int .i64 0, undef, undef, undef, undef, undef, undef, undef, .agg (List.toArray cs), .agg (List.toArray dp), undef, undef, undef, undef, undef, undef, undef, undef, undef, undef, undef, undef, undef, undef, undef, undef, undef, undef, undef, undef, undef, undef, undef, undef, undef, undef, undef, undef, undef, undef, undef, undef, undef, undef, undef, undef, undef, undef, undef, undef, undef, undef, undef, undef, undef, undef, undef, undef, undef, undef, undef, undef, undef, undef, undef, undef, undef, undef, undef, undef, undef, undef, undef, undef, undef, undef, undef, undef, undef, undef, undef, undef, undef, undef, undef, undef, undef, undef, undef, undef, undef, undef, undef, undef, undef, undef, undef, undef, undef, undef, undef, undef, undef, undef, undef, undef, undef, undef, undef], []⟩) hSm (hSi 1 (by decide)) (fun _ _ h => h) rfl (by kernel_rfl) (by kernel_rfl) (by kernel_rfl) (fun _ _ _ h => h) hS0 (.inl ⟨by rfl, fun w' hA => .inr ⟨33, #[.agg (List.toArray cs), .string (str [112])], (by go_simp; rfl), cp w' (hbT w' hA.2)⟩⟩) rfl ?_
  refine wpAnyU_take (i := 2) (A := fun w1 => (Blk w1 w.heap.size 50 cs ∧ Mo (W.drewN 1) w1)) (v := .string (str P)) (a' := ⟨#[.agg (List.toArray cs), .pointer (some ⟨w.heap.size, 0, none⟩), .pointer (some ⟨w.heap.size + 1, 0, none⟩), .int .i64 0, undef, undef, undef, undef, undef, undef, undef, .agg (List.toArray cs), .agg (List.toArray dp), .string (str P), undef, undef, undef, undef, undef, undef, undef, undef, undef, undef, undef, undef, undef, undef, undef, undef, undef, undef, undef, undef, undef, undef, undef, undef, undef, undef, undef, undef, undef, undef, undef, undef, undef, undef, undef, undef, undef, undef, undef, undef, undef, undef, undef, undef, undef, undef, undef, undef, undef, undef, undef, undef, undef, undef, undef, undef, undef, undef, undef, undef, undef, undef, undef, undef, undef, undef, undef, undef, undef, undef, undef, undef, undef, undef, undef, undef, undef, undef, undef, undef, undef, undef, undef, undef, undef, undef, undef, undef, undef, undef, undef, undef, undef, undef, undef, undef, undef, undef], []⟩) hSm (hSi 2 (by decide)) (fun _ _ h => h) rfl (by kernel_rfl) (by kernel_rfl) (by kernel_rfl) (fun _ _ _ h => h) hS0 (Tame.val rfl (fun w' _ => by have h1 := fp w'; go_simp)) rfl ?_
  refine wpAnyU_take (i := 3) (A := fun w1 => (Blk w1 w.heap.size 50 cs ∧ Mo (W.drewN 1) w1)) (v := .agg (List.toArray cs)) (a' := ⟨#[.agg (List.toArray cs), .pointer (some ⟨w.heap.size, 0, none⟩), .pointer (some ⟨w.heap.size + 1, 0, none⟩), .int .i64 0, undef, undef, undef, undef, undef, undef, undef, .agg (List.toArray cs), .agg (List.toArray dp), .string (str P), .agg (List.toArray cs), undef, undef, undef, undef, undef, undef, undef, undef, undef, undef, undef, undef, undef, undef, undef, undef, undef, undef, undef, undef, undef, undef, undef, undef, undef, undef, undef, undef, undef, undef, undef, undef, undef, undef, undef, undef, undef, undef, undef, undef, undef, undef, undef, undef, undef, undef, undef, undef, undef, undef, undef, undef, undef, undef, undef, undef, undef, undef, undef, undef, undef, undef, undef, undef, undef, undef, undef, undef, undef, undef, undef, undef, undef, undef, undef, undef, undef, undef, undef, undef, undef, undef, undef, undef, undef, undef, undef, undef, undef, undef, undef, undef, undef, undef, undef, undef, undef], []⟩) hSm (hSi 3 (by decide)) (fun _ _ h => h) rfl (by kernel_rfl) (by kernel_rfl) (by kernel_rfl) (fun _ _ _ h => h) hS0 (Tame.val rfl (fun w' hA => run_ldOp (ldOp_all hA.1 Tryz.underlying50 rfl (by rw [hcl]; exact sizeV)))) rfl ?_
  refine wpAnyU_take (i := 4) (A := fun w1 => (Blk w1 w.heap.size 50 cs ∧ Mo (W.drewN 1) w1)) (v := .agg (List.toArray dk)) (a' := ⟨#[.agg (List.toArray cs), .pointer (some ⟨w.heap.size, 0, none⟩), .pointer (some ⟨w.heap.size + 1, 0, none⟩), .int .i64 0, undef, undef, undef, undef, undef, undef, undef, .agg (List.toArray cs), .agg (List.toArray dp), .string (str P), .agg (List.toArray cs), .agg (List.toArray dk), undef, undef, undef, undef, undef, undef, undef, undef, undef, undef, undef, undef, undef, undef, undef, undef, undef, undef, undef, undef, undef, undef, undef, undef, undef, undef, undef, undef, undef, undef, undef, undef, undef, undef, undef, undef, undef, undef, undef, undef, undef, undef, undef, undef, undef, undef, undef, undef, undef, undef, undef, undef, undef, undef, undef, undef, undef, undef, undef, undef, undef, undef, undef, undef, undef, undef, undef, undef, undef, undef, undef, undef, undef, undef, undef, undef, undef, undef, undef, undef, undef, undef, undef, undef, undef, undef, undef, undef, undef, undef, undef, undef, undef, undef, undef, undef], []⟩) hSm (hSi 4 (by decide)) (fun _ _ h => h) rfl (by kernel_rfl) (by kernel_rfl) (by kernel_rfl) (fun _ _ _ h => h) hS0 (.inl ⟨by rfl, fun w' hA => .inr ⟨33, #[.agg (List.toArray cs), .string (str [107])], (by go_simp; rfl), ck w' (hbT w' hA.2)⟩⟩) rfl ?_
  refine wpAnyU_take (i := 5) (A := fun w1 => (Blk w1 w.heap.size 50 cs ∧ Mo (W.drewN 1) w1)) (v := .int .i64 K) (a' := ⟨#[.agg (List.toArray cs), .pointer (some ⟨w.heap.size, 0, none⟩), .pointer (some ⟨w.heap.size + 1, 0, none⟩), .int .i64 0, undef, undef, undef, undef, undef, undef, undef, .agg (List.toArray cs), .agg (List.toArray dp), .string (str P), .agg (List.toArray cs), .agg (List.toArray dk), .int .i64 K, undef, undef, undef, undef, undef, undef, undef, undef, undef, undef, undef, undef, undef, undef, undef, undef, undef, undef, undef, undef, undef, undef, undef, undef, undef, undef, undef, undef, undef, undef, undef, undef, undef, undef, undef, undef, undef, undef, undef, undef, undef, undef, undef, undef, undef, undef, undef, undef, undef, undef, undef, undef, undef, undef, undef, undef, undef, undef, undef, undef, undef, undef, undef, undef, undef, undef, undef, undef, undef, undef, undef, undef, undef, undef, undef, undef, undef, undef, undef, undef, undef, undef, undef, undef, undef, undef, undef, undef, undef, undef, undef, undef, undef, undef, undef], []⟩) hSm (hSi 5 (by decide)) (fun _ _ h => h) rfl (by kernel_rfl) (by kernel_rfl) (by kernel_rfl) (fun _ _ _ h => h) hS0 (Tame.val rfl (fun w' _ => by have h1 := fk w'; go_simp)) rfl ?_
  refine wpAnyU_take (i := 6) (A := fun w1 => (Blk w1 w.heap.size 50 cs ∧ Mo (W.drewN 1) w1)) (v := .agg (List.toArray cs)) (a' := ⟨#[.agg (List.toArray cs), .pointer (some ⟨w.heap.size, 0, none⟩), .pointer (some ⟨w.heap.size + 1, 0, none⟩), .int .i64 0, undef, undef, undef, undef, undef, undef, undef, .agg (List.toArray cs), .agg (List.toArray dp), .string (str P), .agg (List.toArray cs), .agg (List.toArray dk), .int .i64 K, .agg (List.toArray cs), undef, undef, undef, undef, undef, undef, undef, undef, undef, undef, undef, undef, undef, undef, undef, undef, undef, undef, undef, undef, undef, undef, undef, undef, undef, undef, undef, undef, undef, undef, undef, undef, undef, undef, undef, undef, undef, undef, undef, undef, undef, undef, undef, undef, undef, undef, undef, undef, undef, undef, undef, undef, undef, undef, undef, undef, undef, undef, undef, undef, undef, undef, undef, undef, undef, undef, undef, undef, undef, undef, undef, undef, undef, undef, undef, undef, undef, undef, undef, undef, undef, undef, undef, undef, undef, undef, undef, undef, undef, undef, undef, undef, undef, undef], []⟩) hSm (hSi 6 (by decide)) (fun _ _ h => h) rfl (by kernel_rfl) (by kernel_rfl) (by kernel_rfl) (fun _ _ _ h => h) hS0 (Tame.val rfl (fun w' hA => run_ldOp (ldOp_all hA.1 Tryz.underlying50 rfl (by rw [hcl]; exact sizeV)))) rfl ?_
  refine wpAnyU_take (i := 7) (A := fun w1 => (Blk w1 w.heap.size 50 cs ∧ Mo (W.drewN 1) w1)) (v := .agg (List.toArray dm)) (a' := ⟨#[.agg (List.toArray cs), .pointer (some ⟨w.heap.size, 0, none⟩), .pointer (some ⟨w.heap.size + 1, 0, none⟩), .int .i64 0, undef, undef, undef, undef, undef, undef, undef, .agg (List.toArray cs), .agg (List.toArray dp), .string (str P), .agg (List.toArray cs), .agg (List.toArray dk), .int .i64 K, .agg (List.toArray cs), .agg (List.toArray dm), undef, undef, undef, undef, undef, undef, undef, undef, undef, undef, undef, undef, undef, undef, undef, undef, undef, undef, undef, undef, undef, undef, undef, undef, undef, undef, undef, undef, undef, undef, undef, undef, undef, undef, undef, undef, undef, undef, undef, undef, undef, undef, undef, undef, undef, undef, undef, undef, undef, undef, undef, undef, undef, undef, undef, undef, undef, undef, undef, undef, undef, undef, undef, undef, undef, undef, undef, undef, undef, undef, undef, undef, undef, undef, undef, undef, undef, undef, undef, undef, undef, undef, undef, undef, undef, undef, undef, undef, undef, undef, undef, undef, undef], []⟩) hSm (hSi 7 (by decide)) (fun _ _ h => h) rfl (by kernel_rfl) (by kernel_rfl) (by kernel_rfl) (fun _ _ _ h => h) hS0 (.inl ⟨by rfl, fun w' hA => .inr ⟨33, #[.agg (List.toArray cs), .string (str [109])], (by go_simp; rfl), cm w' (hbT w' hA.2)⟩⟩) rfl ?_
  refine wpAnyU_take (i := 8) (A := fun w1 => (Blk w1 w.heap.size 50 cs ∧ Mo (W.drewN 1) w1)) (v := .int .i64 M) (a' := ⟨#[.agg (List.toArray cs), .pointer (some ⟨w.heap.size, 0, none⟩), .pointer (some ⟨w.heap.size + 1, 0, none⟩), .int .i64 0, undef, undef, undef, undef, undef, undef, undef, .agg (List.toArray cs), .agg (List.toArray dp), .string (str P), .agg (List.toArray cs), .agg (List.toArray dk), .int .i64 K, .agg (List.toArray cs), .agg (List.toArray dm), .int .i64 M, undef, undef, undef, undef, undef, undef, undef, undef, undef, undef, undef, undef, undef, undef, undef, undef, undef, undef, undef, undef, undef, undef, undef, undef, undef, undef, undef, undef, undef, undef, undef, undef, undef, undef, undef, undef, undef, undef, undef, undef, undef, undef, undef, undef, undef, undef, undef, undef, undef, undef, undef, undef, undef, undef, undef, undef, undef, undef, undef, undef, undef, undef, undef, undef, undef, undef, undef, undef, undef, undef, undef, undef, undef, undef, undef, undef, undef, undef, undef, undef, undef, undef, undef, undef, undef, undef, undef, undef, undef, undef, undef, undef], []⟩) hSm (hSi 8 (by decide)) (fun _ _ h => h) rfl (by kernel_rfl) (by kernel_rfl) (by kernel_rfl) (fun _ _ _ h => h) hS0 (Tame.val rfl (fun w' _ => by have h1 := fm w'; go_simp)) rfl ?_
  refine wpAnyU_take (i := 9) (A := fun w1 => (Blk w1 w.heap.size 50 cs ∧ Mo (W.drewN 1) w1)) (v := .agg (List.toArray cs)) (a' := ⟨#[.agg (List.toArray cs), .pointer (some ⟨w.heap.size, 0, none⟩), .pointer (some ⟨w.heap.size + 1, 0, none⟩), .int .i64 0, undef, undef, undef, undef, undef, undef, undef, .agg (List.toArray cs), .agg (List.toArray dp), .string (str P), .agg (List.toArray cs), .agg (List.toArray dk), .int .i64 K, .agg (List.toArray cs), .agg (List.toArray dm), .int .i64 M, .agg (List.toArray cs), undef, undef, undef, undef, undef, undef, undef, undef, undef, undef, undef, undef, undef, undef, undef, undef, undef, undef, undef, undef, undef, undef, undef, undef, undef, undef, undef, undef, undef, undef, undef, undef, undef, undef, undef, undef, undef, undef, undef, undef, undef, undef, undef, undef, undef, undef, undef, undef, undef, undef, undef, undef, undef, undef, undef, undef, undef, undef, undef, undef, undef, undef, undef, undef, undef, undef, undef, undef, undef, undef, undef, undef, undef, undef, undef, undef, undef, undef, undef, undef, undef, undef, undef, undef, undef, undef, undef, undef, undef, undef, undef], []⟩) hSm (hSi 9 (by decide)) (fun _ _ h => h) rfl (by kernel_rfl) (by kernel_rfl) (by kernel_rfl) (fun _ _ _ h => h) hS0 (Tame.val rfl (fun w' hA => run_ldOp (ldOp_all hA.1 Tryz.underlying50 rfl (by rw [hcl]; exact sizeV)))) rfl ?_
  refine wpAnyU_take (i := 10) (A := fun w1 => (Blk w1 w.heap.size 50 cs ∧ Mo (W.drewN 1) w1)) (v := .agg (List.toArray dt)) (a' := ⟨#[.agg (List.toArray cs), .pointer (some ⟨w.heap.size, 0, none⟩), .pointer (some ⟨w.heap.size + 1, 0, none⟩), .int .i64 0, undef, undef, undef, undef, undef, undef, undef, .agg (List.toArray cs), .agg (List.toArray dp), .string (str P), .agg (List.toArray cs), .agg (List.toArray dk), .int .i64 K, .agg (List.toArray cs), .agg (List.toArray dm), .int .i64 M, .agg (List.toArray cs), .agg (List.toArray dt), undef, undef, undef, undef, undef, undef, undef, undef, undef, undef, undef, undef, undef, undef, undef, undef, undef, undef, undef, undef, undef, undef, undef, undef, undef, undef, undef, undef, undef, undef, undef, undef, undef, undef, undef, undef, undef, undef, undef, undef, undef, undef, undef, undef, undef, undef, undef, undef, undef, undef, undef, undef, undef, undef, undef, undef, undef, undef, undef, undef, undef, undef, undef, undef, undef, undef, undef, undef, undef, undef, undef, undef, undef, undef, undef, undef, undef, undef, undef, undef, undef, undef, undef, undef, undef, undef, undef, undef, undef, undef], []⟩) hSm (hSi 10 (by decide)) (fun _ _ h => h) rfl (by kernel_rfl) (by kernel_rfl) (by kernel_rfl) (fun _ _ _ h => h) hS0 (.inl ⟨by rfl, fun w' hA => .inr ⟨33, #[.agg (List.toArray cs), .string (str [116])], (by go_simp; rfl), ct w' (hbT w' hA.2)⟩⟩) rfl ?_
  refine wpAnyU_take (i := 11) (A := fun w1 => (Blk w1 w.heap.size 50 cs ∧ Mo (W.drewN 1) w1)) (v := .int .i64 T) (a' := ⟨#[.agg (List.toArray cs), .pointer (some ⟨w.heap.size, 0, none⟩), .pointer (some ⟨w.heap.size + 1, 0, none⟩), .int .i64 0, undef, undef, undef, undef, undef, undef, undef, .agg (List.toArray cs), .agg (List.toArray dp), .string (str P), .agg (List.toArray cs), .agg (List.toArray dk), .int .i64 K, .agg (List.toArray cs), .agg (List.toArray dm), .int .i64 M, .agg (List.toArray cs), .agg (List.toArray dt), .int .i64 T, undef, undef, undef, undef, undef, undef, undef, undef, undef, undef, undef, undef, undef, undef, undef, undef, undef, undef, undef, undef, undef, undef, undef, undef, undef, undef, undef, undef, undef, undef, undef, undef, undef, undef, undef, undef, undef, undef, undef, undef, undef, undef, undef, undef, undef, undef, undef, undef, undef, undef, undef, undef, undef, undef, undef, undef, undef, undef, undef, undef, undef, undef, undef, undef, undef, undef, undef, undef, undef, undef, undef, undef, undef, undef, undef, undef, undef, undef, undef, undef, undef, undef, undef, undef, undef, undef, undef, undef, undef], []⟩) hSm (hSi 11 (by decide)) (fun _ _ h => h) rfl (by kernel_rfl) (by kernel_rfl) (by kernel_rfl) (fun _ _ _ h => h) hS0 (Tame.val rfl (fun w' _ => by have h1 := ft w'; go_simp)) rfl ?_
  refine wpAnyU_take (i := 12) (A := fun w1 => (Blk w1 w.heap.size 50 cs ∧ Mo (W.drewN 1) w1)) (v := .agg (List.toArray X)) (a' := ⟨#[.agg (List.toArray cs), .pointer (some ⟨w.heap.size, 0, none⟩), .pointer (some ⟨w.heap.size + 1, 0, none⟩), .int .i64 0, undef, undef, undef, undef, undef, undef, undef, .agg (List.toArray cs), .agg (List.toArray dp), .string (str P), .agg (List.toArray cs), .agg (List.toArray dk), .int .i64 K, .agg (List.toArray cs), .agg (List.toArray dm), .int .i64 M, .agg (List.toArray cs), .agg (List.toArray dt), .int .i64 T, .agg (List.toArray X), undef, undef, undef, undef, undef, undef, undef, undef, undef, undef, undef, undef, undef, undef, undef, undef, undef, undef, undef, undef, undef, undef, undef, undef, undef, undef, undef, undef, undef, undef, undef, undef, undef, undef, undef, undef, undef, undef, undef, undef, undef, undef, undef, undef, undef, undef, undef, undef, undef, undef, undef, undef, undef, undef, undef, undef, undef, undef, undef, undef, undef, undef, undef, undef, undef, undef, undef, undef, undef, undef, undef, undef, undef, undef, undef, undef, undef, undef, undef, undef, undef, undef, undef, undef, undef, undef, undef, undef], []⟩) hSm (hSi 12 (by decide)) (fun _ _ h => h) rfl (by kernel_rfl) (by kernel_rfl) (by kernel_rfl) (fun _ _ _ h => h) hS0 (Tame.val rfl (fun w' hA => run_bdOp21 (vals := #[(0, .string (str P)), (1, .int .i64 K), (2, .int .i64 M), (3, .int .i64 T)]) (by first | rfl | go_simp | simp [Act.eval]) (hbi w'))) rfl ?_
  refine wpAnyU_all (rs := [13]) (by kernel_rfl) (by decide) ?_
  intro w3 hm3 i hi
  obtain rfl : i = 13 := by simpa using hi
  refine wpOp_val (v := .pointer (some ⟨w3.heap.size, 0, none⟩)) (w' := w3.alloc (.cells zIT 40)) (a' := ⟨#[.agg (List.toArray cs), .pointer (some ⟨w.heap.size, 0, none⟩), .pointer (some ⟨w.heap.size + 1, 0, none⟩), .int .i64 0, .pointer (some ⟨w3.heap.size, 0, none⟩), undef, undef, undef, undef, undef, undef, .agg (List.toArray cs), .agg (List.toArray dp), .string (str P), .agg (List.toArray cs), .agg (List.toArray dk), .int .i64 K, .agg (List.toArray cs), .agg (List.toArray dm), .int .i64 M, .agg (List.toArray cs), .agg (List.toArray dt), .int .i64 T, .agg (List.toArray X), undef, undef, undef, undef, undef, undef, undef, undef, undef, undef, undef, undef, undef, undef, undef, undef, undef, undef, undef, undef, undef, undef, undef, undef, undef, undef, undef, undef, undef, undef, undef, undef, undef, undef, undef, undef, undef, undef, undef, undef, undef, undef, undef, undef, undef, undef, undef, undef, undef, undef, undef, undef, undef, undef, undef, undef, undef, undef, undef, undef, undef, undef, undef, undef, undef, undef, undef, undef, undef, undef, undef, undef, undef, undef, undef, undef, undef, undef, undef, undef, undef, undef, undef, undef, undef, undef, undef, undef], []⟩) rfl rfl (run_alIT) rfl ?_
  have hm4 : Mo w3 (w3.alloc (.cells zIT 40)) := (Below.refl _ _).alloc (Nat.le_refl _) _
  have hS3 := hSm #[] _ _ hS0 hm3
  have hS4 := hSm #[] _ _ hS3 hm4
  refine ⟨hS4, ?_⟩
  have hZ4 : Blk (w3.alloc (.cells zIT 40)) w3.heap.size 40 zIT.toList := Blk.new _ _ _
  have hgx2 := hS3.2.size
  have hgx : w.heap.size + 2 ≤ w3.heap.size := by have := hS3.2.size; simp at this; omega
  generalize w3.alloc (.cells zIT 40) = w4 at *
  generalize w3.heap.size = gx at *
  refine wpAnyU_all (rs := [14]) (by kernel_rfl) (by decide) ?_
  intro w5 hm5 i hi
  obtain rfl : i = 14 := by simpa using hi
  have hZ5 := hZ4.below hm5
  have hS5 := hSm #[] _ _ hS4 hm5
  have hst := st_rowI hZ5 (by rfl) (List.toArray X) X7 Xo
  have hX6 := setRow_blk hZ5 X
  have hgr := setRow_gr w5 gx (List.toArray X)
  have hR5 := (hR0.drewN 1).below hS5.2
  have hR6 := hR5.grown hgr (by omega)
  have hB6 := hS5.1.grown hgr (by omega)
  have hb5 : Below w.heap.size w w5 := (Below.drewN hb0 1).trans (hS5.2.mono (by simp; omega))
  have hb6 := Below.grown hb5 hgr hb5.size (fun k hk => by cases hk; omega)
  refine wpOp_skip (w' := w5.setRow gx (List.toArray X)) (a' := ⟨#[.agg (List.toArray cs), .pointer (some ⟨w.heap.size, 0, none⟩), .pointer (some ⟨w.heap.size + 1, 0, none⟩), .int .i64 0, .pointer (some ⟨gx, 0, none⟩), undef, undef, undef, undef, undef, undef, .agg (List.toArray cs), .agg (List.toArray dp), .string (str P), .agg (List.toArray cs), .agg (List.toArray dk), .int .i64 K, .agg (List.toArray cs), .agg (List.toArray dm), .int .i64 M, .agg (List.toArray cs), .agg (List.toArray dt), .int .i64 T, .agg (List.toArray X), undef, undef, undef, undef, undef, undef, undef, undef, undef, undef, undef, undef, undef, undef, undef, undef, undef, undef, undef, undef, undef, undef, undef, undef, undef, undef, undef, undef, undef, undef, undef, undef, undef, undef, undef, undef, undef, undef, undef, undef, undef, undef, undef, undef, undef, undef, undef, undef, undef, undef, undef, undef, undef, undef, undef, undef, undef, undef, undef, undef, undef, undef, undef, undef, undef, undef, undef, undef, undef, undef, undef, undef, undef, undef, undef, undef, undef, undef, undef, undef, undef, undef, undef, undef, undef, undef, undef, undef], []⟩) rfl rfl (run_stoOp hst) rfl ?_
  generalize w5.setRow gx (List.toArray X) = W6 at *
  refine ⟨⟨hB6, ?_⟩, ?_⟩
  · exact Below.grown hS5.2 hgr hS5.2.size (fun k hk => by cases hk; exact hgx2)
  refine wpAnyU_done (by kernel_rfl) ?_ _
  intro W7 hm7
  --END1
  have hO7 : Hid (RfI w W7 gx (gx + 1) cs ⟨P, K, M, T, [], 0, []⟩ none 0) := by
    show RfI _ _ _ _ _ _ _ _
    rw [HX.out] at hX6
    exact ⟨hX6.below hm7, hB6.below hm7, hR6.below hm7, hb6.trans (hm7.mono hb6.size), World.ownsRow_nil _ _ _ _, hgx, Nat.le_refl _⟩
  have x1 : W7.cell? ⟨gx, 1, none⟩ = some (.int .i64 K) := hO7.out.1.cell rfl
  clear hSm hSi hS0 hbT hm3 hm4 hS3 hS4 hgx2 hZ4 hm5 hZ5 hS5 hst hX6 hgr hR5 hR6 hB6 hb5 hb6 hm7 hb0 hB0 hR0 hSz0 hbi HX X7 Xo
  obtain ⟨TG, hTG⟩ : ∃ TG, TG = if K = 3 then TT else [] := ⟨_, rfl⟩
  have HTG := Lib.hid hTG
  clear hTG
  have HGX := Lib.hid hgx
  clear hgx
  go_upto_if 26 with (fail)
  go_cut [] (fun wx => RfI w wx gx (gx + 1) cs ⟨P, K, M, T, TG, 0, []⟩ none 0)
  case first =>
    by_cases k3 : K = 3
    case neg =>
      have e3 : (K == 3) = false := by simpa using k3
      have hF : Hid (RfI w W7 gx (gx + 1) cs ⟨P, K, M, T, TG, 0, []⟩ none 0) := by
        have := hO7.out
        rw [HTG.out, if_neg k3]; exact Lib.hid this
      clear k3
      go_wp2
      go_meet
      exact hF.out
    case pos =>
      have e3 : (K == 3) = true := by simpa using k3
      have hTT : Hid (TG = TT) := by show _ = _; rw [HTG.out, if_pos k3]
      have q0 := ldOp_all (P := Tryz.prog) (ty := 50) hO7.out.2.1 Tryz.underlying50 rfl (by rw [hcl]; exact sizeV)
      clear k3
      go_wp2_with fail
      refine (cl _ (hbw.trans (hO7.out.2.2.2.1.mono hszw))).mono ?_
      rintro e W8 ⟨rfl, hb8⟩
      have hO8 := hO7.out.below hb8
      have z4 : W8.cell? ⟨gx, 4, none⟩ = some (.string (str [])) := hO8.1.cell rfl
      have f4 := hO8.1.free 4
      have hF := Lib.hid (RfI.set hO8 4 (.string (str TT)) (x' := ⟨P, K, M, T, TT, 0, []⟩) rfl rfl)
      clear hO8 hb8
      go_wp2
      go_meet
      rw [hTT.out]
      exact hF.out
  case rest =>
    have hO8 := Lib.hid hcut
    have x1 : wc.cell? ⟨gx, 1, none⟩ = some (.int .i64 K) := hcut.1.cell rfl
    clear hcut hO7
    go_upto_if 33 with (fail)
    go_cut [] (fun wx => RfJ w wx gx cs v)
    case first =>
      by_cases k1 : K = 1
      case neg =>
        have e1 : (K == 1) = false := by simpa using k1
        have hF : Hid (RfJ w wc gx cs v) := by
          show RfJ _ _ _ _ _
          refine ⟨_, _, _, _, hO8.out, ?_, ⟨HLM.out.1, HLM.out.2.1, HLM.out.2.2.1, by show in64 0; unfold in64; decide, by show P.length ≤ _; have := HLM.out.2.2.2.2.1; unfold maxLen; omega, ?_, by intro p hp; cases hp⟩, HLM.out.2.2.2.2.1, Nat.zero_le _⟩
          · rw [hRX.out, HTG.out, if_neg k1, if_neg k1]
          · show TG.length ≤ _
            rw [HTG.out]; split
            · exact HLM.out.2.2.2.2.2
            · exact Nat.zero_le _
        clear k1
        go_wp2
        go_meet
        exact hF.out
      case pos =>
        have e1 : (K == 1) = true := by simpa using k1
        have hTgl : Hid (TG.length ≤ maxLen) := by
          show TG.length ≤ _
          rw [HTG.out]; split
          · exact HLM.out.2.2.2.2.2
          · exact Nat.zero_le _
        have hRX1 : Hid (refX v = ⟨P, K, M, T, TG, SZ, ((fldV v [99]).list.take 65).map refP⟩) := by
          show _ = _
          rw [hRX.out, HTG.out, if_pos k1, if_pos k1]
        clear k1 hRX HTG
        have q0 := ldOp_all (P := Tryz.prog) (ty := 50) hO8.out.2.1 Tryz.underlying50 rfl (by rw [hcl]; exact sizeV)
        go_wp2_with fail
        refine (cs1 _ (hbw.trans (hO8.out.2.2.2.1.mono hszw))).mono ?_
        rintro e W8 ⟨rfl, hb8⟩
        have hO9 := hO8.out.below hb8
        have z5 : W8.cell? ⟨gx, 5, none⟩ = some (.int .i64 0) := hO9.1.cell rfl
        have f5 := hO9.1.free 5
        have hO10 := RfI.set hO9 5 (.int .i64 SZ) (x' := ⟨P, K, M, T, TG, SZ, []⟩) rfl rfl
        clear hO9 hb8 q0 hO8
        go_upto_region 6 with (fail)
        generalize W8.setCell ⟨gx, 5, none⟩ (.int .i64 SZ) = W9 at *
        have q0 := ldOp_all (P := Tryz.prog) (ty := 50) hO10.2.1 Tryz.underlying50 rfl (by rw [hcl]; exact sizeV)
        clear z5 f5
        go_wp2_with fail
        refine (cc _ (hbw.trans (hO10.2.2.2.1.mono hszw))).mono ?_
        rintro e W10 ⟨rfl, hb10⟩
        have d6 : (List.toArray dc).size = 6 := by simpa using hdc.len
        have do6 : OneC (List.toArray dc) := all_oneCell_toArray hdc.one
        have hbA : Below W10.heap.size W10 (W10.alloc (.cells (List.toArray dc) 50)) := (Below.refl _ _).alloc (Nat.le_refl _) _
        have hC0 : Blk (W10.alloc (.cells (List.toArray dc) 50)) W10.heap.size 50 dc := Blk.new _ _ _
        have hs11 : (W10.alloc (.cells (List.toArray dc) 50)).heap.size = W10.heap.size + 1 := by simp
        have hO11 := (hO10.below hb10).below hbA
        have hgc : gx < W10.heap.size := (hO10.below hb10).1.lt
        clear q0 hb10 hbA hO10
        go_upto_region 7 with (fail)
        generalize W10.alloc (.cells (List.toArray dc) 50) = W11 at *
        generalize W10.heap.size = gc at *
        obtain ⟨_, _, _, _, al, cal, css, hdcc, hcss, hrow, h6, sub, _, _, _⟩ := VAt.cellsL hdc
        have HDC := Lib.hid hdcc
        clear hdcc hdc
        generalize (fldV v [99]).list = L at *
        have HL := Lib.hid HLs
        have hO12 : Hid (RfI w W11 gx W11.heap.size cs ⟨P, K, M, T, TG, SZ, []⟩ none 0) := by
          show RfI _ _ _ _ _ _ _ _
          obtain ⟨t1, t2, t3, t4, _, t6, t7⟩ := hO11
          exact ⟨t1, t2, t3, t4, World.ownsRow_nil _ _ _ _, t6, by omega⟩
        have hC1 := Lib.hid hC0
        have HG := Lib.hid (And.intro hgc (show gc < W11.heap.size by omega))
        clear HLs hO11 hC0 hgc hs11 x1
        have hz0 := fun w' => bd_prt0 (w := w')
        go_wp2
        go_loopw [6] (fun i wr => ∃ (j : Nat) (a : Option Addr) (c : Nat), j ≤ L.length ∧ j ≤ 65 ∧ i = .int .i64 j ∧ Hid (RfI w wr gx W11.heap.size cs ⟨P, K, M, T, TG, SZ, (L.take j).map refP⟩ a c) ∧ Hid (Blk wr gc 50 dc) ∧ Hid (W11.heap.size ≤ wr.heap.size)) (fun i _ => L.length - (intOf i).toNat)
        case atStart => exact ⟨0, none, 0, Nat.zero_le _, Nat.zero_le _, rfl, hO12, hC1, Lib.hid (Nat.le_refl _)⟩
        case round =>
          clear hO12 hC1
          obtain ⟨j, a, c, hj, hj65, rfl, hO, hC, hbs⟩ := hrel
          have j0 : (0 : Int) ≤ (j : Int) := by omega
          have jb : IntKind.i64.wrap ((j : Int) + 1) = (j : Int) + 1 := IntWalk.i64_in _ (by omega)
          have hb0r : Below w0.heap.size w0 wr := hbw.trans (hO.out.2.2.2.1.mono hszw)
          have a5 : wr.cell? ⟨gc, 5, none⟩ = some (.slice al L.length cal) := hC.out.cell (by rw [HDC.out]; rfl)
          by_cases hlt : j < L.length ∧ j < 65
          case neg =>
            have hF : Hid (RfJ w wr gx cs v) := by
              show RfJ _ _ _ _ _
              have e : L.take j = L.take 65 := by
                by_cases h9 : L.length ≤ 65
                · rw [List.take_of_length_le h9, List.take_of_length_le]; omega
                · have : j = 65 := by omega
                  rw [this]
              have hO2 := hO.out
              rw [e] at hO2
              refine ⟨_, _, _, _, hO2, hRX1.out.symm, ⟨HLM.out.1, HLM.out.2.1, HLM.out.2.2.1, HLM.out.2.2.2.1, by show P.length ≤ _; have := HLM.out.2.2.2.2.1; unfold maxLen; omega, hTgl.out, ?_⟩, HLM.out.2.2.2.2.1, by show ((L.take 65).map refP).length ≤ _; simp; omega⟩
              intro p hp
              obtain ⟨y, hy, rfl⟩ := List.mem_map.1 hp
              obtain ⟨i, hi, hx⟩ := List.getElem_of_mem (List.mem_of_mem_take hy)
              exact refP_ok (sub i (css[i]'(by omega)) y (List.getElem?_eq_getElem (by omega)) (by rw [List.getElem?_eq_getElem hi, hx]))
            clear hO hC hbs hb0r
            by_cases hj1 : j < L.length
            · have j1 : (j : Int) < (L.length : Int) := by omega
              have j2 : ¬ (j : Int) ≤ 64 := by omega
              go_wp2
              go_meet
              exact hF.out
            · have j1 : ¬ (j : Int) < (L.length : Int) := by omega
              go_wp2
              go_meet
              exact hF.out
          case pos =>
            have j1 : (j : Int) < (L.length : Int) := by omega
            have j2 : (j : Int) ≤ 64 := by omega
            have rowW := hrow.below hb0r
            have s6 := rowW.elemSome (s := 6) h6 (by decide) (i := j) (by omega)
            have hx := sub j css[j] L[j] (by simp [hcss, hlt.1]) (by simp [hlt.1])
            obtain ⟨_, _, _, _, ae, cae, css2, hcx, hcss2, hrow2, h62, sub2, _, _, _⟩ := VAt.cellsL hx
            have e5 : wr.cell? ⟨((hd al).add (j * 6)).block, ((hd al).add (j * 6)).off + 5, none⟩ = some (.slice ae L[j].list.length cae) := cell_field (i := j * 6) (j := 5) (rowW.field (s := 6) h6 (i := j) (j := 5) (c := css[j]) (by simp [hcss, hlt.1]) (by rw [hcx]; rfl))
            have hT : Hid ((L.take (j + 1)).map refP = (L.take j).map refP ++ [refP L[j]]) := by
              show _ = _
              rw [List.take_succ_eq_append_getElem hlt.1, List.map_append]; rfl
            have hpo := Lib.hid (refP_ok hx)
            generalize L[j] = x at *
            clear hx hcx rowW
            have hOlt := World.ownsRow.lt hO.out.2.2.2.2.1
            have hbA : Below wr.heap.size wr (wr.alloc (.cells zPA 77)) := (Below.refl _ _).alloc (Nat.le_refl _) _
            have hPB : Blk (wr.alloc (.cells zPA 77)) wr.heap.size 77 zPA.toList := Blk.new _ _ _
            go_upto_region 12 with (fail)
            have hO2 := Lib.hid (hO.out.below hbA)
            have hC2 := Lib.hid (hC.out.below hbA)
            have hbs2 : Hid (W11.heap.size ≤ wr.heap.size) := hbs
            have hne : Hid ((Value.slice a ((L.take j).map refP).length c).ownBlock ≠ some wr.heap.size) := fun e => absurd (hOlt _ e).2 (Nat.lt_irrefl _)
            have hs2 : (wr.alloc (.cells zPA 77)).heap.size = wr.heap.size + 1 := by simp
            generalize wr.alloc (.cells zPA 77) = Wp at *
            generalize wr.heap.size = qp at *
            clear hO hC hbs hbA hb0r a5 e5 s6 hOlt
            have hcell : Hid (∀ y0 y1, x.list = [y0, y1] → ∃ (ax : Addr) (ab : Option Addr) (cab : Nat), ae = some ax ∧ Row w0 ab (y0.bytes.map b8) ∧ ∀ w', Below w0.heap.size w0 w' → w'.cell? ⟨ax.block, ax.off + 2, none⟩ = some (.slice ab y0.bytes.length cab) ∧ w'.cell? ⟨ax.block, ax.off + 6 + 1, none⟩ = some (.int .i64 y1.int)) := by
              intro y0 y1 hl
              rw [hl] at hcss2 sub2
              obtain ⟨k0, k1, rfl⟩ : ∃ k0 k1, css2 = [k0, k1] := by
                match css2, hcss2 with
                | [k0, k1], _ => exact ⟨k0, k1, rfl⟩
              have hs0 := hrow2.elemSome (s := 6) h62 (by decide) (i := 0) (by simp)
              obtain ⟨ax, rfl⟩ := Option.isSome_iff_exists.1 hs0
              obtain ⟨_, _, bb, cbb, _, _, _, p0, _, _, _, _, hrb, _, _⟩ := VAt.cellsL (sub2 0 k0 y0 rfl rfl)
              obtain ⟨_, _, _, _, _, _, _, p1, _, _, _, _, _, _, _⟩ := VAt.cellsL (sub2 1 k1 y1 rfl rfl)
              refine ⟨ax, bb, cbb, rfl, hrb, fun w' hb => ⟨?_, ?_⟩⟩
              · exact cell_field (i := 0) (j := 2) ((hrow2.below hb).field (s := 6) h62 (i := 0) (j := 2) (c := k0) rfl (by rw [p0]; rfl))
              · exact cell_field (i := 6) (j := 1) ((hrow2.below hb).field (s := 6) h62 (i := 1) (j := 1) (c := k1) rfl (by rw [p1]; rfl))
            clear hrow2 h62 sub2 hcss2
            go_cut [68] (fun u wx => u = .bool (is32 x) ∧ Hid (wx = Wp))
            case first =>
              by_cases n2 : x.list.length = 2
              case neg =>
                have t2 : ((x.list.length : Int) == 2) = false := by rw [beq_eq_false_iff_ne]; omega
                have hi := Lib.hid (is32_no2 n2)
                clear n2 hcell
                go_wp2
                go_meet
                exact ⟨by rw [hi.out] <;> rfl, by first | exact Lib.hid rfl | exact Lib.hid trivial⟩
              case pos =>
                obtain ⟨y0, y1, hl⟩ : ∃ y0 y1, x.list = [y0, y1] := by
                  match x.list, n2 with
                  | [y0, y1], _ => exact ⟨y0, y1, rfl⟩
                obtain ⟨ax, ab, cab, rfl, hrb, hce⟩ := hcell.out y0 y1 hl
                obtain ⟨d2, _⟩ := hce _ (hbw.trans (hO2.out.2.2.2.1.mono hszw))
                have t2 : ((x.list.length : Int) == 2) = true := by rw [n2]; rfl
                have t3 : (0 : Int) < (x.list.length : Int) := by omega
                have hi := Lib.hid (is32_two hl)
                clear hl n2 hcell hce hrb
                by_cases n3 : y0.bytes.length = 32
                · have t4 : ((y0.bytes.length : Int) == 32) = true := by rw [n3]; rfl
                  have hi2 : Hid (is32 x = true) := by show _ = _; rw [hi.out]; exact decide_eq_true n3
                  clear n3 hi
                  go_wp2
                  go_meet
                  exact ⟨by rw [hi2.out] <;> rfl, by first | exact Lib.hid rfl | exact Lib.hid trivial⟩
                · have t4 : ((y0.bytes.length : Int) == 32) = false := by rw [beq_eq_false_iff_ne]; omega
                  have hi2 : Hid (is32 x = false) := by show _ = _; rw [hi.out]; exact decide_eq_false n3
                  clear n3 hi
                  go_wp2
                  go_meet
                  exact ⟨by rw [hi2.out] <;> rfl, by first | exact Lib.hid rfl | exact Lib.hid trivial⟩
            case rest =>
              obtain ⟨rfl, hwx⟩ := hcut
              obtain rfl := hwx.out
              clear hwx
              generalize hbb : is32 x = bb at *
              have HBB := Lib.hid hbb
              clear hbb
              go_upto_if 68 with (fail)
              go_cut [] (fun wx => RfI w wx gx W11.heap.size cs ⟨P, K, M, T, TG, SZ, (L.take j).map refP⟩ a c ∧ Blk wx gc 50 dc ∧ Blk wx qp 77 (prtC (refP x)) ∧ qp + 1 ≤ wx.heap.size)
              case first =>
                cases bb with
                | false =>
                  have hF : Hid (Blk wc qp 77 (prtC (refP x))) := by
                    show Blk _ _ _ _
                    rw [refP_no HBB.out]
                    exact hPB
                  go_wp2
                  go_meet
                  exact ⟨hO2.out, hC2.out, hF.out, by omega⟩
                | true =>
                  obtain ⟨y0, y1, hl, n32, hrp⟩ := is32_yes HBB.out
                  obtain ⟨ax, ab, cab, rfl, hrb, hce⟩ := hcell.out y0 y1 hl
                  have t3 : (0 : Int) < (x.list.length : Int) := by rw [hl]; simp
                  have t4 : (1 : Int) < (x.list.length : Int) := by rw [hl]; simp
                  have HR := Lib.hid hrp
                  have N32 := Lib.hid n32
                  have HCE := Lib.hid hce
                  have hP0 : Hid (Blk wc qp 77 (pcN y0.bytes 0)) := by show Blk _ _ _ _; rw [pcN_zero]; exact hPB
                  have hq0 : Hid (qp + 1 ≤ wc.heap.size) := by show _ ≤ _; omega
                  clear hl n32 hrp hce hcell hPB HBB
                  go_wp2
                  go_loopw [9] (fun i wq => ∃ n : Nat, n ≤ 32 ∧ i = .int .i64 n ∧ Hid (RfI w wq gx W11.heap.size cs ⟨P, K, M, T, TG, SZ, (L.take j).map refP⟩ a c) ∧ Hid (Blk wq gc 50 dc) ∧ Hid (Blk wq qp 77 (pcN y0.bytes n)) ∧ Hid (qp + 1 ≤ wq.heap.size)) (fun i _ => 32 - (intOf i).toNat)
                  case atStart => exact ⟨0, Nat.zero_le _, rfl, hO2, hC2, hP0, hq0⟩
                  case round =>
                    obtain ⟨n, hn, rfl, hO3, hC3, hP3, hq3⟩ := hrel
                    have n0 : (0 : Int) ≤ (n : Int) := by omega
                    have nb : IntKind.i64.wrap ((n : Int) + 1) = (n : Int) + 1 := IntWalk.i64_in _ (by omega)
                    obtain ⟨d2, i2⟩ := HCE.out _ (hbw.trans (hO3.out.2.2.2.1.mono hszw))
                    have rowb := hrb.below (hbw.trans (hO3.out.2.2.2.1.mono hszw))
                    by_cases hl32 : n < 32
                    case pos =>
                      have n1 : (n : Int) < 32 := by omega
                      have hnl : n < y0.bytes.length := by have := N32.out; omega
                      have n2 : (n : Int) < (y0.bytes.length : Int) := by omega
                      have b1 := rowb.byte hnl
                      have b2 := rowb.byteSome hnl
                      have z8 : wr.cell? ⟨qp, n, none⟩ = some (b8 0) := hP3.out.cell (pcN_at N32.out hl32)
                      have f8 := hP3.out.free n
                      have hgq : gx < qp := by have h1 := HG.out; have h2 := hbs2.out; omega
                      have hgs := fun u => grown_set (⟨rfl, rfl, rfl, Nat.le_refl _, fun _ _ _ => rfl⟩ : wr.grownBy wr (some qp)) n u
                      have hO4 := Lib.hid (hO3.out.far qp n (.int .u8 (y0.bytes[n].toNat : Int)) hgq hne.out)
                      have hC4 := Lib.hid (hC3.out.grown (hgs (.int .u8 (y0.bytes[n].toNat : Int))) (by have h1 := HG.out; have h2 := hbs2.out; omega))
                      have hP4 : Hid (Blk (wr.setCell ⟨qp, n, none⟩ (.int .u8 (y0.bytes[n].toNat : Int))) qp 77 (pcN y0.bytes (n + 1))) := by
                        show Blk _ _ _ _
                        rw [← pcN_set N32.out hl32]; exact hP3.out.set n _
                      have hq4 : Hid (qp + 1 ≤ (wr.setCell ⟨qp, n, none⟩ (.int .u8 (y0.bytes[n].toNat : Int))).heap.size) := by show _ ≤ _; simpa using hq3.out
                      clear hO3 hC3 hP3 hq3 hgs rowb
                      go_wp2
                      first
                        | exact ⟨⟨n + 1, by omega, (by first | rfl | go_num | (congr 1; omega)), hO4, hC4, hP4, hq4⟩, by simp [intOf] <;> omega⟩
                        | (refine ⟨?_, by simp [intOf] <;> omega⟩; (repeat apply Exists.intro); exact ⟨⟨n + 1, by omega, (by first | rfl | go_num | (congr 1; omega)), hO4, hC4, hP4, hq4⟩, rfl⟩)
                    case neg =>
                      obtain rfl : n = 32 := by omega
                      have hgq : gx < qp := by have h1 := HG.out; have h2 := hbs2.out; omega
                      have z9 : wr.cell? ⟨qp, 32, none⟩ = some (.int .i64 0) := hP3.out.cell (pcN_32 N32.out)
                      have f9 := hP3.out.free 32
                      have hgs := fun u => grown_set (⟨rfl, rfl, rfl, Nat.le_refl _, fun _ _ _ => rfl⟩ : wr.grownBy wr (some qp)) 32 u
                      have hO4 := Lib.hid (hO3.out.far qp 32 (.int .i64 y1.int) hgq hne.out)
                      have hC4 := Lib.hid (hC3.out.grown (hgs (.int .i64 y1.int)) (by have h1 := HG.out; have h2 := hbs2.out; omega))
                      have hP4 : Hid (Blk (wr.setCell ⟨qp, 32, none⟩ (.int .i64 y1.int)) qp 77 (prtC (refP x))) := by
                        show Blk _ _ _ _
                        rw [HR.out, ← pcN_end N32.out]; exact hP3.out.set 32 _
                      have hq4 : Hid (qp + 1 ≤ (wr.setCell ⟨qp, 32, none⟩ (.int .i64 y1.int)).heap.size) := by show _ ≤ _; simpa using hq3.out
                      clear hO3 hC3 hP3 hq3 hgs rowb
                      go_wp2
                      go_meet
                      exact ⟨hO4.out, hC4.out, hP4.out, hq4.out⟩
              case rest =>
                obtain ⟨hO3, hC3, hP3, hs3⟩ := hcut
                clear hO2 hC2 hPB hcell HBB
                have hOw : wc.ownsRow W11.heap.size 77 33 (.slice a ((L.take j).map refP).length c) ((L.take j).map refP).length (((L.take j).map refP).map prtC).flatten := hO3.2.2.2.2.1
                have hnl : ((L.take j).map refP).length ≤ 65 := by simp; omega
                have h33 := prtC_len hpo.out
                have q3 := ldOp_all (P := Tryz.prog) (ty := 77) hP3 Tryz.underlying77 rfl (by rw [h33]; exact sizePA)
                have p33 : (List.toArray (prtC (refP x))).size = 33 := by simpa using h33
                have hbs3 : W11.heap.size ≤ wc.heap.size := by have := hbs2.out; omega
                generalize hPSd : (L.take j).map refP = PS at *
                obtain ⟨a2, c2, w13, happ, hO13, hG13⟩ := own_appS (ty := 38) ePA (by decide) hOw (prtC (refP x)) h33 (prtC_one _) (by unfold maxLen; omega) (by omega) hbs3
                have g2 := hG13.blkB hO3.1 (own_lt hOw) (by have := hO3.2.2.2.2.2.2; omega)
                have z6 : wc.cell? ⟨gx, 6, none⟩ = some (.slice a PS.length c) := hO3.1.cell rfl
                have z7 : w13.cell? ⟨gx, 6, none⟩ = some (.slice a PS.length c) := g2.cell rfl
                have f6 := g2.free 6
                have hgs := grown_set (⟨rfl, rfl, rfl, Nat.le_refl _, fun _ _ _ => rfl⟩ : w13.grownBy w13 (some gx)) 6 (.slice a2 (PS.length + 1) c2)
                have hO14 : Hid (RfI w (w13.setCell ⟨gx, 6, none⟩ (.slice a2 (PS.length + 1) c2)) gx W11.heap.size cs ⟨P, K, M, T, TG, SZ, (L.take (j + 1)).map refP⟩ a2 c2) := by
                  show RfI _ _ _ _ _ _ _ _
                  rw [hT.out]
                  exact RfI.put hO3 rfl hO13 hG13
                have hC14 := Lib.hid ((hG13.blkB hC3 (own_lt hOw) (HG.out.2)).grown hgs (by have := HG.out.1; omega))
                have hbs14 : Hid (W11.heap.size ≤ (w13.setCell ⟨gx, 6, none⟩ (.slice a2 (PS.length + 1) c2)).heap.size) := by
                  show _ ≤ _
                  have := hG13.size
                  simp; omega
                clear hO13 hG13 hOw g2 hO3 hC3 hP3 hT hnl hgs hPSd hpo
                generalize prtC (refP x) = E at *
                go_wp2_with (at_builtin; refine wpList_append_run happ rfl rfl rfl rfl ?_)
                first
                  | exact ⟨⟨j + 1, a2, c2, by omega, by omega, (by first | rfl | go_num | (congr 1; omega)), hO14, hC14, hbs14⟩, by simp [intOf] <;> omega⟩
                  | (refine ⟨?_, by simp [intOf] <;> omega⟩; (repeat apply Exists.intro); exact ⟨⟨j + 1, a2, c2, by omega, by omega, (by first | rfl | go_num | (congr 1; omega)), hO14, hC14, hbs14⟩, rfl⟩)
    case rest =>
      obtain ⟨bs, x, a, c, hI, hxv, hok, hpl, hpp⟩ := hcut
      subst hxv
      obtain ⟨hX, hB, hR, hbW, hO, hg3, hbs⟩ := hI
      obtain ⟨ab, cb, ak, ckk, al, cll, hcs⟩ := vat_cells h
      have HCS := Lib.hid hcs
      have hOF : Hid (ofF v = if v.kind = 7 ∧ checkI (refX v) = 0 ∧ sameV (itV (refX v)) v = true then (refX v, (0 : Int)) else (itZ, 4)) := rfl
      clear hcs hRX HTG hO8 x1 cp ck cm ct cl cs1 cc fp fk fm ft fl fs hdc HLM HLs HGX
      have hSall : ∀ w', Below wc.heap.size wc w' → w'.cell? ⟨w.heap.size, 0, none⟩ = some (.int .i64 v.kind) ∧ (ldOp 40 (.pointer (some ⟨gx, 0, none⟩))).run Tryz.prog w' = .ok (.agg (List.toArray (itC (refX v) a c))) w' ∧ (ldOp 50 (.pointer (some ⟨w.heap.size, 0, none⟩))).run Tryz.prog w' = .ok (.agg (List.toArray cs)) w' := fun w' hb => by
        refine ⟨(hB.below hb).cell (by rw [HCS.out]; rfl), ?_, ?_⟩
        · exact ldOp_all (P := Tryz.prog) (ty := 40) (hX.below hb) Tryz.underlying40 rfl (by exact sizeIT)
        · exact ldOp_all (P := Tryz.prog) (ty := 50) (hB.below hb) Tryz.underlying50 rfl (by rw [hcl]; exact sizeV)
      have hput : ∀ w', Below wc.heap.size wc w' → ∀ cs2 : List Value, cs2.length = 7 → (∀ u ∈ cs2, u.oneCell' = true) → ∃ W2, (stoOp 40 (.pointer (some ⟨w.heap.size + 1, 0, none⟩)) (.agg (List.toArray cs2))).run Tryz.prog w' = .ok () W2 ∧ Blk W2 (w.heap.size + 1) 40 cs2 ∧ Below w.heap.size w W2 ∧ wc.grownBy W2 (some (w.heap.size + 1)) := fun w' hb cs2 h7 h1 => by
        have hR' := hR.below hb
        have hgr := setRow_gr w' (w.heap.size + 1) (List.toArray cs2)
        refine ⟨w'.setRow (w.heap.size + 1) (List.toArray cs2), st_rowI hR' (by rfl) _ (by simpa using h7) (all_oneCell_toArray h1), setRow_blk hR' cs2, ?_, ?_⟩
        · exact Below.grown (hbW.trans (hb.mono hbW.size)) hgr (hbW.trans (hb.mono hbW.size)).size (fun k hk => by cases hk; omega)
        · exact grownBy_trans ⟨hb.os, hb.tape, hb.output, hb.size, fun k hk _ => hb.block k hk⟩ hgr
      have zo : ∀ u ∈ zIT.toList, u.oneCell' = true := by intro u hu; simp [zIT] at hu; rcases hu with rfl | rfl | rfl | rfl | rfl | rfl | rfl <;> rfl
      have hb00 := fun w' => bd_it00 (w := w')
      have hFz : Hid (ofF v = (itZ, 4) → ∀ W2, Below w.heap.size w W2 → OfP w v (.returned (.tuple #[.agg (List.toArray zIT.toList), .int .i64 4])) W2) := fun he W2 hb2 => ⟨zIT.toList, by rw [he], by rw [he]; exact itZ_at _ _, hb2⟩
      have hputz := fun w' hb => hput w' hb zIT.toList rfl zo
      have ez : List.toArray zIT.toList = zIT := Array.toArray_toList
      rw [ez] at hputz
      by_cases g1 : v.kind = 7
      case neg =>
        have t1 : (v.kind != 7) = true := by simpa using g1
        have hT : Hid (ofF v = (itZ, 4)) := by show _ = _; rw [hOF.out, if_neg (fun hh => g1 hh.1)]
        obtain ⟨s1, s2, s3⟩ := hSall _ (Below.refl _ _)
        clear hOF hSall g1
        generalize v.kind = vk at *
        go_wp2
        go_quiet (fail)
        obtain ⟨W2, y1, y2, y3, _⟩ := hputz _ (Below.drewN (Below.refl _ _) nq)
        go_wp2
        exact bodyPost_ret (results_cell_tmp (fn := Tryz.f18) (p := 2) (t := 3) (by rfl) _ _ (w.heap.size + 1) 40 _ (0, 0) _ (by rfl) y2 Tryz.underlying40 rfl (by exact sizeIT)) rfl (hFz.out hT.out _ y3)
      case pos =>
      have t1 : (v.kind != 7) = false := by simp [g1]
      have hck := fun w' (hb : Below wc.heap.size wc w') => rcheckI_any (c := c) ((owns_row' hO).below hb) hok (by omega) (by omega)
      have hOF2 : Hid (ofF v = if checkI (refX v) = 0 ∧ sameV (itV (refX v)) v = true then (refX v, (0 : Int)) else (itZ, 4)) := by
        show _ = _
        rw [hOF.out]
        by_cases hh : checkI (refX v) = 0 ∧ sameV (itV (refX v)) v = true
        · rw [if_pos ⟨g1, hh.1, hh.2⟩, if_pos hh]
        · rw [if_neg (fun h2 => hh h2.2), if_neg hh]
      by_cases g3 : checkI (refX v) = 0
      case neg =>
        have hT : Hid (ofF v = (itZ, 4)) := by show _ = _; rw [hOF2.out, if_neg (fun hh => g3 hh.1)]
        have t3 : (checkI (refX v) != 0) = true := by simpa using g3
        have hS2 := fun w' (hA : Mo (wc.drewN 1) w') => hSall w' (Below.drewN' hA)
        clear hOF hOF2 hSall g1 g3
        generalize hX0 : refX v = X0 at *
        generalize checkI X0 = CI at *
        generalize v.kind = vk at *
        go_upto_region 20 with (fail)
        --REGION20
        have hSm : ∀ (L : Array Bool) (w1 w2 : World), Mo (wc.drewN 1) w1 → Mo w1 w2 → Mo (wc.drewN 1) w2 := fun _ w1 w2 h hm => Mo.trans h hm
        have hSi : ∀ i, i ≠ 99 → ∀ (L : Array Bool) (w1 : World), Mo (wc.drewN 1) w1 ↔ Mo (wc.drewN 1) w1 := fun _ _ _ _ => Iff.rfl
        have hS0 := Mo.refl (wc.drewN 1)
        refine wp_region_upN (S := fun _ w1 => Mo (wc.drewN 1) w1) 15 rfl (by kernel_rfl) ?_
        refine wpAnyU_take (i := 0) (A := fun w1 => Mo (wc.drewN 1) w1) (v := .pointer (some ⟨w.heap.size, 0, none⟩)) (a' := ⟨#[.agg (List.toArray cs), .pointer (some ⟨w.heap.size, 0, none⟩), .pointer (some ⟨w.heap.size + 1, 0, none⟩), .int .i64 0, .pointer (some ⟨gx, 0, none⟩), u5, u6, u7, u8, u9, u10, u11, u12, u13, u14, u15, u16, u17, u18, u19, u20, u21, u22, u23, u24, u25, u26, u27, u28, u29, u30, u31, u32, u33, u34, u35, u36, u37, u38, u39, u40, u41, u42, u43, u44, u45, u46, u47, u48, u49, u50, u51, u52, u53, u54, u55, u56, u57, u58, u59, u60, u61, u62, u63, u64, u65, u66, u67, u68, u69, u70, u71, u72, u73, u74, u75, u76, u77, u78, u79, u80, u81, u82, u83, u84, u85, u86, u87, u88, u89, u90, u91, u92, u93, u94, .pointer (some ⟨w.heap.size, 0, none⟩), u96, u97, u98, u99, u100, u101, u102, u103, u104, u105, u106, u107, u108, u109, u110, u111], []⟩) hSm (hSi 0 (by decide)) (fun _ _ h => h) rfl (by kernel_rfl) (by kernel_rfl) (by kernel_rfl) (fun _ _ _ h => h) hS0 (.inl ⟨by rfl, fun w' hA => .inl (by obtain ⟨s1, s2, s3⟩ := hS2 _ hA; go_simp)⟩) rfl ?_
        refine wpAnyU_take (i := 1) (A := fun w1 => Mo (wc.drewN 1) w1) (v := .int .i64 vk) (a' := ⟨#[.agg (List.toArray cs), .pointer (some ⟨w.heap.size, 0, none⟩), .pointer (some ⟨w.heap.size + 1, 0, none⟩), .int .i64 0, .pointer (some ⟨gx, 0, none⟩), u5, u6, u7, u8, u9, u10, u11, u12, u13, u14, u15, u16, u17, u18, u19, u20, u21, u22, u23, u24, u25, u26, u27, u28, u29, u30, u31, u32, u33, u34, u35, u36, u37, u38, u39, u40, u41, u42, u43, u44, u45, u46, u47, u48, u49, u50, u51, u52, u53, u54, u55, u56, u57, u58, u59, u60, u61, u62, u63, u64, u65, u66, u67, u68, u69, u70, u71, u72, u73, u74, u75, u76, u77, u78, u79, u80, u81, u82, u83, u84, u85, u86, u87, u88, u89, u90, u91, u92, u93, u94, .pointer (some ⟨w.heap.size, 0, none⟩), .int .i64 vk, u97, u98, u99, u100, u101, u102, u103, u104, u105, u106, u107, u108, u109, u110, u111], []⟩) hSm (hSi 1 (by decide)) (fun _ _ h => h) rfl (by kernel_rfl) (by kernel_rfl) (by kernel_rfl) (fun _ _ _ h => h) hS0 (.inl ⟨by rfl, fun w' hA => .inl (by obtain ⟨s1, s2, s3⟩ := hS2 _ hA; go_simp)⟩) rfl ?_
        refine wpAnyU_take (i := 2) (A := fun w1 => Mo (wc.drewN 1) w1) (v := .bool false) (a' := ⟨#[.agg (List.toArray cs), .pointer (some ⟨w.heap.size, 0, none⟩), .pointer (some ⟨w.heap.size + 1, 0, none⟩), .int .i64 0, .pointer (some ⟨gx, 0, none⟩), u5, u6, u7, u8, u9, u10, u11, u12, u13, u14, u15, u16, u17, u18, u19, u20, u21, u22, u23, u24, u25, u26, u27, u28, u29, u30, u31, u32, u33, u34, u35, u36, u37, u38, u39, u40, u41, u42, u43, u44, u45, u46, u47, u48, u49, u50, u51, u52, u53, u54, u55, u56, u57, u58, u59, u60, u61, u62, u63, u64, u65, u66, u67, u68, u69, u70, u71, u72, u73, u74, u75, u76, u77, u78, u79, u80, u81, u82, u83, u84, u85, u86, u87, u88, u89, u90, u91, u92, u93, u94, .pointer (some ⟨w.heap.size, 0, none⟩), .int .i64 vk, .bool false, u98, u99, u100, u101, u102, u103, u104, u105, u106, u107, u108, u109, u110, u111], []⟩) hSm (hSi 2 (by decide)) (fun _ _ h => h) rfl (by kernel_rfl) (by kernel_rfl) (by kernel_rfl) (fun _ _ _ h => h) hS0 (.inl ⟨by rfl, fun w' hA => .inl (by obtain ⟨s1, s2, s3⟩ := hS2 _ hA; go_simp)⟩) rfl ?_
        refine wpAnyU_take (i := 3) (A := fun w1 => Mo (wc.drewN 1) w1) (v := .bool false) (a' := ⟨#[.agg (List.toArray cs), .pointer (some ⟨w.heap.size, 0, none⟩), .pointer (some ⟨w.heap.size + 1, 0, none⟩), .int .i64 0, .pointer (some ⟨gx, 0, none⟩), u5, u6, u7, u8, u9, u10, u11, u12, u13, u14, u15, u16, u17, u18, u19, u20, u21, u22, u23, u24, u25, u26, u27, u28, u29, u30, u31, u32, u33, u34, u35, u36, u37, u38, u39, u40, u41, u42, u43, u44, u45, u46, u47, u48, u49, u50, u51, u52, u53, u54, u55, u56, u57, u58, u59, u60, u61, u62, u63, u64, u65, u66, u67, u68, u69, u70, u71, u72, u73, u74, u75, u76, u77, u78, u79, u80, u81, u82, u83, u84, u85, u86, u87, u88, u89, u90, u91, u92, u93, u94, .pointer (some ⟨w.heap.size, 0, none⟩), .int .i64 vk, .bool false, .bool false, u99, u100, u101, u102, u103, u104, u105, u106, u107, u108, u109, u110, u111], []⟩) hSm (hSi 3 (by decide)) (fun _ _ h => h) rfl (by kernel_rfl) (by kernel_rfl) (by kernel_rfl) (fun _ _ _ h => h) hS0 (.inl ⟨by rfl, fun w' hA => .inl (by obtain ⟨s1, s2, s3⟩ := hS2 _ hA; go_simp)⟩) rfl ?_
        refine wpAnyU_take (i := 4) (A := fun w1 => Mo (wc.drewN 1) w1) (v := .agg (List.toArray (itC X0 a c))) (a' := ⟨#[.agg (List.toArray cs), .pointer (some ⟨w.heap.size, 0, none⟩), .pointer (some ⟨w.heap.size + 1, 0, none⟩), .int .i64 0, .pointer (some ⟨gx, 0, none⟩), u5, u6, u7, u8, u9, u10, u11, u12, u13, u14, u15, u16, u17, u18, u19, u20, u21, u22, u23, u24, u25, u26, u27, u28, u29, u30, u31, u32, u33, u34, u35, u36, u37, u38, u39, u40, u41, u42, u43, u44, u45, u46, u47, u48, u49, u50, u51, u52, u53, u54, u55, u56, u57, u58, u59, u60, u61, u62, u63, u64, u65, u66, u67, u68, u69, u70, u71, u72, u73, u74, u75, u76, u77, u78, u79, u80, u81, u82, u83, u84, u85, u86, u87, u88, u89, u90, u91, u92, u93, u94, .pointer (some ⟨w.heap.size, 0, none⟩), .int .i64 vk, .bool false, .bool false, .agg (List.toArray (itC X0 a c)), u100, u101, u102, u103, u104, u105, u106, u107, u108, u109, u110, u111], []⟩) hSm (hSi 4 (by decide)) (fun _ _ h => h) rfl (by kernel_rfl) (by kernel_rfl) (by kernel_rfl) (fun _ _ _ h => h) hS0 (.inl ⟨by rfl, fun w' hA => .inl (run_ldOp (hS2 _ hA).2.1)⟩) rfl ?_
        refine wpAnyU_take (i := 5) (A := fun w1 => Mo (wc.drewN 1) w1) (v := .int .i64 CI) (a' := ⟨#[.agg (List.toArray cs), .pointer (some ⟨w.heap.size, 0, none⟩), .pointer (some ⟨w.heap.size + 1, 0, none⟩), .int .i64 0, .pointer (some ⟨gx, 0, none⟩), u5, u6, u7, u8, u9, u10, u11, u12, u13, u14, u15, u16, u17, u18, u19, u20, u21, u22, u23, u24, u25, u26, u27, u28, u29, u30, u31, u32, u33, u34, u35, u36, u37, u38, u39, u40, u41, u42, u43, u44, u45, u46, u47, u48, u49, u50, u51, u52, u53, u54, u55, u56, u57, u58, u59, u60, u61, u62, u63, u64, u65, u66, u67, u68, u69, u70, u71, u72, u73, u74, u75, u76, u77, u78, u79, u80, u81, u82, u83, u84, u85, u86, u87, u88, u89, u90, u91, u92, u93, u94, .pointer (some ⟨w.heap.size, 0, none⟩), .int .i64 vk, .bool false, .bool false, .agg (List.toArray (itC X0 a c)), .int .i64 CI, u101, u102, u103, u104, u105, u106, u107, u108, u109, u110, u111], []⟩) hSm (hSi 5 (by decide)) (fun _ _ h => h) rfl (by kernel_rfl) (by kernel_rfl) (by kernel_rfl) (fun _ _ _ h => h) hS0 (.inl ⟨by rfl, fun w' hA => .inr ⟨34, #[.agg (List.toArray (itC X0 a c))], by go_simp, hck _ (Below.drewN' hA)⟩⟩) rfl ?_
        refine wpAnyU_take (i := 6) (A := fun w1 => Mo (wc.drewN 1) w1) (v := .bool true) (a' := ⟨#[.agg (List.toArray cs), .pointer (some ⟨w.heap.size, 0, none⟩), .pointer (some ⟨w.heap.size + 1, 0, none⟩), .int .i64 0, .pointer (some ⟨gx, 0, none⟩), u5, u6, u7, u8, u9, u10, u11, u12, u13, u14, u15, u16, u17, u18, u19, u20, u21, u22, u23, u24, u25, u26, u27, u28, u29, u30, u31, u32, u33, u34, u35, u36, u37, u38, u39, u40, u41, u42, u43, u44, u45, u46, u47, u48, u49, u50, u51, u52, u53, u54, u55, u56, u57, u58, u59, u60, u61, u62, u63, u64, u65, u66, u67, u68, u69, u70, u71, u72, u73, u74, u75, u76, u77, u78, u79, u80, u81, u82, u83, u84, u85, u86, u87, u88, u89, u90, u91, u92, u93, u94, .pointer (some ⟨w.heap.size, 0, none⟩), .int .i64 vk, .bool false, .bool false, .agg (List.toArray (itC X0 a c)), .int .i64 CI, .bool true, u102, u103, u104, u105, u106, u107, u108, u109, u110, u111], []⟩) hSm (hSi 6 (by decide)) (fun _ _ h => h) rfl (by kernel_rfl) (by kernel_rfl) (by kernel_rfl) (fun _ _ _ h => h) hS0 (.inl ⟨by rfl, fun w' hA => .inl (by obtain ⟨s1, s2, s3⟩ := hS2 _ hA; go_simp)⟩) rfl ?_
        refine wpAnyU_take (i := 7) (A := fun w1 => Mo (wc.drewN 1) w1) (v := .bool true) (a' := ⟨#[.agg (List.toArray cs), .pointer (some ⟨w.heap.size, 0, none⟩), .pointer (some ⟨w.heap.size + 1, 0, none⟩), .int .i64 0, .pointer (some ⟨gx, 0, none⟩), u5, u6, u7, u8, u9, u10, u11, u12, u13, u14, u15, u16, u17, u18, u19, u20, u21, u22, u23, u24, u25, u26, u27, u28, u29, u30, u31, u32, u33, u34, u35, u36, u37, u38, u39, u40, u41, u42, u43, u44, u45, u46, u47, u48, u49, u50, u51, u52, u53, u54, u55, u56, u57, u58, u59, u60, u61, u62, u63, u64, u65, u66, u67, u68, u69, u70, u71, u72, u73, u74, u75, u76, u77, u78, u79, u80, u81, u82, u83, u84, u85, u86, u87, u88, u89, u90, u91, u92, u93, u94, .pointer (some ⟨w.heap.size, 0, none⟩), .int .i64 vk, .bool false, .bool false, .agg (List.toArray (itC X0 a c)), .int .i64 CI, .bool true, .bool true, u103, u104, u105, u106, u107, u108, u109, u110, u111], []⟩) hSm (hSi 7 (by decide)) (fun _ _ h => h) rfl (by kernel_rfl) (by kernel_rfl) (by kernel_rfl) (fun _ _ _ h => h) hS0 (.inl ⟨by rfl, fun w' hA => .inl (by obtain ⟨s1, s2, s3⟩ := hS2 _ hA; go_simp)⟩) rfl ?_
        refine wpAnyU_take (i := 8) (A := fun w1 => Mo (wc.drewN 1) w1) (v := .bool true) (a' := ⟨#[.agg (List.toArray cs), .pointer (some ⟨w.heap.size, 0, none⟩), .pointer (some ⟨w.heap.size + 1, 0, none⟩), .int .i64 0, .pointer (some ⟨gx, 0, none⟩), u5, u6, u7, u8, u9, u10, u11, u12, u13, u14, u15, u16, u17, u18, u19, u20, u21, u22, u23, u24, u25, u26, u27, u28, u29, u30, u31, u32, u33, u34, u35, u36, u37, u38, u39, u40, u41, u42, u43, u44, u45, u46, u47, u48, u49, u50, u51, u52, u53, u54, u55, u56, u57, u58, u59, u60, u61, u62, u63, u64, u65, u66, u67, u68, u69, u70, u71, u72, u73, u74, u75, u76, u77, u78, u79, u80, u81, u82, u83, u84, u85, u86, u87, u88, u89, u90, u91, u92, u93, u94, .pointer (some ⟨w.heap.size, 0, none⟩), .int .i64 vk, .bool false, .bool false, .agg (List.toArray (itC X0 a c)), .int .i64 CI, .bool true, .bool true, .bool true, u104, u105, u106, u107, u108, u109, u110, u111], []⟩) hSm (hSi 8 (by decide)) (fun _ _ h => h) rfl (by kernel_rfl) (by kernel_rfl) (by kernel_rfl) (fun _ _ _ h => h) hS0 (.inl ⟨by rfl, fun w' hA => .inl (by obtain ⟨s1, s2, s3⟩ := hS2 _ hA; go_simp)⟩) rfl ?_
        refine wpAnyU_take (i := 9) (A := fun _ => True) (v := undef) (a' := ⟨#[.agg (List.toArray cs), .pointer (some ⟨w.heap.size, 0, none⟩), .pointer (some ⟨w.heap.size + 1, 0, none⟩), .int .i64 0, .pointer (some ⟨gx, 0, none⟩), u5, u6, u7, u8, u9, u10, u11, u12, u13, u14, u15, u16, u17, u18, u19, u20, u21, u22, u23, u24, u25, u26, u27, u28, u29, u30, u31, u32, u33, u34, u35, u36, u37, u38, u39, u40, u41, u42, u43, u44, u45, u46, u47, u48, u49, u50, u51, u52, u53, u54, u55, u56, u57, u58, u59, u60, u61, u62, u63, u64, u65, u66, u67, u68, u69, u70, u71, u72, u73, u74, u75, u76, u77, u78, u79, u80, u81, u82, u83, u84, u85, u86, u87, u88, u89, u90, u91, u92, u93, u94, .pointer (some ⟨w.heap.size, 0, none⟩), .int .i64 vk, .bool false, .bool false, .agg (List.toArray (itC X0 a c)), .int .i64 CI, .bool true, .bool true, .bool true, undef, u105, u106, u107, u108, u109, u110, u111], []⟩) hSm (hSi 9 (by decide)) (fun _ _ _ => trivial) rfl (by kernel_rfl) (by kernel_rfl) (by kernel_rfl) (fun _ _ _ h => h) hS0 (.inr ⟨by rfl, rfl⟩) rfl ?_
        refine wpAnyU_take (i := 10) (A := fun _ => True) (v := undef) (a' := ⟨#[.agg (List.toArray cs), .pointer (some ⟨w.heap.size, 0, none⟩), .pointer (some ⟨w.heap.size + 1, 0, none⟩), .int .i64 0, .pointer (some ⟨gx, 0, none⟩), u5, u6, u7, u8, u9, u10, u11, u12, u13, u14, u15, u16, u17, u18, u19, u20, u21, u22, u23, u24, u25, u26, u27, u28, u29, u30, u31, u32, u33, u34, u35, u36, u37, u38, u39, u40, u41, u42, u43, u44, u45, u46, u47, u48, u49, u50, u51, u52, u53, u54, u55, u56, u57, u58, u59, u60, u61, u62, u63, u64, u65, u66, u67, u68, u69, u70, u71, u72, u73, u74, u75, u76, u77, u78, u79, u80, u81, u82, u83, u84, u85, u86, u87, u88, u89, u90, u91, u92, u93, u94, .pointer (some ⟨w.heap.size, 0, none⟩), .int .i64 vk, .bool false, .bool false, .agg (List.toArray (itC X0 a c)), .int .i64 CI, .bool true, .bool true, .bool true, undef, undef, u106, u107, u108, u109, u110, u111], []⟩) hSm (hSi 10 (by decide)) (fun _ _ _ => trivial) rfl (by kernel_rfl) (by kernel_rfl) (by kernel_rfl) (fun _ _ _ h => h) hS0 (.inr ⟨by rfl, rfl⟩) rfl ?_
        refine wpAnyU_take (i := 11) (A := fun _ => True) (v := undef) (a' := ⟨#[.agg (List.toArray cs), .pointer (some ⟨w.heap.size, 0, none⟩), .pointer (some ⟨w.heap.size + 1, 0, none⟩), .int .i64 0, .pointer (some ⟨gx, 0, none⟩), u5, u6, u7, u8, u9, u10, u11, u12, u13, u14, u15, u16, u17, u18, u19, u20, u21, u22, u23, u24, u25, u26, u27, u28, u29, u30, u31, u32, u33, u34, u35, u36, u37, u38, u39, u40, u41, u42, u43, u44, u45, u46, u47, u48, u49, u50, u51, u52, u53, u54, u55, u56, u57, u58, u59, u60, u61, u62, u63, u64, u65, u66, u67, u68, u69, u70, u71, u72, u73, u74, u75, u76, u77, u78, u79, u80, u81, u82, u83, u84, u85, u86, u87, u88, u89, u90, u91, u92, u93, u94, .pointer (some ⟨w.heap.size, 0, none⟩), .int .i64 vk, .bool false, .bool false, .agg (List.toArray (itC X0 a c)), .int .i64 CI, .bool true, .bool true, .bool true, undef, undef, undef, u107, u108, u109, u110, u111], []⟩) hSm (hSi 11 (by decide)) (fun _ _ _ => trivial) rfl (by kernel_rfl) (by kernel_rfl) (by kernel_rfl) (fun _ _ _ h => h) hS0 (.inr ⟨by rfl, rfl⟩) rfl ?_
        refine wpAnyU_take (i := 12) (A := fun _ => True) (v := undef) (a' := ⟨#[.agg (List.toArray cs), .pointer (some ⟨w.heap.size, 0, none⟩), .pointer (some ⟨w.heap.size + 1, 0, none⟩), .int .i64 0, .pointer (some ⟨gx, 0, none⟩), u5, u6, u7, u8, u9, u10, u11, u12, u13, u14, u15, u16, u17, u18, u19, u20, u21, u22, u23, u24, u25, u26, u27, u28, u29, u30, u31, u32, u33, u34, u35, u36, u37, u38, u39, u40, u41, u42, u43, u44, u45, u46, u47, u48, u49, u50, u51, u52, u53, u54, u55, u56, u57, u58, u59, u60, u61, u62, u63, u64, u65, u66, u67, u68, u69, u70, u71, u72, u73, u74, u75, u76, u77, u78, u79, u80, u81, u82, u83, u84, u85, u86, u87, u88, u89, u90, u91, u92, u93, u94, .pointer (some ⟨w.heap.size, 0, none⟩), .int .i64 vk, .bool false, .bool false, .agg (List.toArray (itC X0 a c)), .int .i64 CI, .bool true, .bool true, .bool true, undef, undef, undef, undef, u108, u109, u110, u111], []⟩) hSm (hSi 12 (by decide)) (fun _ _ _ => trivial) rfl (by kernel_rfl) (by kernel_rfl) (by kernel_rfl) (fun _ _ _ h => h) hS0 (.inr ⟨by rfl, rfl⟩) rfl ?_
        refine wpAnyU_take (i := 13) (A := fun _ => True) (v := undef) (a' := ⟨#[.agg (List.toArray cs), .pointer (some ⟨w.heap.size, 0, none⟩), .pointer (some ⟨w.heap.size + 1, 0, none⟩), .int .i64 0, .pointer (some ⟨gx, 0, none⟩), u5, u6, u7, u8, u9, u10, u11, u12, u13, u14, u15, u16, u17, u18, u19, u20, u21, u22, u23, u24, u25, u26, u27, u28, u29, u30, u31, u32, u33, u34, u35, u36, u37, u38, u39, u40, u41, u42, u43, u44, u45, u46, u47, u48, u49, u50, u51, u52, u53, u54, u55, u56, u57, u58, u59, u60, u61, u62, u63, u64, u65, u66, u67, u68, u69, u70, u71, u72, u73, u74, u75, u76, u77, u78, u79, u80, u81, u82, u83, u84, u85, u86, u87, u88, u89, u90, u91, u92, u93, u94, .pointer (some ⟨w.heap.size, 0, none⟩), .int .i64 vk, .bool false, .bool false, .agg (List.toArray (itC X0 a c)), .int .i64 CI, .bool true, .bool true, .bool true, undef, undef, undef, undef, undef, u109, u110, u111], []⟩) hSm (hSi 13 (by decide)) (fun _ _ _ => trivial) rfl (by kernel_rfl) (by kernel_rfl) (by kernel_rfl) (fun _ _ _ h => h) hS0 (.inr ⟨by rfl, rfl⟩) rfl ?_
        refine wpAnyU_take (i := 14) (A := fun w1 => Mo (wc.drewN 1) w1) (v := .bool true) (a' := ⟨#[.agg (List.toArray cs), .pointer (some ⟨w.heap.size, 0, none⟩), .pointer (some ⟨w.heap.size + 1, 0, none⟩), .int .i64 0, .pointer (some ⟨gx, 0, none⟩), u5, u6, u7, u8, u9, u10, u11, u12, u13, u14, u15, u16, u17, u18, u19, u20, u21, u22, u23, u24, u25, u26, u27, u28, u29, u30, u31, u32, u33, u34, u35, u36, u37, u38, u39, u40, u41, u42, u43, u44, u45, u46, u47, u48, u49, u50, u51, u52, u53, u54, u55, u56, u57, u58, u59, u60, u61, u62, u63, u64, u65, u66, u67, u68, u69, u70, u71, u72, u73, u74, u75, u76, u77, u78, u79, u80, u81, u82, u83, u84, u85, u86, u87, u88, u89, u90, u91, u92, u93, u94, .pointer (some ⟨w.heap.size, 0, none⟩), .int .i64 vk, .bool false, .bool false, .agg (List.toArray (itC X0 a c)), .int .i64 CI, .bool true, .bool true, .bool true, undef, undef, undef, undef, undef, .bool true, u110, u111], []⟩) hSm (hSi 14 (by decide)) (fun _ _ h => h) rfl (by kernel_rfl) (by kernel_rfl) (by kernel_rfl) (fun _ _ _ h => h) hS0 (.inl ⟨by rfl, fun w' hA => .inl (by obtain ⟨s1, s2, s3⟩ := hS2 _ hA; go_simp)⟩) rfl ?_
        refine wpAnyU_done (by kernel_rfl) ?_ _
        intro w12 hm12
        have hcur := Below.drewN' hm12
        clear hSm hSi hS0 hm12
        --END20
        obtain ⟨W2, y1, y2, y3, _⟩ := hputz _ hcur
        go_wp2
        exact bodyPost_ret (results_cell_tmp (fn := Tryz.f18) (p := 2) (t := 3) (by rfl) _ _ (w.heap.size + 1) 40 _ (0, 0) _ (by rfl) y2 Tryz.underlying40 rfl (by exact sizeIT)) rfl (hFz.out hT.out _ y3)
      case pos =>
        have hpc := check_parts g3
        have hval := fun w' (hb : Below wc.heap.size wc w') => rvalueI_any (c := c) ((owns_row' hO).below hb) hok (by omega) (by omega)
        have hps := fun (cs2 : List Value) w' (hb : Below wc.heap.size wc w') (h2 : VAt w' cs2 (itV (refX v))) => rsame_any h2 cs v w' (h.keep ((hbw.trans (hbW.mono hbw.size)).trans (hb.mono (Nat.le_trans hbw.size hbW.size)))) (Below.refl _ _)
        rw [g3] at hck
        generalize hSB : sameV (itV (refX v)) v = SB at *
        have hOF3 : Hid (ofF v = if SB = true then (refX v, (0 : Int)) else (itZ, 4)) := by
          show _ = _
          rw [hOF2.out]
          cases SB
          · rw [if_neg (by simp), if_neg (by simp)]
          · rw [if_pos ⟨g3, rfl⟩, if_pos rfl]
        have hputx := fun w' hb => hput w' hb (itC (refX v) a c) rfl (itC_one _ _ _)
        have hFx : Hid (SB = true → ∀ W2, Below w.heap.size w W2 → wc.grownBy W2 (some (w.heap.size + 1)) → OfP w v (.returned (.tuple #[.agg (List.toArray (itC (refX v) a c)), .int .i64 0])) W2) := fun he W2 hb2 hg2 => by
          have e2 : ofF v = (refX v, (0 : Int)) := by rw [hOF3.out, if_pos he]
          obtain ⟨a9, c9, e9, p1, p2, hr9, hb9⟩ := owns_rowN hO (by decide)
          simp only [Value.slice.injEq] at e9
          obtain ⟨rfl, _, rfl⟩ := e9
          refine ⟨itC (refX v) a c, by rw [e2], ?_, hb2⟩
          rw [e2]
          have hlen : 0 < (refX v).parts.length → 0 < ((refX v).parts.map prtC).flatten.length := fun h0 => by
            rw [flatten_len (s := 33) (prts33I hok.parts), List.length_map]; show 0 < _ * 33; omega
          refine ⟨a, c, rfl, p1, p2, hr9.keptFar hg2 (fun h0 e => ?_), hok, fun h0 => ?_⟩
          · have := (hb9 h0).2.1; simp at e; omega
          · have := (hb9 (hlen h0)).2.1; show w.heap.size ≤ _; omega
        have hcur : Below wc.heap.size wc wc.drew := Gr.drewN wc 1
        obtain ⟨s1, s2, s3⟩ := hSall _ hcur
        clear hOF hOF2 g1 hput hok hO hX hB hR hSB g3
        generalize hX0 : itC (refX v) a c = X0 at *
        generalize itV (refX v) = IV at *
        have x07 : (List.toArray X0).size = 7 := by rw [← hX0]; rfl
        clear hX0
        generalize v.kind = vk at *
        cases SB with
        | false =>
          have hT : Hid (ofF v = (itZ, 4)) := by show _ = _; rw [hOF3.out, if_neg (by simp)]
          clear hOF3 hFx hputx
          go_upto_region 20 with (fail)
          go_region_held3 (fun w' => w'.cell? ⟨w.heap.size, 0, none⟩ = some (.int .i64 vk) ∧ (ldOp 40 (.pointer (some ⟨gx, 0, none⟩))).run Tryz.prog w' = .ok (.agg (List.toArray X0)) w' ∧ (ldOp 50 (.pointer (some ⟨w.heap.size, 0, none⟩))).run Tryz.prog w' = .ok (.agg (List.toArray cs)) w') (first | exact ⟨by assumption, by assumption, by assumption⟩ | go_keep) (first
            | (go_at_call 34; refine (hck _ hcur).mono ?_; rintro e ws ⟨rfl, hbs⟩; have hcur := hcur.trans (hbs.mono hcur.size); obtain ⟨s1, s2, s3⟩ := hSall _ hcur)
            | (go_at_call 36; refine (hval _ hcur).mono ?_; rintro e ws ⟨cv, rfl, hcv, hbs⟩; have hcv := hcv.at; have hcur := hcur.trans (hbs.mono hcur.size); obtain ⟨s1, s2, s3⟩ := hSall _ hcur)
            | (go_at_call 35; refine (hps _ _ hcur hcv).mono ?_; rintro e ws ⟨rfl, hbs⟩; have hcur := hcur.trans (hbs.mono hcur.size); obtain ⟨s1, s2, s3⟩ := hSall _ hcur))
          all_goals
            obtain ⟨W2, y1, y2, y3, _⟩ := hputz _ hcur
            go_wp2
            exact bodyPost_ret (results_cell_tmp (fn := Tryz.f18) (p := 2) (t := 3) (by rfl) _ _ (w.heap.size + 1) 40 _ (0, 0) _ (by rfl) y2 Tryz.underlying40 rfl (by exact sizeIT)) rfl (hFz.out hT.out _ y3)
        | true =>
          have hFy := Lib.hid (hFx.out rfl)
          clear hOF3 hFz hputz hFx
          go_upto_region 20 with (fail)
          go_region_held3 (fun w' => w'.cell? ⟨w.heap.size, 0, none⟩ = some (.int .i64 vk) ∧ (ldOp 40 (.pointer (some ⟨gx, 0, none⟩))).run Tryz.prog w' = .ok (.agg (List.toArray X0)) w' ∧ (ldOp 50 (.pointer (some ⟨w.heap.size, 0, none⟩))).run Tryz.prog w' = .ok (.agg (List.toArray cs)) w') (first | exact ⟨by assumption, by assumption, by assumption⟩ | go_keep) (first
            | (go_at_call 34; refine (hck _ hcur).mono ?_; rintro e ws ⟨rfl, hbs⟩; have hcur := hcur.trans (hbs.mono hcur.size); obtain ⟨s1, s2, s3⟩ := hSall _ hcur)
            | (go_at_call 36; refine (hval _ hcur).mono ?_; rintro e ws ⟨cv, rfl, hcv, hbs⟩; have hcv := hcv.at; have hcur := hcur.trans (hbs.mono hcur.size); obtain ⟨s1, s2, s3⟩ := hSall _ hcur)
            | (go_at_call 35; refine (hps _ _ hcur hcv).mono ?_; rintro e ws ⟨rfl, hbs⟩; have hcur := hcur.trans (hbs.mono hcur.size); obtain ⟨s1, s2, s3⟩ := hSall _ hcur))
          all_goals
            obtain ⟨W2, y1, y2, y3, y4⟩ := hputx _ hcur
            go_wp2
            exact bodyPost_ret (results_cell_tmp (fn := Tryz.f18) (p := 2) (t := 3) (by rfl) _ _ (w.heap.size + 1) 40 _ (0, 0) _ (by rfl) y2 Tryz.underlying40 rfl (by rw [x07]; exact sizeIT)) rfl (hFy.out _ y3 y4)
end Go.Proofs.YtpchogicdnfggaaGreatDoor
