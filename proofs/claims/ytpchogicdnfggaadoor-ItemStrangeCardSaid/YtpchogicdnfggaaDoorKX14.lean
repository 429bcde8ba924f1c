/- Joined: what one statement of this layer stands on, part 14 of 17; nothing is assumed. -/
import Derived.Deep.CutBlock
import Derived.Deep.RegionHeld3
import Derived.Test.YtpchogicdnfggaaDoorKX12
import Derived.Test.YtpchogicdnfggaaDoorKX13
set_option maxRecDepth 20000
namespace Go.Proofs.YtpchogicdnfggaaDoor
open Go.RowKit Go.Hd
section
variable (ρ : Operand → Value) (dst : Option Tmp) (ty : TypeId) (pos : String) (after : Array Edge) (guard : Option (Nat × Bool))
theorem h_bdRD (parts : Array (Nat × Operand)) : execOp ρ { dst, op := .build 86 parts, type := ty, pos, after, guard } = (do pure (.value (← bdOp 86 (parts.map fun (i, x) => (i, ρ x))))) := rfl
end
/-- A value small in all its parts gives small texts and lists. -/
theorem getR_text {v : PV} (h : Sm v) (key : List UInt8) (kind : Int) : (getR v key kind).text.length ≤ 65536 ∧ (getR v key kind).list.length ≤ 65536 := by
  have hz : pv0.text.length ≤ 65536 ∧ pv0.list.length ≤ 65536 := ⟨by decide, by decide⟩
  have hn : ∀ x : PV, Sm x → (normV x).text.length ≤ 65536 ∧ (normV x).list.length ≤ 65536 := fun x hx => by
    cases hx with
    | @mk k n b t ks l hb hk hl sub ht =>
      rw [normV_mk]
      by_cases h3 : k = 3
      · rw [if_pos h3]; exact ⟨Nat.zero_le _, Nat.zero_le _⟩
      by_cases h4 : k = 4
      · rw [if_neg h3, if_pos h4]; exact ⟨Nat.zero_le _, Nat.zero_le _⟩
      by_cases h5 : k = 5
      · rw [if_neg h3, if_neg h4, if_pos h5]; exact ⟨ht, Nat.zero_le _⟩
      by_cases h6 : k = 6
      · rw [if_neg h3, if_neg h4, if_neg h5, if_pos h6]; exact ⟨Nat.zero_le _, by show (normL l).length ≤ _; rw [normL_len]; exact hl⟩
      by_cases h7 : k = 7
      · rw [if_neg h3, if_neg h4, if_neg h5, if_neg h6, if_pos h7]; exact ⟨Nat.zero_le _, by show (normL l).length ≤ _; rw [normL_len]; exact hl⟩
      rw [if_neg h3, if_neg h4, if_neg h5, if_neg h6, if_neg h7]; exact ⟨Nat.zero_le _, Nat.zero_le _⟩
  unfold getR
  split
  · cases h with
    | @mk k n b t ks l hb hk hl sub ht =>
      rw [getV_mk]
      split
      · cases hf : findK ks l key with
        | none => exact hz
        | some x => exact hn x (sub x (findK_mem hf))
      · exact hz
  · exact hz
/-- The number under a key, as a machine's number: what stands in memory is one. -/
theorem getR_int {w : World} {cs : List Value} {v : PV} (h : VAt w cs v) (_hs : Sm v) (key : List UInt8) (kind : Int) : in64 (getR v key kind).int := by
  have hz : in64 pv0.int := by unfold in64; decide
  have hn : ∀ x : PV, in64 x.int → in64 (normV x).int := fun x hx => by
    cases x with
    | mk k n b t ks l =>
      rw [normV_mk]
      by_cases h3 : k = 3
      · rw [if_pos h3]; exact hx
      rw [if_neg h3]
      split
      · exact hz
      split
      · exact hz
      split
      · exact hz
      split
      · exact hz
      exact hz
  unfold getR
  split
  · cases h with
    | @mk k n b t ks l ab ak al cb ck cl css hk hn2 hb hbc ht hks hkc hkt hl hlc hcs h6 sub =>
      rw [getV_mk]
      split
      · cases hf : findK ks l key with
        | none => exact hz
        | some x =>
          obtain ⟨i, hi, hx⟩ := List.getElem_of_mem (findK_mem hf)
          have := sub i (css[i]'(by omega)) x (List.getElem?_eq_getElem (by omega)) (by rw [List.getElem?_eq_getElem hi, hx])
          refine hn x ?_
          obtain ⟨_, _, _, _, _, _, _, _, _, _, _, _, _, h7, _⟩ := VAt.cellsL this
          exact h7
      · exact hz
  · exact hz
theorem bd_rd {cs : List Value} {w : World} (hl : cs.length = 6) : (bdOp 86 #[(0, .agg (List.toArray cs))]).run Tryd.prog w = .ok (.agg (List.toArray (cs ++ [.bool false]))) w := by
  refine run_build w _ _ _ ?_
  rw [built_struct (z := .agg (zV.push (.bool false))) Tryd.underlying86 (by kernel_rfl) (places := [(0, 6), (6, 1)]) (by kernel_rfl)]
  rw [fill_cons (off := 0) (size := 6) (by rfl) (by simpa [Value.cells] using hl) (by decide), fill_nil]
  have e1 : (Value.agg (zV.push (.bool false))).cells.toList = [.int .i64 0, .int .i64 0, .slice none 0 0, .string .empty, .slice none 0 0, .slice none 0 0, .bool false] := rfl
  have e2 : (Value.agg (List.toArray cs)).cells.toList = cs := rfl
  rw [e1, e2]
  rfl
theorem bd_itm {p : List UInt8} {k m t : Int} {w : World} : (bdOp 24 #[(0, .string (str p)), (1, .int .i64 k), (2, .int .i64 m), (3, .int .i64 t)]).run Tryd.prog w = .ok (.agg (List.toArray (itC ⟨p, k, m, t, [], 0, []⟩ none 0))) w := by
  refine run_build w _ _ _ ?_
  rw [built_struct Tryd.underlying24 zeroIT (places := [(0, 1), (1, 1), (2, 1), (3, 1), (4, 1), (5, 1), (6, 1)]) (by kernel_rfl)]
  have hz : zIT.toList = [.string .empty, .int .i64 0, .int .i64 0, .int .i64 0, .string .empty, .int .i64 0, .slice none 0 0] := rfl
  have hzs := zIT_size
  rw [fill_cons (off := 0) (size := 1) (by rfl) rfl (by simp [Value.cells, hzs]), fill_cons (off := 1) (size := 1) (by rfl) rfl (by simp [Value.cells, hzs]), fill_cons (off := 2) (size := 1) (by rfl) rfl (by simp [Value.cells, hzs]), fill_cons (off := 3) (size := 1) (by rfl) rfl (by simp [Value.cells, hzs]), fill_nil]
  congr 2
theorem bd_it00 {w : World} : (bdOp 24 #[]).run Tryd.prog w = .ok (.agg zIT) w := by
  rw [bdOp_none (P := Tryd.prog) (w := w) Tryd.underlying24 zeroIT (places := [(0, 1), (1, 1), (2, 1), (3, 1), (4, 1), (5, 1), (6, 1)]) (by kernel_rfl)]
/-- What Of answers. -/
def OfP (w : World) (v : PV) (e : Ending) (w' : World) : Prop :=
  ∃ ds, e = .returned (.tuple #[.agg (List.toArray ds), .int .i64 (ofF v).2]) ∧ ItP (fun b => w.heap.size ≤ b) w' ds (ofF v).1 ∧ Below w.heap.size w w'
theorem itZ_cells : itC itZ none 0 = zIT.toList := rfl
theorem itZ_ok : ItmOk itZ := ⟨by unfold in64; decide, by unfold in64; decide, by unfold in64; decide, by unfold in64; decide, by decide, by decide, by intro p h; cases h⟩
theorem itZ_at (ok : Nat → Prop) (w : World) : ItP ok w zIT.toList itZ := ⟨none, 0, itZ_cells.symm, Nat.le_refl _, Nat.zero_le _, Row.nil _ _, itZ_ok, fun h => absurd h (Nat.lt_irrefl _)⟩
/-- What stands in memory while an item is read. -/
def OfI (w wx : World) (gx bs : Nat) (cs : List Value) (b : Bool) (x : Itm) (a : Option Addr) (c : Nat) : Prop :=
  Blk wx (w.heap.size + 2) 86 (cs ++ [.bool b]) ∧ Blk wx gx 24 (itC x a c) ∧ Blk wx w.heap.size 30 cs ∧ Blk wx (w.heap.size + 1) 24 zIT.toList ∧ Below w.heap.size w wx ∧ wx.ownsRow bs 65 33 (.slice a x.parts.length c) x.parts.length (x.parts.map prtC).flatten ∧ w.heap.size + 3 ≤ gx ∧ gx + 1 ≤ bs
theorem OfI.below {w W W' : World} {gx bs : Nat} {cs : List Value} {b : Bool} {x : Itm} {a : Option Addr} {c : Nat} (h : OfI w W gx bs cs b x a c) (hb : Below W.heap.size W W') : OfI w W' gx bs cs b x a c := by
  obtain ⟨h1, h2, h3, h4, h5, h6, h7, h8⟩ := h
  exact ⟨h1.below hb, h2.below hb, h3.below hb, h4.below hb, h5.trans (hb.mono h5.size), ownsRow_below h6 hb, h7, h8⟩
theorem OfI.set {w W : World} {gx bs : Nat} {cs : List Value} {b : Bool} {x x' : Itm} {a : Option Addr} {c : Nat} (h : OfI w W gx bs cs b x a c) (i : Nat) (u : Value) (hx : (itC x a c).set i u = itC x' a c) (hp : x'.parts = x.parts) : OfI w (W.setCell ⟨gx, i, none⟩ u) gx bs cs b x' a c := by
  obtain ⟨h1, h2, h3, h4, h5, h6, h7, h8⟩ := h
  have hg := grown_set (⟨rfl, rfl, rfl, Nat.le_refl _, fun _ _ _ => rfl⟩ : W.grownBy W (some gx)) i u
  refine ⟨h1.grown hg (by omega), ?_, h3.grown hg (by omega), h4.grown hg (by omega), Below.grown h5 hg h5.size (fun k hk => by cases hk; omega), ?_, h7, h8⟩
  · rw [← hx]; exact h2.set i u
  · rw [hp]; exact ownsRow_setCell_other h6 (a := ⟨gx, i, none⟩) (fun e => by have := own_lt h6 _ e; simp at this; omega) u
theorem OfI.bad {w W : World} {gx bs : Nat} {cs : List Value} {b : Bool} {x : Itm} {a : Option Addr} {c : Nat} (h : OfI w W gx bs cs b x a c) (hl : cs.length = 6) : OfI w (W.setCell ⟨w.heap.size + 2, 6, none⟩ (.bool true)) gx bs cs true x a c := by
  obtain ⟨h1, h2, h3, h4, h5, h6, h7, h8⟩ := h
  have hg := grown_set (⟨rfl, rfl, rfl, Nat.le_refl _, fun _ _ _ => rfl⟩ : W.grownBy W (some (w.heap.size + 2))) 6 (.bool true)
  refine ⟨?_, h2.grown hg (by omega), h3.grown hg (by omega), h4.grown hg (by omega), Below.grown h5 hg h5.size (fun k hk => by cases hk; omega), ?_, h7, h8⟩
  · have := h1.set 6 (.bool true)
    have hst : (cs ++ [Value.bool b]).set 6 (Value.bool true) = cs ++ [Value.bool true] := by rw [← hl]; simp
    rw [hst] at this; exact this
  · exact ownsRow_setCell_other h6 (a := ⟨w.heap.size + 2, 6, none⟩) (fun e => by have := own_lt h6 _ e; simp at this; omega) _
theorem OfI.put {w W w2 : World} {gx bs n : Nat} {cs : List Value} {b : Bool} {x : Itm} {a a' : Option Addr} {c c' : Nat} {p : Prt} (h : OfI w W gx bs cs b x a c) (hn : n = x.parts.length) (hO : w2.ownsRow bs 65 33 (.slice a' (n + 1) c') (n + 1) ((x.parts.map prtC).flatten ++ prtC p)) (hG : Gro W w2 (.slice a x.parts.length c) (.slice a' (n + 1) c')) (_hbs : bs ≤ W.heap.size) :
    OfI w (w2.setCell ⟨gx, 6, none⟩ (.slice a' (n + 1) c')) gx bs cs b { x with parts := x.parts ++ [p] } a' c' := by
  subst hn
  obtain ⟨h1, h2, h3, h4, h5, h6, h7, h8⟩ := h
  have hlo := own_lt h6
  have hs5 := h5.size
  have g1 := hG.blkB h1 hlo (by omega)
  have g2 := hG.blkB h2 hlo (by omega)
  have g3 := hG.blkB h3 hlo (by omega)
  have g4 := hG.blkB h4 hlo (by omega)
  have g5 := h5.trans (hG.below hlo (old := w.heap.size) (by omega) (by omega))
  have hg := grown_set (⟨rfl, rfl, rfl, Nat.le_refl _, fun _ _ _ => rfl⟩ : w2.grownBy w2 (some gx)) 6 (.slice a' (x.parts.length + 1) c')
  refine ⟨g1.grown hg (by omega), ?_, g3.grown hg (by omega), g4.grown hg (by omega), Below.grown g5 hg g5.size (fun k hk => by cases hk; omega), ?_, h7, h8⟩
  · have := g2.set 6 (.slice a' (x.parts.length + 1) c')
    have e : (itC x a c).set 6 (.slice a' (x.parts.length + 1) c') = itC { x with parts := x.parts ++ [p] } a' c' := by unfold itC; simp
    rw [e] at this; exact this
  · have := ownsRow_setCell_other hO (a := ⟨gx, 6, none⟩) (fun e => by have := own_lt hO _ e; simp at this; omega) (.slice a' (x.parts.length + 1) c')
    have e1 : ({ x with parts := x.parts ++ [p] } : Itm).parts.length = x.parts.length + 1 := by simp
    have e2 : (({ x with parts := x.parts ++ [p] } : Itm).parts.map prtC).flatten = (x.parts.map prtC).flatten ++ prtC p := by simp
    rw [e1, e2]; exact this
theorem OfI.got {w W W' : World} {gx bs : Nat} (bs' : Nat) {cs : List Value} {b b' : Bool} {x : Itm} (h : OfI w W gx bs cs b x none 0) (hp : x.parts = []) (hQ : Blk W' (w.heap.size + 2) 86 (cs ++ [.bool b'])) (hg : W.grownBy W' (some (w.heap.size + 2))) (hbs : gx + 1 ≤ bs') : OfI w W' gx bs' cs b' x none 0 := by
  obtain ⟨h1, h2, h3, h4, h5, h6, h7, h8⟩ := h
  exact ⟨hQ, h2.grown hg (by omega), h3.grown hg (by omega), h4.grown hg (by omega), Below.grown h5 hg h5.size (fun k hk => by cases hk; omega), by rw [hp]; exact World.ownsRow_nil _ _ _ _, h7, hbs⟩
theorem owns_row' {w : World} {base n : Nat} {e : TypeId} {a : Option Addr} {m c : Nat} {xs : List Value} (h : w.ownsRow base e 33 (.slice a m c) n xs) : Row w a xs := by
  obtain ⟨a', c', e1, _, _, hr, _⟩ := owns_rowN h (by decide)
  simp only [Value.slice.injEq] at e1
  obtain ⟨rfl, _, _⟩ := e1
  exact hr
theorem check_parts {x : Itm} (h : checkI x = 0) : x.parts.length ≤ 64 := by
  rcases checkI_kind x h with hk | hk | hk
  · exact (check_1 h hk).2
  · rw [(check_2 h hk).2.1]; exact Nat.zero_le _
  · rw [(check_3 h hk).1]; exact Nat.zero_le _
theorem itC_one (x : Itm) (a : Option Addr) (c : Nat) : ∀ u ∈ itC x a c, u.oneCell' = true := by
  intro u hu; simp [itC] at hu; rcases hu with rfl | rfl | rfl | rfl | rfl | rfl | rfl <;> rfl
def OfJ (w wx : World) (gx : Nat) (cs : List Value) (v : PV) : Prop :=
  ∃ bs b x a c, OfI w wx gx bs cs b x a c ∧ b = badF v ∧ (b = false → x = progX v) ∧ ItmOk x ∧ x.path.length ≤ 65536 ∧ x.parts.length ≤ 65536 ∧ x.kind = (progX v).kind
theorem gb_below {w W W' : World} {r : Option Nat} (h : w.grownBy W r) (hb : Below w.heap.size W W') : w.grownBy W' r :=
  ⟨hb.os.trans h.os, hb.tape.trans h.tape, hb.output.trans h.output, Nat.le_trans h.size hb.size, fun k hk hne => (hb.block k hk).trans (h.block k hk hne)⟩
theorem VAtP.rows {ok : Nat → Prop} {w : World} {ds : List Value} {U : PV} (h : VAtP ok w ds U) : ∃ (u0 u1 u2 u3 u4 : Value) (al : Option Addr) (cl : Nat) (css : List (List Value)), ds = [u0, u1, u2, u3, u4, .slice al U.list.length cl] ∧ css.length = U.list.length ∧ (∀ c ∈ css, c.length = 6) ∧ Row w al css.flatten ∧ (0 < css.flatten.length → ok (hd al).block) ∧ ∀ (i : Nat) (c : List Value) (x : PV), css[i]? = some c → U.list[i]? = some x → VAtP ok w c x := by
  cases h with
  | @mk k n b t ks l ab ak al cb ck cl css hk hn hb hbc ht hks hkc hkt hl hlc hcs h6 ob oks ol sub =>
    refine ⟨_, _, _, _, _, al, cl, css, rfl, hcs, h6, hl, fun h0 => ol ?_, sub⟩
    rw [flatten_len (s := 6) h6] at h0; omega
attribute [local go_sem ↓] h_ldV h_stV h_alV h_ldIT h_stIT h_alIT h_bdIT h_ldPA h_stPA h_alPA h_bsPA h_bdRD
attribute [local go_sem] r_ldV r_stV r_alV r_ldIT r_stIT r_alIT r_ldPA r_stPA r_alPA r_bsPA
set_option maxHeartbeats 8000000 in
set_option pp.deepTerms true in
theorem iof_any {w0 : World} {cs : List Value} {v : PV} (h : VAt w0 cs v) (hsm : Sm v) (w : World) (hbw : Below w0.heap.size w0 w) : Calls Tryd.prog 22 #[.agg (List.toArray cs)] w (OfP w v) := by
  have hcl := h.len
  have hone : OneC (List.toArray cs) := all_oneCell_toArray h.one
  have c6 : (List.toArray cs).size = 6 := by simpa using hcl
  have zs := zIT_size
  have hbd := fun w' => bd_rd (w := w') hcl
  have hb0 : Below w.heap.size w ((w.alloc (.cells (List.toArray cs) 30)).alloc (.cells zIT 24)) := ((Below.refl _ _).alloc (Nat.le_refl _) _).alloc (by simp) _
  have hB0 : Blk ((w.alloc (.cells (List.toArray cs) 30)).alloc (.cells zIT 24)) w.heap.size 30 cs := by simpa using (Blk.new w 30 (List.toArray cs)).alloc (.cells zIT 24)
  have hR0 : Blk ((w.alloc (.cells (List.toArray cs) 30)).alloc (.cells zIT 24)) (w.heap.size + 1) 24 zIT.toList := by
    have := Blk.new (w.alloc (.cells (List.toArray cs) 30)) 24 zIT
    simpa using this
  go_enter Tryd.func22, Tryd.ntmps22
  go_upto_region 1 with (fail)
  have hS0 : ((w.alloc (.cells (List.toArray cs) 30)).alloc (.cells zIT 24)).heap.size = w.heap.size + 2 := by simp
  generalize (w.alloc (.cells (List.toArray cs) 30)).alloc (.cells zIT 24) = W at *
  have q0 := ldOp_all (P := Tryd.prog) (ty := 30) hB0 Tryd.underlying30 rfl (by rw [hcl]; exact sizeV)
  have c7 : (List.toArray (cs ++ [.bool false])).size = 7 := by simp [hcl]
  have o7 : OneC (List.toArray (cs ++ [.bool false])) := all_oneCell_toArray (by intro u hu; rcases List.mem_append.1 hu with hu | hu; exact h.one u hu; simp at hu; subst hu; rfl)
  have hbA : Below W.heap.size W (W.alloc (.cells (List.toArray (cs ++ [.bool false])) 86)) := (Below.refl _ _).alloc (Nat.le_refl _) _
  have hQ1 : Blk (W.alloc (.cells (List.toArray (cs ++ [.bool false])) 86)) W.heap.size 86 (cs ++ [.bool false]) := Blk.new _ _ _
  have hB1 := hB0.below hbA
  have hR1 := hR0.below hbA
  have hb1 := hb0.trans (hbA.mono hb0.size)
  go_upto_region 2 with (fail)
  rw [hS0] at hQ1
  have hs1 : (W.alloc (.cells (List.toArray (cs ++ [.bool false])) 86)).heap.size = w.heap.size + 3 := by simp [hS0]
  generalize W.alloc (.cells (List.toArray (cs ++ [.bool false])) 86) = W1 at *
  have hbw1 := hbw.trans (hb1.mono hbw.size)
  have hszw := hbw.size
  have hGq : ∀ {W'}, W1.grownBy W' (some (w.heap.size + 2)) → Below w0.heap.size w0 W' := fun {W'} hg => Below.grown hbw1 hg (by omega) (fun k hk => by cases hk; omega)
  clear hb0 hB0 hR0 q0 hbA c7 o7 hbd
  go_wp2_with fail
  refine (iget_any [112] (kind := 5) (by decide) h hsm hbw1 hQ1).mono ?_
  rintro e W2 ⟨d1, rfl, hd1, hQ2, hg2⟩
  have f1 := fldTxt hd1.at
  generalize hP : (getR v [112] 5).text = P at *
  generalize hb1' : (false || badK v [112] 5) = b1 at *
  go_wp2_with fail
  refine (inum_any [107] h hsm (hGq hg2) hQ2).mono ?_
  rintro e W3 ⟨rfl, hQ3, hg3⟩
  have hg13 := grownBy_trans hg2 hg3
  generalize hK : (getR v [107] 3).int = K at *
  generalize hb2' : (b1 || badK v [107] 3) = b2 at *
  go_wp2_with fail
  refine (inum_any [109] h hsm (hGq hg13) hQ3).mono ?_
  rintro e W4 ⟨rfl, hQ4, hg4⟩
  have hg14 := grownBy_trans hg13 hg4
  generalize hM : (getR v [109] 3).int = M at *
  generalize hb3' : (b2 || badK v [109] 3) = b3 at *
  go_wp2_with fail
  refine (iget_any [116] (kind := 3) (by decide) h hsm (hGq hg14) hQ4).mono ?_
  rintro e W5 ⟨d4, rfl, hd4, hQ5, hg5⟩
  have hg15 := grownBy_trans hg14 hg5
  have f4 := fldInt hd4.at
  generalize hT : (getR v [116] 3).int = T at *
  generalize hb4' : (b3 || badK v [116] 3) = b4 at *
  have hbi := fun w' => bd_itm (p := P) (k := K) (m := M) (t := T) (w := w')
  obtain ⟨X, hX⟩ : ∃ X, X = itC ⟨P, K, M, T, [], 0, []⟩ none 0 := ⟨_, rfl⟩
  rw [← hX] at hbi
  have HX := Lib.hid hX
  have X7 : (List.toArray X).size = 7 := by rw [hX]; rfl
  have Xo : OneC (List.toArray X) := all_oneCell_toArray (by rw [hX]; intro u hu; simp [itC] at hu; rcases hu with rfl | rfl | rfl | rfl | rfl | rfl | rfl <;> rfl)
  clear hX
  go_upto_region 3 with (fail)
  have hbA : Below W5.heap.size W5 (W5.alloc (.cells (List.toArray X) 24)) := (Below.refl _ _).alloc (Nat.le_refl _) _
  have hX6 : Blk (W5.alloc (.cells (List.toArray X) 24)) W5.heap.size 24 X := Blk.new _ _ _
  have hQ6 := hQ5.below hbA
  have hB6 := (hB1.grown hg15 (by omega)).below hbA
  have hR6 := (hR1.grown hg15 (by omega)).below hbA
  have hg16 : W1.grownBy (W5.alloc (.cells (List.toArray X) 24)) (some (w.heap.size + 2)) := grownBy_trans hg15 ⟨hbA.os, hbA.tape, hbA.output, hbA.size, fun k hk _ => hbA.block k hk⟩
  have hs5 := hg15.size
  have hb6 := Below.grown hb1 hg16 (by omega) (fun k hk => by cases hk; omega)
  have hs6 : (W5.alloc (.cells (List.toArray X) 24)).heap.size = W5.heap.size + 1 := by simp
  generalize W5.alloc (.cells (List.toArray X) 24) = W6 at *
  obtain ⟨gx, hgx⟩ : ∃ gx, gx = W5.heap.size := ⟨_, rfl⟩
  rw [← hgx] at hX6 hs6 hs5 ⊢
  have hl1 := getR_text hsm [112] 5
  rw [hP] at hl1
  have hBF : Hid (badF v = (b4 || if K = 1 then badK v [115] 3 || (badK v [99] 6 || !(getR v [99] 6).list.all (fun x => (partV x).isSome)) else if K = 3 then badK v [108] 5 else false)) := by
    show _ = _
    unfold badF
    rw [← hb4', ← hb3', ← hb2', ← hb1', hK]
    simp only [Bool.false_or, Bool.or_assoc]
  have hPX : Hid (progX v = ⟨P, K, M, T, if K = 3 then (getR v [108] 5).text else [], if K = 1 then (getR v [115] 3).int else 0, if K = 1 then (getR v [99] 6).list.filterMap partV else []⟩) := by
    show _ = _
    unfold progX
    rw [hP, hK, hM, hT]
  have hlim : in64 K ∧ in64 M ∧ in64 T ∧ P.length ≤ 65536 := by
    refine ⟨?_, ?_, ?_, hl1.1⟩
    · rw [← hK]; exact getR_int h hsm _ _
    · rw [← hM]; exact getR_int h hsm _ _
    · rw [← hT]; exact getR_int h hsm _ _
  clear hb1' hb2' hb3' hb4' hP hK hM hT hl1 hd1 hd4 f1 f4 hg2 hg3 hg13 hg4 hg14 hg5 hg15 hQ1 hQ2 hQ3 hQ4 hQ5 hB1 hR1 hbA hbi hgx
  have x1 : W6.cell? ⟨gx, 1, none⟩ = some (.int .i64 K) := hX6.cell (by rw [HX.out]; rfl)
  have HL := Lib.hid hlim
  clear hlim
  have hO6 : Hid (OfI w W6 gx (gx + 1) cs b4 ⟨P, K, M, T, [], 0, []⟩ none 0) := by
    show OfI _ _ _ _ _ _ _ _ _
    exact ⟨hQ6, by rw [← HX.out]; exact hX6, hB6, hR6, hb6, World.ownsRow_nil _ _ _ _, by omega, Nat.le_refl _⟩
  have hgx3 : Hid (w.heap.size + 3 ≤ gx) := by show _ ≤ _; omega
  clear hQ6 hX6 hB6 hR6 hb6 hg16 hs6 hs5 hs1 hb1 hS0 hGq hbw1 HX X7 Xo
  go_upto_block 0 with (fail)
  go_cut [6] (fun u wx => u = .int .i64 ((keysN K : Nat) : Int) ∧ OfJ w wx gx cs v)
  case first =>
    by_cases k3 : K = 3
    case pos =>
      subst k3
      have hBF3 : Hid (badF v = (b4 || badK v [108] 5)) := by show _ = _; rw [hBF.out, if_neg (by decide), if_pos rfl]
      have hPX3 : Hid (progX v = ⟨P, 3, M, T, (getR v [108] 5).text, 0, []⟩) := by show _ = _; rw [hPX.out, if_pos rfl, if_neg (by decide), if_neg (by decide)]
      clear hBF hPX
      have hk : Hid (((keysN 3 : Nat) : Int) = 5) := rfl
      go_wp2_with fail
      refine (iget_any [108] (kind := 5) (by decide) h hsm (hbw.trans (hO6.out.2.2.2.2.1.mono hbw.size)) hO6.out.1).mono ?_
      rintro e W7 ⟨d7, rfl, hd7, hQ7, hg7⟩
      have f7 := fldTxt hd7.at
      have hO7 := OfI.got (gx + 1) hO6.out rfl hQ7 hg7 (Nat.le_refl _)
      have fz := hO7.2.1.free 4
      have z4 : W7.cell? ⟨gx, 4, none⟩ = some (.string (str [])) := hO7.2.1.cell rfl
      have hl7 := getR_text hsm [108] 5
      have hO8 := OfI.set hO7 4 (.string (str (getR v [108] 5).text)) (x' := ⟨P, 3, M, T, (getR v [108] 5).text, 0, []⟩) rfl rfl
      have hF : Hid (OfJ w (W7.setCell ⟨gx, 4, none⟩ (.string (str (getR v [108] 5).text))) gx cs v) := by
        show OfJ _ _ _ _ _
        refine ⟨_, _, _, _, _, hO8, ?_, fun _ => ?_, ⟨HL.out.1, HL.out.2.1, HL.out.2.2.1, by show in64 0; unfold in64; decide, by show P.length ≤ _; have := HL.out.2.2.2; unfold maxLen; omega, by show (getR v [108] 5).text.length ≤ _; unfold maxLen; omega, by intro p hp; cases hp⟩, HL.out.2.2.2, Nat.zero_le _, ?_⟩
        · rw [hBF3.out]
        · rw [hPX3.out]
        · rw [hPX3.out]
      clear hPX3 hBF3 hO7 hO8 hd7 hQ7 hg7 hl7
      generalize (getR v [108] 5).text = TT at *
      go_wp2
      go_meet
      exact ⟨by rw [hk.out] <;> rfl, hF.out⟩
    case neg =>
    by_cases k1 : K = 1
    case neg =>
      have e1 : (K == 1) = false := by simpa using k1
      have e3 : (K == 3) = false := by simpa using k3
      have hk : Hid (((keysN K : Nat) : Int) = 4) := by show _ = _; unfold keysN; rw [if_neg k1, if_neg k3]; rfl
      have hF : Hid (OfJ w W6 gx cs v) := by
        show OfJ _ _ _ _ _
        refine ⟨_, _, _, _, _, hO6.out, ?_, fun _ => ?_, ⟨HL.out.1, HL.out.2.1, HL.out.2.2.1, by show in64 0; unfold in64; decide, by show P.length ≤ _; have := HL.out.2.2.2; unfold maxLen; omega, Nat.zero_le _, by intro p hp; cases hp⟩, HL.out.2.2.2, Nat.zero_le _, ?_⟩
        · rw [hBF.out, if_neg k1, if_neg k3, Bool.or_false]
        · rw [hPX.out, if_neg k3, if_neg k1, if_neg k1]
        · rw [hPX.out]
      clear k1 k3
      go_wp2
      go_meet
      exact ⟨by rw [hk.out] <;> rfl, hF.out⟩
    case pos =>
      subst k1
      have hBF2 : Hid (badF v = ((b4 || badK v [115] 3) || (badK v [99] 6 || !(getR v [99] 6).list.all (fun x => (partV x).isSome)))) := by
        show _ = _
        rw [hBF.out, if_pos rfl]
        simp only [Bool.or_assoc]
      have hPX2 : Hid (progX v = ⟨P, 1, M, T, [], (getR v [115] 3).int, (getR v [99] 6).list.filterMap partV⟩) := by
        show _ = _
        rw [hPX.out, if_neg (by decide), if_pos rfl, if_pos rfl]
      clear hBF hPX
      have hk : Hid (((keysN 1 : Nat) : Int) = 6) := rfl
      clear k3
      go_wp2_with fail
      refine (inum_any [115] h hsm (hbw.trans (hO6.out.2.2.2.2.1.mono hbw.size)) hO6.out.1).mono ?_
      rintro e W7 ⟨rfl, hQ7, hg7⟩
      have hO7 := OfI.got (gx + 1) hO6.out rfl hQ7 hg7 (Nat.le_refl _)
      have fz := hO7.2.1.free 5
      have z5 : W7.cell? ⟨gx, 5, none⟩ = some (.int .i64 0) := hO7.2.1.cell rfl
      have hSz := getR_int h hsm [115] 3
      have hO8 := OfI.set hO7 5 (.int .i64 (getR v [115] 3).int) (x' := ⟨P, 1, M, T, [], (getR v [115] 3).int, []⟩) rfl rfl
      generalize hSE : (getR v [115] 3).int = SZ at *
      go_upto_region 7 with (fail)
      have hW8 : gx < (W7.setCell ⟨gx, 5, none⟩ (.int .i64 SZ)).heap.size := hO8.2.1.lt
      generalize W7.setCell ⟨gx, 5, none⟩ (.int .i64 SZ) = W8 at *
      clear hO7 hO6 hQ7 hg7 fz z5
      go_wp2_with fail
      refine (iget_any [99] (kind := 6) (by decide) h hsm (hbw.trans (hO8.2.2.2.2.1.mono hbw.size)) hO8.1).mono ?_
      rintro e W9 ⟨d9, rfl, hd9, hQ9, hg9⟩
      have hs9 := hg9.size
      have hO9 := Lib.hid (OfI.got W9.heap.size hO8 rfl hQ9 hg9 (by omega))
      have hLl := (getR_text hsm [99] 6).2
      generalize hb6' : ((b4 || badK v [115] 3) || badK v [99] 6) = b6 at *
      have hBF3 : Hid (badF v = (b6 || !(getR v [99] 6).list.all (fun x => (partV x).isSome))) := by
        show _ = _
        rw [hBF2.out, ← hb6']
        simp only [Bool.or_assoc]
      clear hb6' hSE hBF2 hO8 hg9 hQ9
      obtain ⟨u0, u1, u2, u3, u4, al, cl, css, hd9c, hcss, h6, hrow, hok, hsub⟩ := hd9.rows
      have f9 : ∀ w', (Instr.field 30 (.agg (List.toArray d9)) 5).run Tryd.prog w' = .ok (.slice al (getR v [99] 6).list.length cl) w' := fun w' => by rw [hd9c]; exact fieldV5
      clear hd9c hd9
      generalize (getR v [99] 6).list = L at *
      have HLl := Lib.hid hLl
      clear hLl
      go_wp2
      have zv := zV_size
      have zp := zPA_size
      have hO6c := oneC6
      go_loopw [36] (fun i wr => ∃ (j : Nat) (a : Option Addr) (c : Nat), j ≤ L.length ∧ i = .int .i64 j ∧ Hid ((L.take j).all (fun x => (partV x).isSome) = true) ∧ Hid (OfI w wr gx W9.heap.size cs b6 ⟨P, 1, M, T, [], SZ, (L.take j).filterMap partV⟩ a c) ∧ Hid (W9.grownBy wr (some gx)) ∧ Hid (∀ p ∈ (L.take j).filterMap partV, PrtOk p)) (fun i _ => L.length - (intOf i).toNat)
      case atStart => exact ⟨0, none, 0, Nat.zero_le _, rfl, Lib.hid rfl, hO9, Lib.hid ⟨rfl, rfl, rfl, Nat.le_refl _, fun _ _ _ => rfl⟩, Lib.hid (by intro p hp; cases hp)⟩
      case round =>
        obtain ⟨j, a, c, hj, rfl, hA, hO, hg, hKK⟩ := hrel
        have j0 : (0 : Int) ≤ (j : Int) := by omega
        have jb : IntKind.i64.wrap ((j : Int) + 1) = (j : Int) + 1 := IntWalk.i64_in _ (by have := HLl.out; omega)
        by_cases hlt : j < L.length
        case neg =>
          obtain rfl : j = L.length := by omega
          have j1 : ¬ (L.length : Int) < (L.length : Int) := by omega
          have hF : Hid (OfJ w wr gx cs v) := by
            show OfJ _ _ _ _ _
            have hA2 := hA.out
            have hO2 := hO.out
            rw [List.take_length] at hA2 hO2
            refine ⟨_, _, _, _, _, hO2, ?_, fun _ => ?_, ?_, HL.out.2.2.2, ?_, ?_⟩
            · rw [hBF3.out, hA2]; simp
            · rw [hPX2.out]
            · have hKK2 := hKK.out
              rw [List.take_length] at hKK2
              exact ⟨HL.out.1, HL.out.2.1, HL.out.2.2.1, hSz, by show P.length ≤ _; have := HL.out.2.2.2; unfold maxLen; omega, Nat.zero_le _, hKK2⟩
            · show (L.filterMap partV).length ≤ _
              have := List.length_filterMap_le partV L
              have := HLl.out
              omega
            · rw [hPX2.out]
          clear hA hO hg hO9
          go_wp2
          go_meet
          exact ⟨by rw [hk.out] <;> rfl, hF.out⟩
        case pos =>
          have j1 : (j : Int) < (L.length : Int) := by omega
          have hsame : ∀ b, W8.heap.size ≤ b → b < W9.heap.size → wr.heap[b]? = W9.heap[b]? := fun b hb hl2 => hg.out.block b hl2 (by simp; omega)
          have hr2 := Row.keptP hrow hok hsame
          have s6 := hr2.elemSome (s := 6) h6 (by decide) (i := j) (by omega)
          have hx := ((hsub j css[j] L[j] (by simp [hcss, hlt]) (by simp [hlt])).same (w' := wr) hsame).at
          have q1 := ldOp_at (P := Tryd.prog) (ty := 30) (hr2.elem (s := 6) h6 (i := j) (c := css[j]) (by simp [hcss, hlt])) Tryd.underlying30 rfl (by rw [hx.len]; exact sizeV)
          have hT : Hid (L.take (j + 1) = L.take j ++ [L[j]]) := List.take_succ_eq_append_getElem hlt
          have hxm : Hid (L[j] ∈ L) := List.getElem_mem hlt
          have hnl : Hid (((L.take j).filterMap partV).length ≤ 65536) := by
            show _ ≤ _
            have := List.length_filterMap_le partV (L.take j)
            have := HLl.out
            rw [List.length_take] at *
            omega
          generalize L[j] = x at *
          generalize css[j] = cx at *
          have y1 : (List.toArray cx).size = 6 := by simpa using hx.len
          have y2 : OneC (List.toArray cx) := all_oneCell_toArray hx.one
          have hXB := Blk.new wr 30 (List.toArray cx)
          have hbx : Below wr.heap.size wr (wr.alloc (.cells (List.toArray cx) 30)) := (Below.refl _ _).alloc (Nat.le_refl _) _
          clear hr2 hsame
          go_upto_region 11 with (fail)
          generalize hqx : wr.heap.size = qx at *
          generalize wr.alloc (.cells (List.toArray cx) 30) = W10 at *
          rw [← hqx] at hbx
          have hXB' : Blk W10 qx 30 cx := by simpa using hXB
          have q2 := ldOp_all (P := Tryd.prog) (ty := 30) hXB' Tryd.underlying30 rfl (by rw [hx.len]; exact sizeV)
          have hprt := ipart_any (w0 := wr) hx W10 hbx
          generalize hpv : partV x = o at *
          go_wp2_with fail
          refine hprt.mono ?_
          rintro e w11 ⟨hb11, ps, rfl, hps, hpo, hpp⟩
          have p33 : (List.toArray ps).size = 33 := by simpa using hps
          have hbA : Below w11.heap.size w11 (w11.alloc (.cells (List.toArray ps) 65)) := (Below.refl _ _).alloc (Nat.le_refl _) _
          have hPB : Blk (w11.alloc (.cells (List.toArray ps) 65)) w11.heap.size 65 ps := Blk.new _ _ _
          go_upto_region 12 with (fail)
          have hb12 := Gr.trans (Gr.trans hbx hb11) hbA
          generalize w11.alloc (.cells (List.toArray ps) 65) = W12 at *
          generalize w11.heap.size = qp at *
          have hO12 := Lib.hid (hO.out.below hb12)
          have hg12 := Lib.hid (gb_below hg.out (hb12.mono hg.out.size))
          have q3 := ldOp_all (P := Tryd.prog) (ty := 65) hPB Tryd.underlying65 rfl (by rw [hps]; exact sizePA)
          clear hO hg hb12 hbA hb11 hbx hprt q1 q2 hXB hXB'
          cases o with
          | none =>
            have zq : W12.cell? ⟨w.heap.size + 2, 6, none⟩ = some (.bool b6) := hO12.out.1.cell (by rw [← hcl]; simp)
            have fq := hO12.out.1.free 6
            have hF : Hid (OfJ w (W12.setCell ⟨w.heap.size + 2, 6, none⟩ (.bool true)) gx cs v) := by
              show OfJ _ _ _ _ _
              refine ⟨_, _, _, _, _, hO12.out.bad hcl, ?_, fun h => (by cases h), ?_, HL.out.2.2.2, ?_, ?_⟩
              · rw [hBF3.out]
                have : L.all (fun x => (partV x).isSome) = false := by
                  rw [Bool.eq_false_iff]; intro hc
                  have := List.all_eq_true.1 hc _ hxm.out
                  rw [hpv] at this; cases this
                rw [this]; simp
              · exact ⟨HL.out.1, HL.out.2.1, HL.out.2.2.1, hSz, by show P.length ≤ _; have := HL.out.2.2.2; unfold maxLen; omega, Nat.zero_le _, hKK.out⟩
              · exact hnl.out
              · rw [hPX2.out]
            clear hO12 hg12 hA hKK hT hxm hnl hpp
            go_wp2
            go_meet
            exact ⟨by rw [hk.out] <;> rfl, hF.out⟩
          | some p =>
            obtain ⟨rfl, hpok⟩ := hpp p rfl
            have hPS : Hid ((L.take (j + 1)).filterMap partV = (L.take j).filterMap partV ++ [p]) := by
              show _ = _
              rw [hT.out, List.filterMap_append]; simp [hpv]
            have hA2 : Hid ((L.take (j + 1)).all (fun x => (partV x).isSome) = true) := by
              show _ = _
              rw [hT.out, List.all_append, hA.out]; simp [hpv]
            have hKK2 : Hid (∀ q ∈ (L.take (j + 1)).filterMap partV, PrtOk q) := by
              show ∀ q ∈ _, _
              rw [hPS.out]
              intro q hq
              rcases List.mem_append.1 hq with hq | hq
              · exact hKK.out q hq
              · simp at hq; subst hq; exact hpok
            generalize (L.take j).filterMap partV = PS at *
            have hOw : W12.ownsRow W9.heap.size 65 33 (.slice a PS.length c) PS.length (PS.map prtC).flatten := hO12.out.2.2.2.2.2.1
            have hnl2 := hnl.out
            obtain ⟨a2, c2, w13, happ, hO13, hG13⟩ := own_appS (ty := 22) ePA (by decide) hOw (prtC p) hps (prtC_one _) (by unfold maxLen; omega) (by omega) hg12.out.size
            have g2 := hG13.blkB hO12.out.2.1 (own_lt hOw) (by have := hO12.out.2.2.2.2.2.2.2; omega)
            have z6 : W12.cell? ⟨gx, 6, none⟩ = some (.slice a PS.length c) := hO12.out.2.1.cell rfl
            have z7 : w13.cell? ⟨gx, 6, none⟩ = some (.slice a PS.length c) := g2.cell rfl
            have f6 := g2.free 6
            have hO14 : Hid (OfI w (w13.setCell ⟨gx, 6, none⟩ (.slice a2 (PS.length + 1) c2)) gx W9.heap.size cs b6 ⟨P, 1, M, T, [], SZ, (L.take (j + 1)).filterMap partV⟩ a2 c2) := by
              show OfI _ _ _ _ _ _ _ _ _
              rw [hPS.out]
              exact OfI.put hO12.out rfl hO13 hG13 hg12.out.size
            have hg14 := Lib.hid (grown_set (gb_below hg12.out (hG13.below (own_lt hOw) (old := W9.heap.size) (Nat.le_refl _) hg12.out.size)) 6 (.slice a2 (PS.length + 1) c2))
            clear hO13 hG13 hOw g2 hO12 hg12 hA hKK hT hxm hnl hnl2 hpp hPS hpok hpv
            generalize prtC p = E at *
            go_wp2_with (at_builtin; refine wpList_append_run happ rfl rfl rfl rfl ?_)
            first
              | exact ⟨⟨j + 1, a2, c2, by omega, (by first | rfl | go_num | (congr 1; omega)), hA2, hO14, hg14, hKK2⟩, by simp [intOf] <;> omega⟩
              | (refine ⟨?_, by simp [intOf] <;> omega⟩; (repeat apply Exists.intro); exact ⟨⟨j + 1, a2, c2, by omega, (by first | rfl | go_num | (congr 1; omega)), hA2, hO14, hg14, hKK2⟩, rfl⟩)
  case rest =>
    have hkP : Hid ((progX v).kind = K) := by show _ = _; rw [hPX.out]
    have hOF : Hid (ofF v = if badF v = false ∧ v.keys.length = keysN K ∧ v.list.length = keysN K ∧ checkI (progX v) = 0 ∧ sameV (itV (progX v)) v = true then (progX v, (0 : Int)) else (itZ, 4)) := by
      show _ = _
      have := of_prog v
      rw [hkP.out] at this
      exact this.symm
    obtain ⟨rfl, bs, b, x, a, c, hI, hbv, hxv, hok, hpl, hpp, hkx⟩ := hcut
    obtain ⟨hQ, hX, hB, hR, hbW, hO, hg3, hbs⟩ := hI
    obtain ⟨ab, cb, ak, ck, al, cl, hcs⟩ := vat_cells h
    have HCS := Lib.hid hcs
    clear hcs hBF hPX hO6
    have hSall : ∀ w', Below wc.heap.size wc w' → w'.cell? ⟨w.heap.size + 2, 6, none⟩ = some (.bool b) ∧ w'.cell? ⟨w.heap.size, 4, none⟩ = some (.slice ak v.keys.length ck) ∧ w'.cell? ⟨w.heap.size, 5, none⟩ = some (.slice al v.list.length cl) ∧ (ldOp 24 (.pointer (some ⟨gx, 0, none⟩))).run Tryd.prog w' = .ok (.agg (List.toArray (itC x a c))) w' ∧ (ldOp 30 (.pointer (some ⟨w.heap.size, 0, none⟩))).run Tryd.prog w' = .ok (.agg (List.toArray cs)) w' := fun w' hb => by
      refine ⟨(hQ.below hb).cell (by rw [← hcl]; simp), (hB.below hb).cell (by rw [HCS.out]; rfl), (hB.below hb).cell (by rw [HCS.out]; rfl), ?_, ?_⟩
      · exact ldOp_all (P := Tryd.prog) (ty := 24) (hX.below hb) Tryd.underlying24 rfl (by exact sizeIT)
      · exact ldOp_all (P := Tryd.prog) (ty := 30) (hB.below hb) Tryd.underlying30 rfl (by rw [hcl]; exact sizeV)
    have hput : ∀ w', Below wc.heap.size wc w' → ∀ cs2 : List Value, cs2.length = 7 → (∀ u ∈ cs2, u.oneCell' = true) → ∃ W2, (stoOp 24 (.pointer (some ⟨w.heap.size + 1, 0, none⟩)) (.agg (List.toArray cs2))).run Tryd.prog w' = .ok () W2 ∧ Blk W2 (w.heap.size + 1) 24 cs2 ∧ Below w.heap.size w W2 ∧ wc.grownBy W2 (some (w.heap.size + 1)) := fun w' hb cs2 h7 h1 => by
      have hR' := hR.below hb
      have hgr := setRow_gr w' (w.heap.size + 1) (List.toArray cs2)
      refine ⟨w'.setRow (w.heap.size + 1) (List.toArray cs2), st_rowI hR' (by rfl) _ (by simpa using h7) (all_oneCell_toArray h1), setRow_blk hR' cs2, ?_, ?_⟩
      · exact Below.grown (hbW.trans (hb.mono hbW.size)) hgr (hbW.trans (hb.mono hbW.size)).size (fun k hk => by cases hk; omega)
      · exact grownBy_trans ⟨hb.os, hb.tape, hb.output, hb.size, fun k hk _ => hb.block k hk⟩ hgr
    have zo : ∀ u ∈ zIT.toList, u.oneCell' = true := by intro u hu; simp [zIT] at hu; rcases hu with rfl | rfl | rfl | rfl | rfl | rfl | rfl <;> rfl
    have hb00 := fun w' => bd_it00 (w := w')
    have hFz : Hid (ofF v = (itZ, 4) → ∀ W2, Below w.heap.size w W2 → OfP w v (.returned (.tuple #[.agg (List.toArray zIT.toList), .int .i64 4])) W2) := fun he W2 hb2 => ⟨zIT.toList, by rw [he], by rw [he]; exact itZ_at _ _, hb2⟩
    have hputz := fun w' hb => hput w' hb zIT.toList rfl zo
    have ez : List.toArray zIT.toList = zIT := Array.toArray_toList
    rw [ez] at hputz
    have hNK : Hid (keysN K = keysN K) := rfl
    cases b with
    | true =>
      have hT : Hid (ofF v = (itZ, 4)) := by show _ = _; rw [hOF.out, if_neg (fun hh => by rw [← hbv] at hh; cases hh.1)]
      obtain ⟨s1, s2, s3, s4, s5⟩ := hSall _ (Below.refl _ _)
      clear hOF hbv hxv hSall
      generalize keysN K = N at *
      go_wp2
      go_quiet (fail)
      obtain ⟨W2, y1, y2, y3, _⟩ := hputz _ (Below.drewN (Below.refl _ _) nq)
      go_wp2
      exact bodyPost_ret (results_cell_tmp (fn := Tryd.f22) (p := 2) (t := 3) (by rfl) _ _ (w.heap.size + 1) 24 _ (0, 0) _ (by rfl) y2 Tryd.underlying24 rfl (by exact sizeIT)) rfl (hFz.out hT.out _ y3)
    | false =>
    have hx := hxv rfl
    subst hx
    clear hxv
    by_cases g1 : v.keys.length = keysN K
    case neg =>
      have t1 : ((v.keys.length : Int) != ((keysN K : Nat) : Int)) = true := by rw [bne_iff_ne]; omega
      have hT : Hid (ofF v = (itZ, 4)) := by show _ = _; rw [hOF.out, if_neg (fun hh => g1 hh.2.1)]
      obtain ⟨s1, s2, s3, s4, s5⟩ := hSall _ (Below.refl _ _)
      clear hOF hbv hSall
      generalize keysN K = N at *
      go_wp2
      go_quiet (fail)
      obtain ⟨W2, y1, y2, y3, _⟩ := hputz _ (Below.drewN (Below.refl _ _) nq)
      go_wp2
      exact bodyPost_ret (results_cell_tmp (fn := Tryd.f22) (p := 2) (t := 3) (by rfl) _ _ (w.heap.size + 1) 24 _ (0, 0) _ (by rfl) y2 Tryd.underlying24 rfl (by exact sizeIT)) rfl (hFz.out hT.out _ y3)
    case pos =>
    have t1 : ((v.keys.length : Int) != ((keysN K : Nat) : Int)) = false := by rw [g1]; simp
    by_cases g2 : v.list.length = keysN K
    case neg =>
      have t2 : ((v.list.length : Int) != ((keysN K : Nat) : Int)) = true := by rw [bne_iff_ne]; omega
      have hT : Hid (ofF v = (itZ, 4)) := by show _ = _; rw [hOF.out, if_neg (fun hh => g2 hh.2.2.1)]
      obtain ⟨s1, s2, s3, s4, s5⟩ := hSall _ (Below.refl _ _)
      clear hOF hbv hSall g1
      generalize keysN K = N at *
      go_wp2
      go_quiet (fail)
      obtain ⟨W2, y1, y2, y3, _⟩ := hputz _ (Below.drewN (Below.refl _ _) nq)
      go_wp2
      exact bodyPost_ret (results_cell_tmp (fn := Tryd.f22) (p := 2) (t := 3) (by rfl) _ _ (w.heap.size + 1) 24 _ (0, 0) _ (by rfl) y2 Tryd.underlying24 rfl (by exact sizeIT)) rfl (hFz.out hT.out _ y3)
    case pos =>
    have t2 : ((v.list.length : Int) != ((keysN K : Nat) : Int)) = false := by rw [g2]; simp
    have hck := fun w' (hb : Below wc.heap.size wc w') => icheck_any (c := c) ((owns_row' hO).below hb) hok (by omega) (by omega)
    have hOF2 : Hid (ofF v = if checkI (progX v) = 0 ∧ sameV (itV (progX v)) v = true then (progX v, (0 : Int)) else (itZ, 4)) := by
      show _ = _
      rw [hOF.out]
      by_cases hh : checkI (progX v) = 0 ∧ sameV (itV (progX v)) v = true
      · rw [if_pos ⟨hbv.symm, g1, g2, hh.1, hh.2⟩, if_pos hh]
      · rw [if_neg (fun h2 => hh h2.2.2.2), if_neg hh]
    by_cases g3 : checkI (progX v) = 0
    case neg =>
      have hT : Hid (ofF v = (itZ, 4)) := by show _ = _; rw [hOF2.out, if_neg (fun hh => g3 hh.1)]
      have t3 : (checkI (progX v) != 0) = true := by simpa using g3
      have hS2 := fun w' (hA : Mo (wc.drewN 1) w') => hSall w' (Below.drewN' hA)
      clear hOF hOF2 hbv hSall g1 g2 g3
      generalize keysN K = N at *
      generalize hX0 : progX v = X0 at *
      generalize checkI X0 = CI at *
      go_upto_region 19 with (fail)
      --REGION19
      have hSm : ∀ (L : Array Bool) (w1 w2 : World), Mo (wc.drewN 1) w1 → Mo w1 w2 → Mo (wc.drewN 1) w2 := fun _ w1 w2 h hm => Mo.trans h hm
      have hSi : ∀ i, i ≠ 99 → ∀ (L : Array Bool) (w1 : World), Mo (wc.drewN 1) w1 ↔ Mo (wc.drewN 1) w1 := fun _ _ _ _ => Iff.rfl
      have hS0 := Mo.refl (wc.drewN 1)
      refine wp_region_upN (S := fun _ w1 => Mo (wc.drewN 1) w1) 30 rfl (by kernel_rfl) ?_
      refine wpAnyU_take (i := 0) (A := fun w1 => Mo (wc.drewN 1) w1) (v := .pointer (some ⟨w.heap.size + 2, 0, none⟩)) (a' := ⟨#[.agg (List.toArray cs), .pointer (some ⟨w.heap.size, 0, none⟩), .pointer (some ⟨w.heap.size + 1, 0, none⟩), .int .i64 0, .pointer (some ⟨w.heap.size + 2, 0, none⟩), .pointer (some ⟨gx, 0, none⟩), .int .i64 ((N : Nat) : Int), undef, u8, u9, u10, u11, u12, u13, u14, u15, u16, u17, u18, u19, u20, u21, u22, u23, u24, u25, .int .i64 K, u27, u28, u29, u30, u31, u32, u33, u34, u35, u36, u37, u38, u39, u40, u41, u42, u43, u44, u45, u46, u47, u48, u49, u50, u51, u52, u53, u54, u55, u56, u57, u58, u59, u60, u61, u62, .pointer (some ⟨w.heap.size + 2, 0, none⟩), u64, u65, u66, u67, u68, u69, u70, u71, u72, u73, u74, u75, u76, u77, u78, u79, u80, u81, u82, u83, u84, u85, u86, u87, u88, u89, u90, u91, u92, u93, u94], []⟩) hSm (hSi 0 (by decide)) (fun _ _ h => h) rfl (by kernel_rfl) (by kernel_rfl) (by kernel_rfl) (fun _ _ _ h => h) hS0 (.inl ⟨by rfl, fun w' hA => .inl (by obtain ⟨s1, s2, s3, s4, s5⟩ := hS2 _ hA; go_simp)⟩) rfl ?_
      refine wpAnyU_take (i := 1) (A := fun w1 => Mo (wc.drewN 1) w1) (v := .pointer (some ⟨w.heap.size + 2, 0, none⟩)) (a' := ⟨#[.agg (List.toArray cs), .pointer (some ⟨w.heap.size, 0, none⟩), .pointer (some ⟨w.heap.size + 1, 0, none⟩), .int .i64 0, .pointer (some ⟨w.heap.size + 2, 0, none⟩), .pointer (some ⟨gx, 0, none⟩), .int .i64 ((N : Nat) : Int), undef, u8, u9, u10, u11, u12, u13, u14, u15, u16, u17, u18, u19, u20, u21, u22, u23, u24, u25, .int .i64 K, u27, u28, u29, u30, u31, u32, u33, u34, u35, u36, u37, u38, u39, u40, u41, u42, u43, u44, u45, u46, u47, u48, u49, u50, u51, u52, u53, u54, u55, u56, u57, u58, u59, u60, u61, u62, .pointer (some ⟨w.heap.size + 2, 0, none⟩), .pointer (some ⟨w.heap.size + 2, 0, none⟩), u65, u66, u67, u68, u69, u70, u71, u72, u73, u74, u75, u76, u77, u78, u79, u80, u81, u82, u83, u84, u85, u86, u87, u88, u89, u90, u91, u92, u93, u94], []⟩) hSm (hSi 1 (by decide)) (fun _ _ h => h) rfl (by kernel_rfl) (by kernel_rfl) (by kernel_rfl) (fun _ _ _ h => h) hS0 (.inl ⟨by rfl, fun w' hA => .inl (by obtain ⟨s1, s2, s3, s4, s5⟩ := hS2 _ hA; go_simp)⟩) rfl ?_
      refine wpAnyU_take (i := 2) (A := fun w1 => Mo (wc.drewN 1) w1) (v := .pointer (some ⟨w.heap.size + 2, 6, none⟩)) (a' := ⟨#[.agg (List.toArray cs), .pointer (some ⟨w.heap.size, 0, none⟩), .pointer (some ⟨w.heap.size + 1, 0, none⟩), .int .i64 0, .pointer (some ⟨w.heap.size + 2, 0, none⟩), .pointer (some ⟨gx, 0, none⟩), .int .i64 ((N : Nat) : Int), undef, u8, u9, u10, u11, u12, u13, u14, u15, u16, u17, u18, u19, u20, u21, u22, u23, u24, u25, .int .i64 K, u27, u28, u29, u30, u31, u32, u33, u34, u35, u36, u37, u38, u39, u40, u41, u42, u43, u44, u45, u46, u47, u48, u49, u50, u51, u52, u53, u54, u55, u56, u57, u58, u59, u60, u61, u62, .pointer (some ⟨w.heap.size + 2, 0, none⟩), .pointer (some ⟨w.heap.size + 2, 0, none⟩), .pointer (some ⟨w.heap.size + 2, 6, none⟩), u66, u67, u68, u69, u70, u71, u72, u73, u74, u75, u76, u77, u78, u79, u80, u81, u82, u83, u84, u85, u86, u87, u88, u89, u90, u91, u92, u93, u94], []⟩) hSm (hSi 2 (by decide)) (fun _ _ h => h) rfl (by kernel_rfl) (by kernel_rfl) (by kernel_rfl) (fun _ _ _ h => h) hS0 (.inl ⟨by rfl, fun w' hA => .inl (by obtain ⟨s1, s2, s3, s4, s5⟩ := hS2 _ hA; go_simp)⟩) rfl ?_
      refine wpAnyU_take (i := 3) (A := fun w1 => Mo (wc.drewN 1) w1) (v := .bool false) (a' := ⟨#[.agg (List.toArray cs), .pointer (some ⟨w.heap.size, 0, none⟩), .pointer (some ⟨w.heap.size + 1, 0, none⟩), .int .i64 0, .pointer (some ⟨w.heap.size + 2, 0, none⟩), .pointer (some ⟨gx, 0, none⟩), .int .i64 ((N : Nat) : Int), undef, u8, u9, u10, u11, u12, u13, u14, u15, u16, u17, u18, u19, u20, u21, u22, u23, u24, u25, .int .i64 K, u27, u28, u29, u30, u31, u32, u33, u34, u35, u36, u37, u38, u39, u40, u41, u42, u43, u44, u45, u46, u47, u48, u49, u50, u51, u52, u53, u54, u55, u56, u57, u58, u59, u60, u61, u62, .pointer (some ⟨w.heap.size + 2, 0, none⟩), .pointer (some ⟨w.heap.size + 2, 0, none⟩), .pointer (some ⟨w.heap.size + 2, 6, none⟩), .bool false, u67, u68, u69, u70, u71, u72, u73, u74, u75, u76, u77, u78, u79, u80, u81, u82, u83, u84, u85, u86, u87, u88, u89, u90, u91, u92, u93, u94], []⟩) hSm (hSi 3 (by decide)) (fun _ _ h => h) rfl (by kernel_rfl) (by kernel_rfl) (by kernel_rfl) (fun _ _ _ h => h) hS0 (.inl ⟨by rfl, fun w' hA => .inl (by obtain ⟨s1, s2, s3, s4, s5⟩ := hS2 _ hA; go_simp)⟩) rfl ?_
      refine wpAnyU_take (i := 4) (A := fun w1 => Mo (wc.drewN 1) w1) (v := .bool false) (a' := ⟨#[.agg (List.toArray cs), .pointer (some ⟨w.heap.size, 0, none⟩), .pointer (some ⟨w.heap.size + 1, 0, none⟩), .int .i64 0, .pointer (some ⟨w.heap.size + 2, 0, none⟩), .pointer (some ⟨gx, 0, none⟩), .int .i64 ((N : Nat) : Int), undef, u8, u9, u10, u11, u12, u13, u14, u15, u16, u17, u18, u19, u20, u21, u22, u23, u24, u25, .int .i64 K, u27, u28, u29, u30, u31, u32, u33, u34, u35, u36, u37, u38, u39, u40, u41, u42, u43, u44, u45, u46, u47, u48, u49, u50, u51, u52, u53, u54, u55, u56, u57, u58, u59, u60, u61, u62, .pointer (some ⟨w.heap.size + 2, 0, none⟩), .pointer (some ⟨w.heap.size + 2, 0, none⟩), .pointer (some ⟨w.heap.size + 2, 6, none⟩), .bool false, .bool false, u68, u69, u70, u71, u72, u73, u74, u75, u76, u77, u78, u79, u80, u81, u82, u83, u84, u85, u86, u87, u88, u89, u90, u91, u92, u93, u94], []⟩) hSm (hSi 4 (by decide)) (fun _ _ h => h) rfl (by kernel_rfl) (by kernel_rfl) (by kernel_rfl) (fun _ _ _ h => h) hS0 (.inl ⟨by rfl, fun w' hA => .inl (by obtain ⟨s1, s2, s3, s4, s5⟩ := hS2 _ hA; go_simp)⟩) rfl ?_
      refine wpAnyU_take (i := 5) (A := fun w1 => Mo (wc.drewN 1) w1) (v := .pointer (some ⟨w.heap.size, 4, none⟩)) (a' := ⟨#[.agg (List.toArray cs), .pointer (some ⟨w.heap.size, 0, none⟩), .pointer (some ⟨w.heap.size + 1, 0, none⟩), .int .i64 0, .pointer (some ⟨w.heap.size + 2, 0, none⟩), .pointer (some ⟨gx, 0, none⟩), .int .i64 ((N : Nat) : Int), undef, u8, u9, u10, u11, u12, u13, u14, u15, u16, u17, u18, u19, u20, u21, u22, u23, u24, u25, .int .i64 K, u27, u28, u29, u30, u31, u32, u33, u34, u35, u36, u37, u38, u39, u40, u41, u42, u43, u44, u45, u46, u47, u48, u49, u50, u51, u52, u53, u54, u55, u56, u57, u58, u59, u60, u61, u62, .pointer (some ⟨w.heap.size + 2, 0, none⟩), .pointer (some ⟨w.heap.size + 2, 0, none⟩), .pointer (some ⟨w.heap.size + 2, 6, none⟩), .bool false, .bool false, .pointer (some ⟨w.heap.size, 4, none⟩), u69, u70, u71, u72, u73, u74, u75, u76, u77, u78, u79, u80, u81, u82, u83, u84, u85, u86, u87, u88, u89, u90, u91, u92, u93, u94], []⟩) hSm (hSi 5 (by decide)) (fun _ _ h => h) rfl (by kernel_rfl) (by kernel_rfl) (by kernel_rfl) (fun _ _ _ h => h) hS0 (.inl ⟨by rfl, fun w' hA => .inl (by obtain ⟨s1, s2, s3, s4, s5⟩ := hS2 _ hA; go_simp)⟩) rfl ?_
      refine wpAnyU_take (i := 6) (A := fun w1 => Mo (wc.drewN 1) w1) (v := .slice ak v.keys.length ck) (a' := ⟨#[.agg (List.toArray cs), .pointer (some ⟨w.heap.size, 0, none⟩), .pointer (some ⟨w.heap.size + 1, 0, none⟩), .int .i64 0, .pointer (some ⟨w.heap.size + 2, 0, none⟩), .pointer (some ⟨gx, 0, none⟩), .int .i64 ((N : Nat) : Int), undef, u8, u9, u10, u11, u12, u13, u14, u15, u16, u17, u18, u19, u20, u21, u22, u23, u24, u25, .int .i64 K, u27, u28, u29, u30, u31, u32, u33, u34, u35, u36, u37, u38, u39, u40, u41, u42, u43, u44, u45, u46, u47, u48, u49, u50, u51, u52, u53, u54, u55, u56, u57, u58, u59, u60, u61, u62, .pointer (some ⟨w.heap.size + 2, 0, none⟩), .pointer (some ⟨w.heap.size + 2, 0, none⟩), .pointer (some ⟨w.heap.size + 2, 6, none⟩), .bool false, .bool false, .pointer (some ⟨w.heap.size, 4, none⟩), .slice ak v.keys.length ck, u70, u71, u72, u73, u74, u75, u76, u77, u78, u79, u80, u81, u82, u83, u84, u85, u86, u87, u88, u89, u90, u91, u92, u93, u94], []⟩) hSm (hSi 6 (by decide)) (fun _ _ h => h) rfl (by kernel_rfl) (by kernel_rfl) (by kernel_rfl) (fun _ _ _ h => h) hS0 (.inl ⟨by rfl, fun w' hA => .inl (by obtain ⟨s1, s2, s3, s4, s5⟩ := hS2 _ hA; go_simp)⟩) rfl ?_
      refine wpAnyU_take (i := 7) (A := fun w1 => Mo (wc.drewN 1) w1) (v := .int .i64 (v.keys.length : Int)) (a' := ⟨#[.agg (List.toArray cs), .pointer (some ⟨w.heap.size, 0, none⟩), .pointer (some ⟨w.heap.size + 1, 0, none⟩), .int .i64 0, .pointer (some ⟨w.heap.size + 2, 0, none⟩), .pointer (some ⟨gx, 0, none⟩), .int .i64 ((N : Nat) : Int), undef, u8, u9, u10, u11, u12, u13, u14, u15, u16, u17, u18, u19, u20, u21, u22, u23, u24, u25, .int .i64 K, u27, u28, u29, u30, u31, u32, u33, u34, u35, u36, u37, u38, u39, u40, u41, u42, u43, u44, u45, u46, u47, u48, u49, u50, u51, u52, u53, u54, u55, u56, u57, u58, u59, u60, u61, u62, .pointer (some ⟨w.heap.size + 2, 0, none⟩), .pointer (some ⟨w.heap.size + 2, 0, none⟩), .pointer (some ⟨w.heap.size + 2, 6, none⟩), .bool false, .bool false, .pointer (some ⟨w.heap.size, 4, none⟩), .slice ak v.keys.length ck, .int .i64 (v.keys.length : Int), u71, u72, u73, u74, u75, u76, u77, u78, u79, u80, u81, u82, u83, u84, u85, u86, u87, u88, u89, u90, u91, u92, u93, u94], []⟩) hSm (hSi 7 (by decide)) (fun _ _ h => h) rfl (by kernel_rfl) (by kernel_rfl) (by kernel_rfl) (fun _ _ _ h => h) hS0 (.inl ⟨by rfl, fun w' hA => .inl (by obtain ⟨s1, s2, s3, s4, s5⟩ := hS2 _ hA; go_simp)⟩) rfl ?_
      refine wpAnyU_take (i := 8) (A := fun w1 => Mo (wc.drewN 1) w1) (v := .int .i64 ((N : Nat) : Int)) (a' := ⟨#[.agg (List.toArray cs), .pointer (some ⟨w.heap.size, 0, none⟩), .pointer (some ⟨w.heap.size + 1, 0, none⟩), .int .i64 0, .pointer (some ⟨w.heap.size + 2, 0, none⟩), .pointer (some ⟨gx, 0, none⟩), .int .i64 ((N : Nat) : Int), undef, u8, u9, u10, u11, u12, u13, u14, u15, u16, u17, u18, u19, u20, u21, u22, u23, u24, u25, .int .i64 K, u27, u28, u29, u30, u31, u32, u33, u34, u35, u36, u37, u38, u39, u40, u41, u42, u43, u44, u45, u46, u47, u48, u49, u50, u51, u52, u53, u54, u55, u56, u57, u58, u59, u60, u61, u62, .pointer (some ⟨w.heap.size + 2, 0, none⟩), .pointer (some ⟨w.heap.size + 2, 0, none⟩), .pointer (some ⟨w.heap.size + 2, 6, none⟩), .bool false, .bool false, .pointer (some ⟨w.heap.size, 4, none⟩), .slice ak v.keys.length ck, .int .i64 (v.keys.length : Int), .int .i64 ((N : Nat) : Int), u72, u73, u74, u75, u76, u77, u78, u79, u80, u81, u82, u83, u84, u85, u86, u87, u88, u89, u90, u91, u92, u93, u94], []⟩) hSm (hSi 8 (by decide)) (fun _ _ h => h) rfl (by kernel_rfl) (by kernel_rfl) (by kernel_rfl) (fun _ _ _ h => h) hS0 (.inl ⟨by rfl, fun w' hA => .inl (by obtain ⟨s1, s2, s3, s4, s5⟩ := hS2 _ hA; go_simp)⟩) rfl ?_
      refine wpAnyU_take (i := 9) (A := fun w1 => Mo (wc.drewN 1) w1) (v := .bool false) (a' := ⟨#[.agg (List.toArray cs), .pointer (some ⟨w.heap.size, 0, none⟩), .pointer (some ⟨w.heap.size + 1, 0, none⟩), .int .i64 0, .pointer (some ⟨w.heap.size + 2, 0, none⟩), .pointer (some ⟨gx, 0, none⟩), .int .i64 ((N : Nat) : Int), undef, u8, u9, u10, u11, u12, u13, u14, u15, u16, u17, u18, u19, u20, u21, u22, u23, u24, u25, .int .i64 K, u27, u28, u29, u30, u31, u32, u33, u34, u35, u36, u37, u38, u39, u40, u41, u42, u43, u44, u45, u46, u47, u48, u49, u50, u51, u52, u53, u54, u55, u56, u57, u58, u59, u60, u61, u62, .pointer (some ⟨w.heap.size + 2, 0, none⟩), .pointer (some ⟨w.heap.size + 2, 0, none⟩), .pointer (some ⟨w.heap.size + 2, 6, none⟩), .bool false, .bool false, .pointer (some ⟨w.heap.size, 4, none⟩), .slice ak v.keys.length ck, .int .i64 (v.keys.length : Int), .int .i64 ((N : Nat) : Int), .bool false, u73, u74, u75, u76, u77, u78, u79, u80, u81, u82, u83, u84, u85, u86, u87, u88, u89, u90, u91, u92, u93, u94], []⟩) hSm (hSi 9 (by decide)) (fun _ _ h => h) rfl (by kernel_rfl) (by kernel_rfl) (by kernel_rfl) (fun _ _ _ h => h) hS0 (.inl ⟨by rfl, fun w' hA => .inl (by obtain ⟨s1, s2, s3, s4, s5⟩ := hS2 _ hA; go_simp)⟩) rfl ?_
      refine wpAnyU_take (i := 10) (A := fun w1 => Mo (wc.drewN 1) w1) (v := .bool false) (a' := ⟨#[.agg (List.toArray cs), .pointer (some ⟨w.heap.size, 0, none⟩), .pointer (some ⟨w.heap.size + 1, 0, none⟩), .int .i64 0, .pointer (some ⟨w.heap.size + 2, 0, none⟩), .pointer (some ⟨gx, 0, none⟩), .int .i64 ((N : Nat) : Int), undef, u8, u9, u10, u11, u12, u13, u14, u15, u16, u17, u18, u19, u20, u21, u22, u23, u24, u25, .int .i64 K, u27, u28, u29, u30, u31, u32, u33, u34, u35, u36, u37, u38, u39, u40, u41, u42, u43, u44, u45, u46, u47, u48, u49, u50, u51, u52, u53, u54, u55, u56, u57, u58, u59, u60, u61, u62, .pointer (some ⟨w.heap.size + 2, 0, none⟩), .pointer (some ⟨w.heap.size + 2, 0, none⟩), .pointer (some ⟨w.heap.size + 2, 6, none⟩), .bool false, .bool false, .pointer (some ⟨w.heap.size, 4, none⟩), .slice ak v.keys.length ck, .int .i64 (v.keys.length : Int), .int .i64 ((N : Nat) : Int), .bool false, .bool false, u74, u75, u76, u77, u78, u79, u80, u81, u82, u83, u84, u85, u86, u87, u88, u89, u90, u91, u92, u93, u94], []⟩) hSm (hSi 10 (by decide)) (fun _ _ h => h) rfl (by kernel_rfl) (by kernel_rfl) (by kernel_rfl) (fun _ _ _ h => h) hS0 (.inl ⟨by rfl, fun w' hA => .inl (by obtain ⟨s1, s2, s3, s4, s5⟩ := hS2 _ hA; go_simp)⟩) rfl ?_
      refine wpAnyU_take (i := 11) (A := fun w1 => Mo (wc.drewN 1) w1) (v := .bool false) (a' := ⟨#[.agg (List.toArray cs), .pointer (some ⟨w.heap.size, 0, none⟩), .pointer (some ⟨w.heap.size + 1, 0, none⟩), .int .i64 0, .pointer (some ⟨w.heap.size + 2, 0, none⟩), .pointer (some ⟨gx, 0, none⟩), .int .i64 ((N : Nat) : Int), undef, u8, u9, u10, u11, u12, u13, u14, u15, u16, u17, u18, u19, u20, u21, u22, u23, u24, u25, .int .i64 K, u27, u28, u29, u30, u31, u32, u33, u34, u35, u36, u37, u38, u39, u40, u41, u42, u43, u44, u45, u46, u47, u48, u49, u50, u51, u52, u53, u54, u55, u56, u57, u58, u59, u60, u61, u62, .pointer (some ⟨w.heap.size + 2, 0, none⟩), .pointer (some ⟨w.heap.size + 2, 0, none⟩), .pointer (some ⟨w.heap.size + 2, 6, none⟩), .bool false, .bool false, .pointer (some ⟨w.heap.size, 4, none⟩), .slice ak v.keys.length ck, .int .i64 (v.keys.length : Int), .int .i64 ((N : Nat) : Int), .bool false, .bool false, .bool false, u75, u76, u77, u78, u79, u80, u81, u82, u83, u84, u85, u86, u87, u88, u89, u90, u91, u92, u93, u94], []⟩) hSm (hSi 11 (by decide)) (fun _ _ h => h) rfl (by kernel_rfl) (by kernel_rfl) (by kernel_rfl) (fun _ _ _ h => h) hS0 (.inl ⟨by rfl, fun w' hA => .inl (by obtain ⟨s1, s2, s3, s4, s5⟩ := hS2 _ hA; go_simp)⟩) rfl ?_
      refine wpAnyU_take (i := 12) (A := fun w1 => Mo (wc.drewN 1) w1) (v := .pointer (some ⟨w.heap.size, 5, none⟩)) (a' := ⟨#[.agg (List.toArray cs), .pointer (some ⟨w.heap.size, 0, none⟩), .pointer (some ⟨w.heap.size + 1, 0, none⟩), .int .i64 0, .pointer (some ⟨w.heap.size + 2, 0, none⟩), .pointer (some ⟨gx, 0, none⟩), .int .i64 ((N : Nat) : Int), undef, u8, u9, u10, u11, u12, u13, u14, u15, u16, u17, u18, u19, u20, u21, u22, u23, u24, u25, .int .i64 K, u27, u28, u29, u30, u31, u32, u33, u34, u35, u36, u37, u38, u39, u40, u41, u42, u43, u44, u45, u46, u47, u48, u49, u50, u51, u52, u53, u54, u55, u56, u57, u58, u59, u60, u61, u62, .pointer (some ⟨w.heap.size + 2, 0, none⟩), .pointer (some ⟨w.heap.size + 2, 0, none⟩), .pointer (some ⟨w.heap.size + 2, 6, none⟩), .bool false, .bool false, .pointer (some ⟨w.heap.size, 4, none⟩), .slice ak v.keys.length ck, .int .i64 (v.keys.length : Int), .int .i64 ((N : Nat) : Int), .bool false, .bool false, .bool false, .pointer (some ⟨w.heap.size, 5, none⟩), u76, u77, u78, u79, u80, u81, u82, u83, u84, u85, u86, u87, u88, u89, u90, u91, u92, u93, u94], []⟩) hSm (hSi 12 (by decide)) (fun _ _ h => h) rfl (by kernel_rfl) (by kernel_rfl) (by kernel_rfl) (fun _ _ _ h => h) hS0 (.inl ⟨by rfl, fun w' hA => .inl (by obtain ⟨s1, s2, s3, s4, s5⟩ := hS2 _ hA; go_simp)⟩) rfl ?_
      refine wpAnyU_take (i := 13) (A := fun w1 => Mo (wc.drewN 1) w1) (v := .slice al v.list.length cl) (a' := ⟨#[.agg (List.toArray cs), .pointer (some ⟨w.heap.size, 0, none⟩), .pointer (some ⟨w.heap.size + 1, 0, none⟩), .int .i64 0, .pointer (some ⟨w.heap.size + 2, 0, none⟩), .pointer (some ⟨gx, 0, none⟩), .int .i64 ((N : Nat) : Int), undef, u8, u9, u10, u11, u12, u13, u14, u15, u16, u17, u18, u19, u20, u21, u22, u23, u24, u25, .int .i64 K, u27, u28, u29, u30, u31, u32, u33, u34, u35, u36, u37, u38, u39, u40, u41, u42, u43, u44, u45, u46, u47, u48, u49, u50, u51, u52, u53, u54, u55, u56, u57, u58, u59, u60, u61, u62, .pointer (some ⟨w.heap.size + 2, 0, none⟩), .pointer (some ⟨w.heap.size + 2, 0, none⟩), .pointer (some ⟨w.heap.size + 2, 6, none⟩), .bool false, .bool false, .pointer (some ⟨w.heap.size, 4, none⟩), .slice ak v.keys.length ck, .int .i64 (v.keys.length : Int), .int .i64 ((N : Nat) : Int), .bool false, .bool false, .bool false, .pointer (some ⟨w.heap.size, 5, none⟩), .slice al v.list.length cl, u77, u78, u79, u80, u81, u82, u83, u84, u85, u86, u87, u88, u89, u90, u91, u92, u93, u94], []⟩) hSm (hSi 13 (by decide)) (fun _ _ h => h) rfl (by kernel_rfl) (by kernel_rfl) (by kernel_rfl) (fun _ _ _ h => h) hS0 (.inl ⟨by rfl, fun w' hA => .inl (by obtain ⟨s1, s2, s3, s4, s5⟩ := hS2 _ hA; go_simp)⟩) rfl ?_
      refine wpAnyU_take (i := 14) (A := fun w1 => Mo (wc.drewN 1) w1) (v := .int .i64 (v.list.length : Int)) (a' := ⟨#[.agg (List.toArray cs), .pointer (some ⟨w.heap.size, 0, none⟩), .pointer (some ⟨w.heap.size + 1, 0, none⟩), .int .i64 0, .pointer (some ⟨w.heap.size + 2, 0, none⟩), .pointer (some ⟨gx, 0, none⟩), .int .i64 ((N : Nat) : Int), undef, u8, u9, u10, u11, u12, u13, u14, u15, u16, u17, u18, u19, u20, u21, u22, u23, u24, u25, .int .i64 K, u27, u28, u29, u30, u31, u32, u33, u34, u35, u36, u37, u38, u39, u40, u41, u42, u43, u44, u45, u46, u47, u48, u49, u50, u51, u52, u53, u54, u55, u56, u57, u58, u59, u60, u61, u62, .pointer (some ⟨w.heap.size + 2, 0, none⟩), .pointer (some ⟨w.heap.size + 2, 0, none⟩), .pointer (some ⟨w.heap.size + 2, 6, none⟩), .bool false, .bool false, .pointer (some ⟨w.heap.size, 4, none⟩), .slice ak v.keys.length ck, .int .i64 (v.keys.length : Int), .int .i64 ((N : Nat) : Int), .bool false, .bool false, .bool false, .pointer (some ⟨w.heap.size, 5, none⟩), .slice al v.list.length cl, .int .i64 (v.list.length : Int), u78, u79, u80, u81, u82, u83, u84, u85, u86, u87, u88, u89, u90, u91, u92, u93, u94], []⟩) hSm (hSi 14 (by decide)) (fun _ _ h => h) rfl (by kernel_rfl) (by kernel_rfl) (by kernel_rfl) (fun _ _ _ h => h) hS0 (.inl ⟨by rfl, fun w' hA => .inl (by obtain ⟨s1, s2, s3, s4, s5⟩ := hS2 _ hA; go_simp)⟩) rfl ?_
      refine wpAnyU_take (i := 15) (A := fun w1 => Mo (wc.drewN 1) w1) (v := .int .i64 ((N : Nat) : Int)) (a' := ⟨#[.agg (List.toArray cs), .pointer (some ⟨w.heap.size, 0, none⟩), .pointer (some ⟨w.heap.size + 1, 0, none⟩), .int .i64 0, .pointer (some ⟨w.heap.size + 2, 0, none⟩), .pointer (some ⟨gx, 0, none⟩), .int .i64 ((N : Nat) : Int), undef, u8, u9, u10, u11, u12, u13, u14, u15, u16, u17, u18, u19, u20, u21, u22, u23, u24, u25, .int .i64 K, u27, u28, u29, u30, u31, u32, u33, u34, u35, u36, u37, u38, u39, u40, u41, u42, u43, u44, u45, u46, u47, u48, u49, u50, u51, u52, u53, u54, u55, u56, u57, u58, u59, u60, u61, u62, .pointer (some ⟨w.heap.size + 2, 0, none⟩), .pointer (some ⟨w.heap.size + 2, 0, none⟩), .pointer (some ⟨w.heap.size + 2, 6, none⟩), .bool false, .bool false, .pointer (some ⟨w.heap.size, 4, none⟩), .slice ak v.keys.length ck, .int .i64 (v.keys.length : Int), .int .i64 ((N : Nat) : Int), .bool false, .bool false, .bool false, .pointer (some ⟨w.heap.size, 5, none⟩), .slice al v.list.length cl, .int .i64 (v.list.length : Int), .int .i64 ((N : Nat) : Int), u79, u80, u81, u82, u83, u84, u85, u86, u87, u88, u89, u90, u91, u92, u93, u94], []⟩) hSm (hSi 15 (by decide)) (fun _ _ h => h) rfl (by kernel_rfl) (by kernel_rfl) (by kernel_rfl) (fun _ _ _ h => h) hS0 (.inl ⟨by rfl, fun w' hA => .inl (by obtain ⟨s1, s2, s3, s4, s5⟩ := hS2 _ hA; go_simp)⟩) rfl ?_
      refine wpAnyU_take (i := 16) (A := fun w1 => Mo (wc.drewN 1) w1) (v := .bool false) (a' := ⟨#[.agg (List.toArray cs), .pointer (some ⟨w.heap.size, 0, none⟩), .pointer (some ⟨w.heap.size + 1, 0, none⟩), .int .i64 0, .pointer (some ⟨w.heap.size + 2, 0, none⟩), .pointer (some ⟨gx, 0, none⟩), .int .i64 ((N : Nat) : Int), undef, u8, u9, u10, u11, u12, u13, u14, u15, u16, u17, u18, u19, u20, u21, u22, u23, u24, u25, .int .i64 K, u27, u28, u29, u30, u31, u32, u33, u34, u35, u36, u37, u38, u39, u40, u41, u42, u43, u44, u45, u46, u47, u48, u49, u50, u51, u52, u53, u54, u55, u56, u57, u58, u59, u60, u61, u62, .pointer (some ⟨w.heap.size + 2, 0, none⟩), .pointer (some ⟨w.heap.size + 2, 0, none⟩), .pointer (some ⟨w.heap.size + 2, 6, none⟩), .bool false, .bool false, .pointer (some ⟨w.heap.size, 4, none⟩), .slice ak v.keys.length ck, .int .i64 (v.keys.length : Int), .int .i64 ((N : Nat) : Int), .bool false, .bool false, .bool false, .pointer (some ⟨w.heap.size, 5, none⟩), .slice al v.list.length cl, .int .i64 (v.list.length : Int), .int .i64 ((N : Nat) : Int), .bool false, u80, u81, u82, u83, u84, u85, u86, u87, u88, u89, u90, u91, u92, u93, u94], []⟩) hSm (hSi 16 (by decide)) (fun _ _ h => h) rfl (by kernel_rfl) (by kernel_rfl) (by kernel_rfl) (fun _ _ _ h => h) hS0 (.inl ⟨by rfl, fun w' hA => .inl (by obtain ⟨s1, s2, s3, s4, s5⟩ := hS2 _ hA; go_simp)⟩) rfl ?_
      refine wpAnyU_take (i := 17) (A := fun w1 => Mo (wc.drewN 1) w1) (v := .bool false) (a' := ⟨#[.agg (List.toArray cs), .pointer (some ⟨w.heap.size, 0, none⟩), .pointer (some ⟨w.heap.size + 1, 0, none⟩), .int .i64 0, .pointer (some ⟨w.heap.size + 2, 0, none⟩), .pointer (some ⟨gx, 0, none⟩), .int .i64 ((N : Nat) : Int), undef, u8, u9, u10, u11, u12, u13, u14, u15, u16, u17, u18, u19, u20, u21, u22, u23, u24, u25, .int .i64 K, u27, u28, u29, u30, u31, u32, u33, u34, u35, u36, u37, u38, u39, u40, u41, u42, u43, u44, u45, u46, u47, u48, u49, u50, u51, u52, u53, u54, u55, u56, u57, u58, u59, u60, u61, u62, .pointer (some ⟨w.heap.size + 2, 0, none⟩), .pointer (some ⟨w.heap.size + 2, 0, none⟩), .pointer (some ⟨w.heap.size + 2, 6, none⟩), .bool false, .bool false, .pointer (some ⟨w.heap.size, 4, none⟩), .slice ak v.keys.length ck, .int .i64 (v.keys.length : Int), .int .i64 ((N : Nat) : Int), .bool false, .bool false, .bool false, .pointer (some ⟨w.heap.size, 5, none⟩), .slice al v.list.length cl, .int .i64 (v.list.length : Int), .int .i64 ((N : Nat) : Int), .bool false, .bool false, u81, u82, u83, u84, u85, u86, u87, u88, u89, u90, u91, u92, u93, u94], []⟩) hSm (hSi 17 (by decide)) (fun _ _ h => h) rfl (by kernel_rfl) (by kernel_rfl) (by kernel_rfl) (fun _ _ _ h => h) hS0 (.inl ⟨by rfl, fun w' hA => .inl (by obtain ⟨s1, s2, s3, s4, s5⟩ := hS2 _ hA; go_simp)⟩) rfl ?_
      refine wpAnyU_take (i := 18) (A := fun w1 => Mo (wc.drewN 1) w1) (v := .bool false) (a' := ⟨#[.agg (List.toArray cs), .pointer (some ⟨w.heap.size, 0, none⟩), .pointer (some ⟨w.heap.size + 1, 0, none⟩), .int .i64 0, .pointer (some ⟨w.heap.size + 2, 0, none⟩), .pointer (some ⟨gx, 0, none⟩), .int .i64 ((N : Nat) : Int), undef, u8, u9, u10, u11, u12, u13, u14, u15, u16, u17, u18, u19, u20, u21, u22, u23, u24, u25, .int .i64 K, u27, u28, u29, u30, u31, u32, u33, u34, u35, u36, u37, u38, u39, u40, u41, u42, u43, u44, u45, u46, u47, u48, u49, u50, u51, u52, u53, u54, u55, u56, u57, u58, u59, u60, u61, u62, .pointer (some ⟨w.heap.size + 2, 0, none⟩), .pointer (some ⟨w.heap.size + 2, 0, none⟩), .pointer (some ⟨w.heap.size + 2, 6, none⟩), .bool false, .bool false, .pointer (some ⟨w.heap.size, 4, none⟩), .slice ak v.keys.length ck, .int .i64 (v.keys.length : Int), .int .i64 ((N : Nat) : Int), .bool false, .bool false, .bool false, .pointer (some ⟨w.heap.size, 5, none⟩), .slice al v.list.length cl, .int .i64 (v.list.length : Int), .int .i64 ((N : Nat) : Int), .bool false, .bool false, .bool false, u82, u83, u84, u85, u86, u87, u88, u89, u90, u91, u92, u93, u94], []⟩) hSm (hSi 18 (by decide)) (fun _ _ h => h) rfl (by kernel_rfl) (by kernel_rfl) (by kernel_rfl) (fun _ _ _ h => h) hS0 (.inl ⟨by rfl, fun w' hA => .inl (by obtain ⟨s1, s2, s3, s4, s5⟩ := hS2 _ hA; go_simp)⟩) rfl ?_
      refine wpAnyU_take (i := 19) (A := fun w1 => Mo (wc.drewN 1) w1) (v := .agg (List.toArray (itC X0 a c))) (a' := ⟨#[.agg (List.toArray cs), .pointer (some ⟨w.heap.size, 0, none⟩), .pointer (some ⟨w.heap.size + 1, 0, none⟩), .int .i64 0, .pointer (some ⟨w.heap.size + 2, 0, none⟩), .pointer (some ⟨gx, 0, none⟩), .int .i64 ((N : Nat) : Int), undef, u8, u9, u10, u11, u12, u13, u14, u15, u16, u17, u18, u19, u20, u21, u22, u23, u24, u25, .int .i64 K, u27, u28, u29, u30, u31, u32, u33, u34, u35, u36, u37, u38, u39, u40, u41, u42, u43, u44, u45, u46, u47, u48, u49, u50, u51, u52, u53, u54, u55, u56, u57, u58, u59, u60, u61, u62, .pointer (some ⟨w.heap.size + 2, 0, none⟩), .pointer (some ⟨w.heap.size + 2, 0, none⟩), .pointer (some ⟨w.heap.size + 2, 6, none⟩), .bool false, .bool false, .pointer (some ⟨w.heap.size, 4, none⟩), .slice ak v.keys.length ck, .int .i64 (v.keys.length : Int), .int .i64 ((N : Nat) : Int), .bool false, .bool false, .bool false, .pointer (some ⟨w.heap.size, 5, none⟩), .slice al v.list.length cl, .int .i64 (v.list.length : Int), .int .i64 ((N : Nat) : Int), .bool false, .bool false, .bool false, .agg (List.toArray (itC X0 a c)), u83, u84, u85, u86, u87, u88, u89, u90, u91, u92, u93, u94], []⟩) hSm (hSi 19 (by decide)) (fun _ _ h => h) rfl (by kernel_rfl) (by kernel_rfl) (by kernel_rfl) (fun _ _ _ h => h) hS0 (.inl ⟨by rfl, fun w' hA => .inl (run_ldOp (hS2 _ hA).2.2.2.1)⟩) rfl ?_
      refine wpAnyU_take (i := 20) (A := fun w1 => Mo (wc.drewN 1) w1) (v := .int .i64 CI) (a' := ⟨#[.agg (List.toArray cs), .pointer (some ⟨w.heap.size, 0, none⟩), .pointer (some ⟨w.heap.size + 1, 0, none⟩), .int .i64 0, .pointer (some ⟨w.heap.size + 2, 0, none⟩), .pointer (some ⟨gx, 0, none⟩), .int .i64 ((N : Nat) : Int), undef, u8, u9, u10, u11, u12, u13, u14, u15, u16, u17, u18, u19, u20, u21, u22, u23, u24, u25, .int .i64 K, u27, u28, u29, u30, u31, u32, u33, u34, u35, u36, u37, u38, u39, u40, u41, u42, u43, u44, u45, u46, u47, u48, u49, u50, u51, u52, u53, u54, u55, u56, u57, u58, u59, u60, u61, u62, .pointer (some ⟨w.heap.size + 2, 0, none⟩), .pointer (some ⟨w.heap.size + 2, 0, none⟩), .pointer (some ⟨w.heap.size + 2, 6, none⟩), .bool false, .bool false, .pointer (some ⟨w.heap.size, 4, none⟩), .slice ak v.keys.length ck, .int .i64 (v.keys.length : Int), .int .i64 ((N : Nat) : Int), .bool false, .bool false, .bool false, .pointer (some ⟨w.heap.size, 5, none⟩), .slice al v.list.length cl, .int .i64 (v.list.length : Int), .int .i64 ((N : Nat) : Int), .bool false, .bool false, .bool false, .agg (List.toArray (itC X0 a c)), .int .i64 CI, u84, u85, u86, u87, u88, u89, u90, u91, u92, u93, u94], []⟩) hSm (hSi 20 (by decide)) (fun _ _ h => h) rfl (by kernel_rfl) (by kernel_rfl) (by kernel_rfl) (fun _ _ _ h => h) hS0 (.inl ⟨by rfl, fun w' hA => .inr ⟨11, #[.agg (List.toArray (itC X0 a c))], by go_simp, hck _ (Below.drewN' hA)⟩⟩) rfl ?_
      refine wpAnyU_take (i := 21) (A := fun w1 => Mo (wc.drewN 1) w1) (v := .bool true) (a' := ⟨#[.agg (List.toArray cs), .pointer (some ⟨w.heap.size, 0, none⟩), .pointer (some ⟨w.heap.size + 1, 0, none⟩), .int .i64 0, .pointer (some ⟨w.heap.size + 2, 0, none⟩), .pointer (some ⟨gx, 0, none⟩), .int .i64 ((N : Nat) : Int), undef, u8, u9, u10, u11, u12, u13, u14, u15, u16, u17, u18, u19, u20, u21, u22, u23, u24, u25, .int .i64 K, u27, u28, u29, u30, u31, u32, u33, u34, u35, u36, u37, u38, u39, u40, u41, u42, u43, u44, u45, u46, u47, u48, u49, u50, u51, u52, u53, u54, u55, u56, u57, u58, u59, u60, u61, u62, .pointer (some ⟨w.heap.size + 2, 0, none⟩), .pointer (some ⟨w.heap.size + 2, 0, none⟩), .pointer (some ⟨w.heap.size + 2, 6, none⟩), .bool false, .bool false, .pointer (some ⟨w.heap.size, 4, none⟩), .slice ak v.keys.length ck, .int .i64 (v.keys.length : Int), .int .i64 ((N : Nat) : Int), .bool false, .bool false, .bool false, .pointer (some ⟨w.heap.size, 5, none⟩), .slice al v.list.length cl, .int .i64 (v.list.length : Int), .int .i64 ((N : Nat) : Int), .bool false, .bool false, .bool false, .agg (List.toArray (itC X0 a c)), .int .i64 CI, .bool true, u85, u86, u87, u88, u89, u90, u91, u92, u93, u94], []⟩) hSm (hSi 21 (by decide)) (fun _ _ h => h) rfl (by kernel_rfl) (by kernel_rfl) (by kernel_rfl) (fun _ _ _ h => h) hS0 (.inl ⟨by rfl, fun w' hA => .inl (by obtain ⟨s1, s2, s3, s4, s5⟩ := hS2 _ hA; go_simp)⟩) rfl ?_
      refine wpAnyU_take (i := 22) (A := fun w1 => Mo (wc.drewN 1) w1) (v := .bool true) (a' := ⟨#[.agg (List.toArray cs), .pointer (some ⟨w.heap.size, 0, none⟩), .pointer (some ⟨w.heap.size + 1, 0, none⟩), .int .i64 0, .pointer (some ⟨w.heap.size + 2, 0, none⟩), .pointer (some ⟨gx, 0, none⟩), .int .i64 ((N : Nat) : Int), undef, u8, u9, u10, u11, u12, u13, u14, u15, u16, u17, u18, u19, u20, u21, u22, u23, u24, u25, .int .i64 K, u27, u28, u29, u30, u31, u32, u33, u34, u35, u36, u37, u38, u39, u40, u41, u42, u43, u44, u45, u46, u47, u48, u49, u50, u51, u52, u53, u54, u55, u56, u57, u58, u59, u60, u61, u62, .pointer (some ⟨w.heap.size + 2, 0, none⟩), .pointer (some ⟨w.heap.size + 2, 0, none⟩), .pointer (some ⟨w.heap.size + 2, 6, none⟩), .bool false, .bool false, .pointer (some ⟨w.heap.size, 4, none⟩), .slice ak v.keys.length ck, .int .i64 (v.keys.length : Int), .int .i64 ((N : Nat) : Int), .bool false, .bool false, .bool false, .pointer (some ⟨w.heap.size, 5, none⟩), .slice al v.list.length cl, .int .i64 (v.list.length : Int), .int .i64 ((N : Nat) : Int), .bool false, .bool false, .bool false, .agg (List.toArray (itC X0 a c)), .int .i64 CI, .bool true, .bool true, u86, u87, u88, u89, u90, u91, u92, u93, u94], []⟩) hSm (hSi 22 (by decide)) (fun _ _ h => h) rfl (by kernel_rfl) (by kernel_rfl) (by kernel_rfl) (fun _ _ _ h => h) hS0 (.inl ⟨by rfl, fun w' hA => .inl (by obtain ⟨s1, s2, s3, s4, s5⟩ := hS2 _ hA; go_simp)⟩) rfl ?_
      refine wpAnyU_take (i := 23) (A := fun w1 => Mo (wc.drewN 1) w1) (v := .bool true) (a' := ⟨#[.agg (List.toArray cs), .pointer (some ⟨w.heap.size, 0, none⟩), .pointer (some ⟨w.heap.size + 1, 0, none⟩), .int .i64 0, .pointer (some ⟨w.heap.size + 2, 0, none⟩), .pointer (some ⟨gx, 0, none⟩), .int .i64 ((N : Nat) : Int), undef, u8, u9, u10, u11, u12, u13, u14, u15, u16, u17, u18, u19, u20, u21, u22, u23, u24, u25, .int .i64 K, u27, u28, u29, u30, u31, u32, u33, u34, u35, u36, u37, u38, u39, u40, u41, u42, u43, u44, u45, u46, u47, u48, u49, u50, u51, u52, u53, u54, u55, u56, u57, u58, u59, u60, u61, u62, .pointer (some ⟨w.heap.size + 2, 0, none⟩), .pointer (some ⟨w.heap.size + 2, 0, none⟩), .pointer (some ⟨w.heap.size + 2, 6, none⟩), .bool false, .bool false, .pointer (some ⟨w.heap.size, 4, none⟩), .slice ak v.keys.length ck, .int .i64 (v.keys.length : Int), .int .i64 ((N : Nat) : Int), .bool false, .bool false, .bool false, .pointer (some ⟨w.heap.size, 5, none⟩), .slice al v.list.length cl, .int .i64 (v.list.length : Int), .int .i64 ((N : Nat) : Int), .bool false, .bool false, .bool false, .agg (List.toArray (itC X0 a c)), .int .i64 CI, .bool true, .bool true, .bool true, u87, u88, u89, u90, u91, u92, u93, u94], []⟩) hSm (hSi 23 (by decide)) (fun _ _ h => h) rfl (by kernel_rfl) (by kernel_rfl) (by kernel_rfl) (fun _ _ _ h => h) hS0 (.inl ⟨by rfl, fun w' hA => .inl (by obtain ⟨s1, s2, s3, s4, s5⟩ := hS2 _ hA; go_simp)⟩) rfl ?_
      refine wpAnyU_take (i := 24) (A := fun _ => True) (v := undef) (a' := ⟨#[.agg (List.toArray cs), .pointer (some ⟨w.heap.size, 0, none⟩), .pointer (some ⟨w.heap.size + 1, 0, none⟩), .int .i64 0, .pointer (some ⟨w.heap.size + 2, 0, none⟩), .pointer (some ⟨gx, 0, none⟩), .int .i64 ((N : Nat) : Int), undef, u8, u9, u10, u11, u12, u13, u14, u15, u16, u17, u18, u19, u20, u21, u22, u23, u24, u25, .int .i64 K, u27, u28, u29, u30, u31, u32, u33, u34, u35, u36, u37, u38, u39, u40, u41, u42, u43, u44, u45, u46, u47, u48, u49, u50, u51, u52, u53, u54, u55, u56, u57, u58, u59, u60, u61, u62, .pointer (some ⟨w.heap.size + 2, 0, none⟩), .pointer (some ⟨w.heap.size + 2, 0, none⟩), .pointer (some ⟨w.heap.size + 2, 6, none⟩), .bool false, .bool false, .pointer (some ⟨w.heap.size, 4, none⟩), .slice ak v.keys.length ck, .int .i64 (v.keys.length : Int), .int .i64 ((N : Nat) : Int), .bool false, .bool false, .bool false, .pointer (some ⟨w.heap.size, 5, none⟩), .slice al v.list.length cl, .int .i64 (v.list.length : Int), .int .i64 ((N : Nat) : Int), .bool false, .bool false, .bool false, .agg (List.toArray (itC X0 a c)), .int .i64 CI, .bool true, .bool true, .bool true, undef, u88, u89, u90, u91, u92, u93, u94], []⟩) hSm (hSi 24 (by decide)) (fun _ _ _ => trivial) rfl (by kernel_rfl) (by kernel_rfl) (by kernel_rfl) (fun _ _ _ h => h) hS0 (.inr ⟨by rfl, rfl⟩) rfl ?_
      refine wpAnyU_take (i := 25) (A := fun _ => True) (v := undef) (a' := ⟨#[.agg (List.toArray cs), .pointer (some ⟨w.heap.size, 0, none⟩), .pointer (some ⟨w.heap.size + 1, 0, none⟩), .int .i64 0, .pointer (some ⟨w.heap.size + 2, 0, none⟩), .pointer (some ⟨gx, 0, none⟩), .int .i64 ((N : Nat) : Int), undef, u8, u9, u10, u11, u12, u13, u14, u15, u16, u17, u18, u19, u20, u21, u22, u23, u24, u25, .int .i64 K, u27, u28, u29, u30, u31, u32, u33, u34, u35, u36, u37, u38, u39, u40, u41, u42, u43, u44, u45, u46, u47, u48, u49, u50, u51, u52, u53, u54, u55, u56, u57, u58, u59, u60, u61, u62, .pointer (some ⟨w.heap.size + 2, 0, none⟩), .pointer (some ⟨w.heap.size + 2, 0, none⟩), .pointer (some ⟨w.heap.size + 2, 6, none⟩), .bool false, .bool false, .pointer (some ⟨w.heap.size, 4, none⟩), .slice ak v.keys.length ck, .int .i64 (v.keys.length : Int), .int .i64 ((N : Nat) : Int), .bool false, .bool false, .bool false, .pointer (some ⟨w.heap.size, 5, none⟩), .slice al v.list.length cl, .int .i64 (v.list.length : Int), .int .i64 ((N : Nat) : Int), .bool false, .bool false, .bool false, .agg (List.toArray (itC X0 a c)), .int .i64 CI, .bool true, .bool true, .bool true, undef, undef, u89, u90, u91, u92, u93, u94], []⟩) hSm (hSi 25 (by decide)) (fun _ _ _ => trivial) rfl (by kernel_rfl) (by kernel_rfl) (by kernel_rfl) (fun _ _ _ h => h) hS0 (.inr ⟨by rfl, rfl⟩) rfl ?_
      refine wpAnyU_take (i := 26) (A := fun _ => True) (v := undef) (a' := ⟨#[.agg (List.toArray cs), .pointer (some ⟨w.heap.size, 0, none⟩), .pointer (some ⟨w.heap.size + 1, 0, none⟩), .int .i64 0, .pointer (some ⟨w.heap.size + 2, 0, none⟩), .pointer (some ⟨gx, 0, none⟩), .int .i64 ((N : Nat) : Int), undef, u8, u9, u10, u11, u12, u13, u14, u15, u16, u17, u18, u19, u20, u21, u22, u23, u24, u25, .int .i64 K, u27, u28, u29, u30, u31, u32, u33, u34, u35, u36, u37, u38, u39, u40, u41, u42, u43, u44, u45, u46, u47, u48, u49, u50, u51, u52, u53, u54, u55, u56, u57, u58, u59, u60, u61, u62, .pointer (some ⟨w.heap.size + 2, 0, none⟩), .pointer (some ⟨w.heap.size + 2, 0, none⟩), .pointer (some ⟨w.heap.size + 2, 6, none⟩), .bool false, .bool false, .pointer (some ⟨w.heap.size, 4, none⟩), .slice ak v.keys.length ck, .int .i64 (v.keys.length : Int), .int .i64 ((N : Nat) : Int), .bool false, .bool false, .bool false, .pointer (some ⟨w.heap.size, 5, none⟩), .slice al v.list.length cl, .int .i64 (v.list.length : Int), .int .i64 ((N : Nat) : Int), .bool false, .bool false, .bool false, .agg (List.toArray (itC X0 a c)), .int .i64 CI, .bool true, .bool true, .bool true, undef, undef, undef, u90, u91, u92, u93, u94], []⟩) hSm (hSi 26 (by decide)) (fun _ _ _ => trivial) rfl (by kernel_rfl) (by kernel_rfl) (by kernel_rfl) (fun _ _ _ h => h) hS0 (.inr ⟨by rfl, rfl⟩) rfl ?_
      refine wpAnyU_take (i := 27) (A := fun _ => True) (v := undef) (a' := ⟨#[.agg (List.toArray cs), .pointer (some ⟨w.heap.size, 0, none⟩), .pointer (some ⟨w.heap.size + 1, 0, none⟩), .int .i64 0, .pointer (some ⟨w.heap.size + 2, 0, none⟩), .pointer (some ⟨gx, 0, none⟩), .int .i64 ((N : Nat) : Int), undef, u8, u9, u10, u11, u12, u13, u14, u15, u16, u17, u18, u19, u20, u21, u22, u23, u24, u25, .int .i64 K, u27, u28, u29, u30, u31, u32, u33, u34, u35, u36, u37, u38, u39, u40, u41, u42, u43, u44, u45, u46, u47, u48, u49, u50, u51, u52, u53, u54, u55, u56, u57, u58, u59, u60, u61, u62, .pointer (some ⟨w.heap.size + 2, 0, none⟩), .pointer (some ⟨w.heap.size + 2, 0, none⟩), .pointer (some ⟨w.heap.size + 2, 6, none⟩), .bool false, .bool false, .pointer (some ⟨w.heap.size, 4, none⟩), .slice ak v.keys.length ck, .int .i64 (v.keys.length : Int), .int .i64 ((N : Nat) : Int), .bool false, .bool false, .bool false, .pointer (some ⟨w.heap.size, 5, none⟩), .slice al v.list.length cl, .int .i64 (v.list.length : Int), .int .i64 ((N : Nat) : Int), .bool false, .bool false, .bool false, .agg (List.toArray (itC X0 a c)), .int .i64 CI, .bool true, .bool true, .bool true, undef, undef, undef, undef, u91, u92, u93, u94], []⟩) hSm (hSi 27 (by decide)) (fun _ _ _ => trivial) rfl (by kernel_rfl) (by kernel_rfl) (by kernel_rfl) (fun _ _ _ h => h) hS0 (.inr ⟨by rfl, rfl⟩) rfl ?_
      refine wpAnyU_take (i := 28) (A := fun _ => True) (v := undef) (a' := ⟨#[.agg (List.toArray cs), .pointer (some ⟨w.heap.size, 0, none⟩), .pointer (some ⟨w.heap.size + 1, 0, none⟩), .int .i64 0, .pointer (some ⟨w.heap.size + 2, 0, none⟩), .pointer (some ⟨gx, 0, none⟩), .int .i64 ((N : Nat) : Int), undef, u8, u9, u10, u11, u12, u13, u14, u15, u16, u17, u18, u19, u20, u21, u22, u23, u24, u25, .int .i64 K, u27, u28, u29, u30, u31, u32, u33, u34, u35, u36, u37, u38, u39, u40, u41, u42, u43, u44, u45, u46, u47, u48, u49, u50, u51, u52, u53, u54, u55, u56, u57, u58, u59, u60, u61, u62, .pointer (some ⟨w.heap.size + 2, 0, none⟩), .pointer (some ⟨w.heap.size + 2, 0, none⟩), .pointer (some ⟨w.heap.size + 2, 6, none⟩), .bool false, .bool false, .pointer (some ⟨w.heap.size, 4, none⟩), .slice ak v.keys.length ck, .int .i64 (v.keys.length : Int), .int .i64 ((N : Nat) : Int), .bool false, .bool false, .bool false, .pointer (some ⟨w.heap.size, 5, none⟩), .slice al v.list.length cl, .int .i64 (v.list.length : Int), .int .i64 ((N : Nat) : Int), .bool false, .bool false, .bool false, .agg (List.toArray (itC X0 a c)), .int .i64 CI, .bool true, .bool true, .bool true, undef, undef, undef, undef, undef, u92, u93, u94], []⟩) hSm (hSi 28 (by decide)) (fun _ _ _ => trivial) rfl (by kernel_rfl) (by kernel_rfl) (by kernel_rfl) (fun _ _ _ h => h) hS0 (.inr ⟨by rfl, rfl⟩) rfl ?_
      refine wpAnyU_take (i := 29) (A := fun w1 => Mo (wc.drewN 1) w1) (v := .bool true) (a' := ⟨#[.agg (List.toArray cs), .pointer (some ⟨w.heap.size, 0, none⟩), .pointer (some ⟨w.heap.size + 1, 0, none⟩), .int .i64 0, .pointer (some ⟨w.heap.size + 2, 0, none⟩), .pointer (some ⟨gx, 0, none⟩), .int .i64 ((N : Nat) : Int), undef, u8, u9, u10, u11, u12, u13, u14, u15, u16, u17, u18, u19, u20, u21, u22, u23, u24, u25, .int .i64 K, u27, u28, u29, u30, u31, u32, u33, u34, u35, u36, u37, u38, u39, u40, u41, u42, u43, u44, u45, u46, u47, u48, u49, u50, u51, u52, u53, u54, u55, u56, u57, u58, u59, u60, u61, u62, .pointer (some ⟨w.heap.size + 2, 0, none⟩), .pointer (some ⟨w.heap.size + 2, 0, none⟩), .pointer (some ⟨w.heap.size + 2, 6, none⟩), .bool false, .bool false, .pointer (some ⟨w.heap.size, 4, none⟩), .slice ak v.keys.length ck, .int .i64 (v.keys.length : Int), .int .i64 ((N : Nat) : Int), .bool false, .bool false, .bool false, .pointer (some ⟨w.heap.size, 5, none⟩), .slice al v.list.length cl, .int .i64 (v.list.length : Int), .int .i64 ((N : Nat) : Int), .bool false, .bool false, .bool false, .agg (List.toArray (itC X0 a c)), .int .i64 CI, .bool true, .bool true, .bool true, undef, undef, undef, undef, undef, .bool true, u93, u94], []⟩) hSm (hSi 29 (by decide)) (fun _ _ h => h) rfl (by kernel_rfl) (by kernel_rfl) (by kernel_rfl) (fun _ _ _ h => h) hS0 (.inl ⟨by rfl, fun w' hA => .inl (by obtain ⟨s1, s2, s3, s4, s5⟩ := hS2 _ hA; go_simp)⟩) rfl ?_
      refine wpAnyU_done (by kernel_rfl) ?_ _
      intro w12 hm12
      have hcur := Below.drewN' hm12
      clear hSm hSi hS0 hm12
      --END19
      obtain ⟨W2, y1, y2, y3, _⟩ := hputz _ hcur
      go_wp2
      exact bodyPost_ret (results_cell_tmp (fn := Tryd.f22) (p := 2) (t := 3) (by rfl) _ _ (w.heap.size + 1) 24 _ (0, 0) _ (by rfl) y2 Tryd.underlying24 rfl (by exact sizeIT)) rfl (hFz.out hT.out _ y3)
    case pos =>
      have hpc := check_parts g3
      have hval := fun w' (hb : Below wc.heap.size wc w') => ivalue_any (c := c) ((owns_row' hO).below hb) hok (by omega) (by omega)
      have hps := fun (cs2 : List Value) w' (hb : Below wc.heap.size wc w') (h2 : VAt w' cs2 (itV (progX v))) => psame_any h2 cs v w' (h.keep ((hbw.trans (hbW.mono hbw.size)).trans (hb.mono (Nat.le_trans hbw.size hbW.size)))) (Below.refl _ _)
      rw [g3] at hck
      generalize hSB : sameV (itV (progX v)) v = SB at *
      have hOF3 : Hid (ofF v = if SB = true then (progX v, (0 : Int)) else (itZ, 4)) := by
        show _ = _
        rw [hOF2.out]
        cases SB
        · rw [if_neg (by simp), if_neg (by simp)]
        · rw [if_pos ⟨g3, rfl⟩, if_pos rfl]
      have hputx := fun w' hb => hput w' hb (itC (progX v) a c) rfl (itC_one _ _ _)
      have hFx : Hid (SB = true → ∀ W2, Below w.heap.size w W2 → wc.grownBy W2 (some (w.heap.size + 1)) → OfP w v (.returned (.tuple #[.agg (List.toArray (itC (progX v) a c)), .int .i64 0])) W2) := fun he W2 hb2 hg2 => by
        have e2 : ofF v = (progX v, (0 : Int)) := by rw [hOF3.out, if_pos he]
        obtain ⟨a9, c9, e9, p1, p2, hr9, hb9⟩ := owns_rowN hO (by decide)
        simp only [Value.slice.injEq] at e9
        obtain ⟨rfl, _, rfl⟩ := e9
        refine ⟨itC (progX v) a c, by rw [e2], ?_, hb2⟩
        rw [e2]
        have hlen : 0 < (progX v).parts.length → 0 < ((progX v).parts.map prtC).flatten.length := fun h0 => by
          rw [flatten_len (s := 33) (prts33I hok.parts), List.length_map]; show 0 < _ * 33; omega
        refine ⟨a, c, rfl, p1, p2, hr9.keptFar hg2 (fun h0 e => ?_), hok, fun h0 => ?_⟩
        · have := (hb9 h0).2.1; simp at e; omega
        · have := (hb9 (hlen h0)).2.1; show w.heap.size ≤ _; omega
      have hcur : Below wc.heap.size wc wc.drew := Gr.drewN wc 1
      obtain ⟨s1, s2, s3, s4, s5⟩ := hSall _ hcur
      clear hOF hOF2 hbv g1 g2 hput hok hO hQ hX hB hR hSB g3
      have hOF4 := hOF3
      generalize keysN K = N at *
      generalize hX0 : itC (progX v) a c = X0 at *
      generalize itV (progX v) = IV at *
      have x07 : (List.toArray X0).size = 7 := by rw [← hX0]; rfl
      clear hX0
      cases SB with
      | false =>
        have hT : Hid (ofF v = (itZ, 4)) := by show _ = _; rw [hOF3.out, if_neg (by simp)]
        clear hOF3 hOF4 hFx hputx
        go_upto_region 19 with (fail)
        go_region_held3 (fun w' => w'.cell? ⟨w.heap.size + 2, 6, none⟩ = some (.bool false) ∧ w'.cell? ⟨w.heap.size, 4, none⟩ = some (.slice ak v.keys.length ck) ∧ w'.cell? ⟨w.heap.size, 5, none⟩ = some (.slice al v.list.length cl) ∧ (ldOp 24 (.pointer (some ⟨gx, 0, none⟩))).run Tryd.prog w' = .ok (.agg (List.toArray X0)) w' ∧ (ldOp 30 (.pointer (some ⟨w.heap.size, 0, none⟩))).run Tryd.prog w' = .ok (.agg (List.toArray cs)) w') (first | exact ⟨by assumption, by assumption, by assumption, by assumption, by assumption⟩ | go_keep) (first
          | (go_at_call 11; refine (hck _ hcur).mono ?_; rintro e ws ⟨rfl, hbs⟩; have hcur := hcur.trans (hbs.mono hcur.size); obtain ⟨s1, s2, s3, s4, s5⟩ := hSall _ hcur)
          | (go_at_call 10; refine (hval _ hcur).mono ?_; rintro e ws ⟨cv, rfl, hcv, hbs⟩; have hcv := hcv.at; have hcur := hcur.trans (hbs.mono hcur.size); obtain ⟨s1, s2, s3, s4, s5⟩ := hSall _ hcur)
          | (go_at_call 51; refine (hps _ _ hcur hcv).mono ?_; rintro e ws ⟨rfl, hbs⟩; have hcur := hcur.trans (hbs.mono hcur.size); obtain ⟨s1, s2, s3, s4, s5⟩ := hSall _ hcur))
        all_goals
          obtain ⟨W2, y1, y2, y3, _⟩ := hputz _ hcur
          go_wp2
          exact bodyPost_ret (results_cell_tmp (fn := Tryd.f22) (p := 2) (t := 3) (by rfl) _ _ (w.heap.size + 1) 24 _ (0, 0) _ (by rfl) y2 Tryd.underlying24 rfl (by exact sizeIT)) rfl (hFz.out hT.out _ y3)
      | true =>
        have hFy := Lib.hid (hFx.out rfl)
        clear hOF3 hOF4 hFz hputz hFx
        go_upto_region 19 with (fail)
        go_region_held3 (fun w' => w'.cell? ⟨w.heap.size + 2, 6, none⟩ = some (.bool false) ∧ w'.cell? ⟨w.heap.size, 4, none⟩ = some (.slice ak v.keys.length ck) ∧ w'.cell? ⟨w.heap.size, 5, none⟩ = some (.slice al v.list.length cl) ∧ (ldOp 24 (.pointer (some ⟨gx, 0, none⟩))).run Tryd.prog w' = .ok (.agg (List.toArray X0)) w' ∧ (ldOp 30 (.pointer (some ⟨w.heap.size, 0, none⟩))).run Tryd.prog w' = .ok (.agg (List.toArray cs)) w') (first | exact ⟨by assumption, by assumption, by assumption, by assumption, by assumption⟩ | go_keep) (first
          | (go_at_call 11; refine (hck _ hcur).mono ?_; rintro e ws ⟨rfl, hbs⟩; have hcur := hcur.trans (hbs.mono hcur.size); obtain ⟨s1, s2, s3, s4, s5⟩ := hSall _ hcur)
          | (go_at_call 10; refine (hval _ hcur).mono ?_; rintro e ws ⟨cv, rfl, hcv, hbs⟩; have hcv := hcv.at; have hcur := hcur.trans (hbs.mono hcur.size); obtain ⟨s1, s2, s3, s4, s5⟩ := hSall _ hcur)
          | (go_at_call 51; refine (hps _ _ hcur hcv).mono ?_; rintro e ws ⟨rfl, hbs⟩; have hcur := hcur.trans (hbs.mono hcur.size); obtain ⟨s1, s2, s3, s4, s5⟩ := hSall _ hcur))
        all_goals
          obtain ⟨W2, y1, y2, y3, y4⟩ := hputx _ hcur
          go_wp2
          exact bodyPost_ret (results_cell_tmp (fn := Tryd.f22) (p := 2) (t := 3) (by rfl) _ _ (w.heap.size + 1) 24 _ (0, 0) _ (by rfl) y2 Tryd.underlying24 rfl (by rw [x07]; exact sizeIT)) rfl (hFy.out _ y3 y4)
end Go.Proofs.YtpchogicdnfggaaDoor
