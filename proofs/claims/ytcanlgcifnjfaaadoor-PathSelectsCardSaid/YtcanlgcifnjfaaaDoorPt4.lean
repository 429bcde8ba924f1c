/- Layer 20: walk. -/
import Derived.Test.YtcanlgcifnjfaaaDoorPt3
import Derived.Test.YtcanlgcifnjfaaaDoorP7
import Derived.Deep.OwnRows
import Derived.StillTail
set_option maxRecDepth 20000
namespace Go.Hd
open Go Go.RowKit
theorem made_stC (n : Nat) : madeCells #[Value.int .i64 0] (n + 1) = (stC n (fun _ => 0)).toArray := by
  apply Array.ext_getElem?
  intro j
  have e : (stC n (fun _ => 0)).toArray[j]? = (stC n (fun _ => 0))[j]? := by simp
  rw [e]
  by_cases h : j < n + 1
  · rw [stC_at n _ (by omega)]
    simp [madeCells, h, Nat.mod_one]
  · rw [Array.getElem?_eq_none (by rw [size_madeCells]; omega), List.getElem?_eq_none (by rw [stC_len]; omega)]
theorem stepN_succ (sh : Bool) (T : List Tok) (v : Nat → Nat) (c : UInt8) {m : Nat} (hm : m < T.length) :
    stepN sh T v c (m + 1) = if v m = 0 then stepN sh T v c m else stepT sh T[m] c m (stepN sh T v c m) := by
  show (match T[m]? with | none => stepN sh T v c m | some t => if v m = 0 then stepN sh T v c m else stepT sh t c m (stepN sh T v c m)) = _
  rw [List.getElem?_eq_getElem hm]
end Go.Hd
namespace Go.Proofs.YtcanlgcifnjfaaaDoor
open Go.RowKit Go.Hd
attribute [local go_sem ↓] h_ldTK h_stTK h_alTK
attribute [local go_sem] r_alTK r_stTK

theorem infoInt20 : (Tryd.prog.info? 3).map (fun i => (i.zero, i.size, i.bytes)) = some (some (.int .i64 0), 1, 8) := by kernel_rfl
theorem mk_states (n : Nat) (hn : n ≤ 1000) (w : World) :
    (Instr.makeSlice 74 (.int .i64 ((n : Int) + 1)) (.int .i64 ((n : Int) + 1))).run Tryd.prog w = .ok (.slice (some ⟨w.heap.size, 0, none⟩) (n + 1) (n + 1)) (w.alloc (.cells (stC n (fun _ => 0)).toArray 3)) := by
  have h := run_make_row' (P := Tryd.prog) 74 3 (.int .i64 0) 8 Tryd.underlying74 infoInt20 rfl .i64 .i64 (n + 1) (by omega) (by omega) w
  rw [made_stC] at h
  exact_mod_cast h
set_option maxHeartbeats 4000000 in
theorem walk_any {sh : Bool} {tx : ByteArray} {a : Option Addr} {n c : Nat} {T : List Tok} (s : List UInt8) {w : World} (hn : n = T.length) (hrow : TokRow w a T) (hT : T.length ≤ 1000) (hs : s.length ≤ 1000000) :
    Calls Tryd.prog 50 #[.agg #[.string (styV sh), .string tx, .slice a n c], .string (str s)] w fun e w' => e = .returned (.bool (walkF sh T s T.length != 0)) ∧ Below w.heap.size w w' := by
  subst hn
  have hmk := fun w' => mk_states T.length hT w'
  have zs := zTK_size
  have hz : (str s).size = s.length := str_size s
  have nb : IntKind.i64.wrap ((T.length : Int) + 1) = (T.length : Int) + 1 := IntWalk.i64_in _ (by omega)
  have n0 : (0 : Int) < (T.length : Int) + 1 := by omega
  have HTS := Lib.hid (And.intro hT hs)
  generalize hst : styV sh = st at *
  go_enter Tryd.func50, Tryd.ntmps50
  go_upto_region 2 with (fail)
  have hP0 : Blk ((w.alloc (.cells #[.string st, .string tx, .slice a T.length c] 52)).alloc (.cells (stC T.length (fun _ => 0)).toArray 3)) w.heap.size 52 [.string st, .string tx, .slice a T.length c] := (Blk.new w 52 #[.string st, .string tx, .slice a T.length c]).alloc _
  have hB0 : Blk ((w.alloc (.cells #[.string st, .string tx, .slice a T.length c] 52)).alloc (.cells (stC T.length (fun _ => 0)).toArray 3)) (w.heap.size + 1) 3 (stC T.length (fun _ => 0)) := by
    have := Blk.new (w.alloc (.cells #[.string st, .string tx, .slice a T.length c] 52)) 3 (stC T.length (fun _ => 0)).toArray
    simpa using this
  have hb0 : Below w.heap.size w ((w.alloc (.cells #[.string st, .string tx, .slice a T.length c] 52)).alloc (.cells (stC T.length (fun _ => 0)).toArray 3)) := ((Below.refl _ _).alloc (Nat.le_refl _) _).alloc (by simp) _
  generalize (w.alloc (.cells #[.string st, .string tx, .slice a T.length c] 52)).alloc (.cells (stC T.length (fun _ => 0)).toArray 3) = W at *
  have q1 : W.cell? ⟨w.heap.size + 1, 0, none⟩ = some (.int .i64 0) := hB0.cell (stC_at _ _ (Nat.zero_le _))
  have q2 : W.frozen? ⟨w.heap.size + 1, 0, none⟩ = false := hB0.free _
  go_upto_region 3 with (fail)
  have hB1 := hB0.set 0 (.int .i64 ((1 : Nat) : Int))
  rw [stC_set] at hB1
  change Blk (W.setCell ⟨w.heap.size + 1, 0, none⟩ (.int .i64 1)) (w.heap.size + 1) 3 (stC T.length (upd (fun _ => 0) 0 1)) at hB1
  have hg1 := Grown.set (Grown.refl W (some (w.heap.size + 1))) 0 (.int .i64 1)
  have hP1 := hP0.grown hg1 (by omega)
  have hb1 := Gr.ofGrown hb0 hg1 (by omega)
  generalize W.setCell ⟨w.heap.size + 1, 0, none⟩ (.int .i64 1) = W1 at *
  clear hB0 hP0 hb0 hg1 q1 q2
  have hrow1 := hrow.below hb1
  have hsk := skip_any (st := st) (tx := tx) (cn := T.length + 1) (c := c) true rfl rfl hrow1 hB1 (fun h => by have := hrow.block_lt (by rw [flatten_len (tokC_all T)]; simp; omega); omega) hT
  have q0 : W1.cell? ⟨w.heap.size, 0, none⟩ = some (.string st) := hP1.cell rfl
  have q1 : W1.cell? ⟨w.heap.size, 1, none⟩ = some (.string tx) := hP1.cell rfl
  have q2 : W1.cell? ⟨w.heap.size, 2, none⟩ = some (.slice a T.length c) := hP1.cell rfl
  go_wp2_with fail
  refine hsk.mono ?_
  rintro e W2 ⟨rfl, hB2, hg2⟩
  have hP2 := hP1.grown hg2 (by omega)
  have hb2 := Gr.ofGrown hb1 hg2 (by omega)
  change Blk W2 _ _ (stC T.length (skipF T (upd (fun _ => 0) 0 1) true)) at hB2
  have hWF : Hid (walkN sh T (s.drop 0) (skipF T (upd (fun _ => 0) 0 1) true) T.length = walkF sh T s T.length) := by rw [List.drop_zero]; exact Lib.hid rfl
  generalize skipF T (upd (fun _ => 0) 0 1) true = u0 at *
  clear hsk hP1 hB1 hb1 hrow1 q0 q1 q2 hg2
  go_wp2
  go_loopw [5, 22] (fun v i wr => ∃ (j g : Nat) (u : Nat → Nat), i = .int .i64 j ∧ v = .slice (some ⟨g, 0, none⟩) (T.length + 1) (T.length + 1) ∧ j ≤ s.length ∧ w.heap.size < g ∧ Hid (Blk wr g 3 (stC T.length u)) ∧ Hid (Blk wr w.heap.size 52 [.string st, .string tx, .slice a T.length c]) ∧ Hid (Below w.heap.size w wr) ∧ Hid (walkN sh T (s.drop j) u T.length = walkF sh T s T.length)) (fun _ i _ => s.length - (intOf i).toNat)
  case atStart => exact ⟨0, w.heap.size + 1, u0, rfl, rfl, Nat.zero_le _, by omega, Lib.hid hB2, Lib.hid hP2, Lib.hid hb2, hWF⟩
  case round =>
    obtain ⟨j, g, u, rfl, rfl, hj, hg, hB, hP, hb, hR⟩ := hrel
    clear hB2 hP2 hb2 hWF
    have j0 : (0 : Int) ≤ (j : Int) := by omega
    have jb : IntKind.i64.wrap ((j : Int) + 1) = (j : Int) + 1 := IntWalk.i64_in _ (by have := HTS.out; omega)
    by_cases hlt : j < s.length
    · have j1 : (j : Int) < (s.length : Int) := by omega
      have hsz : j < (str s).size := by rw [hz]; exact hlt
      have hat := Lib.hid (str_at s j hsz hlt)
      have hD : Hid (s.drop j = s[j] :: s.drop (j + 1)) := List.drop_eq_getElem_cons hlt
      have q2 : wr.cell? ⟨w.heap.size, 2, none⟩ = some (.slice a T.length c) := hP.out.cell rfl
      have hgl : Hid (g < wr.heap.size) := hB.out.lt
      go_upto_region 8 with (fail)
      have hB9 := hB.out.alloc (.cells (stC T.length (fun _ => 0)).toArray 3)
      have hP9 := hP.out.alloc (.cells (stC T.length (fun _ => 0)).toArray 3)
      have hN9 : Blk (wr.alloc (.cells (stC T.length (fun _ => 0)).toArray 3)) wr.heap.size 3 (stC T.length (fun _ => 0)) := by
        simpa using Blk.new wr 3 (stC T.length (fun _ => 0)).toArray
      have hb9 : Below w.heap.size w (wr.alloc (.cells (stC T.length (fun _ => 0)).toArray 3)) := hb.out.alloc hb.out.size _
      have hg2 : g < wr.heap.size := hgl.out
      generalize wr.alloc (.cells (stC T.length (fun _ => 0)).toArray 3) = W at *
      clear hB hP hb q2 hgl
      generalize wr.heap.size = g2 at *
      have q2 : W.cell? ⟨w.heap.size, 2, none⟩ = some (.slice a T.length c) := hP9.cell rfl
      go_wp2
      go_loopw [33] (fun i w2 => ∃ k : Nat, i = .int .i64 k ∧ k ≤ T.length ∧ Hid (Blk w2 g2 3 (stC T.length (stepN sh T u s[j] k))) ∧ Hid (W.grownBy w2 (some g2))) (fun i _ => T.length - (intOf i).toNat)
      case atStart => exact ⟨0, rfl, Nat.zero_le _, Lib.hid hN9, Lib.hid (Grown.refl _ _)⟩
      case round =>
        obtain ⟨k, rfl, hk, hB2, hG2⟩ := hrel
        have k0 : (0 : Int) ≤ (k : Int) := by omega
        have k9 : (0 : Int) ≤ (k : Int) + 1 := by omega
        have kb : IntKind.i64.wrap ((k : Int) + 1) = (k : Int) + 1 := IntWalk.i64_in _ (by have := HTS.out; omega)
        have HB2 : Hid (Blk wr g 3 (stC T.length u) ∧ Blk wr w.heap.size 52 [.string st, .string tx, .slice a T.length c] ∧ Below w.heap.size w wr) := by
          show _ ∧ _ ∧ _
          exact ⟨hB9.grown hG2.out (by omega), hP9.grown hG2.out (by omega), Gr.ofGrown hb9 hG2.out (by omega)⟩
        by_cases hlk : k < T.length
        · have k1 : (k : Int) < (T.length : Int) := by omega
          have hS := Lib.hid (stepN_succ sh T u s[j] hlk)
          have hrow2 := hrow.below HB2.out.2.2
          have s1 := hrow2.elemSome (s := 258) (tokC_all T) (by decide) (i := k) (by simp; omega)
          have q1 := ldOp_at (P := Tryd.prog) (ty := 85) (hrow2.elem (s := 258) (tokC_all T) (i := k) (c := tokC T[k]) (by simp [hlk])) Tryd.underlying85 rfl (by rw [tokC_len]; exact sizeTK)
          have t2 := tokA_size T[k]
          have t3 : OneC (tokA T[k]) := all_oneCell_toArray (tokC_one _)
          change (ldOp 85 _).run _ _ = .ok (.agg (tokA T[k])) _ at q1
          generalize T[k] = t at *
          clear hrow2
          go_upto_region 11 with (fail)
          have HX : Hid (Blk (wr.alloc (.cells (tokA t) 85)) wr.heap.size 85 (tokC t) ∧ Blk (wr.alloc (.cells (tokA t) 85)) g 3 (stC T.length u) ∧ Blk (wr.alloc (.cells (tokA t) 85)) w.heap.size 52 [.string st, .string tx, .slice a T.length c] ∧
              Blk (wr.alloc (.cells (tokA t) 85)) g2 3 (stC T.length (stepN sh T u s[j] k)) ∧ W.grownBy (wr.alloc (.cells (tokA t) 85)) (some g2)) :=
            ⟨Blk.new wr 85 (tokA t), HB2.out.1.alloc _, HB2.out.2.1.alloc _, hB2.out.alloc _, Grown.alloc hG2.out _⟩
          generalize hqW : wr.alloc (.cells (tokA t) 85) = V at *
          have hV : V.heap.size = wr.heap.size + 1 := by rw [← hqW]; simp
          have hg3 : g2 < wr.heap.size := hB2.out.lt
          clear hqW hB2 hG2 HB2 q1
          have q2 : V.cell? ⟨wr.heap.size, 0, none⟩ = some (.int .i64 (kindT t)) := HX.out.1.cell rfl
          have q3 : V.cell? ⟨g, k, none⟩ = some (.int .i64 (u k : Int)) := HX.out.2.1.cell (stC_at _ _ (by omega))
          have i2 : (k : Int) < (T.length : Int) + 1 := by omega
          have i3 : (k : Int) + 1 < (T.length : Int) + 1 := by omega
          have hSx := hS
          clear hS
          generalize hux : u k = x at *
          clear hux
          by_cases hx0 : x = 0
          · subst hx0
            have hN : Hid (Blk V g2 3 (stC T.length (stepN sh T u s[j] (k + 1))) ∧ W.grownBy V (some g2)) := by
              show _ ∧ _
              rw [hSx.out, if_pos rfl]; exact ⟨HX.out.2.2.2.1, HX.out.2.2.2.2⟩
            have hN1 := Lib.hid hN.out.1
            have hN2 := Lib.hid hN.out.2
            clear hSx HX hN
            go_wp2
            first
              | exact ⟨⟨k + 1, (by first | rfl | go_num | (congr 1; omega)), by omega, hN1, hN2⟩, by simp [intOf] <;> omega⟩
              | (refine ⟨?_, by simp [intOf] <;> omega⟩; (repeat apply Exists.intro); exact ⟨⟨k + 1, (by first | rfl | go_num | (congr 1; omega)), by omega, hN1, hN2⟩, rfl⟩)
          · have x0 : ((x : Int) == 0) = false := by simpa using hx0
            have p0 : V.cell? ⟨w.heap.size, 0, none⟩ = some (.string st) := HX.out.2.2.1.cell rfl
            have p1 : V.cell? ⟨w.heap.size, 1, none⟩ = some (.string tx) := HX.out.2.2.1.cell rfl
            have p2 : V.cell? ⟨w.heap.size, 2, none⟩ = some (.slice a T.length c) := HX.out.2.2.1.cell rfl
            have q7 : (ldOp 85 (.pointer (some ⟨wr.heap.size, 0, none⟩))).run Tryd.prog (V.drewN 1) = .ok (.agg (tokA t)) (V.drewN 1) :=
              ldOp_all (P := Tryd.prog) (ty := 85) (HX.out.1.drewN 1) Tryd.underlying85 rfl (by rw [tokC_len]; exact sizeTK)
            have htk := fun d w' => takes_any sh tx a T.length c t d w'
            rw [hst] at htk
            cases t with
            | deep =>
              unfold kindT at q2
              have q5 : V.cell? ⟨g2, k, none⟩ = some (.int .i64 (stepN sh T u s[j] k k : Int)) := HX.out.2.2.2.1.cell (stC_at _ _ (by omega))
              have q6 : V.frozen? ⟨g2, k, none⟩ = false := HX.out.2.2.2.1.free _
              have hN1 : Hid (Blk (V.setCell ⟨g2, k, none⟩ (.int .i64 2)) g2 3 (stC T.length (stepN sh T u s[j] (k + 1)))) := by
                show Blk _ _ _ _
                have := HX.out.2.2.2.1.set k (.int .i64 ((2 : Nat) : Int))
                rw [stC_set] at this
                rw [hSx.out, if_neg hx0]; exact this
              have hN2 := Lib.hid (Grown.set HX.out.2.2.2.2 k (.int .i64 2))
              clear hSx HX htk q7
              go_wp2
              first
                | exact ⟨⟨k + 1, (by first | rfl | go_num | (congr 1; omega)), by omega, hN1, hN2⟩, by simp [intOf] <;> omega⟩
                | (refine ⟨?_, by simp [intOf] <;> omega⟩; (repeat apply Exists.intro); exact ⟨⟨k + 1, (by first | rfl | go_num | (congr 1; omega)), by omega, hN1, hN2⟩, rfl⟩)
            | star =>
              unfold kindT at q2
              go_wp2
              refine wp_region_still_tail 5 (by kernel_rfl) (by kernel_rfl) ?_
              simp only [List.take_succ_cons, List.take_zero, List.drop_succ_cons, List.drop_zero]
              change wpStill _ _ (V.drewN 1) _ _ _
              repeat still_step
              try refine wpStill_nil ?_
              change wpList _ _ _ _ _ (V.drewN 1)
              go_wp2_with fail
              refine (htk _ _).mono ?_
              rintro e w3 ⟨rfl, hb3⟩
              have hb4 := Below.drewN' (n := 1) hb3
              have hB5 := HX.out.2.2.2.1.below hb4
              have hG5 : W.grownBy w3 (some g2) := grownBy_trans HX.out.2.2.2.2 (grownBy_below hb4)
              have q5 : w3.cell? ⟨g2, k, none⟩ = some (.int .i64 (stepN sh T u s[j] k (k) : Int)) := hB5.cell (stC_at _ _ (by omega))
              have q6 : w3.frozen? ⟨g2, k, none⟩ = false := hB5.free _
              have hE : Hid (takesF sh .star ((str s)[j]'hsz) = takesF sh .star s[j]) := congrArg (takesF sh .star) hat.out
              generalize takesF sh .star ((str s)[j]'hsz) = tk at *
              clear hb3 hb4 q2 q3 q7 htk HX
              cases tk
              · have hN : Hid (stepN sh T u s[j] (k + 1) = stepN sh T u s[j] k) := by
                  show _ = _
                  rw [hSx.out, if_neg hx0]
                  show (if _ then _ else _) = _
                  rw [← hE.out]; rfl
                have hN1 : Hid (Blk w3 g2 3 (stC T.length (stepN sh T u s[j] (k + 1)))) := by show Blk _ _ _ _; rw [hN.out]; exact hB5
                have hN2 := Lib.hid hG5
                clear hSx hN hB5 hG5 hE
                go_wp2
                first
                  | exact ⟨⟨k + 1, (by first | rfl | go_num | (congr 1; omega)), by omega, hN1, hN2⟩, by simp [intOf] <;> omega⟩
                  | (refine ⟨?_, by simp [intOf] <;> omega⟩; (repeat apply Exists.intro); exact ⟨⟨k + 1, (by first | rfl | go_num | (congr 1; omega)), by omega, hN1, hN2⟩, rfl⟩)
              · have hN : Hid (stepN sh T u s[j] (k + 1) = upd (stepN sh T u s[j] k) (k) 1) := by
                  show _ = _
                  rw [hSx.out, if_neg hx0]
                  show (if _ then _ else _) = _
                  rw [← hE.out]; rfl
                have hN1 : Hid (Blk (w3.setCell ⟨g2, k, none⟩ (.int .i64 1)) g2 3 (stC T.length (stepN sh T u s[j] (k + 1)))) := by
                  show Blk _ _ _ _
                  have := hB5.set (k) (.int .i64 ((1 : Nat) : Int))
                  rw [stC_set] at this
                  rw [hN.out]; exact this
                have hN2 := Lib.hid (Grown.set hG5 (k) (.int .i64 1))
                clear hSx hN hB5 hG5 hE
                go_wp2
                first
                  | exact ⟨⟨k + 1, (by first | rfl | go_num | (congr 1; omega)), by omega, hN1, hN2⟩, by simp [intOf] <;> omega⟩
                  | (refine ⟨?_, by simp [intOf] <;> omega⟩; (repeat apply Exists.intro); exact ⟨⟨k + 1, (by first | rfl | go_num | (congr 1; omega)), by omega, hN1, hN2⟩, rfl⟩)
            | one d =>
              unfold kindT at q2
              go_wp2
              refine wp_region_still_tail 5 (by kernel_rfl) (by kernel_rfl) ?_
              simp only [List.take_succ_cons, List.take_zero, List.drop_succ_cons, List.drop_zero]
              change wpStill _ _ (V.drewN 1) _ _ _
              repeat still_step
              try refine wpStill_nil ?_
              change wpList _ _ _ _ _ (V.drewN 1)
              go_wp2_with fail
              refine (htk _ _).mono ?_
              rintro e w3 ⟨rfl, hb3⟩
              have hb4 := Below.drewN' (n := 1) hb3
              have hB5 := HX.out.2.2.2.1.below hb4
              have hG5 : W.grownBy w3 (some g2) := grownBy_trans HX.out.2.2.2.2 (grownBy_below hb4)
              have q5 : w3.cell? ⟨g2, k + 1, none⟩ = some (.int .i64 (stepN sh T u s[j] k (k + 1) : Int)) := hB5.cell (stC_at _ _ (by omega))
              have q6 : w3.frozen? ⟨g2, k + 1, none⟩ = false := hB5.free _
              have hE : Hid (takesF sh (.one d) ((str s)[j]'hsz) = takesF sh (.one d) s[j]) := congrArg (takesF sh (.one d)) hat.out
              generalize takesF sh (.one d) ((str s)[j]'hsz) = tk at *
              clear hb3 hb4 q2 q3 q7 htk HX
              cases tk
              · have hN : Hid (stepN sh T u s[j] (k + 1) = stepN sh T u s[j] k) := by
                  show _ = _
                  rw [hSx.out, if_neg hx0]
                  show (if _ then _ else _) = _
                  rw [← hE.out]; rfl
                have hN1 : Hid (Blk w3 g2 3 (stC T.length (stepN sh T u s[j] (k + 1)))) := by show Blk _ _ _ _; rw [hN.out]; exact hB5
                have hN2 := Lib.hid hG5
                clear hSx hN hB5 hG5 hE
                go_wp2
                first
                  | exact ⟨⟨k + 1, (by first | rfl | go_num | (congr 1; omega)), by omega, hN1, hN2⟩, by simp [intOf] <;> omega⟩
                  | (refine ⟨?_, by simp [intOf] <;> omega⟩; (repeat apply Exists.intro); exact ⟨⟨k + 1, (by first | rfl | go_num | (congr 1; omega)), by omega, hN1, hN2⟩, rfl⟩)
              · have hN : Hid (stepN sh T u s[j] (k + 1) = upd (stepN sh T u s[j] k) (k + 1) 1) := by
                  show _ = _
                  rw [hSx.out, if_neg hx0]
                  show (if _ then _ else _) = _
                  rw [← hE.out]; rfl
                have hN1 : Hid (Blk (w3.setCell ⟨g2, k + 1, none⟩ (.int .i64 1)) g2 3 (stC T.length (stepN sh T u s[j] (k + 1)))) := by
                  show Blk _ _ _ _
                  have := hB5.set (k + 1) (.int .i64 ((1 : Nat) : Int))
                  rw [stC_set] at this
                  rw [hN.out]; exact this
                have hN2 := Lib.hid (Grown.set hG5 (k + 1) (.int .i64 1))
                clear hSx hN hB5 hG5 hE
                go_wp2
                first
                  | exact ⟨⟨k + 1, (by first | rfl | go_num | (congr 1; omega)), by omega, hN1, hN2⟩, by simp [intOf] <;> omega⟩
                  | (refine ⟨?_, by simp [intOf] <;> omega⟩; (repeat apply Exists.intro); exact ⟨⟨k + 1, (by first | rfl | go_num | (congr 1; omega)), by omega, hN1, hN2⟩, rfl⟩)
            | any1 =>
              unfold kindT at q2
              go_wp2
              refine wp_region_still_tail 5 (by kernel_rfl) (by kernel_rfl) ?_
              simp only [List.take_succ_cons, List.take_zero, List.drop_succ_cons, List.drop_zero]
              change wpStill _ _ (V.drewN 1) _ _ _
              repeat still_step
              try refine wpStill_nil ?_
              change wpList _ _ _ _ _ (V.drewN 1)
              go_wp2_with fail
              refine (htk _ _).mono ?_
              rintro e w3 ⟨rfl, hb3⟩
              have hb4 := Below.drewN' (n := 1) hb3
              have hB5 := HX.out.2.2.2.1.below hb4
              have hG5 : W.grownBy w3 (some g2) := grownBy_trans HX.out.2.2.2.2 (grownBy_below hb4)
              have q5 : w3.cell? ⟨g2, k + 1, none⟩ = some (.int .i64 (stepN sh T u s[j] k (k + 1) : Int)) := hB5.cell (stC_at _ _ (by omega))
              have q6 : w3.frozen? ⟨g2, k + 1, none⟩ = false := hB5.free _
              have hE : Hid (takesF sh .any1 ((str s)[j]'hsz) = takesF sh .any1 s[j]) := congrArg (takesF sh .any1) hat.out
              generalize takesF sh .any1 ((str s)[j]'hsz) = tk at *
              clear hb3 hb4 q2 q3 q7 htk HX
              cases tk
              · have hN : Hid (stepN sh T u s[j] (k + 1) = stepN sh T u s[j] k) := by
                  show _ = _
                  rw [hSx.out, if_neg hx0]
                  show (if _ then _ else _) = _
                  rw [← hE.out]; rfl
                have hN1 : Hid (Blk w3 g2 3 (stC T.length (stepN sh T u s[j] (k + 1)))) := by show Blk _ _ _ _; rw [hN.out]; exact hB5
                have hN2 := Lib.hid hG5
                clear hSx hN hB5 hG5 hE
                go_wp2
                first
                  | exact ⟨⟨k + 1, (by first | rfl | go_num | (congr 1; omega)), by omega, hN1, hN2⟩, by simp [intOf] <;> omega⟩
                  | (refine ⟨?_, by simp [intOf] <;> omega⟩; (repeat apply Exists.intro); exact ⟨⟨k + 1, (by first | rfl | go_num | (congr 1; omega)), by omega, hN1, hN2⟩, rfl⟩)
              · have hN : Hid (stepN sh T u s[j] (k + 1) = upd (stepN sh T u s[j] k) (k + 1) 1) := by
                  show _ = _
                  rw [hSx.out, if_neg hx0]
                  show (if _ then _ else _) = _
                  rw [← hE.out]; rfl
                have hN1 : Hid (Blk (w3.setCell ⟨g2, k + 1, none⟩ (.int .i64 1)) g2 3 (stC T.length (stepN sh T u s[j] (k + 1)))) := by
                  show Blk _ _ _ _
                  have := hB5.set (k + 1) (.int .i64 ((1 : Nat) : Int))
                  rw [stC_set] at this
                  rw [hN.out]; exact this
                have hN2 := Lib.hid (Grown.set hG5 (k + 1) (.int .i64 1))
                clear hSx hN hB5 hG5 hE
                go_wp2
                first
                  | exact ⟨⟨k + 1, (by first | rfl | go_num | (congr 1; omega)), by omega, hN1, hN2⟩, by simp [intOf] <;> omega⟩
                  | (refine ⟨?_, by simp [intOf] <;> omega⟩; (repeat apply Exists.intro); exact ⟨⟨k + 1, (by first | rfl | go_num | (congr 1; omega)), by omega, hN1, hN2⟩, rfl⟩)
            | set f =>
              unfold kindT at q2
              go_wp2
              refine wp_region_still_tail 5 (by kernel_rfl) (by kernel_rfl) ?_
              simp only [List.take_succ_cons, List.take_zero, List.drop_succ_cons, List.drop_zero]
              change wpStill _ _ (V.drewN 1) _ _ _
              repeat still_step
              try refine wpStill_nil ?_
              change wpList _ _ _ _ _ (V.drewN 1)
              go_wp2_with fail
              refine (htk _ _).mono ?_
              rintro e w3 ⟨rfl, hb3⟩
              have hb4 := Below.drewN' (n := 1) hb3
              have hB5 := HX.out.2.2.2.1.below hb4
              have hG5 : W.grownBy w3 (some g2) := grownBy_trans HX.out.2.2.2.2 (grownBy_below hb4)
              have q5 : w3.cell? ⟨g2, k + 1, none⟩ = some (.int .i64 (stepN sh T u s[j] k (k + 1) : Int)) := hB5.cell (stC_at _ _ (by omega))
              have q6 : w3.frozen? ⟨g2, k + 1, none⟩ = false := hB5.free _
              have hE : Hid (takesF sh (.set f) ((str s)[j]'hsz) = takesF sh (.set f) s[j]) := congrArg (takesF sh (.set f)) hat.out
              generalize takesF sh (.set f) ((str s)[j]'hsz) = tk at *
              clear hb3 hb4 q2 q3 q7 htk HX
              cases tk
              · have hN : Hid (stepN sh T u s[j] (k + 1) = stepN sh T u s[j] k) := by
                  show _ = _
                  rw [hSx.out, if_neg hx0]
                  show (if _ then _ else _) = _
                  rw [← hE.out]; rfl
                have hN1 : Hid (Blk w3 g2 3 (stC T.length (stepN sh T u s[j] (k + 1)))) := by show Blk _ _ _ _; rw [hN.out]; exact hB5
                have hN2 := Lib.hid hG5
                clear hSx hN hB5 hG5 hE
                go_wp2
                first
                  | exact ⟨⟨k + 1, (by first | rfl | go_num | (congr 1; omega)), by omega, hN1, hN2⟩, by simp [intOf] <;> omega⟩
                  | (refine ⟨?_, by simp [intOf] <;> omega⟩; (repeat apply Exists.intro); exact ⟨⟨k + 1, (by first | rfl | go_num | (congr 1; omega)), by omega, hN1, hN2⟩, rfl⟩)
              · have hN : Hid (stepN sh T u s[j] (k + 1) = upd (stepN sh T u s[j] k) (k + 1) 1) := by
                  show _ = _
                  rw [hSx.out, if_neg hx0]
                  show (if _ then _ else _) = _
                  rw [← hE.out]; rfl
                have hN1 : Hid (Blk (w3.setCell ⟨g2, k + 1, none⟩ (.int .i64 1)) g2 3 (stC T.length (stepN sh T u s[j] (k + 1)))) := by
                  show Blk _ _ _ _
                  have := hB5.set (k + 1) (.int .i64 ((1 : Nat) : Int))
                  rw [stC_set] at this
                  rw [hN.out]; exact this
                have hN2 := Lib.hid (Grown.set hG5 (k + 1) (.int .i64 1))
                clear hSx hN hB5 hG5 hE
                go_wp2
                first
                  | exact ⟨⟨k + 1, (by first | rfl | go_num | (congr 1; omega)), by omega, hN1, hN2⟩, by simp [intOf] <;> omega⟩
                  | (refine ⟨?_, by simp [intOf] <;> omega⟩; (repeat apply Exists.intro); exact ⟨⟨k + 1, (by first | rfl | go_num | (congr 1; omega)), by omega, hN1, hN2⟩, rfl⟩)
        · obtain rfl : k = T.length := by omega
          have hrow2 := hrow.below HB2.out.2.2
          have p0 : wr.cell? ⟨w.heap.size, 0, none⟩ = some (.string st) := HB2.out.2.1.cell rfl
          have p1 : wr.cell? ⟨w.heap.size, 1, none⟩ = some (.string tx) := HB2.out.2.1.cell rfl
          have p2 : wr.cell? ⟨w.heap.size, 2, none⟩ = some (.slice a T.length c) := HB2.out.2.1.cell rfl
          have hbl : 0 < T.length → (hd a).block < w.heap.size := fun h => hrow.block_lt (by rw [flatten_len (tokC_all T)]; simp; omega)
          have hsk := fun b => skip_any (st := st) (tx := tx) (cn := T.length + 1) (c := c) b rfl rfl (hrow2.drewN 1) (hB2.out.drewN 1) (fun h => by have := hbl h; omega) HTS.out.1
          have hbq : Hid ((((((str s)[j]'hsz).toNat : Nat) : Int) == 47) = (s[j] == 47)) := by
            refine (congrArg (fun c : UInt8 => ((c.toNat : Int) == 47)) hat.out).trans ?_
            show ((s[j].toNat : Int) == 47) = _
            rw [Bool.eq_iff_iff, beq_iff_eq, beq_iff_eq]
            exact ⟨fun h => UInt8.toNat_inj.1 (by have h47 : (47 : UInt8).toNat = 47 := rfl; omega), fun h => by rw [h]; rfl⟩
          clear hrow2
          go_wp2
          refine wp_region_still_tail 6 (by kernel_rfl) (by kernel_rfl) ?_
          simp only [List.take_succ_cons, List.take_zero, List.drop_succ_cons, List.drop_zero]
          change wpStill _ _ (wr.drewN 1) _ _ _
          repeat still_step
          try refine wpStill_nil ?_
          change wpList _ _ _ _ _ (wr.drewN 1)
          go_wp2_with fail
          refine (hsk _).mono ?_
          rintro e w3 ⟨rfl, hB5, hG5⟩
          have hB6 : Hid (Blk w3 g2 3 (stC T.length (stepF sh T u s[j]))) := by
            show Blk _ _ _ _
            have h := hB5
            rw [hbq.out] at h
            exact h
          have hg6 : wr.grownBy w3 (some g2) := grownBy_undrew hG5
          have hP6 := Lib.hid (HB2.out.2.1.grown hg6 (by omega))
          have hb6 := Lib.hid (Gr.ofGrown HB2.out.2.2 hg6 (by omega))
          have hR6 : Hid (walkN sh T (s.drop (j + 1)) (stepF sh T u s[j]) T.length = walkF sh T s T.length) := by
            show _ = _
            have := hR.out
            rw [hD.out] at this
            exact this
          clear hB5 hG5 hg6 hsk hB2 HB2 hR hD hbq
          generalize stepF sh T u s[j] = u2 at *
          go_wp2
          first
            | exact ⟨⟨j + 1, g2, u2, (by first | rfl | go_num | (congr 1; omega)), rfl, by omega, by omega, hB6, hP6, hb6, hR6⟩, by simp [intOf] <;> omega⟩
            | (refine ⟨?_, by simp [intOf] <;> omega⟩; (repeat apply Exists.intro); exact ⟨⟨j + 1, g2, u2, (by first | rfl | go_num | (congr 1; omega)), rfl, by omega, by omega, hB6, hP6, hb6, hR6⟩, rfl⟩)
    · obtain rfl : j = s.length := by omega
      have hRR : Hid ((walkF sh T s T.length != 0) = (u T.length != 0)) := by
        show _ = _
        have := hR.out
        rw [List.drop_length] at this
        rw [← this]; rfl
      have q2 : wr.cell? ⟨w.heap.size, 2, none⟩ = some (.slice a T.length c) := hP.out.cell rfl
      have q3 : wr.cell? ⟨g, T.length, none⟩ = some (.int .i64 (u T.length : Int)) := hB.out.cell (stC_at _ _ (Nat.le_refl _))
      have n1 : (0 : Int) ≤ (T.length : Int) := by omega
      have n2 : (T.length : Int) < (T.length : Int) + 1 := by omega
      have hX : Hid (((u T.length : Int) != 0) = (u T.length != 0)) := by
        show _ = _
        rw [Bool.eq_iff_iff, bne_iff_ne, bne_iff_ne]; omega
      go_wp2
      go_ret
      exact ⟨by rw [hRR.out, ← hX.out]; rfl, hb.out⟩
end Go.Proofs.YtcanlgcifnjfaaaDoor
