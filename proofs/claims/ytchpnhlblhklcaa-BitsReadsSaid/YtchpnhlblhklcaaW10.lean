/- The walk of BitsReads: what every row of readings answers. -/
import Derived.Test.YtchpnhlblhklcaaW9
namespace Go.Proofs.Ytchpnhlblhklcaa
open Go.ChangeShapes Go.WideShapes Go.ChangeAt Go.RowKit Go.Hd

/-- A block whose first n cells are bytes. -/
def Byt (w : World) (g n : Nat) : Prop := ∃ ys : List Value, Blk w g 5 ys ∧ ∀ i, i < n → ∃ z, ys[i]? = some (.int .u8 z)
theorem Byt.cell {w : World} {g n : Nat} (h : Byt w g n) {i : Nat} (hi : i < n) : ∃ z, w.cell? ⟨g, i, none⟩ = some (.int .u8 z) ∧ w.frozen? ⟨g, i, none⟩ = false := by
  obtain ⟨ys, hb, hz⟩ := h
  obtain ⟨z, hz⟩ := hz i hi
  exact ⟨z, hb.cell hz, hb.free i⟩
theorem Byt.set {w : World} {g n : Nat} (h : Byt w g n) (i : Nat) (z : Int) : Byt (w.setCell ⟨g, i, none⟩ (.int .u8 z)) g n := by
  obtain ⟨ys, hb, hz⟩ := h
  refine ⟨_, hb.set i _, fun j hj => ?_⟩
  by_cases hij : i = j
  · subst hij
    obtain ⟨z', hz'⟩ := hz i hj
    have hl : i < ys.length := by
      rcases Nat.lt_or_ge i ys.length with h | h
      · exact h
      · rw [List.getElem?_eq_none h] at hz'; cases hz'
    exact ⟨z, by rw [List.getElem?_set_self hl]⟩
  · rw [List.getElem?_set_ne hij]; exact hz j hj
theorem own_byt {w : World} {base : Nat} {v : Value} {l : List UInt8} (h : w.ownsRow base 5 1 v l.length (l.map b8)) :
    ∃ am cm r, v = .slice am l.length cm ∧ l.length ≤ cm ∧ (∀ k, r = some k → base ≤ k ∧ k < w.heap.size) ∧ (0 < l.length → ∃ mb, am = some ⟨mb, 0, none⟩ ∧ r = some mb ∧ Byt w mb l.length) := by
  rcases owns_bytes h with ⟨rfl, rfl⟩ | ⟨g, c, rest, rfl, hg, hb, hc, _⟩
  · exact ⟨none, 0, none, rfl, by simp, by simp, by simp⟩
  · refine ⟨_, c, some g, rfl, hc, fun k hk => by cases hk; exact ⟨hg, hb.lt⟩, fun _ => ⟨g, rfl, rfl, _, hb, fun i hi => ?_⟩⟩
    exact ⟨_, by rw [List.getElem?_append_left (by simpa using hi), List.getElem?_map, List.getElem?_eq_getElem hi]; rfl⟩

/-- A loop over a row's own bytes. -/
def OwnRel (w0 : World) (r : Option Nat) (n : Nat) (am : Option Addr) (i : Value) (wr : World) : Prop :=
  ∃ k : Nat, k ≤ n ∧ i = .int .i64 k ∧ w0.grownBy wr r ∧ (0 < n → ∃ mb, am = some ⟨mb, 0, none⟩ ∧ r = some mb ∧ Byt wr mb n)
/-- What holds at the head of a reading. -/
def RRel (w : World) (B g gx : Nat) (l : List UInt8) (m : Nat) (i : Value) (wr : World) : Prop :=
  ∃ (k p : Nat) (e : Int), k ≤ m ∧ k ≤ 60 ∧ i = .int .i64 k ∧ p ≤ l.length ∧ RdAt B wr g (l.drop p) e ∧ RRdAt B wr gx l p e ∧ Below w.heap.size w wr ∧ B ≤ wr.heap.size

/-- Behind the first loop all is as it should be. -/
theorem reads_first {w w1 w2 w3 wr : World} {g : Nat} {r : Option Nat} {a a2 : Option Addr} {c c2 : Nat} {l : List UInt8} (h01 : Below w.heap.size w w1) (hr : ∀ k, r = some k → w.heap.size ≤ k ∧ k < w1.heap.size)
    (hg : w1.heap.size ≤ g) (hB : Blk w2 g 50 [.slice a2 l.length c2, .int .i64 0, .bool true]) (hrow : Row w2 a2 (l.map b8)) (hc : l.length ≤ c2) (hm : c2 ≤ maxLen)
    (hfar : 0 < l.length → w1.heap.size ≤ (hd a2).block ∧ (hd a2).block < w2.heap.size) (h12 : Below w1.heap.size w1 w2) (h3 : w3 = w2.alloc (.cells #[.slice a l.length c, .int .i64 0, .int .i64 0] 57))
    (hl : Row w a (l.map b8)) (hcl : l.length ≤ c) (hcm : c ≤ maxLen) (hgr : w3.grownBy wr r) :
    RdAt w3.heap.size wr g l 0 ∧ RRdAt w3.heap.size wr w2.heap.size l 0 0 ∧ Below w.heap.size w wr ∧ w3.heap.size ≤ wr.heap.size ∧ g < w3.heap.size ∧ w2.heap.size < w3.heap.size ∧ g ≠ w2.heap.size ∧ w.heap.size ≤ g := by
  subst h3
  have hgl := hB.lt
  have hs01 := h01.size
  have hs12 := h12.size
  have hsz : (w2.alloc (.cells #[.slice a l.length c, .int .i64 0, .int .i64 0] 57)).heap.size = w2.heap.size + 1 := drew_alloc_size _ _
  have h23 : Below w2.heap.size w2 (w2.alloc (.cells #[.slice a l.length c, .int .i64 0, .int .i64 0] 57)) := (Below.refl _ _).alloc (Nat.le_refl _) _
  have h02 := Gr.trans h01 h12
  have h03 := Gr.trans h02 h23
  have hnew : Blk (w2.alloc (.cells #[.slice a l.length c, .int .i64 0, .int .i64 0] 57)) w2.heap.size 57 [.slice a l.length c, .int .i64 0, .int .i64 0] := Blk.new _ _ _
  refine ⟨⟨a2, c2, ?_, ?_, hc, hm, fun h0 => by have := (hfar h0).2; omega⟩, ⟨Nat.zero_le _, a, c, ?_, ?_, hcl, hcm, fun h0 => ?_⟩, Gr.ofOwn h03 hgr (fun k hk => (hr k hk).1), hgr.size, by omega, by omega, by omega, by omega⟩
  · have := hB.alloc (.cells #[.slice a l.length c, .int .i64 0, .int .i64 0] 57)
    unfold Blk at *
    rw [hgr.block g (by omega) (fun e => by have := hr g e.symm; omega)]; exact this
  · refine Row.keptFar (hrow.below h23) hgr (fun h0 e => ?_)
    have := hfar (by simpa using h0)
    have := hr _ e
    omega
  · unfold Blk at *
    rw [hgr.block _ (by omega) (fun e => by have := hr _ e.symm; omega)]; exact hnew
  · refine Row.keptFar (hl.below h03) hgr (fun h0 e => ?_)
    have := Row.block_lt hl h0
    have := hr _ e
    omega
  · have := Row.block_lt hl (by simpa using h0)
    omega

/-- The cells of a row of pairs. -/
theorem pairs_get (ks : List (Int × Int)) (k : Nat) (h : k < ks.length) : (ks.flatMap fun k => [Value.int .i64 k.1, Value.int .i64 k.2])[k * 2]? = some (.int .i64 ks[k].1) ∧ (ks.flatMap fun k => [Value.int .i64 k.1, Value.int .i64 k.2])[k * 2 + 1]? = some (.int .i64 ks[k].2) := by
  induction ks generalizing k with
  | nil => simp at h
  | cons x ks ih =>
    cases k with
    | zero => simp
    | succ k =>
      have := ih k (by simpa using h)
      rw [show (k + 1) * 2 = k * 2 + 2 by omega, show k * 2 + 2 + 1 = (k * 2 + 1) + 2 by omega]
      simpa using this
theorem cell_field {w : World} {a : Addr} {i j : Nat} {v : Value} (h : w.cell? (a.add (i + j)) = some v) : w.cell? ⟨(a.add i).block, (a.add i).off + j, none⟩ = some v := by
  unfold World.cell? Addr.add at *
  by_cases hi : i = 0 <;> by_cases hj : j = 0 <;> simp [hi, hj, Nat.add_assoc] at h ⊢
  · cases hb : w.heap[a.block]? with
    | none => rw [hb] at h; cases h
    | some o =>
      rw [hb] at h
      cases o with
      | cells c e f =>
        simp only at h ⊢
        split at h
        · cases h
        · exact h
      | _ => cases h
  all_goals exact h
theorem pairs_len (ks : List (Int × Int)) : (ks.flatMap fun k => [Value.int .i64 k.1, Value.int .i64 k.2]).length = ks.length * 2 := by
  induction ks with
  | nil => rfl
  | cons x ks ih => simp [ih]; omega

theorem rest_at {l r : List UInt8} {p : Nat} (hr : r = l.drop p) (hp : p ≤ l.length) (E N : Int) : ∃ P : Nat, P ≤ l.length ∧ rdRest r E N = l.drop P ∧ l.length - (rdRest r E N).length = P := by
  subst hr
  unfold rdRest
  split
  · exact ⟨p, hp, rfl, by simp; omega⟩
  · refine ⟨l.length - ((l.drop p).drop N.toNat).length, by omega, ?_, rfl⟩
    rename_i h
    have : p + N.toNat ≤ l.length := by simp at h; omega
    rw [List.drop_drop, List.length_drop]
    congr 1; omega
theorem takeE_num (e N : Int) : takeE e N true = numE e N := by
  unfold takeE numE
  by_cases h : e = 0 ∧ (N < 1 ∨ 8 < N)
  · rw [if_pos h, if_pos ⟨rfl, h.1, h.2⟩]
  · rw [if_neg h, if_neg (fun k => h ⟨k.2.1, k.2.2⟩)]
theorem takeE_no (e N : Int) : takeE e N false = e := if_neg (fun h => by cases h.1)

set_option maxRecDepth 20000 in
set_option maxHeartbeats 1000000 in
theorem reads_law (a : Option Addr) (n c : Nat) (l0 : List UInt8) (a1 : Option Addr) (m c1 : Nat) (ks : List (Int × Int)) (w : World) (hn : n = l0.length) (hc : n ≤ c) (hcm : c ≤ maxLen) (hl0 : Row w a (l0.map b8))
    (hm : m = ks.length) (hmc : m ≤ maxLen) (hz : Row w a1 (ks.flatMap fun k => [Value.int .i64 k.1, Value.int .i64 k.2])) :
    Calls Try.prog 10 #[.slice a n c, .slice a1 m c1] w fun e w' => e = .returned (.bool true) ∧ Below w.heap.size w w' := by
  subst hn
  have hmc' : m ≤ 9223372036854775807 := hmc
  clear hmc
  have hl : Row w a ((l0.take 300).map b8) := by rw [List.map_take]; exact hl0.take 300
  have hk : (l0.take 300).length ≤ 300 := List.length_take_le _ _
  have hkc : (l0.take 300).length ≤ c := by simp; omega
  have hml : min l0.length 300 = (l0.take 300).length := by simp; omega
  generalize l0.take 300 = l at *
  go_enter Try.func10, Try.ntmps10
  go_wp2_with fail
  refine (cut_any a _ c 300 w (by decide) hc).mono ?_
  rintro e w0 ⟨rfl, rfl⟩
  go_wp2_with fail
  refine (copy_any a _ c l _ (by first | rfl | exact hml) hl (by omega)).mono ?_
  rintro e w1 ⟨vm, rfl, hF⟩
  obtain ⟨am, cm, r, rfl, hcm', hr, hbyt⟩ := own_byt hF.1
  have h01 := hF.2
  obtain ⟨_, _, hv, _, _, hrowm⟩ := owns_row hF.1
  cases hv
  clear hF
  go_wp2_with fail
  refine (open_far (by first | rfl | exact hml) hrowm (by omega)).mono ?_
  rintro e w2 ⟨g, a2, c2, rfl, hgw, hB2, hrow2, hc2, hcm2, hfar, h12⟩
  go_wp2
  go_loopw [8] (fun i wr => OwnRel (w2.alloc (.cells #[.slice a l.length c, .int .i64 0, .int .i64 0] 57)) r l.length am i wr) (fun i _ => l.length - (intOf i).toNat)
  case atStart =>
    have h12' := h12.size
    refine ⟨0, Nat.zero_le _, rfl, World.grownBy.refl _ _, fun h0 => ?_⟩
    obtain ⟨mb, e1, e2, ys, hb, hy⟩ := hbyt h0
    exact ⟨mb, e1, e2, ys, (hb.below h12).alloc _, hy⟩
  case round =>
    obtain ⟨k, hkl, rfl, hgr, hby⟩ := hrel
    by_cases hlt : k < l.length
    · obtain ⟨mb, rfl, rfl, hbm⟩ := hby (by omega)
      obtain ⟨z, cz, cf⟩ := hbm.cell hlt
      have hkI : (k : Int) < l.length := by omega
      go_wp2
      first
        | exact ⟨⟨k + 1, by omega, by first | rfl | go_num | (congr 1; omega), grown_set hgr _ _, fun _ => ⟨mb, rfl, rfl, hbm.set k _⟩⟩, by simp [intOf] <;> omega⟩
        | (refine ⟨?_, by simp [intOf] <;> omega⟩; (repeat apply Exists.intro); exact ⟨⟨k + 1, by omega, by first | rfl | go_num | (congr 1; omega), grown_set hgr _ _, fun _ => ⟨mb, rfl, rfl, hbm.set k _⟩⟩, rfl⟩)
    · have hkI : ¬ (k : Int) < l.length := by omega
      obtain ⟨hrd, hrr, hbw, hBw, hgB, hxB, hgx, hwg⟩ := reads_first h01 hr hgw hB2 hrow2 hc2 hcm2 hfar h12 rfl hl hkc hcm hgr
      have hwx : w.heap.size ≤ w2.heap.size := Nat.le_trans h01.size h12.size
      generalize (w2.alloc (.cells #[.slice a l.length c, .int .i64 0, .int .i64 0] 57)).heap.size = B at *
      generalize w2.heap.size = gx at *
      clear hl0 hml hrowm hB2 hrow2 hfar hby hgr hbyt hr h01 h12 hgw
      go_wp2
      go_loopw [9, 10, 11, 12, 13, 14] (fun i _ _ _ _ _ wr => RRel w B g gx l m i wr) (fun i _ _ _ _ _ _ => 60 - (intOf i).toNat)
      case atStart => exact ⟨0, 0, 0, Nat.zero_le _, Nat.zero_le _, rfl, Nat.zero_le _, by simpa using hrd, hrr, hbw, hBw⟩
      case round =>
        obtain ⟨k, p, e, hkm, hk60, rfl, hp, hrd, hrr, hbw, hBw⟩ := hrel
        by_cases hlt : k < m ∧ k < 60
        · obtain ⟨hlt1, hlt2⟩ := hlt
          have hzk : k < ks.length := by omega
          have sz : a1.isSome = true := hz.1 (by rw [pairs_len]; omega)
          have hkI : (k : Int) < m := by omega
          have hkI2 : (k : Int) < 60 := by omega
          obtain ⟨kd, hkd⟩ : ∃ x, x = ks[k].1 := ⟨_, rfl⟩
          obtain ⟨N, hN⟩ : ∃ x, x = ks[k].2 := ⟨_, rfl⟩
          have pairs_cells (wx : World) (hb : Below w.heap.size w wx) : wx.cell? ((hd a1).add (k * 2)) = some (.int .i64 kd) ∧ wx.cell? ((hd a1).add (k * 2 + 1)) = some (.int .i64 N) ∧ wx.cell? ⟨((hd a1).add (k * 2)).block, ((hd a1).add (k * 2)).off, none⟩ = some (.int .i64 kd) ∧ wx.cell? ⟨((hd a1).add (k * 2)).block, ((hd a1).add (k * 2)).off + 1, none⟩ = some (.int .i64 N) := by
            have hzr := hz.below hb
            have c1 : wx.cell? ((hd a1).add (k * 2)) = some (.int .i64 ks[k].1) := hzr.cell (pairs_get ks k hzk).1
            have c2 : wx.cell? ((hd a1).add (k * 2 + 1)) = some (.int .i64 ks[k].2) := hzr.cell (pairs_get ks k hzk).2
            rw [hkd, hN]
            exact ⟨c1, c2, cell_field (j := 0) c1, cell_field c2⟩
          have PC := Lib.hid pairs_cells
          clear pairs_cells hkd hN
          obtain ⟨cK, cN, cK2, cN2⟩ := PC.out _ hbw
          obtain ⟨r, hr⟩ : ∃ r, r = l.drop p := ⟨_, rfl⟩
          have hrdr : RdAt B wr g r e := hr ▸ hrd
          clear hrd
          have HR := Lib.hid hr
          clear hr
          by_cases hk0 : kd = 0
          · subst hk0
            go_wp2
            refine wp_region_still_tail 12 (by kernel_rfl) (by kernel_rfl) ?_
            simp only [List.take_succ_cons, List.take_zero, List.drop_succ_cons, List.drop_zero]
            change wpStill _ _ (wr.drewN 1) _ _ _
            repeat still_step
            try refine wpStill_nil ?_
            change wpList _ _ _ _ _ (wr.drewN 1)
            go_wp2_with fail
            refine (rrtake_any (hrr.drewN 1) (by omega)).mono ?_
            rintro e4 w4 ⟨v4, rfl, ho4, hrr4, hg4⟩
            rw [← HR.out, takeE_num] at ho4 hrr4
            have hrd4 : RdAt B w4 g r e := (hrdr.drewN 1).other (hrr.drewN 1) hg4 hgx
            have hb4 : Below w.heap.size w w4 := Gr.ofGrown (Below.drewN hbw 1) hg4 hwx
            have hs4 : wr.heap.size ≤ w4.heap.size := hg4.size
            obtain ⟨a4, c4, rfl, hc4, hcm4, hrow4⟩ := owns_row ho4
            obtain ⟨dK, dN, dK2, dN2⟩ := PC.out _ hb4
            clear ho4 hg4 cK cN cK2 cN2 hrr hrdr
            go_wp2_with fail
            refine (rget_all rfl hrow4).mono ?_
            rintro e0 w0 ⟨rfl, rfl⟩
            go_wp2_with fail
            refine (num_any hrd4).mono ?_
            rintro e0 w5 ⟨rfl, hrd5, hg5⟩
            have hb5 : Below w.heap.size w w5 := Gr.ofGrown hb4 hg5 hwg
            have hrr5 : RRdAt B w5 gx l (l.length - (rdRest r (numE e N) N).length) (rdErr r (numE e N) N) := hrr4.other hrd4 hg5 (Ne.symm hgx)
            have hs5 : wr.heap.size ≤ w5.heap.size := Nat.le_trans hs4 hg5.size
            obtain ⟨P, hP, e1, e2⟩ := rest_at HR.out hp (numE e N) N
            rw [e2] at hrr5
            obtain ⟨s, hs⟩ : ∃ s, s = rdRest r (numE e N) N := ⟨_, rfl⟩
            obtain ⟨e', he'⟩ : ∃ e', e' = rdErr r (numE e N) N := ⟨_, rfl⟩
            rw [← hs, ← he'] at hrd5
            rw [← he'] at hrr5
            have hsl : l.length - P = s.length := by rw [hs, e1, List.length_drop]
            have hsP : l.drop P = s := by rw [hs, e1]
            have hsI : (l.length : Int) - P = (s.length : Int) := by omega
            have hw1 : IntKind.i64.wrap ((l.length : Int) - P) = (s.length : Int) := by rw [← hsI]; exact IntWalk.i64_in _ (by omega)
            clear hs he' e1 e2 hsl hsI
            obtain ⟨d1, d2⟩ : w5.cell? ⟨gx, 1, none⟩ = some (.int .i64 P) ∧ w5.cell? ⟨gx, 2, none⟩ = some (.int .i64 e') := by
              obtain ⟨_, a6, c6, hB6, _⟩ := hrr5
              exact ⟨hB6.cell rfl, hB6.cell rfl⟩
            have hlk : k + 1 ≤ m := by omega
            have HSP := Lib.hid hsP
            clear hrr4 hrd4 hsP
            go_wp2
            go_quiet (first
              | (go_at_call 30; exact Calls.quiet_of_same ((left_any (hrd5.drewN _)).mono fun _ _ h => ⟨h.1, h.2.symm⟩))
              | (go_at_call 34; exact Calls.quiet_of_same ((err_any (hrd5.drewN _)).mono fun _ _ h => ⟨h.1, h.2.symm⟩))
              | (go_at_call 31; exact Calls.quiet_of_same ((end_any (hrd5.drewN _)).mono fun _ _ h => ⟨h.1, h.2.symm⟩))
              | (go_at_call 36; exact Calls.quiet_of ((HSP.out ▸ rrend_any (hrr5.drewN _)))))
            clear hw1 d1 d2
            go_wp2
            first
              | exact ⟨⟨k + 1, P, e', hlk, by omega, by first | rfl | go_num | (congr 1; omega), hP, HSP.out ▸ hrd5.drewN nq, hrr5.drewN nq, Below.drewN hb5 nq, Nat.le_trans hBw hs5⟩, by simp [intOf] <;> omega⟩
              | (refine ⟨?_, by simp [intOf] <;> omega⟩; (repeat apply Exists.intro); exact ⟨⟨k + 1, P, e', hlk, by omega, by first | rfl | go_num | (congr 1; omega), hP, HSP.out ▸ hrd5.drewN nq, hrr5.drewN nq, Below.drewN hb5 nq, Nat.le_trans hBw hs5⟩, rfl⟩)
          · by_cases hk1 : kd = 1
            · subst hk1
              go_wp2
              refine wp_region_still_tail 12 (by kernel_rfl) (by kernel_rfl) ?_
              simp only [List.take_succ_cons, List.take_zero, List.drop_succ_cons, List.drop_zero]
              change wpStill _ _ (wr.drewN 1) _ _ _
              repeat still_step
              try refine wpStill_nil ?_
              change wpList _ _ _ _ _ (wr.drewN 1)
              go_wp2_with fail
              refine (rrtake_any (hrr.drewN 1) (by omega)).mono ?_
              rintro e4 w4 ⟨v4, rfl, ho4, hrr4, hg4⟩
              rw [← HR.out, takeE_no] at ho4 hrr4
              have hrd4 : RdAt B w4 g r e := (hrdr.drewN 1).other (hrr.drewN 1) hg4 hgx
              have hb4 : Below w.heap.size w w4 := Gr.ofGrown (Below.drewN hbw 1) hg4 hwx
              have hs4 : wr.heap.size ≤ w4.heap.size := hg4.size
              obtain ⟨a4, c4, rfl, hc4, hcm4, hrow4⟩ := owns_row ho4
              obtain ⟨dK, dN, dK2, dN2⟩ := PC.out _ hb4
              clear hg4 cK cN cK2 cN2 hrr hrdr
              go_wp2_with fail
              refine (bytes_any hrd4 (by have := congrArg List.length HR.out; rw [List.length_drop] at this; omega)).mono ?_
              rintro e0 w5 ⟨vb, rfl, ho5, hrd5, hg5⟩
              have hrow5 := owns_row (ho4.kept hg5 (.inr (fun e => by have := (ho4.lt _ e).1; simp only [World.drewN] at this; omega)))
              obtain ⟨_, _, hv5, _, _, hrow5⟩ := hrow5
              cases hv5
              have hb5 : Below w.heap.size w w5 := Gr.ofGrown hb4 hg5 hwg
              have hrr5 : RRdAt B w5 gx l (l.length - (rdRest r e N).length) (rdErr r e N) := hrr4.other hrd4 hg5 (Ne.symm hgx)
              have hs5 : wr.heap.size ≤ w5.heap.size := Nat.le_trans hs4 hg5.size
              obtain ⟨am5, cm5, r5, rfl, hcm5, hr5, hbyt5⟩ := own_byt ho5
              obtain ⟨_, _, hv5, hc5, _, hrowb⟩ := owns_row ho5
              cases hv5
              have hgl : (rdGot r e N).length ≤ 300 := by
                have h1 : r.length ≤ 300 := by have := congrArg List.length HR.out; rw [List.length_drop] at this; omega
                have h2 : (rdGot r e N).length ≤ r.length := by unfold rdGot; split <;> simp; omega
                omega
              clear ho4 ho5 hg5 hrr4 hrd4 dK dN dK2 dN2
              go_wp2_with fail
              refine (same_any rfl rfl hrowb hrow5 (by unfold maxLen; omega)).mono ?_
              rintro e0 w6 ⟨rfl, n6, rfl⟩
              rw [beq_self_eq_true]
              go_wp2
              go_loopw [14] (fun i wr => OwnRel (w5.drewN n6) r5 (rdGot r e N).length am5 i wr) (fun i _ => (rdGot r e N).length - (intOf i).toNat)
              case atStart => exact ⟨0, Nat.zero_le _, rfl, World.grownBy.refl _ _, hbyt5⟩
              case round =>
                obtain ⟨k5, hkl5, rfl, hgr5, hby5⟩ := hrel
                by_cases hlt5 : k5 < (rdGot r e N).length
                · obtain ⟨mb, rfl, rfl, hbm5⟩ := hby5 (by omega)
                  obtain ⟨z5, cz5, cf5⟩ := hbm5.cell hlt5
                  have hkI5 : (k5 : Int) < (rdGot r e N).length := by omega
                  go_wp2
                  first
                    | exact ⟨⟨k5 + 1, by omega, by first | rfl | go_num | (congr 1; omega), grown_set hgr5 _ _, fun _ => ⟨mb, rfl, rfl, hbm5.set k5 _⟩⟩, by simp [intOf] <;> omega⟩
                    | (refine ⟨?_, by simp [intOf] <;> omega⟩; (repeat apply Exists.intro); exact ⟨⟨k5 + 1, by omega, by first | rfl | go_num | (congr 1; omega), grown_set hgr5 _ _, fun _ => ⟨mb, rfl, rfl, hbm5.set k5 _⟩⟩, rfl⟩)
                · have hkI5 : ¬ (k5 : Int) < (rdGot r e N).length := by omega
                  have hfar5 : ∀ k, r5 = some k → B ≤ k ∧ w.heap.size ≤ k := fun k hk => by have := (hr5 k hk).1; have := hbw.size; omega
                  have hrd7 : RdAt B wr g (rdRest r e N) (rdErr r e N) := (hrd5.drewN n6).keptOwn hgr5 (fun k hk => ⟨(hfar5 k hk).1, by have := (hfar5 k hk).1; omega⟩)
                  have hrr7 : RRdAt B wr gx l (l.length - (rdRest r e N).length) (rdErr r e N) := (hrr5.drewN n6).keptOwn hgr5 (fun k hk => ⟨(hfar5 k hk).1, by have := (hfar5 k hk).1; omega⟩)
                  have hb7 : Below w.heap.size w wr := Gr.ofOwn (Below.drewN hb5 n6) hgr5 (fun k hk => (hfar5 k hk).2)
                  have hB7 : B ≤ wr.heap.size := Nat.le_trans hBw (Nat.le_trans hs5 hgr5.size)
                  obtain ⟨dK, dN, dK2, dN2⟩ := PC.out _ hb7
                  clear hrd5 hrr5 hb5 hs5 hby5 hrow5 hrowb hr5 hbyt5 hgr5
                  obtain ⟨P, hP, e1, e2⟩ := rest_at HR.out hp e N
                  rw [e2] at hrr7
                  obtain ⟨s, hs⟩ : ∃ s, s = rdRest r e N := ⟨_, rfl⟩
                  obtain ⟨e', he'⟩ : ∃ e', e' = rdErr r e N := ⟨_, rfl⟩
                  rw [← hs, ← he'] at hrd7
                  rw [← he'] at hrr7
                  have hsl : l.length - P = s.length := by rw [hs, e1, List.length_drop]
                  have hsP : l.drop P = s := by rw [hs, e1]
                  have hsI : (l.length : Int) - P = (s.length : Int) := by omega
                  have hw1 : IntKind.i64.wrap ((l.length : Int) - P) = (s.length : Int) := by rw [← hsI]; exact IntWalk.i64_in _ (by omega)
                  clear hs he' e1 e2 hsl hsI
                  obtain ⟨d1, d2⟩ : wr.cell? ⟨gx, 1, none⟩ = some (.int .i64 P) ∧ wr.cell? ⟨gx, 2, none⟩ = some (.int .i64 e') := by
                    obtain ⟨_, a6, c6, hB6, _⟩ := hrr7
                    exact ⟨hB6.cell rfl, hB6.cell rfl⟩
                  have hlk : k + 1 ≤ m := by omega
                  have HSP := Lib.hid hsP
                  clear hsP
                  go_wp2
                  go_quiet (first
                    | (go_at_call 30; exact Calls.quiet_of_same ((left_any (hrd7.drewN _)).mono fun _ _ h => ⟨h.1, h.2.symm⟩))
                    | (go_at_call 34; exact Calls.quiet_of_same ((err_any (hrd7.drewN _)).mono fun _ _ h => ⟨h.1, h.2.symm⟩))
                    | (go_at_call 31; exact Calls.quiet_of_same ((end_any (hrd7.drewN _)).mono fun _ _ h => ⟨h.1, h.2.symm⟩))
                    | (go_at_call 36; exact Calls.quiet_of ((HSP.out ▸ rrend_any (hrr7.drewN _)))))
                  clear hw1 d1 d2
                  go_wp2
                  first
                    | exact ⟨⟨k + 1, P, e', hlk, by omega, by first | rfl | go_num | (congr 1; omega), hP, HSP.out ▸ hrd7.drewN nq, hrr7.drewN nq, Below.drewN hb7 nq, hB7⟩, by simp [intOf] <;> omega⟩
                    | (refine ⟨?_, by simp [intOf] <;> omega⟩; (repeat apply Exists.intro); exact ⟨⟨k + 1, P, e', hlk, by omega, by first | rfl | go_num | (congr 1; omega), hP, HSP.out ▸ hrd7.drewN nq, hrr7.drewN nq, Below.drewN hb7 nq, hB7⟩, rfl⟩)
            · have hkf0 : (kd == 0) = false := by simp [hk0]
              have hkf1 : (kd == 1) = false := by simp [hk1]
              go_wp2
              refine wp_region_still_tail 12 (by kernel_rfl) (by kernel_rfl) ?_
              simp only [List.take_succ_cons, List.take_zero, List.drop_succ_cons, List.drop_zero]
              change wpStill _ _ (wr.drewN 1) _ _ _
              repeat still_step
              try refine wpStill_nil ?_
              change wpList _ _ _ _ _ (wr.drewN 1)
              go_wp2_with fail
              refine (rrtake_any (hrr.drewN 1) (by omega)).mono ?_
              rintro e4 w4 ⟨v4, rfl, ho4, hrr4, hg4⟩
              rw [← HR.out, takeE_no] at ho4 hrr4
              have hrd4 : RdAt B w4 g r e := (hrdr.drewN 1).other (hrr.drewN 1) hg4 hgx
              have hb4 : Below w.heap.size w w4 := Gr.ofGrown (Below.drewN hbw 1) hg4 hwx
              have hs4 : wr.heap.size ≤ w4.heap.size := hg4.size
              obtain ⟨a4, c4, rfl, hc4, hcm4, hrow4⟩ := owns_row ho4
              obtain ⟨dK, dN, dK2, dN2⟩ := PC.out _ hb4
              clear ho4 hg4 cK cN cK2 cN2 hrr hrdr
              have hcv : ∀ {wx : World}, Row wx a4 ((rdGot r e N).map b8) → (convert 23 9 (.slice a4 (rdGot r e N).length c4)).run Try.prog wx = .ok (.string (str (rdGot r e N))) wx := fun h => run_convert_row (P := Try.prog) (src := 23) (e := 5) (dst := 9) (c := c4) eB.ht Try.underlying5 Try.underlying9 rfl h
              have hcv4 : (convert 23 9 (.slice a4 (rdGot r e N).length c4)).run Try.prog w4.drew = .ok (.string (str (rdGot r e N))) w4.drew := hcv (hrow4.drewN 1)
              have CV : Hid (∀ wx : World, Row wx a4 ((rdGot r e N).map b8) → (convert 23 9 (.slice a4 (rdGot r e N).length c4)).run Try.prog wx = .ok (.string (str (rdGot r e N))) wx) := fun wx h => hcv h
              have hrdD : RdAt B w4.drew g r e := hrd4
              have hrrD : RRdAt B w4.drew gx l (l.length - (rdRest r e N).length) (rdErr r e N) := hrr4
              have hbD : Below w.heap.size w w4.drew := Below.drewN hb4 1
              have hsD : wr.heap.size ≤ w4.drew.heap.size := hs4
              have hrowD : Row w4.drew a4 ((rdGot r e N).map b8) := hrow4.drewN 1
              have dND : w4.drew.cell? ⟨((hd a1).add (k * 2)).block, ((hd a1).add (k * 2)).off + 1, none⟩ = some (.int .i64 N) := dN2
              clear hcv
              go_wp2
              go_region_held3 (fun w' => (convert 23 9 (.slice a4 (rdGot r e N).length c4)).run Try.prog w' = .ok (.string (str (rdGot r e N))) w' ∧ w'.cell? ⟨((hd a1).add (k * 2)).block, ((hd a1).add (k * 2)).off + 1, none⟩ = some (.int .i64 N)) (first | exact ⟨by assumption, by assumption⟩ | go_keep) (first
                | (go_at_call 33; refine (text_any hrdD).mono ?_; rintro e0 w5 ⟨rfl, hrd5, hg5⟩; have hcv5 := CV.out w5 (hrdD.row hrowD hg5); have hb5 : Below w.heap.size w w5 := Gr.ofGrown hbD hg5 hwg; have dN5 := (PC.out _ hb5).2.2.2))
              have hrr5 : RRdAt B w5 gx l (l.length - (rdRest r e N).length) (rdErr r e N) := hrrD.other hrdD hg5 (Ne.symm hgx)
              have hs5 : wr.heap.size ≤ w5.heap.size := Nat.le_trans hsD hg5.size
              obtain ⟨dK5, dN5', dK25, dN25⟩ := PC.out _ hb5
              clear hrr4 hrd4 hrrD hrdD hbD hrowD hg5 hcv4 hcv5 CV hrow4 dK dN dK2 dN2 dND hsD
              obtain ⟨P, hP, e1, e2⟩ := rest_at HR.out hp e N
              rw [e2] at hrr5
              obtain ⟨s, hs⟩ : ∃ s, s = rdRest r e N := ⟨_, rfl⟩
              obtain ⟨e', he'⟩ : ∃ e', e' = rdErr r e N := ⟨_, rfl⟩
              rw [← hs, ← he'] at hrd5
              rw [← he'] at hrr5
              have hsl : l.length - P = s.length := by rw [hs, e1, List.length_drop]
              have hsP : l.drop P = s := by rw [hs, e1]
              have hsI : (l.length : Int) - P = (s.length : Int) := by omega
              have hw1 : IntKind.i64.wrap ((l.length : Int) - P) = (s.length : Int) := by rw [← hsI]; exact IntWalk.i64_in _ (by omega)
              clear hs he' e1 e2 hsl hsI
              obtain ⟨d1, d2⟩ : w5.cell? ⟨gx, 1, none⟩ = some (.int .i64 P) ∧ w5.cell? ⟨gx, 2, none⟩ = some (.int .i64 e') := by
                obtain ⟨_, a6, c6, hB6, _⟩ := hrr5
                exact ⟨hB6.cell rfl, hB6.cell rfl⟩
              have hlk : k + 1 ≤ m := by omega
              have HSP := Lib.hid hsP
              clear hsP
              go_wp2
              go_quiet (first
                | (go_at_call 30; exact Calls.quiet_of_same ((left_any (hrd5.drewN _)).mono fun _ _ h => ⟨h.1, h.2.symm⟩))
                | (go_at_call 34; exact Calls.quiet_of_same ((err_any (hrd5.drewN _)).mono fun _ _ h => ⟨h.1, h.2.symm⟩))
                | (go_at_call 31; exact Calls.quiet_of_same ((end_any (hrd5.drewN _)).mono fun _ _ h => ⟨h.1, h.2.symm⟩))
                | (go_at_call 36; exact Calls.quiet_of ((HSP.out ▸ rrend_any (hrr5.drewN _)))))
              clear hw1 d1 d2
              go_wp2
              first
                | exact ⟨⟨k + 1, P, e', hlk, by omega, by first | rfl | go_num | (congr 1; omega), hP, HSP.out ▸ hrd5.drewN nq, hrr5.drewN nq, Below.drewN hb5 nq, Nat.le_trans hBw hs5⟩, by simp [intOf] <;> omega⟩
                | (refine ⟨?_, by simp [intOf] <;> omega⟩; (repeat apply Exists.intro); exact ⟨⟨k + 1, P, e', hlk, by omega, by first | rfl | go_num | (congr 1; omega), hP, HSP.out ▸ hrd5.drewN nq, hrr5.drewN nq, Below.drewN hb5 nq, Nat.le_trans hBw hs5⟩, rfl⟩)
        · have ex : ¬ (k : Int) < m ∨ ((k : Int) < m ∧ ¬ (k : Int) < 60) := by omega
          clear hrd hrr hz hl
          rcases ex with h1 | ⟨h1, h2⟩
          · go_wp2_with fail
            refine (lives_any _).mono ?_
            rintro e7 w7 ⟨rfl, hb7⟩
            go_wp2
            go_ret
            exact ⟨rfl, Gr.trans hbw hb7⟩
          · go_wp2_with fail
            refine (lives_any _).mono ?_
            rintro e7 w7 ⟨rfl, hb7⟩
            go_wp2
            go_ret
            exact ⟨rfl, Gr.trans hbw hb7⟩

theorem pairs_of {H : Type} {enc : TypeId × Value → H} {W : World} {xs : List (List Value)} (h : ∀ x ∈ xs, x.length = 2 ∧ ∃ fuel y, DataW.trod enc Try.prog W 0 (fun _ => true) true fuel 60 x = some y) :
    ∃ ks : List (Int × Int), ks.length = xs.length ∧ xs.flatten = ks.flatMap fun k => [Value.int .i64 k.1, Value.int .i64 k.2] := by
  induction xs with
  | nil => exact ⟨[], rfl, rfl⟩
  | cons x xs ih =>
    obtain ⟨ks, h1, h2⟩ := ih (fun y hy => h y (by simp [hy]))
    obtain ⟨hx, fuel, y, hy⟩ := h x (by simp)
    obtain ⟨y0, y1, n, _, _, k1, k2⟩ := trod_struct2 Try.underlying60 hy
    have c1 : Try.prog.cellsOf 3 = 1 := by kernel_rfl
    simp only [c1] at k1 k2
    obtain ⟨z0, e0, _⟩ := DataW.trod_int Try.underlying3 k1
    obtain ⟨z1, e1, _⟩ := DataW.trod_int Try.underlying3 k2
    match x, hx with
    | [a, b], _ =>
      simp at e0 e1
      exact ⟨(z0, z1) :: ks, by simp [h1], by simp [h2, e0, e1]⟩
section
variable {H : Type} {enc : TypeId × Value → H} {W : World} {base : Nat} {v0 v1 v2 : Value} {d0 d1 d2 : DataW H} {p0 p1 p2 : List MemPlace}
theorem bitsReads_calls (o0 : Value.okWide Try.prog W .any base 23 v0) (h0 : DataW.Trod enc Try.prog W 0 (fun _ => true) true 23 v0 d0 p0)
    (o1 : Value.okWide Try.prog W .any base 54 v1) (h1 : DataW.Trod enc Try.prog W 0 (fun _ => true) true 54 v1 d1 p1) :
    Calls Try.prog 10 #[v0, v1] W fun e W' => e = .returned (.bool true) ∧ Below W.heap.size W W' := by
  obtain ⟨a, n, c, l, rfl, hn, hc, hcm, hr⟩ := open_byt Try.underlying23 Try.underlying5 cellsb o0 h0
  obtain ⟨a1, m, c1, xs, rfl, hm, hc1, hcm1, hz, hx⟩ := open_rows Try.underlying54 (s := 2) (by kernel_rfl) o1 h1
  obtain ⟨ks, hk, he⟩ := pairs_of hx
  rw [he] at hz
  exact reads_law a n c l a1 m c1 ks W hn hc hcm hr (by omega) (Nat.le_trans hc1 hcm1) hz
end
end Go.Proofs.Ytchpnhlblhklcaa
