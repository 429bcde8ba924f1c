/- Walks of the reader of layer 1, its numbers, bytes and texts; and of the document's reader. -/
import Derived.Test.YtchpnhlblhklcaaW6
namespace Go.Proofs.Ytchpnhlblhklcaa
open Go.RowKit Go.Hd
variable {B : Nat}

theorem open_far {a : Option Addr} {n c : Nat} {l : List UInt8} {w : World} (hn : n = l.length) (hl : Row w a (l.map b8)) (hm : l.length ≤ 140737488355328) :
    Calls Try.prog 28 #[.slice a n c] w fun e w' => ∃ g a1 c1, e = .returned (.pointer (some ⟨g, 0, none⟩)) ∧ w.heap.size ≤ g ∧ Blk w' g 50 [.slice a1 l.length c1, .int .i64 0, .bool true] ∧ Row w' a1 (l.map b8) ∧ l.length ≤ c1 ∧ c1 ≤ maxLen ∧
      (0 < l.length → w.heap.size ≤ (hd a1).block ∧ (hd a1).block < w'.heap.size) ∧ Below w.heap.size w w' := by
  subst hn
  go_enter Try.func28, Try.ntmps28
  go_wp2_with fail
  refine (clone_any a _ c l w rfl hl hm).mono ?_
  rintro e w1 ⟨v, rfl, hF⟩
  have hF1 := hF.1
  obtain ⟨a1, c1, rfl, hr, hb, h1, h2⟩ := hF.open
  go_wp2
  go_ret
  have hb2 := (Below.refl w1.heap.size w1).alloc (Nat.le_refl _) (.cells #[.slice a1 l.length c1, .int .i64 0, .bool true] 50)
  obtain ⟨_, _, hv, _, hm2, _⟩ := owns_row hF1
  refine ⟨w1.heap.size, a1, c1, rfl, hb.size, Blk.new w1 _ _, hr.below hb2, h2, ?_, fun h0 => ⟨?_, ?_⟩, Gr.trans hb hb2⟩
  · cases hv; exact hm2
  · rcases owns_bytes hF1 with ⟨_, h⟩ | ⟨g, c, rest, hv, hg, _⟩
    · subst h; simp at h0
    · cases hv; exact hg
  · have := Row.block_lt hr (by simpa using h0)
    simp; omega
theorem open_any {a : Option Addr} {n c : Nat} {l : List UInt8} {w : World} (hn : n = l.length) (hl : Row w a (l.map b8)) (hm : l.length ≤ 140737488355328) :
    Calls Try.prog 28 #[.slice a n c] w fun e w' => ∃ g, e = .returned (.pointer (some ⟨g, 0, none⟩)) ∧ w.heap.size ≤ g ∧ RdAt w'.heap.size w' g l 0 ∧ Below w.heap.size w w' := by
  refine (open_far hn hl hm).mono ?_
  rintro e w1 ⟨g, a1, c1, rfl, h1, h2, h3, h4, h5, h6, h7⟩
  exact ⟨g, rfl, h1, ⟨a1, c1, h2, h3, h4, h5, fun h0 => (h6 h0).2⟩, h7⟩

theorem bytes_any {w : World} {g : Nat} {l : List UInt8} {e n : Int} (h : RdAt B w g l e) (hl : l.length ≤ 140737488355328) :
    Calls Try.prog 29 #[.pointer (some ⟨g, 0, none⟩), .int .i64 n] w fun r w' => ∃ v, r = .returned v ∧ w'.ownsRow w.heap.size 5 1 v (rdGot l e n).length ((rdGot l e n).map b8) ∧ RdAt B w' g (rdRest l e n) (rdErr l e n) ∧ w.grownBy w' (some g) := by
  have hgl : (rdGot l e n).length ≤ l.length := by unfold rdGot; split <;> simp; omega
  go_enter Try.func29, Try.ntmps29
  go_wp2_with fail
  refine (take_any h).mono ?_
  rintro e1 w1 ⟨a, c, rfl, h1, h2, hr, hrd, hg⟩
  go_wp2_with fail
  refine (clone_any a _ c _ w1 rfl hr (by omega)).mono ?_
  rintro e2 w2 ⟨v, rfl, ho, hb⟩
  go_wp2
  go_ret
  exact ⟨v, rfl, ownsRow_mono ho hg.size, hrd.keep hb, grownBy_trans hg (grownBy_below hb)⟩

theorem text_any {w : World} {g : Nat} {l : List UInt8} {e n : Int} (h : RdAt B w g l e) :
    Calls Try.prog 33 #[.pointer (some ⟨g, 0, none⟩), .int .i64 n] w fun r w' => r = .returned (.string (str (rdGot l e n))) ∧ RdAt B w' g (rdRest l e n) (rdErr l e n) ∧ w.grownBy w' (some g) := by
  go_enter Try.func33, Try.ntmps33
  go_wp2_with fail
  refine (take_any h).mono ?_
  rintro e1 w1 ⟨a, c, rfl, h1, h2, hr, hrd, hg⟩
  have hcv := run_convert_row (P := Try.prog) (src := 23) (e := 5) (dst := 9) (c := c) eB.ht Try.underlying5 Try.underlying9 rfl hr
  go_wp2
  go_ret
  exact ⟨rfl, hrd, hg⟩

/-- Num asks ErrArg first. -/
def numE (e n : Int) : Int := if e = 0 ∧ (n < 1 ∨ 8 < n) then 2 else e
theorem num_any {w : World} {g : Nat} {l : List UInt8} {e n : Int} (h : RdAt B w g l e) :
    Calls Try.prog 32 #[.pointer (some ⟨g, 0, none⟩), .int .i64 n] w fun r w' => r = .returned (.int .u64 (gV (rdGot l (numE e n) n) : Int)) ∧ RdAt B w' g (rdRest l (numE e n) n) (rdErr l (numE e n) n) ∧ w.grownBy w' (some g) := by
  have h' := h
  obtain ⟨a, c, hB, hr, h1, h2, hk⟩ := h
  have c1 : w.cell? ⟨g, 1, none⟩ = _ := hB.cell rfl
  have f1 := hB.free 1
  by_cases hc : e = 0 ∧ (n < 1 ∨ 8 < n)
  · have hE : numE e n = 2 := if_pos hc
    rw [hE]
    clear hE
    obtain ⟨rfl, hn⟩ := hc
    have hg1 : w.grownBy (w.setCell ⟨g, 1, none⟩ (.int .i64 2)) (some g) := grown_set (World.grownBy.refl _ _) _ _
    have h2' : RdAt B (w.setCell ⟨g, 1, none⟩ (.int .i64 2)) g l 2 := ⟨a, c, hB.set 1 (.int .i64 2), h'.row hr hg1, h1, h2, hk⟩
    rcases hn with hn | hn
    · go_enter Try.func32, Try.ntmps32
      go_wp2_with fail
      refine (err_any h').mono ?_
      rintro e1 w1 ⟨rfl, rfl⟩
      go_wp2_with fail
      refine (take_any h2').mono ?_
      rintro e1 w1 ⟨a1, c1, rfl, _, _, hr1, hrd, hg⟩
      go_wp2_with fail
      refine (get_all rfl hr1).mono ?_
      rintro e1 w2 ⟨rfl, rfl⟩
      go_wp2
      go_ret
      exact ⟨rfl, hrd, grownBy_trans hg1 hg⟩
    · have hn1 : ¬ n < 1 := by omega
      go_enter Try.func32, Try.ntmps32
      go_wp2_with fail
      refine (err_any h').mono ?_
      rintro e1 w1 ⟨rfl, rfl⟩
      go_wp2_with fail
      refine (take_any h2').mono ?_
      rintro e1 w1 ⟨a1, c1, rfl, _, _, hr1, hrd, hg⟩
      go_wp2_with fail
      refine (get_all rfl hr1).mono ?_
      rintro e1 w2 ⟨rfl, rfl⟩
      go_wp2
      go_ret
      exact ⟨rfl, hrd, grownBy_trans hg1 hg⟩
  · have hE : numE e n = e := if_neg hc
    rw [hE]
    clear hE
    by_cases he : e = 0
    · subst he
      have hn1 : ¬ n < 1 := fun h => hc ⟨rfl, .inl h⟩
      have hn8 : ¬ 8 < n := fun h => hc ⟨rfl, .inr h⟩
      clear hc
      go_enter Try.func32, Try.ntmps32
      go_wp2_with fail
      refine (err_any h').mono ?_
      rintro e1 w1 ⟨rfl, rfl⟩
      go_wp2_with fail
      refine (take_any h').mono ?_
      rintro e1 w1 ⟨a1, c1, rfl, _, _, hr1, hrd, hg⟩
      go_wp2_with fail
      refine (get_all rfl hr1).mono ?_
      rintro e1 w2 ⟨rfl, rfl⟩
      go_wp2
      go_ret
      exact ⟨rfl, hrd, hg⟩
    · have hne : (e == 0) = false := by simp [he]
      clear hc he
      go_enter Try.func32, Try.ntmps32
      go_wp2_with fail
      refine (err_any h').mono ?_
      rintro e1 w1 ⟨rfl, rfl⟩
      go_wp2_with fail
      refine (take_any h').mono ?_
      rintro e1 w1 ⟨a1, c1, rfl, _, _, hr1, hrd, hg⟩
      go_wp2_with fail
      refine (get_all rfl hr1).mono ?_
      rintro e1 w2 ⟨rfl, rfl⟩
      go_wp2
      go_ret
      exact ⟨rfl, hrd, hg⟩

/-- The document's reader in block g goes through l, stands at a place, has the error e. -/
def RRdAt (B : Nat) (w : World) (g : Nat) (l : List UInt8) (p : Nat) (e : Int) : Prop :=
  p ≤ l.length ∧ ∃ a c, Blk w g 57 [.slice a l.length c, .int .i64 p, .int .i64 e] ∧ Row w a (l.map b8) ∧ l.length ≤ c ∧ c ≤ maxLen ∧ (0 < l.length → (hd a).block < B)
theorem rrd_cells (a : Option Addr) (n c : Nat) (p e : Int) (i : Nat) (m : Int) : [Value.slice a n c, .int .i64 p, .int .i64 e][i]? ≠ some (.int .u8 m) := by
  match i with
  | 0 => simp
  | 1 => simp
  | 2 => simp
  | i + 3 => simp
theorem RRdAt.row {w w' : World} {g : Nat} {l : List UInt8} {p : Nat} {e : Int} (h : RRdAt B w g l p e) {a : Option Addr} {m : List UInt8} (hr : Row w a (m.map b8)) (hg : w.grownBy w' (some g)) : Row w' a (m.map b8) := by
  obtain ⟨_, a0, c, hB, _⟩ := h
  exact Row.grown hr hg (fun hm => Blk.apart hB (rrd_cells _ _ _ _ _) hr (by simpa using hm))
theorem RRdAt.keep {w w' : World} {g : Nat} {l : List UInt8} {p : Nat} {e : Int} (h : RRdAt B w g l p e) (hb : Below w.heap.size w w') : RRdAt B w' g l p e := by
  obtain ⟨hp, a, c, hB, hr, h1, h2, hk⟩ := h
  exact ⟨hp, a, c, hB.below hb, hr.below hb, h1, h2, hk⟩
theorem RRdAt.lt {w : World} {g : Nat} {l : List UInt8} {p : Nat} {e : Int} (h : RRdAt B w g l p e) : g < w.heap.size := by obtain ⟨_, a, c, hB, _⟩ := h; exact hB.lt
theorem RRdAt.keptOwn {w w' : World} {g : Nat} {l : List UInt8} {p : Nat} {e : Int} {r : Option Nat} (h : RRdAt B w g l p e) (hg : w.grownBy w' r) (hr : ∀ k, r = some k → B ≤ k ∧ k ≠ g) : RRdAt B w' g l p e := by
  obtain ⟨hp, a, c, hB, hrow, h1, h2, hk⟩ := h
  refine ⟨hp, a, c, ?_, ?_, h1, h2, hk⟩
  · unfold Blk at *
    rw [hg.block g (Array.getElem?_eq_some_iff.1 hB).1 (fun e => (hr g e.symm).2 rfl)]; exact hB
  · refine Row.keptFar hrow hg (fun h0 e => ?_)
    have := hk (by simpa using h0)
    have := (hr _ e).1
    omega
theorem RRdAt.drewN {w : World} {g : Nat} {l : List UInt8} {p : Nat} {e : Int} (h : RRdAt B w g l p e) (n : Nat) : RRdAt B (w.drewN n) g l p e := h
/-- The document's reader stays where the other one is written, and the other way about. -/
theorem RRdAt.other {w w' : World} {g g' : Nat} {l : List UInt8} {p : Nat} {e : Int} (h : RRdAt B w g l p e) {l' : List UInt8} {e' : Int} (h' : RdAt B w g' l' e') (hg : w.grownBy w' (some g')) (hne : g ≠ g') : RRdAt B w' g l p e := by
  obtain ⟨hp, a, c, hB, hrow, h1, h2, hk⟩ := h
  exact ⟨hp, a, c, hB.grown hg hne, h'.row hrow hg, h1, h2, hk⟩
theorem RdAt.other {w w' : World} {g g' : Nat} {l : List UInt8} {p : Nat} {e : Int} (h' : RdAt B w g l e) {l' : List UInt8} {e' : Int} (h : RRdAt B w g' l' p e') (hg : w.grownBy w' (some g')) (hne : g ≠ g') : RdAt B w' g l e := by
  obtain ⟨a, c, hB, hrow, h1, h2, hk⟩ := h'
  exact ⟨a, c, hB.grown hg hne, h.row hrow hg, h1, h2, hk⟩

theorem rrend_any {w : World} {g : Nat} {l : List UInt8} {p : Nat} {e : Int} (h : RRdAt B w g l p e) :
    Calls Try.prog 36 #[.pointer (some ⟨g, 0, none⟩)] w fun r w' => r = .returned (.int .i64 (rdEnd (l.drop p) e)) ∧ ∃ n, w' = w.drewN n := by
  obtain ⟨hp, a, c, hB, hr, h1, h2, hk⟩ := h
  have c0 : w.cell? ⟨g, 0, none⟩ = _ := hB.cell rfl
  have c1 : w.cell? ⟨g, 1, none⟩ = _ := hB.cell rfl
  have c2 : w.cell? ⟨g, 2, none⟩ = _ := hB.cell rfl
  by_cases he : e = 0
  · subst he
    by_cases hl : p < l.length
    · have HR : Hid (rdEnd (l.drop p) 0 = 6) := by show _ = _; simp [rdEnd]; omega
      go_enter Try.func36, Try.ntmps36
      go_wp2
      go_quiet (fail)
      go_wp2
      go_ret
      exact ⟨ret_int HR.out.symm, nq, rfl⟩
    · have HR : Hid (rdEnd (l.drop p) 0 = 0) := by show _ = _; simp [rdEnd]; omega
      go_enter Try.func36, Try.ntmps36
      go_wp2
      go_quiet (fail)
      go_wp2
      go_ret
      exact ⟨ret_int HR.out.symm, nq, rfl⟩
  · have HR : Hid (rdEnd (l.drop p) e = e) := by show _ = _; simp [rdEnd, he]
    have hne : (e == 0) = false := by simp [he]
    have hne2 : (e != 0) = true := by simp [he]
    go_enter Try.func36, Try.ntmps36
    go_wp2
    go_quiet (fail)
    go_wp2
    go_ret
    exact ⟨ret_int HR.out.symm, nq, rfl⟩

def takeE (e n : Int) (num : Bool) : Int := if num = true ∧ e = 0 ∧ (n < 1 ∨ 8 < n) then 2 else e
/-- What the document's Take hands back and leaves behind. -/
def RTook (B : Nat) (w : World) (g : Nat) (l : List UInt8) (p : Nat) (E n : Int) (r : Ending) (w' : World) : Prop :=
  ∃ v, r = .returned v ∧ w'.ownsRow w.heap.size 5 1 v (rdGot (l.drop p) E n).length ((rdGot (l.drop p) E n).map b8) ∧
    RRdAt B w' g l (l.length - (rdRest (l.drop p) E n).length) (rdErr (l.drop p) E n) ∧ w.grownBy w' (some g)
theorem RTook.none {w : World} {g : Nat} {l : List UInt8} {p : Nat} {e E n e' : Int} {w' : World} (h : RRdAt B w g l p e) (h1 : rdGot (l.drop p) E n = []) (h2 : rdRest (l.drop p) E n = l.drop p) (h3 : rdErr (l.drop p) E n = e')
    (hw : (w' = w ∧ e' = e) ∨ w' = w.setCell ⟨g, 2, none⟩ (.int .i64 e')) : RTook B w g l p E n (.returned (.slice none 0 0)) w' := by
  have hp := h.1
  have hg : w.grownBy w' (some g) := by
    rcases hw with ⟨rfl, _⟩ | rfl
    · exact World.grownBy.refl _ _
    · exact grown_set (World.grownBy.refl _ _) _ _
  refine ⟨_, rfl, by rw [h1]; exact World.ownsRow_nil _ _ _ _, ?_, hg⟩
  rw [h2, h3, show l.length - (l.drop p).length = p by rw [List.length_drop]; omega]
  rcases hw with ⟨rfl, rfl⟩ | rfl
  · exact h
  · obtain ⟨_, a, c, hB, hr, k1, k2⟩ := id h
    exact ⟨hp, a, c, hB.set 2 _, h.row hr hg, k1, k2⟩

theorem rrtake_any {w : World} {g : Nat} {l : List UInt8} {p : Nat} {e n : Int} {num : Bool} (h : RRdAt B w g l p e) (hm : l.length ≤ 140737488355328) :
    Calls Try.prog 35 #[.pointer (some ⟨g, 0, none⟩), .int .i64 n, .bool num] w fun r w' => RTook B w g l p (takeE e n num) n r w' := by
  have h' := h
  obtain ⟨hp, a, c, hB, hr, h1, h2, hk⟩ := h
  have c0 : w.cell? ⟨g, 0, none⟩ = _ := hB.cell rfl
  have c1 : w.cell? ⟨g, 1, none⟩ = _ := hB.cell rfl
  have c2 : w.cell? ⟨g, 2, none⟩ = _ := hB.cell rfl
  have f1 := hB.free 1
  have f2 := hB.free 2
  by_cases he : e = 0
  · subst he
    by_cases hbad : n < 0 ∨ (num = true ∧ (n < 1 ∨ 8 < n))
    · have HG : Hid (rdGot (l.drop p) (takeE 0 n num) n = [] ∧ rdRest (l.drop p) (takeE 0 n num) n = l.drop p ∧ rdErr (l.drop p) (takeE 0 n num) n = 2) := by
        show _ ∧ _
        by_cases hn : n < 0
        · simp [rdGot, rdRest, rdErr, takeE, hn]
        · have hx : num = true ∧ (n < 1 ∨ 8 < n) := hbad.resolve_left hn
          simp [rdGot, rdRest, rdErr, takeE, hx]
      have fin : RTook B w g l p (takeE 0 n num) n (.returned (.slice none 0 0)) (w.setCell ⟨g, 2, none⟩ (.int .i64 2)) := by
        obtain ⟨e1, e2, e3⟩ := HG.out
        exact RTook.none h' e1 e2 e3 (.inr rfl)
      have FIN := Lib.hid fin
      clear fin HG
      by_cases hn : n < 0
      · clear hbad
        go_enter Try.func35, Try.ntmps35
        go_wp2
        go_ret
        exact FIN.out
      · obtain ⟨rfl, hx⟩ := hbad.resolve_left hn
        rcases hx with hx | hx
        · go_enter Try.func35, Try.ntmps35
          go_wp2
          go_ret
          exact FIN.out
        · have hn1 : ¬ n < 1 := by omega
          go_enter Try.func35, Try.ntmps35
          go_wp2
          go_ret
          exact FIN.out
    · have hn0 : ¬ n < 0 := fun h => hbad (.inl h)
      have hE : takeE 0 n num = 0 := if_neg (fun h => hbad (.inr ⟨h.1, h.2.2⟩))
      have hnum : num = true → 1 ≤ n ∧ n ≤ 8 := fun h => ⟨Decidable.byContradiction fun hx => hbad (.inr ⟨h, .inl (by omega)⟩), Decidable.byContradiction fun hx => hbad (.inr ⟨h, .inr (by omega)⟩)⟩
      rw [hE]
      clear hE hbad
      have hm2 : (l.length : Int) ≤ 140737488355328 := by omega
      have hp2 : (p : Int) ≤ l.length := by omega
      by_cases hl : ((l.length : Int) - p) < n
      · have fin : RTook B w g l p 0 n (.returned (.slice none 0 0)) (w.setCell ⟨g, 2, none⟩ (.int .i64 3)) := by
          refine RTook.none h' ?_ ?_ ?_ (.inr rfl) <;> simp [rdGot, rdRest, rdErr, hn0] <;> omega
        have fin' : ∀ nq, RTook B w g l p 0 n (.returned (.slice none 0 0)) ((w.setCell ⟨g, 2, none⟩ (.int .i64 3)).drewN nq) := fun nq => by
          obtain ⟨v, k1, k2, k3, k4⟩ := fin
          exact ⟨v, k1, k2, k3, grownBy_drewN k4 nq⟩
        have FIN := Lib.hid fin'
        clear fin fin'
        cases num
        · clear hnum
          go_enter Try.func35, Try.ntmps35
          go_wp2
          go_quiet (fail)
          go_wp2
          go_ret
          exact FIN.out _
        · obtain ⟨hn1, hn8⟩ := hnum rfl
          go_enter Try.func35, Try.ntmps35
          go_wp2
          go_quiet (fail)
          go_wp2
          go_ret
          exact FIN.out _
      · obtain ⟨N, rfl⟩ := Int.eq_ofNat_of_zero_le (show 0 ≤ n by omega)
        have hpN : p + N ≤ l.length := by omega
        have hpN2 : (p : Int) + N ≤ l.length := by omega
        obtain ⟨a2, c2', hsl, hk1, hk2, hr2⟩ := cut_lh (P := Try.prog) (t := 23) (e := 5) (s := 1) eB.ht (by kernel_rfl) hr (k1 := .i64) (k2 := .i64) (c := c) (n := l.length) (i := (p : Int)) (j := (p : Int) + N) (p := p) (q := p + N) rfl rfl (by omega) (by omega)
        simp only [Nat.mul_one, Nat.add_sub_cancel_left] at hsl hk1 hr2
        rw [← List.map_drop, ← List.map_take] at hr2
        have hw1 : IntKind.i64.wrap ((p : Int) + N) = (p : Int) + N := IntWalk.i64_in _ (by omega)
        have fin : ∀ {w3 v} (nq), (w3.ownsRow (w.drewN nq).heap.size 5 1 v ((l.drop p).take N).length (((l.drop p).take N).map b8)) → Below (w.drewN nq).heap.size (w.drewN nq) w3 →
            RTook B w g l p 0 (N : Int) (.returned v) (w3.setCell ⟨g, 1, none⟩ (.int .i64 ((p : Int) + N))) := by
          intro w3 v nq ho hb
          have hb' := Below.drewN' hb
          have hB3 := hB.below hb'
          have hgr : w3.grownBy (w3.setCell ⟨g, 1, none⟩ (.int .i64 ((p : Int) + N))) (some g) := grown_set (World.grownBy.refl _ _) _ _
          have e1 : rdGot (l.drop p) 0 N = (l.drop p).take N := by simp [rdGot]; omega
          have e2 : rdRest (l.drop p) 0 N = (l.drop p).drop N := by simp [rdRest]; omega
          have e3 : rdErr (l.drop p) 0 N = 0 := by simp [rdErr]; omega
          have hgt : w.heap.size ≤ (w.drewN nq).heap.size := Nat.le_refl _
          have hlt := hB.lt
          refine ⟨v, rfl, ?_, ?_, grownBy_trans (grownBy_below hb') hgr⟩
          · rw [e1]
            refine (ownsRow_mono ho hgt).kept hgr ?_
            right
            intro e
            have := ho.lt g e
            simp only [World.drewN] at this
            omega
          · rw [e2, e3]
            have hq : l.length - ((l.drop p).drop N).length = p + N := by simp; omega
            rw [hq]
            refine ⟨by omega, a, c, ?_, (h'.keep hb').row (hr.below hb') hgr, h1, h2, hk⟩
            exact hB3.set 1 _
        have FIN := @fin
        have HF : Hid (∀ {w3 v} (nq), (w3.ownsRow (w.drewN nq).heap.size 5 1 v ((l.drop p).take N).length (((l.drop p).take N).map b8)) → Below (w.drewN nq).heap.size (w.drewN nq) w3 →
            RTook B w g l p 0 (N : Int) (.returned v) (w3.setCell ⟨g, 1, none⟩ (.int .i64 ((p : Int) + N)))) := @fin
        clear FIN fin
        cases num
        · clear hnum
          go_enter Try.func35, Try.ntmps35
          go_wp2
          go_quiet (fail)
          go_wp2
          refine wp_region_still_tail 15 (by kernel_rfl) (by kernel_rfl) ?_
          simp only [List.take_succ_cons, List.take_zero, List.drop_succ_cons, List.drop_zero]
          change wpStill _ _ (w.drewN (nq + 1)) _ _ _
          repeat still_step
          try refine wpStill_nil ?_
          change wpList _ _ _ _ _ (w.drewN (nq + 1))
          clear hw1
          go_wp2_with fail
          refine (copy_any a2 N c2' _ _ (by simp; omega) (hr2.drewN _) (by simp; omega)).mono ?_
          rintro e3 w3 ⟨v, rfl, ho, hb⟩
          have hB3 := hB.below (Below.drewN' hb)
          have d1 : w3.cell? ⟨g, 1, none⟩ = _ := hB3.cell rfl
          have g1 := hB3.free 1
          clear hr hr2 hB
          go_wp2
          go_ret
          exact HF.out (nq + 1) ho hb
        · obtain ⟨hn1, hn8⟩ := hnum rfl
          go_enter Try.func35, Try.ntmps35
          go_wp2
          go_quiet (fail)
          go_wp2
          refine wp_region_still_tail 15 (by kernel_rfl) (by kernel_rfl) ?_
          simp only [List.take_succ_cons, List.take_zero, List.drop_succ_cons, List.drop_zero]
          change wpStill _ _ (w.drewN (nq + 1)) _ _ _
          repeat still_step
          try refine wpStill_nil ?_
          change wpList _ _ _ _ _ (w.drewN (nq + 1))
          clear hw1
          go_wp2_with fail
          refine (copy_any a2 N c2' _ _ (by simp; omega) (hr2.drewN _) (by simp; omega)).mono ?_
          rintro e3 w3 ⟨v, rfl, ho, hb⟩
          have hB3 := hB.below (Below.drewN' hb)
          have d1 : w3.cell? ⟨g, 1, none⟩ = _ := hB3.cell rfl
          have g1 := hB3.free 1
          clear hr hr2 hB
          go_wp2
          go_ret
          exact HF.out (nq + 1) ho hb
  · have hE : takeE e n num = e := if_neg (fun h => he h.2.1)
    rw [hE]
    have fin : RTook B w g l p e n (.returned (.slice none 0 0)) w := RTook.none h' (by simp [rdGot, he]) (by simp [rdRest, he]) (by simp [rdErr, he]) (.inl ⟨rfl, rfl⟩)
    have FIN := Lib.hid fin
    have hne : (e != 0) = true := by simp [he]
    clear fin hE
    go_enter Try.func35, Try.ntmps35
    go_wp2
    go_ret
    exact FIN.out
end Go.Proofs.Ytchpnhlblhklcaa
