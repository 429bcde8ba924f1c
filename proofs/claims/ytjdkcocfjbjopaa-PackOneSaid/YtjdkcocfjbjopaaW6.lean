/- Walks of the reader of layer 1: what each of its methods hands back and leaves behind. -/
import Derived.Test.YtjdkcocfjbjopaaW5
import Derived.Test.YtjdkcocfjbjopaaLib2
import Derived.StillTailTactics
set_option maxRecDepth 20000
namespace Go.Proofs.Ytjdkcocfjbjopaa
open Go.RowKit Go.Hd
variable {B : Nat}

/-- The reader in block g has l left, and the error e. -/
def RdAt (B : Nat) (w : World) (g : Nat) (l : List UInt8) (e : Int) : Prop :=
  ∃ a c, Blk w g 79 [.slice a l.length c, .int .i64 e, .bool true] ∧ Row w a (l.map b8) ∧ l.length ≤ c ∧ c ≤ maxLen ∧ (0 < l.length → (hd a).block < B)

theorem rd_cells (a : Option Addr) (n c : Nat) (e : Int) (b : Bool) (i : Nat) (m : Int) : [Value.slice a n c, .int .i64 e, .bool b][i]? ≠ some (.int .u8 m) := by
  match i with
  | 0 => simp
  | 1 => simp
  | 2 => simp
  | i + 3 => simp
theorem RdAt.row {w w' : World} {g : Nat} {l : List UInt8} {e : Int} (h : RdAt B w g l e) {a : Option Addr} {m : List UInt8} (hr : Row w a (m.map b8)) (hg : w.grownBy w' (some g)) : Row w' a (m.map b8) := by
  obtain ⟨a0, c, hB, _⟩ := h
  exact Row.grown hr hg (fun hm => Blk.apart hB (rd_cells _ _ _ _ _) hr (by simpa using hm))
/-- A reader stays where another block is written. -/
theorem RdAt.keep {w w' : World} {g : Nat} {l : List UInt8} {e : Int} (h : RdAt B w g l e) (hb : Below w.heap.size w w') : RdAt B w' g l e := by
  obtain ⟨a, c, hB, hr, h1, h2, hk⟩ := h
  refine ⟨a, c, ?_, hr.below hb, h1, h2, hk⟩
  unfold Blk at *
  rw [hb.block g (Array.getElem?_eq_some_iff.1 hB).1]; exact hB
theorem RdAt.drewN {w : World} {g : Nat} {l : List UInt8} {e : Int} (h : RdAt B w g l e) (n : Nat) : RdAt B (w.drewN n) g l e := h

/-- A reader stays where a row of a caller's is written. -/
theorem RdAt.keptOwn {w w' : World} {g : Nat} {l : List UInt8} {e : Int} {r : Option Nat} (h : RdAt B w g l e) (hg : w.grownBy w' r) (hr : ∀ k, r = some k → B ≤ k ∧ k ≠ g) : RdAt B w' g l e := by
  obtain ⟨a, c, hB, hrow, h1, h2, hk⟩ := h
  refine ⟨a, c, ?_, ?_, h1, h2, hk⟩
  · unfold Blk at *
    rw [hg.block g (Array.getElem?_eq_some_iff.1 hB).1 (fun e => (hr g e.symm).2 rfl)]; exact hB
  · refine Row.keptFar hrow hg (fun h0 e => ?_)
    have := hk (by simpa using h0)
    have := (hr _ e).1
    omega

theorem RdAt.lt {w : World} {g : Nat} {l : List UInt8} {e : Int} (h : RdAt B w g l e) : g < w.heap.size := by obtain ⟨a, c, hB, _⟩ := h; exact hB.lt

theorem err_any {w : World} {g : Nat} {l : List UInt8} {e : Int} (h : RdAt B w g l e) :
    Calls Try.prog 54 #[.pointer (some ⟨g, 0, none⟩)] w fun r w' => r = .returned (.int .i64 e) ∧ w = w' := by
  obtain ⟨a, c, hB, hr, h1, h2, hk⟩ := h
  have c0 : w.cell? ⟨g, 0, none⟩ = _ := hB.cell rfl
  have c1 : w.cell? ⟨g, 1, none⟩ = _ := hB.cell rfl
  have c2 : w.cell? ⟨g, 2, none⟩ = _ := hB.cell rfl
  go_enter Try.func54, Try.ntmps54
  go_wp2
  go_ret
  exact ⟨rfl, rfl⟩
/-- The error, or ErrRest. -/
def rdEnd (l : List UInt8) (e : Int) : Int := if e ≠ 0 then e else if 0 < l.length then 6 else 0
theorem end_any {w : World} {g : Nat} {l : List UInt8} {e : Int} (h : RdAt B w g l e) :
    Calls Try.prog 32 #[.pointer (some ⟨g, 0, none⟩)] w fun r w' => r = .returned (.int .i64 (rdEnd l e)) ∧ w = w' := by
  have h' := h
  obtain ⟨a, c, hB, hr, h1, h2, hk⟩ := h
  have c0 : w.cell? ⟨g, 0, none⟩ = _ := hB.cell rfl
  have c1 : w.cell? ⟨g, 1, none⟩ = _ := hB.cell rfl
  have c2 : w.cell? ⟨g, 2, none⟩ = _ := hB.cell rfl
  by_cases he : e = 0
  · subst he
    by_cases hl : 0 < l.length
    · have HR : Hid (rdEnd l 0 = 6) := by show _ = _; simp [rdEnd, hl]
      go_enter Try.func32, Try.ntmps32
      go_wp2_with (go_at_call 54; refine (err_any h').mono ?_; rintro e w' ⟨rfl, rfl⟩)
      go_ret
      exact ⟨ret_int HR.out.symm, rfl⟩
    · have HR : Hid (rdEnd l 0 = 0) := by show _ = _; simp [rdEnd, hl]
      go_enter Try.func32, Try.ntmps32
      go_wp2_with (go_at_call 54; refine (err_any h').mono ?_; rintro e w' ⟨rfl, rfl⟩)
      go_ret
      exact ⟨ret_int HR.out.symm, rfl⟩
  · have HR : Hid (rdEnd l e = e) := by show _ = _; simp [rdEnd, he]
    have hne : (e != 0) = true := by simp [he]
    go_enter Try.func32, Try.ntmps32
    go_wp2_with (go_at_call 54; refine (err_any h').mono ?_; rintro e w' ⟨rfl, rfl⟩)
    go_ret
    exact ⟨ret_int HR.out.symm, rfl⟩

/-- What n bytes more are; what is left; the error. -/
def rdGot (l : List UInt8) (e n : Int) : List UInt8 := if e ≠ 0 ∨ n < 0 ∨ (l.length : Int) < n then [] else l.take n.toNat
def rdRest (l : List UInt8) (e n : Int) : List UInt8 := if e ≠ 0 ∨ n < 0 ∨ (l.length : Int) < n then l else l.drop n.toNat
def rdErr (l : List UInt8) (e n : Int) : Int := if e ≠ 0 then e else if n < 0 then 2 else if (l.length : Int) < n then 3 else 0

def rdOk (l : List UInt8) (e n : Int) : Bool := decide (e = 0 ∧ 0 ≤ n ∧ n ≤ l.length)
/-- What take hands back, and leaves behind. -/
def Took (B : Nat) (w : World) (g : Nat) (l : List UInt8) (e n : Int) (r : Ending) (w' : World) : Prop :=
  ∃ a c, r = .returned (.tuple #[.slice a (rdGot l e n).length c, .bool (rdOk l e n)]) ∧ (rdGot l e n).length ≤ c ∧ c ≤ maxLen ∧ Row w' a ((rdGot l e n).map b8) ∧ RdAt B w' g (rdRest l e n) (rdErr l e n) ∧ w.grownBy w' (some g)

theorem take_any {w : World} {g : Nat} {l : List UInt8} {e n : Int} (h : RdAt B w g l e) :
    Calls Try.prog 61 #[.pointer (some ⟨g, 0, none⟩), .int .i64 n] w fun r w' => Took B w g l e n r w' := by
  have h' := h
  obtain ⟨a, c, hB, hr, h1, h2, hk⟩ := h
  have c0 : w.cell? ⟨g, 0, none⟩ = _ := hB.cell rfl
  have c1 : w.cell? ⟨g, 1, none⟩ = _ := hB.cell rfl
  have c2 : w.cell? ⟨g, 2, none⟩ = _ := hB.cell rfl
  have f0 := hB.free 0
  have f1 := hB.free 1
  by_cases he : e = 0
  · subst he
    by_cases hn : n < 0
    · have HG : Hid (rdGot l 0 n = [] ∧ rdRest l 0 n = l ∧ rdErr l 0 n = 2 ∧ rdOk l 0 n = false) := by show _ ∧ _; simp [rdGot, rdRest, rdErr, rdOk, hn] <;> omega
      go_enter Try.func61, Try.ntmps61
      go_wp2_with (go_at_call 54; refine (err_any h').mono ?_; rintro e w' ⟨rfl, rfl⟩)
      go_ret2
      obtain ⟨e1, e2, e3, e4⟩ := HG.out
      have hg : w.grownBy (w.setCell ⟨g, 1, none⟩ (.int .i64 2)) (some g) := grown_set (World.grownBy.refl _ _) _ _
      unfold Took
      rw [e1, e2, e3, e4]
      exact ⟨none, 0, rfl, Nat.le_refl _, Nat.zero_le _, Row.nil _ _, ⟨a, c, hB.set 1 (.int .i64 2), h'.row hr hg, h1, h2, hk⟩, hg⟩
    · by_cases hl : (l.length : Int) < n
      · have HG : Hid (rdGot l 0 n = [] ∧ rdRest l 0 n = l ∧ rdErr l 0 n = 3 ∧ rdOk l 0 n = false) := by show _ ∧ _; simp [rdGot, rdRest, rdErr, rdOk, hl]; omega
        go_enter Try.func61, Try.ntmps61
        go_wp2_with (go_at_call 54; refine (err_any h').mono ?_; rintro e w' ⟨rfl, rfl⟩)
        go_ret2
        obtain ⟨e1, e2, e3, e4⟩ := HG.out
        have hg : w.grownBy (w.setCell ⟨g, 1, none⟩ (.int .i64 3)) (some g) := grown_set (World.grownBy.refl _ _) _ _
        unfold Took
        rw [e1, e2, e3, e4]
        exact ⟨none, 0, rfl, Nat.le_refl _, Nat.zero_le _, Row.nil _ _, ⟨a, c, hB.set 1 (.int .i64 3), h'.row hr hg, h1, h2, hk⟩, hg⟩
      · obtain ⟨N, rfl⟩ := Int.eq_ofNat_of_zero_le (show 0 ≤ n by omega)
        have hNl : N ≤ l.length := by omega
        have hNc : (N : Int) ≤ c := by omega
        have hNc2 : N ≤ c := by omega
        have HG : Hid (rdGot l 0 N = l.take N ∧ rdRest l 0 N = l.drop N ∧ rdErr l 0 N = 0 ∧ rdOk l 0 N = true) := by show _ ∧ _; simp [rdGot, rdRest, rdErr, rdOk]; omega
        by_cases hcN : c = N
        · subst hcN
          have hln : l.length = c := by omega
          have hd0 : l.length - c = 0 := by omega
          have HL := Lib.hid hln
          clear hln
          go_enter Try.func61, Try.ntmps61
          go_wp2_with (go_at_call 54; refine (err_any h').mono ?_; rintro e w' ⟨rfl, rfl⟩)
          go_ret2
          obtain ⟨e1, e2, e3, e4⟩ := HG.out
          have hln := HL.out
          have hg : w.grownBy (w.setCell ⟨g, 0, none⟩ (.slice a 0 0)) (some g) := grown_set (World.grownBy.refl _ _) _ _
          unfold Took
          rw [e1, e2, e3, e4]
          refine ⟨a, c, ?_, by simp; omega, h2, ?_, ⟨a, 0, ?_, ?_, by simp; omega, Nat.zero_le _, by simp; omega⟩, hg⟩
          · rw [List.length_take, hln, Nat.min_self]; rfl
          · rw [List.map_take]; exact (h'.row hr hg).take c
          · rw [List.length_drop, hd0]; exact hB.set 0 (.slice a 0 0)
          · rw [List.drop_of_length_le (by omega)]; exact Row.nil _ _
        · go_enter Try.func61, Try.ntmps61
          go_wp2_with (go_at_call 54; refine (err_any h').mono ?_; rintro e w' ⟨rfl, rfl⟩)
          go_ret2
          obtain ⟨e1, e2, e3, e4⟩ := HG.out
          have hg : w.grownBy (w.setCell ⟨g, 0, none⟩ (.slice (Option.map (fun x => x.add N) a) (l.length - N) (c - N))) (some g) := grown_set (World.grownBy.refl _ _) _ _
          have hr' := h'.row hr hg
          unfold Took
          rw [e1, e2, e3, e4]
          refine ⟨a, N, ?_, by simp; omega, by omega, ?_, ⟨Option.map (fun x => x.add N) a, c - N, ?_, ?_, by simp; omega, by omega, fun h0 => ?_⟩, hg⟩
          · rw [List.length_take, Nat.min_eq_left hNl]; rfl
          · rw [List.map_take]; exact hr'.take N
          · rw [List.length_drop]; exact hB.set 0 _
          · rw [List.map_drop]; exact hr'.drop N
          · have h1' : 0 < l.length := by rw [List.length_drop] at h0; omega
            rw [hd_map_block (hr.byteSome h1')]; exact hk h1'
  · have HG : Hid (rdGot l e n = [] ∧ rdRest l e n = l ∧ rdErr l e n = e ∧ rdOk l e n = false) := by show _ ∧ _; simp [rdGot, rdRest, rdErr, rdOk, he]
    have hne : (e != 0) = true := by simp [he]
    go_enter Try.func61, Try.ntmps61
    go_wp2_with (go_at_call 54; refine (err_any h').mono ?_; rintro e w' ⟨rfl, rfl⟩)
    go_ret2
    obtain ⟨e1, e2, e3, e4⟩ := HG.out
    unfold Took
    rw [e1, e2, e3, e4]
    exact ⟨none, 0, rfl, Nat.le_refl _, Nat.zero_le _, Row.nil _ _, ⟨a, c, hB, hr, h1, h2, hk⟩, World.grownBy.refl _ _⟩
end Go.Proofs.Ytjdkcocfjbjopaa
