/- Walks of the reader of layer 1, its numbers, bytes and texts; and of the document's reader. -/
import Derived.Test.YtjdkcocfjbjopaaW6
set_option maxRecDepth 20000
namespace Go.Proofs.Ytjdkcocfjbjopaa
open Go.RowKit Go.Hd
variable {B : Nat}

theorem open_far {a : Option Addr} {n c : Nat} {l : List UInt8} {w : World} (hn : n = l.length) (hl : Row w a (l.map b8)) (hm : l.length ≤ 140737488355328) :
    Calls Try.prog 30 #[.slice a n c] w fun e w' => ∃ g a1 c1, e = .returned (.pointer (some ⟨g, 0, none⟩)) ∧ w.heap.size ≤ g ∧ Blk w' g 79 [.slice a1 l.length c1, .int .i64 0, .bool true] ∧ Row w' a1 (l.map b8) ∧ l.length ≤ c1 ∧ c1 ≤ maxLen ∧
      (0 < l.length → w.heap.size ≤ (hd a1).block ∧ (hd a1).block < w'.heap.size) ∧ Below w.heap.size w w' := by
  subst hn
  go_enter Try.func30, Try.ntmps30
  go_wp2_with fail
  refine (clone_any a _ c l w rfl hl hm).mono ?_
  rintro e w1 ⟨v, rfl, hF⟩
  have hF1 := hF.1
  obtain ⟨a1, c1, rfl, hr, hb, h1, h2⟩ := hF.open
  go_wp2
  go_ret
  have hb2 := (Below.refl w1.heap.size w1).alloc (Nat.le_refl _) (.cells #[.slice a1 l.length c1, .int .i64 0, .bool true] 79)
  obtain ⟨_, _, hv, _, hm2, _⟩ := owns_row hF1
  refine ⟨w1.heap.size, a1, c1, rfl, hb.size, Blk.new w1 _ _, hr.below hb2, h2, ?_, fun h0 => ⟨?_, ?_⟩, Gr.trans hb hb2⟩
  · cases hv; exact hm2
  · rcases owns_bytes hF1 with ⟨_, h⟩ | ⟨g, c, rest, hv, hg, _⟩
    · subst h; simp at h0
    · cases hv; exact hg
  · have := Row.block_lt hr (by simpa using h0)
    simp; omega
theorem open_any {a : Option Addr} {n c : Nat} {l : List UInt8} {w : World} (hn : n = l.length) (hl : Row w a (l.map b8)) (hm : l.length ≤ 140737488355328) :
    Calls Try.prog 30 #[.slice a n c] w fun e w' => ∃ g, e = .returned (.pointer (some ⟨g, 0, none⟩)) ∧ w.heap.size ≤ g ∧ RdAt w'.heap.size w' g l 0 ∧ Below w.heap.size w w' := by
  refine (open_far hn hl hm).mono ?_
  rintro e w1 ⟨g, a1, c1, rfl, h1, h2, h3, h4, h5, h6, h7⟩
  exact ⟨g, rfl, h1, ⟨a1, c1, h2, h3, h4, h5, fun h0 => (h6 h0).2⟩, h7⟩

theorem bytes_any {w : World} {g : Nat} {l : List UInt8} {e n : Int} (h : RdAt B w g l e) (hl : l.length ≤ 140737488355328) :
    Calls Try.prog 51 #[.pointer (some ⟨g, 0, none⟩), .int .i64 n] w fun r w' => ∃ v, r = .returned v ∧ w'.ownsRow w.heap.size 5 1 v (rdGot l e n).length ((rdGot l e n).map b8) ∧ RdAt B w' g (rdRest l e n) (rdErr l e n) ∧ w.grownBy w' (some g) := by
  have hgl : (rdGot l e n).length ≤ l.length := by unfold rdGot; split <;> simp; omega
  go_enter Try.func51, Try.ntmps51
  go_wp2_with fail
  refine (take_any h).mono ?_
  rintro e1 w1 ⟨a, c, rfl, h1, h2, hr, hrd, hg⟩
  go_wp2_with fail
  refine (clone_any a _ c _ w1 rfl hr (by omega)).mono ?_
  rintro e2 w2 ⟨v, rfl, ho, hb⟩
  go_wp2
  go_ret
  exact ⟨v, rfl, ownsRow_mono ho hg.size, hrd.keep hb, grownBy_trans hg (grownBy_below hb)⟩

theorem text_any {w : World} {g : Nat} {l : List UInt8} {e n : Int} (h : RdAt B w g l e) :
    Calls Try.prog 63 #[.pointer (some ⟨g, 0, none⟩), .int .i64 n] w fun r w' => r = .returned (.string (str (rdGot l e n))) ∧ RdAt B w' g (rdRest l e n) (rdErr l e n) ∧ w.grownBy w' (some g) := by
  go_enter Try.func63, Try.ntmps63
  go_wp2_with fail
  refine (take_any h).mono ?_
  rintro e1 w1 ⟨a, c, rfl, h1, h2, hr, hrd, hg⟩
  have hcv := run_convert_row (P := Try.prog) (src := 22) (e := 5) (dst := 9) (c := c) eB.ht Try.underlying5 Try.underlying9 rfl hr
  go_wp2
  go_ret
  exact ⟨rfl, hrd, hg⟩

/-- Num asks ErrArg first. -/
def numE (e n : Int) : Int := if e = 0 ∧ (n < 1 ∨ 8 < n) then 2 else e
theorem num_any {w : World} {g : Nat} {l : List UInt8} {e n : Int} (h : RdAt B w g l e) :
    Calls Try.prog 44 #[.pointer (some ⟨g, 0, none⟩), .int .i64 n] w fun r w' => r = .returned (.int .u64 (gV (rdGot l (numE e n) n) : Int)) ∧ RdAt B w' g (rdRest l (numE e n) n) (rdErr l (numE e n) n) ∧ w.grownBy w' (some g) := by
  have h' := h
  obtain ⟨a, c, hB, hr, h1, h2, hk⟩ := h
  have c1 : w.cell? ⟨g, 1, none⟩ = _ := hB.cell rfl
  have f1 := hB.free 1
  by_cases hc : e = 0 ∧ (n < 1 ∨ 8 < n)
  · have hE : numE e n = 2 := if_pos hc
    rw [hE]
    clear hE
    obtain ⟨rfl, hn⟩ := hc
    have hg1 : w.grownBy (w.setCell ⟨g, 1, none⟩ (.int .i64 2)) (some g) := grown_set (World.grownBy.refl _ _) _ _
    have h2' : RdAt B (w.setCell ⟨g, 1, none⟩ (.int .i64 2)) g l 2 := ⟨a, c, hB.set 1 (.int .i64 2), h'.row hr hg1, h1, h2, hk⟩
    rcases hn with hn | hn
    · go_enter Try.func44, Try.ntmps44
      go_wp2_with fail
      refine (err_any h').mono ?_
      rintro e1 w1 ⟨rfl, rfl⟩
      go_wp2_with fail
      refine (take_any h2').mono ?_
      rintro e1 w1 ⟨a1, c1, rfl, _, _, hr1, hrd, hg⟩
      go_wp2_with fail
      refine (get_all rfl hr1).mono ?_
      rintro e1 w2 ⟨rfl, rfl⟩
      go_wp2
      go_ret
      exact ⟨rfl, hrd, grownBy_trans hg1 hg⟩
    · have hn1 : ¬ n < 1 := by omega
      go_enter Try.func44, Try.ntmps44
      go_wp2_with fail
      refine (err_any h').mono ?_
      rintro e1 w1 ⟨rfl, rfl⟩
      go_wp2_with fail
      refine (take_any h2').mono ?_
      rintro e1 w1 ⟨a1, c1, rfl, _, _, hr1, hrd, hg⟩
      go_wp2_with fail
      refine (get_all rfl hr1).mono ?_
      rintro e1 w2 ⟨rfl, rfl⟩
      go_wp2
      go_ret
      exact ⟨rfl, hrd, grownBy_trans hg1 hg⟩
  · have hE : numE e n = e := if_neg hc
    rw [hE]
    clear hE
    by_cases he : e = 0
    · subst he
      have hn1 : ¬ n < 1 := fun h => hc ⟨rfl, .inl h⟩
      have hn8 : ¬ 8 < n := fun h => hc ⟨rfl, .inr h⟩
      clear hc
      go_enter Try.func44, Try.ntmps44
      go_wp2_with fail
      refine (err_any h').mono ?_
      rintro e1 w1 ⟨rfl, rfl⟩
      go_wp2_with fail
      refine (take_any h').mono ?_
      rintro e1 w1 ⟨a1, c1, rfl, _, _, hr1, hrd, hg⟩
      go_wp2_with fail
      refine (get_all rfl hr1).mono ?_
      rintro e1 w2 ⟨rfl, rfl⟩
      go_wp2
      go_ret
      exact ⟨rfl, hrd, hg⟩
    · have hne : (e == 0) = false := by simp [he]
      clear hc he
      go_enter Try.func44, Try.ntmps44
      go_wp2_with fail
      refine (err_any h').mono ?_
      rintro e1 w1 ⟨rfl, rfl⟩
      go_wp2_with fail
      refine (take_any h').mono ?_
      rintro e1 w1 ⟨a1, c1, rfl, _, _, hr1, hrd, hg⟩
      go_wp2_with fail
      refine (get_all rfl hr1).mono ?_
      rintro e1 w2 ⟨rfl, rfl⟩
      go_wp2
      go_ret
      exact ⟨rfl, hrd, hg⟩

theorem rrd_cells (a : Option Addr) (n c : Nat) (p e : Int) (i : Nat) (m : Int) : [Value.slice a n c, .int .i64 p, .int .i64 e][i]? ≠ some (.int .u8 m) := by
  match i with
  | 0 => simp
  | 1 => simp
  | 2 => simp
  | i + 3 => simp
def takeE (e n : Int) (num : Bool) : Int := if num = true ∧ e = 0 ∧ (n < 1 ∨ 8 < n) then 2 else e
end Go.Proofs.Ytjdkcocfjbjopaa
