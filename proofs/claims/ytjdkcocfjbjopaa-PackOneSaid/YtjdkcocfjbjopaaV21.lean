/- Layer 05: Small; values compared. -/
import Derived.Test.YtjdkcocfjbjopaaV19
import Derived.StillTailTactics
set_option maxRecDepth 20000
namespace Go.Proofs.Ytjdkcocfjbjopaa
open Go.RowKit Go.Hd
attribute [local go_sem ↓] h_ldV h_stV h_alV
attribute [local go_sem] r_ldV r_stV r_alV

set_option maxHeartbeats 1000000 in
theorem small_any {w0 w : World} {cs : List Value} {v : PV} (h : VAt w0 cs v) (hbw : Below w0.heap.size w0 w) :
    Calls Try.prog 10 #[.agg cs.toArray] w fun e w' => ∃ cs', e = .returned (.agg (List.toArray cs')) ∧ VAtP (fun b => w.heap.size ≤ b) w' cs' (smallF v) ∧ Below w.heap.size w w' := by
  have hsz := hbw.size
  have x6 : cs.toArray.size = 6 := by simpa using h.len
  have zs := zV_size
  obtain ⟨W, hW⟩ : ∃ W, W = ((w.alloc (.cells cs.toArray 26)).alloc (.cells zV 26)).alloc (.cells #[.int .i64 60] 3) := ⟨_, rfl⟩
  have hbW : Below w.heap.size w W := by rw [hW]; exact (((Below.refl _ _).alloc (Nat.le_refl _) _).alloc (by simp) _).alloc (by simp; omega) _
  have A0 : Blk W w.heap.size 26 cs := by rw [hW]; simpa using ((Blk.new w 26 cs.toArray).alloc (.cells zV 26)).alloc (.cells #[.int .i64 60] 3)
  have R0 : Blk W (w.heap.size + 1) 26 zV.toList := by
    have := (Blk.new (w.alloc (.cells cs.toArray 26)) 26 zV).alloc (.cells #[.int .i64 60] 3)
    rw [drew_alloc_size, ← hW] at this
    exact this
  have L0 : Blk W (w.heap.size + 2) 3 [.int .i64 ((60 : Nat) : Int)] := by
    have := Blk.new ((w.alloc (.cells cs.toArray 26)).alloc (.cells zV 26)) 3 #[.int .i64 60]
    rw [drew_alloc_size, drew_alloc_size, ← hW] at this
    exact this
  have hf := few_any h 60 60 W (w.heap.size + 2) (by decide) (by decide) (by decide) (hbw.trans (hbW.mono hsz)) (by omega) L0
  have q1 : (ldOp 26 (.pointer (some ⟨w.heap.size, 0, none⟩))).run Try.prog W = .ok (.agg cs.toArray) W := ldOp_all (P := Try.prog) (ty := 26) A0 Try.underlying26 rfl (by rw [h.len]; exact sizeV)
  rw [hW] at hf q1
  go_enter Try.func10, Try.ntmps10
  go_wp2_with fail
  refine hf.mono ?_
  rintro e w1 ⟨cs', rfl, hv, hl, hg⟩
  rw [← hW] at hg hv
  have x6' : (List.toArray cs').size = 6 := by simpa using hv.len
  have R1 := R0.grown hg (by omega)
  have HST := st_row R1 (by rfl) (List.toArray cs') x6' (all_oneCell_toArray hv.one)
  have HB2 := setRow_blk R1 cs'
  have HG2 := setRow_gr w1 (w.heap.size + 1) (List.toArray cs')
  have hWs := hbW.size
  have hW3 : W.heap.size = w.heap.size + 3 := by rw [hW]; simp
  have HF : Hid (VAtP (fun b => w.heap.size ≤ b) (w1.setRow (w.heap.size + 1) (List.toArray cs')) cs' (smallF v) ∧ Below w.heap.size w (w1.setRow (w.heap.size + 1) (List.toArray cs'))) := by
    refine ⟨(hv.same (w' := w1.setRow (w.heap.size + 1) _) (fun z hz hlt => HG2.block z hlt (by simp; omega))).mono (fun z hz _ => by omega), ?_⟩
    have h1 : Below w.heap.size w w1 := Below.grown hbW hg hWs (fun k hk => by cases hk; omega)
    exact Below.grown h1 HG2 h1.size (fun k hk => by cases hk; omega)
  clear hv hl hg R1 R0 A0 L0 HG2 q1 hW hbW hf hW3 hWs
  go_wp2
  obtain ⟨h1, h2⟩ := HF.out
  refine bodyPost_ret (results_cell_row (fn := Try.f10) (by rfl) _ _ (w.heap.size + 1) 26 _ (0, 0) _ (by rfl) HB2 Try.underlying26 rfl (by rw [x6']; exact sizeV)) rfl ⟨_, rfl, h1, h2⟩

/-! Values compared. -/
mutual
def sameV : PV → PV → Bool
  | .mk k n b t ks l, .mk k' n' b' t' ks' l' => k == k' && (k != 3 || n == n') && (k != 4 || b == b') && (k != 5 || t == t') && (k != 7 || ks == ks') && ((k != 6 && k != 7) || sameL l l')
def sameL : List PV → List PV → Bool
  | [], [] => true
  | x :: l, y :: m => sameV x y && sameL l m
  | _, _ => false
end
mutual
theorem sameV_refl : ∀ v : PV, sameV v v = true
  | .mk k n b t ks l => by unfold sameV; simp [sameL_refl l]
theorem sameL_refl : ∀ l : List PV, sameL l l = true
  | [] => by unfold sameL; rfl
  | x :: l => by unfold sameL; rw [sameV_refl x, sameL_refl l]; rfl
end
theorem sameL_len : ∀ {l m : List PV}, sameL l m = true → l.length = m.length
  | [], [], _ => rfl
  | [], y :: m, h => by simp [sameL] at h
  | x :: l, [], h => by simp [sameL] at h
  | x :: l, y :: m, h => by
    simp only [sameL, Bool.and_eq_true] at h
    rw [List.length_cons, List.length_cons, sameL_len h.2]
theorem sameL_take : ∀ {l m : List PV} (j : Nat) (h1 : j < l.length) (h2 : j < m.length), sameL (l.take (j + 1)) (m.take (j + 1)) = (sameL (l.take j) (m.take j) && sameV l[j] m[j])
  | [], _, j, h1, _ => by simp at h1
  | _ :: _, [], j, _, h2 => by simp at h2
  | x :: l, y :: m, 0, _, _ => by simp [sameL]
  | x :: l, y :: m, j + 1, h1, h2 => by
    have := sameL_take (l := l) (m := m) j (by simpa using h1) (by simpa using h2)
    simp only [List.take_succ_cons, sameL, List.getElem_cons_succ, this, Bool.and_assoc]
theorem sameL_stop {l m : List PV} {j : Nat} (h1 : j < l.length) (h2 : j < m.length) (h : sameV l[j] m[j] = false) : sameL l m = false := by
  induction l generalizing m j with
  | nil => simp at h1
  | cons x l ih =>
    cases m with
    | nil => simp at h2
    | cons y m =>
      cases j with
      | zero => simp at h; simp [sameL, h]
      | succ j => simp only [List.getElem_cons_succ] at h; simp [sameL, ih (by simpa using h1) (by simpa using h2) h]
theorem sameL_diff {l m : List PV} (h : l.length ≠ m.length) : sameL l m = false := by
  rcases Bool.eq_false_or_eq_true (sameL l m) with h2 | h2
  · exact absurd (sameL_len h2) h
  · exact h2
end Go.Proofs.Ytjdkcocfjbjopaa
