/- Layer 05: Small; values compared. -/
import Derived.Test.YtakliplkabgmbaaV19
import Derived.StillTailTactics
set_option maxRecDepth 20000
namespace Go.Proofs.Ytakliplkabgmbaa
open Go.RowKit Go.Hd
attribute [local go_sem ↓] h_ldV h_stV h_alV
attribute [local go_sem] r_ldV r_stV r_alV

/-! Values compared. -/
mutual
def sameV : PV → PV → Bool
  | .mk k n b t ks l, .mk k' n' b' t' ks' l' => k == k' && (k != 3 || n == n') && (k != 4 || b == b') && (k != 5 || t == t') && (k != 7 || ks == ks') && ((k != 6 && k != 7) || sameL l l')
def sameL : List PV → List PV → Bool
  | [], [] => true
  | x :: l, y :: m => sameV x y && sameL l m
  | _, _ => false
end
mutual
theorem sameV_refl : ∀ v : PV, sameV v v = true
  | .mk k n b t ks l => by unfold sameV; simp [sameL_refl l]
theorem sameL_refl : ∀ l : List PV, sameL l l = true
  | [] => by unfold sameL; rfl
  | x :: l => by unfold sameL; rw [sameV_refl x, sameL_refl l]; rfl
end
theorem sameL_len : ∀ {l m : List PV}, sameL l m = true → l.length = m.length
  | [], [], _ => rfl
  | [], y :: m, h => by simp [sameL] at h
  | x :: l, [], h => by simp [sameL] at h
  | x :: l, y :: m, h => by
    simp only [sameL, Bool.and_eq_true] at h
    rw [List.length_cons, List.length_cons, sameL_len h.2]
theorem sameL_take : ∀ {l m : List PV} (j : Nat) (h1 : j < l.length) (h2 : j < m.length), sameL (l.take (j + 1)) (m.take (j + 1)) = (sameL (l.take j) (m.take j) && sameV l[j] m[j])
  | [], _, j, h1, _ => by simp at h1
  | _ :: _, [], j, _, h2 => by simp at h2
  | x :: l, y :: m, 0, _, _ => by simp [sameL]
  | x :: l, y :: m, j + 1, h1, h2 => by
    have := sameL_take (l := l) (m := m) j (by simpa using h1) (by simpa using h2)
    simp only [List.take_succ_cons, sameL, List.getElem_cons_succ, this, Bool.and_assoc]
theorem sameL_stop {l m : List PV} {j : Nat} (h1 : j < l.length) (h2 : j < m.length) (h : sameV l[j] m[j] = false) : sameL l m = false := by
  induction l generalizing m j with
  | nil => simp at h1
  | cons x l ih =>
    cases m with
    | nil => simp at h2
    | cons y m =>
      cases j with
      | zero => simp at h; simp [sameL, h]
      | succ j => simp only [List.getElem_cons_succ] at h; simp [sameL, ih (by simpa using h1) (by simpa using h2) h]
theorem sameL_diff {l m : List PV} (h : l.length ≠ m.length) : sameL l m = false := by
  rcases Bool.eq_false_or_eq_true (sameL l m) with h2 | h2
  · exact absurd (sameL_len h2) h
  · exact h2
end Go.Proofs.Ytakliplkabgmbaa
