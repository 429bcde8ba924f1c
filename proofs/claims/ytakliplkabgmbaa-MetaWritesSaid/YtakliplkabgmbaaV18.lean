/- Layer 05: a small value: its plain law; a text cut; the state of the walk. -/
import Derived.Test.YtakliplkabgmbaaV17
set_option maxRecDepth 20000
namespace Go.Proofs.Ytakliplkabgmbaa
open Go.RowKit Go.Hd

/-! The plain law. -/
def fewL (f : PV → Nat → PV × Nat) : List PV → Nat → List PV × Nat
  | [], m => ([], m)
  | x :: l, m => if 0 < m then ((f x m).1 :: (fewL f l (f x m).2).1, (fewL f l (f x m).2).2) else ([], m)
def fewF : Nat → PV → Nat → PV × Nat
  | 0, v, m => (v, m)
  | d + 1, .mk k n b t ks l, m => (.mk k n (b.take 700) (t.take 700) ((ks.take 40).map (·.take 100)) (fewL (fewF d) (l.take 40) (m - 1)).1, (fewL (fewF d) (l.take 40) (m - 1)).2)
theorem fewL_le {f : PV → Nat → PV × Nat} (hf : ∀ x m, (f x m).2 ≤ m) : ∀ (l : List PV) (m : Nat), (fewL f l m).2 ≤ m ∧ (fewL f l m).1.length ≤ l.length
  | [], m => ⟨Nat.le_refl _, Nat.le_refl _⟩
  | x :: l, m => by
    unfold fewL
    split
    · have h1 := hf x m
      have h2 := fewL_le hf l (f x m).2
      simp only [List.length_cons]
      exact ⟨by omega, by omega⟩
    · simp
theorem fewF_le : ∀ (d : Nat) (v : PV) (m : Nat), (fewF d v m).2 ≤ m
  | 0, v, m => Nat.le_refl _
  | d + 1, .mk k n b t ks l, m => by
    have := (fewL_le (fewF_le d) (l.take 40) (m - 1)).1
    show (fewL (fewF d) (l.take 40) (m - 1)).2 ≤ m
    omega
theorem fewF_lt {d : Nat} {v : PV} {m : Nat} (hd : 1 ≤ d) (hm : 1 ≤ m) : (fewF d v m).2 < m := by
  obtain ⟨d, rfl⟩ : ∃ e, d = e + 1 := ⟨d - 1, by omega⟩
  cases v with
  | mk k n b t ks l =>
    have := (fewL_le (fewF_le d) (l.take 40) (m - 1)).1
    show (fewL (fewF d) (l.take 40) (m - 1)).2 < m
    omega
theorem fewL_again {f : PV → Nat → PV × Nat} (hf : ∀ x m, f (f x m).1 m = f x m) : ∀ (l : List PV) (m : Nat), fewL f (fewL f l m).1 m = fewL f l m
  | [], m => rfl
  | x :: l, m => by
    by_cases h : 0 < m
    · have e : fewL f (x :: l) m = ((f x m).1 :: (fewL f l (f x m).2).1, (fewL f l (f x m).2).2) := by simp only [fewL]; rw [if_pos h]
      rw [e]
      simp only [fewL]
      rw [if_pos h, hf x m, fewL_again hf l]
    · have e : fewL f (x :: l) m = ([], m) := by simp only [fewL]; rw [if_neg h]
      rw [e]; rfl
theorem fewF_again : ∀ (d : Nat) (v : PV) (m : Nat), fewF d (fewF d v m).1 m = fewF d v m
  | 0, v, m => rfl
  | d + 1, .mk k n b t ks l, m => by
    show (PV.mk k n ((b.take 700).take 700) ((t.take 700).take 700) ((((ks.take 40).map (·.take 100)).take 40).map (·.take 100)) (fewL (fewF d) ((fewL (fewF d) (l.take 40) (m - 1)).1.take 40) (m - 1)).1, (fewL (fewF d) ((fewL (fewF d) (l.take 40) (m - 1)).1.take 40) (m - 1)).2) =
      (PV.mk k n (b.take 700) (t.take 700) ((ks.take 40).map (·.take 100)) (fewL (fewF d) (l.take 40) (m - 1)).1, (fewL (fewF d) (l.take 40) (m - 1)).2)
    have hl : (fewL (fewF d) (l.take 40) (m - 1)).1.length ≤ 40 := Nat.le_trans (fewL_le (fewF_le d) _ _).2 (by simp; omega)
    rw [List.take_of_length_le hl, fewL_again (fewF_again d), List.take_of_length_le (by simp; omega : (b.take 700).length ≤ 700), List.take_of_length_le (by simp; omega : (t.take 700).length ≤ 700), List.take_of_length_le (by simp; omega : ((ks.take 40).map (·.take 100)).length ≤ 40)]
    congr 2
    rw [List.map_map]
    congr 1
    funext x
    show (x.take 100).take 100 = x.take 100
    rw [List.take_take, Nat.min_self]
/-- A small value. -/
def smallF (v : PV) : PV := (fewF 60 v 60).1
theorem smallF_again (v : PV) : smallF (smallF v) = smallF v := by unfold smallF; rw [fewF_again]

/-! A text, cut. -/
end Go.Proofs.Ytakliplkabgmbaa
