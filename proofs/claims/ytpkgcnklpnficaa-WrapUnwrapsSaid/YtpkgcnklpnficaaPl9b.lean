/- Plain laws of layer 9 (wrap): looked at, and unwrapped. -/
import Derived.Test.YtpkgcnklpnficaaPl9
namespace Go.Hd
open Go

def sizeL (l : List UInt8) : Nat := getL ((l.drop 1).take 4)
def lookF (l : List UInt8) : Nat × Nat × Int :=
  if l.length < 5 then (0, 0, 3)
  else if 1 < (l.getD 0 0).toNat ∨ 16379 < sizeL l then (0, 0, 4)
  else ((l.getD 0 0).toNat, sizeL l, 0)
theorem lookF_short {l : List UInt8} (h : l.length < 5) : lookF l = (0, 0, 3) := if_pos h
theorem lookF_form {l : List UInt8} (h : ¬ l.length < 5) (k : 1 < (l.getD 0 0).toNat ∨ 16379 < sizeL l) : lookF l = (0, 0, 4) := by
  unfold lookF; rw [if_neg h, if_pos k]
theorem lookF_ok {l : List UInt8} (h : ¬ l.length < 5) (k : ¬ 1 < (l.getD 0 0).toNat) (k' : ¬ 16379 < sizeL l) : lookF l = ((l.getD 0 0).toNat, sizeL l, 0) := by
  unfold lookF; rw [if_neg h, if_neg (fun e => e.elim k k')]
/-- A squeezed text, loosened. -/
def loosF (k : List UInt8) (n : Nat) : List UInt8 × Int :=
  if (loosenF k n).2 = 5 then ([], 4)
  else if (loosenF k n).2 ≠ 0 then ([], (loosenF k n).2)
  else if (loosenF k n).1.length ≠ n ∨ squeezeF (loosenF k n).1 ≠ k ∨ (loosenF k n).1.length ≤ k.length then ([], 4)
  else ((loosenF k n).1, 0)
def unwrapF (l : List UInt8) : List UInt8 × Int :=
  if (lookF l).2.2 ≠ 0 then ([], (lookF l).2.2)
  else if (lookF l).1 = 1 then loosF (l.drop 5) (lookF l).2.1
  else if l.length - 5 < (lookF l).2.1 then ([], 3)
  else if (lookF l).2.1 < l.length - 5 then ([], 6)
  else (l.drop 5, 0)
theorem loCopy_le {most : Nat} {t : UInt8} {out l : List UInt8} :
    (∀ r e, loCopy most t out l = .stop r e → r.length ≤ most) ∧ (∀ l' o, loCopy most t out l = .next l' o → o.length ≤ most) := by
  unfold loCopy
  split
  · exact ⟨fun r e h => by cases h; simp, fun l' o h => by cases h⟩
  · split
    · exact ⟨fun r e h => by cases h; simp, fun l' o h => by cases h⟩
    · split
      · exact ⟨fun r e h => by cases h; simp, fun l' o h => by cases h⟩
      · split
        · exact ⟨fun r e h => by cases h; simp, fun l' o h => by cases h⟩
        · refine ⟨fun r e h => (by cases h), fun l' o h => ?_⟩
          cases h
          rw [copyF_length]; omega
theorem loLits_le {most : Nat} {t : UInt8} {out : List UInt8} {a : Nat} {l : List UInt8} :
    (∀ r e, loLits most t out a l = .stop r e → r.length ≤ most) ∧ (∀ l' o, loLits most t out a l = .next l' o → o.length ≤ most) := by
  unfold loLits
  split
  · exact ⟨fun r e h => by cases h; simp, fun l' o h => by cases h⟩
  · split
    · exact ⟨fun r e h => by cases h; simp, fun l' o h => by cases h⟩
    · split
      · exact ⟨fun r e h => by cases h; simp; omega, fun l' o h => by cases h⟩
      · exact loCopy_le
theorem loStep_le {most : Nat} {out l : List UInt8} :
    (∀ r e, loStep most out l = .stop r e → r.length ≤ most) ∧ (∀ l' o, loStep most out l = .next l' o → o.length ≤ most) := by
  cases l with
  | nil => exact ⟨fun r e h => by cases h; simp, fun l' o h => by cases h⟩
  | cons t l =>
    unfold loStep
    simp only
    split
    · exact ⟨fun r e h => by cases h; simp, fun l' o h => by cases h⟩
    · exact loLits_le
theorem loGo_le {most : Nat} : ∀ f (l out : List UInt8), (loGo most f l out).1.length ≤ most
  | 0, _, _ => by simp [loGo]
  | f + 1, l, out => by
    unfold loGo
    split
    · rename_i h; exact loStep_le.1 _ _ h
    · exact loGo_le f _ _
theorem loosenF_le (k : List UInt8) (n : Nat) : (loosenF k (n : Int)).1.length ≤ n := by
  unfold loosenF
  split
  · simp
  · exact loGo_le _ _ _
/-- Wrapped again it is the same: of a squeezed text. -/
theorem wrap_again {w b : List UInt8} {n : Nat} (h5 : 5 ≤ w.length) (h1 : (w.getD 0 0).toNat = 1) (hn : n = sizeL w) (hb : b.length = n) :
    wrapF b false = w ↔ squeezeF b = w.drop 5 ∧ (w.drop 5).length < b.length := by
  have hw : w = 1 :: ((w.drop 1).take 4 ++ w.drop 5) := by
    match w, h5, h1 with
    | a :: w, h5, h1 =>
      have : a = 1 := by
        apply UInt8.toNat_inj.1; simpa using h1
      subst this
      simp [List.take_append_drop]
  have hp : putL b.length 4 = (w.drop 1).take 4 := by
    have := putL_getL ((w.drop 1).take 4)
    rw [show ((w.drop 1).take 4).length = 4 by simp; omega] at this
    rw [hb, hn]; exact this
  constructor
  · intro h
    by_cases hlt : (squeezeF b).length < b.length
    · rw [wrapF_yes hlt, wrapB, hp] at h
      rw [hw] at h
      have h := (List.cons.inj h).2
      have e : squeezeF b = w.drop 5 := by
        have := congrArg (List.drop 4) h
        rw [List.drop_append_of_le_length (by simp; omega), List.drop_append_of_le_length (by simp; omega), List.drop_of_length_le (by simp; omega)] at this
        simpa using this
      exact ⟨e, by rw [← e]; exact hlt⟩
    · rw [wrapF_no hlt, wrapB] at h
      rw [hw] at h
      have h := (List.cons.inj h).1
      exact absurd h (by decide)
  · rintro ⟨e, hlt⟩
    rw [wrapF_yes (by rw [e]; exact hlt), wrapB, hp, e]
    exact hw.symm
end Go.Hd
