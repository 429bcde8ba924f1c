/- Layer 20: what was found already: the state of the document's match. -/
import Derived.Test.YtcanlgcifnjfaaaDoorPt17
set_option maxRecDepth 20000
namespace Go.Proofs.YtcanlgcifnjfaaaDoor
open Go.RowKit Go.Hd

def iX (S : List UInt8) (i k : Nat) : Nat := i * (S.length + 1) + k
theorem iX_inj {S : List UInt8} {i k i' k' : Nat} (hk : k ≤ S.length) (hk' : k' ≤ S.length) (h : iX S i k = iX S i' k') : i = i' ∧ k = k' := by
  unfold iX at h
  have h1 : (i * (S.length + 1) + k) / (S.length + 1) = i := by
    rw [Nat.mul_comm, Nat.mul_add_div (by omega), Nat.div_eq_of_lt (by omega)]; rfl
  have h2 : (i' * (S.length + 1) + k') / (S.length + 1) = i' := by
    rw [Nat.mul_comm, Nat.mul_add_div (by omega), Nat.div_eq_of_lt (by omega)]; rfl
  have h3 : i = i' := by rw [← h1, ← h2, h]
  subst h3
  exact ⟨rfl, by omega⟩
theorem iX_lt {P S : List UInt8} {i k : Nat} (hi : i ≤ P.length) (hk : k ≤ S.length) : iX S i k < (P.length + 1) * (S.length + 1) := by
  unfold iX
  have : i * (S.length + 1) ≤ P.length * (S.length + 1) := Nat.mul_le_mul_right _ hi
  rw [Nat.add_mul]
  omega
def yes (b : Bool) : Int := if b then 2 else 1
def SeenOK (sh : Bool) (P S : List UInt8) (L : List Value) (s : Nat) : Prop := ∀ i k, i ≤ P.length → k ≤ S.length → s ≤ i + k → okA sh P i → ∃ v : Int, L[iX S i k]? = some (.int .i64 v) ∧ (v = 0 ∨ v = yes (mtA sh P S i k))
def SameTo (P S : List UInt8) (L L' : List Value) (s : Nat) : Prop := L'.length = L.length ∧ ∀ i k, i ≤ P.length → k ≤ S.length → i + k < s → L'[iX S i k]? = L[iX S i k]?
theorem SeenOK.mono {sh : Bool} {P S : List UInt8} {L : List Value} {s t : Nat} (h : SeenOK sh P S L s) (hs : s ≤ t) : SeenOK sh P S L t := fun i k hi hk hs' => h i k hi hk (by omega)
theorem SameTo.refl (P S : List UInt8) (L : List Value) (s : Nat) : SameTo P S L L s := ⟨rfl, fun _ _ _ _ _ => rfl⟩
theorem SameTo.trans {P S : List UInt8} {L L' L'' : List Value} {s : Nat} (h : SameTo P S L L' s) (k : SameTo P S L' L'' s) : SameTo P S L L'' s :=
  ⟨k.1.trans h.1, fun i j hi hj hs => (k.2 i j hi hj hs).trans (h.2 i j hi hj hs)⟩
theorem SameTo.mono {P S : List UInt8} {L L' : List Value} {s t : Nat} (h : SameTo P S L L' s) (hs : t ≤ s) : SameTo P S L L' t := ⟨h.1, fun i j hi hj ht => h.2 i j hi hj (by omega)⟩
theorem SeenOK.mix {sh : Bool} {P S : List UInt8} {L L' : List Value} {s t : Nat} (h : SeenOK sh P S L s) (h' : SeenOK sh P S L' t) (hs : SameTo P S L L' t) : SeenOK sh P S L' s := by
  intro i k hi hk hik hok
  rcases Nat.lt_or_ge (i + k) t with h1 | h1
  · rw [hs.2 i k hi hk h1]; exact h i k hi hk hik hok
  · exact h' i k hi hk h1 hok
/-- One entry is put: those behind it stay. -/
theorem SameTo.set {P S : List UInt8} {L : List Value} {i k : Nat} (_hi : i ≤ P.length) (hk : k ≤ S.length) (v : Value) : SameTo P S L (L.set (iX S i k) v) (i + k) := by
  refine ⟨by simp, fun a b ha hb hab => ?_⟩
  rw [List.getElem?_set_ne]
  intro e
  have := iX_inj hk hb e
  omega
theorem SeenOK.begin {sh : Bool} {P S : List UInt8} {L : List Value} {i k : Nat} (h : SeenOK sh P S L (i + k)) (hk : k ≤ S.length) (v : Value) : SeenOK sh P S (L.set (iX S i k) v) (i + k + 1) := by
  intro a b ha hb hab hok
  obtain ⟨x, h1, h2⟩ := h a b ha hb (by omega) hok
  refine ⟨x, ?_, h2⟩
  rw [List.getElem?_set_ne, h1]
  intro e
  have := iX_inj hk hb e
  omega
/-- What was found is put: the entries of its sum stand as they did, but for its own. -/
theorem SeenOK.done {sh : Bool} {P S : List UInt8} {L L2 L3 : List Value} {i k : Nat} (h : SeenOK sh P S L (i + k)) (_hi : i ≤ P.length) (hk : k ≤ S.length) (hl : iX S i k < L.length) (v : Value)
    (h2 : SeenOK sh P S L2 (i + k + 1)) (hs : SameTo P S (L.set (iX S i k) v) L2 (i + k + 1))
    (h3 : L3 = L2.set (iX S i k) (.int .i64 (yes (mtA sh P S i k)))) : SeenOK sh P S L3 (i + k) ∧ SameTo P S L L3 (i + k) ∧ L3[iX S i k]? = some (.int .i64 (yes (mtA sh P S i k))) := by
  subst h3
  have hl2 : iX S i k < L2.length := by rw [hs.1, List.length_set]; exact hl
  refine ⟨?_, ?_, List.getElem?_set_self hl2⟩
  · intro a b ha hb hab hok
    by_cases e : iX S i k = iX S a b
    · obtain ⟨rfl, rfl⟩ := iX_inj hk hb e
      exact ⟨_, List.getElem?_set_self hl2, .inr rfl⟩
    · rw [List.getElem?_set_ne e]
      rcases Nat.lt_or_ge (i + k) (a + b) with h1 | h1
      · exact h2 a b ha hb (by omega) hok
      · rw [hs.2 a b ha hb (by omega), List.getElem?_set_ne e]
        exact h a b ha hb hab hok
  · refine ⟨by rw [List.length_set, hs.1, List.length_set], fun a b ha hb hab => ?_⟩
    have e : iX S i k ≠ iX S a b := fun e => by have := iX_inj hk hb e; omega
    rw [List.getElem?_set_ne e, hs.2 a b ha hb (by omega), List.getElem?_set_ne e]
/-- It stands as 1 already where the answer is no. -/
theorem set_same {L2 : List Value} {n : Nat} {v : Value} (h : L2[n]? = some v) : L2.set n v = L2 := by
  apply List.ext_getElem?
  intro j
  by_cases e : n = j
  · subst e
    obtain ⟨hn, he⟩ := List.getElem?_eq_some_iff.1 h
    rw [List.getElem?_set_self hn, h]
  · rw [List.getElem?_set_ne e]
structure GlobAt (w : World) (gb sb N c : Nat) (sh : Bool) (P S : List UInt8) (L : List Value) : Prop where
  glob : Blk w gb 76 [.string (str P), .string (str S), .bool sh, .slice (some ⟨sb, 0, none⟩) N c]
  seen : Blk w sb 3 L
  ne : gb ≠ sb
  size : N = (P.length + 1) * (S.length + 1)
  le : N ≤ L.length
/-- The state between calls. -/
def GlI (gb sb N c : Nat) (sh : Bool) (P S : List UInt8) (L0 : List Value) (s : Nat) (w0 w : World) : Prop := ∃ L, GlobAt w gb sb N c sh P S L ∧ SeenOK sh P S L s ∧ SameTo P S L0 L s ∧ w0.grownBy w (some sb)
theorem GlI.glob {gb sb N c : Nat} {sh : Bool} {P S : List UInt8} {L0 : List Value} {s : Nat} {w0 w : World} (h : GlI gb sb N c sh P S L0 s w0 w) : Blk w gb 76 [.string (str P), .string (str S), .bool sh, .slice (some ⟨sb, 0, none⟩) N c] := by
  obtain ⟨L, h1, _⟩ := h
  exact h1.glob
theorem GlI.start {gb sb N c : Nat} {sh : Bool} {P S : List UInt8} {L : List Value} {s : Nat} {w : World} (h : GlobAt w gb sb N c sh P S L) (hs : SeenOK sh P S L s) : GlI gb sb N c sh P S L s w w :=
  ⟨L, h, hs, SameTo.refl _ _ _ _, rfl, rfl, rfl, Nat.le_refl _, fun _ _ _ => rfl⟩
theorem GlI.next {gb sb N c : Nat} {sh : Bool} {P S : List UInt8} {L0 L : List Value} {s t : Nat} {w0 w w' : World} (h1 : GlobAt w gb sb N c sh P S L) (h2 : SeenOK sh P S L s) (h3 : SameTo P S L0 L s) (h4 : w0.grownBy w (some sb)) (hst : s ≤ t) (h : GlI gb sb N c sh P S L t w w') : GlI gb sb N c sh P S L0 s w0 w' := by
  obtain ⟨L', g1, g2, g3, g4⟩ := h
  exact ⟨L', g1, h2.mix g2 g3, h3.trans (g3.mono hst), grownBy_trans h4 g4⟩
end Go.Proofs.YtcanlgcifnjfaaaDoor
