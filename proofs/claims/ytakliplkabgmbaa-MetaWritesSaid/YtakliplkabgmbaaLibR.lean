/- Rows whose elements have many cells. -/
import Derived.Test.YtakliplkabgmbaaLibA
set_option maxRecDepth 20000
namespace Go.Hd
open Go Go.RowKit

theorem flatten_at {α : Type} {s : Nat} : ∀ {xs : List (List α)}, (∀ x ∈ xs, x.length = s) → ∀ {i j : Nat} {c : List α} {u : α}, xs[i]? = some c → c[j]? = some u → xs.flatten[i * s + j]? = some u
  | [], _, i, j, c, u, h, _ => by simp at h
  | x :: xs, hs, i, j, c, u, h1, h2 => by
    have hx := hs x (by simp)
    rw [List.flatten_cons]
    cases i with
    | zero =>
      simp only [List.getElem?_cons_zero, Option.some.injEq] at h1
      subst h1
      have hj : j < x.length := by
        rcases Nat.lt_or_ge j x.length with h | h
        · exact h
        · rw [List.getElem?_eq_none h] at h2; cases h2
      rw [Nat.zero_mul, Nat.zero_add, List.getElem?_append_left hj]; exact h2
    | succ i =>
      rw [Nat.add_mul, Nat.one_mul, List.getElem?_append_right (by omega), hx, show i * s + s + j - s = i * s + j by omega]
      exact flatten_at (fun y hy => hs y (by simp [hy])) (by simpa using h1) h2
theorem flatten_len {α : Type} {s : Nat} : ∀ {xs : List (List α)}, (∀ x ∈ xs, x.length = s) → xs.flatten.length = xs.length * s
  | [], _ => by simp
  | x :: xs, hs => by
    rw [List.flatten_cons, List.length_append, hs x (by simp), flatten_len (fun y hy => hs y (by simp [hy])), List.length_cons, Nat.add_mul]; omega
/-- The cells of element i. -/
theorem Row.elem {w : World} {a : Option Addr} {s : Nat} {xs : List (List Value)} (h : Row w a xs.flatten) (hs : ∀ x ∈ xs, x.length = s) {i : Nat} {c : List Value} (hc : xs[i]? = some c) : ∀ j v, c[j]? = some v → w.cell? (((hd a).add (i * s)).add j) = some v := by
  intro j v hv
  rw [add_add]
  exact h.2 _ _ (flatten_at hs hc hv)
theorem Row.elemSome {w : World} {a : Option Addr} {s : Nat} {xs : List (List Value)} (h : Row w a xs.flatten) (hs : ∀ x ∈ xs, x.length = s) (h0 : 0 < s) {i : Nat} (hi : i < xs.length) : a.isSome = true := by
  refine h.1 ?_
  rw [flatten_len hs]
  exact Nat.mul_pos (by omega) h0
/-- One field of element i. -/
theorem Row.field {w : World} {a : Option Addr} {s : Nat} {xs : List (List Value)} (h : Row w a xs.flatten) (hs : ∀ x ∈ xs, x.length = s) {i j : Nat} {c : List Value} {v : Value} (hc : xs[i]? = some c) (hv : c[j]? = some v) : w.cell? ((hd a).add (i * s + j)) = some v :=
  h.2 _ _ (flatten_at hs hc hv)
theorem cell_off {w : World} {a : Addr} {i j : Nat} {v : Value} (h : w.cell? (a.add (i + j)) = some v) : w.cell? ⟨(a.add i).block, (a.add i).off + j, none⟩ = some v := by
  unfold World.cell? Addr.add at *
  by_cases hi : i = 0 <;> by_cases hj : j = 0 <;> simp [hi, hj, Nat.add_assoc] at h ⊢
  · cases hb : w.heap[a.block]? with
    | none => rw [hb] at h; cases h
    | some o =>
      rw [hb] at h
      cases o with
      | cells c e f =>
        simp only at h ⊢
        split at h
        · cases h
        · exact h
      | _ => cases h
  all_goals exact h

/-- A field that holds numbers. -/
def NumAt (ok : Nat → Prop) (w : World) (cell : Value) (ns : List Int) : Prop :=
  ∃ a n c, cell = .slice a n c ∧ n = ns.length ∧ n ≤ c ∧ c ≤ maxLen ∧ Row w a (ns.map (Value.int .i64)) ∧ (0 < n → ok (hd a).block)
theorem NumAt.mono {ok ok' : Nat → Prop} {w : World} {cell : Value} {ns : List Int} (h : NumAt ok w cell ns) (hk : ∀ b, ok b → ok' b) : NumAt ok' w cell ns := by
  obtain ⟨a, n, c, h1, h2, h3, h4, h5, h6⟩ := h
  exact ⟨a, n, c, h1, h2, h3, h4, h5, fun h => hk _ (h6 h)⟩
theorem NumAt.below {ok : Nat → Prop} {w w' : World} {cell : Value} {ns : List Int} (h : NumAt ok w cell ns) (hb : Below w.heap.size w w') : NumAt ok w' cell ns := by
  obtain ⟨a, n, c, h1, h2, h3, h4, h5, h6⟩ := h
  exact ⟨a, n, c, h1, h2, h3, h4, h5.below hb, h6⟩
theorem NumAt.kept {ok : Nat → Prop} {w w' : World} {r : Option Nat} {cell : Value} {ns : List Int} (h : NumAt ok w cell ns) (hg : w.grownBy w' r) (hk : ∀ b, ok b → r ≠ some b) : NumAt ok w' cell ns := by
  obtain ⟨a, n, c, h1, h2, h3, h4, h5, h6⟩ := h
  refine ⟨a, n, c, h1, h2, h3, h4, Row.keptFar h5 hg (fun h0 => hk _ (h6 (by simpa [h2] using h0))), h6⟩
end Go.Hd
