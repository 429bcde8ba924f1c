/- Slices of texts of the call's own; a text cut. -/
import Derived.Test.YtakliplkabgmbaaV1
import Derived.Test.YtakliplkabgmbaaRows
set_option maxRecDepth 20000
namespace Go.Proofs.Ytakliplkabgmbaa
open Go.RowKit Go.Hd

/-! What a call that appends to an owned row may change. -/
structure Gro (w w' : World) (v u : Value) : Prop where
  gr : w.grownBy w' v.ownBlock
  own : ∀ k, u.ownBlock = some k → v.ownBlock = some k ∨ w.heap.size ≤ k
theorem Gro.refl (w : World) (v : Value) : Gro w w v v := ⟨⟨rfl, rfl, rfl, Nat.le_refl _, fun _ _ _ => rfl⟩, fun _ h => .inl h⟩
theorem Gro.trans {a b c : World} {v u x : Value} (h : Gro a b v u) (k : Gro b c u x) : Gro a c v x := by
  refine ⟨⟨k.gr.os.trans h.gr.os, k.gr.tape.trans h.gr.tape, k.gr.output.trans h.gr.output, Nat.le_trans h.gr.size k.gr.size, fun i hi hne => ?_⟩, fun i hi => ?_⟩
  · rw [k.gr.block i (Nat.lt_of_lt_of_le hi h.gr.size) (fun e => ?_), h.gr.block i hi hne]
    rcases h.own i e.symm with h1 | h1
    · exact hne h1.symm
    · omega
  · rcases k.own i hi with h1 | h1
    · exact h.own i h1
    · exact .inr (Nat.le_trans h.gr.size h1)
theorem Gro.ofBelow {a b : World} {v : Value} (h : Below a.heap.size a b) : Gro a b v v := ⟨grownBy_below h, fun _ h => .inl h⟩
theorem Gro.size {a b : World} {v u : Value} (h : Gro a b v u) : a.heap.size ≤ b.heap.size := h.gr.size
/-- Old memory is as it was. -/
theorem Gro.below {w w' : World} {v u : Value} {base old : Nat} (h : Gro w w' v u) (hv : ∀ k, v.ownBlock = some k → base ≤ k) (hob : old ≤ base) (ho : old ≤ w.heap.size) : Below old w w' :=
  ⟨h.gr.os, h.gr.tape, h.gr.output, h.gr.size, fun i hi => h.gr.block i (by omega) (fun e => by have := hv i e.symm; omega)⟩
theorem Gro.blk {w w' : World} {v u : Value} {q : Nat} {T : TypeId} {xs : List Value} (h : Gro w w' v u) (hb : Blk w q T xs) (hq : v.ownBlock ≠ some q) : Blk w' q T xs ∧ u.ownBlock ≠ some q := by
  refine ⟨Blk.keptBy hb h.gr hq, fun e => ?_⟩
  rcases h.own q e with h1 | h1
  · exact hq h1
  · have := hb.lt; omega
theorem owns_rowN {w : World} {base : Nat} {e : TypeId} {v : Value} {n size : Nat} {xs : List Value} (h : w.ownsRow base e size v n xs) (_hs : 0 < size) :
    ∃ a c, v = .slice a n c ∧ n ≤ c ∧ c ≤ maxLen ∧ Row w a xs ∧ (0 < xs.length → v.ownBlock = some (hd a).block ∧ base ≤ (hd a).block ∧ (hd a).block < w.heap.size) := by
  obtain ⟨hl, ⟨rfl, rfl⟩ | ⟨g, c, cur, rfl, hg, hb, hn, hm, hy, ht⟩⟩ := h
  · obtain rfl : xs = [] := List.eq_nil_of_length_eq_zero (by simpa using hl)
    exact ⟨none, 0, rfl, Nat.le_refl _, Nat.zero_le _, Row.nil _ _, fun h => by simp at h⟩
  · have hB : Blk w g e cur.toList := by unfold Blk; simpa using hb
    refine ⟨_, c, rfl, hn, hm, ?_, fun _ => ⟨rfl, hg, hB.lt⟩⟩
    rw [← ht]; exact hB.row.take _
theorem own_app1 {t ty e : TypeId} {z : Value} {bytes : Nat} (E : Elem Try.prog t e z 1 bytes) {w : World} {base : Nat} {v : Value} {n : Nat} {xs : List Value} (hown : w.ownsRow base e 1 v n xs)
    (x : Value) (hx : x.oneCell' = true) (h63 : n + 1 ≤ maxLen) (hbytes : (n + 1) * bytes ≤ 140737488355328) (hbase : base ≤ w.heap.size) :
    ∃ a' c' w', (Builtin.append_ #[t, t] ty #[v, .slice (some ⟨w.heap.size, 0, none⟩) 1 1]).run Try.prog (w.alloc (.cells #[x] e)) = .ok (.slice a' (n + 1) c') w' ∧ w'.ownsRow base e 1 (.slice a' (n + 1) c') (n + 1) (xs ++ [x]) ∧ Gro w w' v (.slice a' (n + 1) c') := by
  have hsrc : Src Try.prog 1 t (.slice (some ⟨w.heap.size, 0, none⟩) 1 1) 1 [x] (w.alloc (.cells #[x] e)) :=
    Src.ofRow E.ht _ 1 1 [x] (by decide) rfl (Blk.new w e #[x]).row (fun u hu => by simp at hu; subst hu; exact hx)
  obtain ⟨v', w', h1, h2, h3, h4⟩ := append_srcK (ty := ty) E (hown.alloc _) hsrc h63 hbytes (by simp; omega)
  obtain ⟨a', c', rfl, _⟩ := owns_rowN h2 (by decide)
  have hb0 : Below w.heap.size w (w.alloc (.cells #[x] e)) := (Below.refl _ _).alloc (Nat.le_refl _) _
  exact ⟨a', c', w', h1, h2, (Gro.ofBelow hb0).trans ⟨h3, h4⟩⟩
theorem eS : Elem Try.prog 60 9 (.string .empty) 1 16 := ⟨by kernel_rfl, by kernel_rfl, rfl, by decide⟩
/-- A slice of texts of the call's own. -/
abbrev KsAt (base : Nat) (w : World) (u : Value) (ks : List (List UInt8)) : Prop := w.ownsRow base 9 1 u ks.length (ks.map strV)
theorem str_take (l : List UInt8) (n : Nat) : (str l).extract 0 n = str (l.take n) := by
  apply ByteArray.ext
  simp [str, ByteArray.data_extract, List.extract_toArray, List.extract_eq_take_drop]
theorem short_any (l : List UInt8) (n : Nat) (w : World) (h : n ≤ 1000000) : Calls Try.prog 8 #[.string (str l), .int .i64 (n : Int)] w fun e w' => e = .returned (.string (str (l.take n))) ∧ w = w' := by
  have hs : (str l).size = l.length := str_size l
  by_cases hlt : n < l.length
  · have h1 : (n : Int) < (l.length : Int) := by omega
    have HT := Lib.hid (str_take l n)
    have n0 : (0 : Int) ≤ (n : Int) := by omega
    have n1 : (n : Int) ≤ (l.length : Int) := by omega
    go_enter Try.func8, Try.ntmps8
    go_wp2
    go_ret
    refine ⟨?_, rfl⟩
    rw [← HT.out]
    rfl
  · have h1 : ¬ (n : Int) < (l.length : Int) := by omega
    have HT : Hid (l.take n = l) := List.take_of_length_le (by omega)
    go_enter Try.func8, Try.ntmps8
    go_wp2
    go_ret
    refine ⟨?_, rfl⟩
    rw [HT.out]
    rfl
end Go.Proofs.Ytakliplkabgmbaa
