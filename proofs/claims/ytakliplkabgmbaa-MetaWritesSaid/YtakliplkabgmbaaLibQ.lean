/- A text made bytes, and what is appended to it. -/
import Derived.Test.YtakliplkabgmbaaLib3
import Derived.Lib.ConvBytes
set_option maxRecDepth 20000
namespace Go.Hd
open Go Go.RowKit

/-- v is the call's own and holds l; a mark may stand behind its cells. -/
def OwnQ (E : TypeId) (w : World) (base : Nat) (v : Value) (l : List UInt8) : Prop :=
  ∃ g cap cur fz, v = .slice (some ⟨g, 0, none⟩) l.length cap ∧ base ≤ g ∧ w.heap[g]? = some (.cells cur E fz) ∧ (cur.size ≤ fz.1 ∨ fz.2 = 0) ∧ l.length ≤ cap ∧ cap ≤ maxLen ∧ cur.size = cap ∧ cur.toList.take l.length = l.map b8
theorem OwnQ.lt {E : TypeId} {w : World} {base : Nat} {v : Value} {l : List UInt8} (h : OwnQ E w base v l) : ∀ k, v.ownBlock = some k → base ≤ k ∧ k < w.heap.size := by
  obtain ⟨g, cap, cur, fz, rfl, hb, hg, _⟩ := h
  intro k hk
  simp [Value.ownBlock] at hk
  subst hk
  exact ⟨hb, (Array.getElem?_eq_some_iff.1 hg).1⟩
theorem OwnQ.kept {E : TypeId} {w w' : World} {base : Nat} {r : Option Nat} {v : Value} {l : List UInt8} (h : OwnQ E w base v l) (hg : w.grownBy w' r) (hr : ∀ k, v.ownBlock = some k → r ≠ some k) : OwnQ E w' base v l := by
  obtain ⟨g, cap, cur, fz, rfl, hb, hgg, rest⟩ := h
  refine ⟨g, cap, cur, fz, rfl, hb, ?_, rest⟩
  rw [hg.block g (Array.getElem?_eq_some_iff.1 hgg).1 (fun e => hr g rfl e.symm)]
  exact hgg
theorem OwnQ.below {E : TypeId} {w w' : World} {base : Nat} {v : Value} {l : List UInt8} (h : OwnQ E w base v l) (hb : Below w.heap.size w w') : OwnQ E w' base v l :=
  h.kept (grownBy_below (r := none) hb) (by simp)
theorem OwnQ.mono {E : TypeId} {w : World} {base base' : Nat} {v : Value} {l : List UInt8} (h : OwnQ E w base v l) (hb : base' ≤ base) : OwnQ E w base' v l := by
  obtain ⟨g, cap, cur, fz, h1, h2, rest⟩ := h
  exact ⟨g, cap, cur, fz, h1, Nat.le_trans hb h2, rest⟩
theorem OwnQ.at {E : TypeId} {w : World} {base : Nat} {v : Value} {l : List UInt8} (h : OwnQ E w base v l) : ∃ a c, v = .slice a l.length c ∧ l.length ≤ c ∧ c ≤ maxLen ∧ Row w a (l.map b8) := by
  obtain ⟨g, cap, cur, fz, rfl, hb, hgg, _, hc, hm, hs, ht⟩ := h
  refine ⟨_, cap, rfl, hc, hm, fun _ => rfl, fun i u hu => ?_⟩
  have e : (hd (some ⟨g, 0, none⟩)).add i = ⟨g, i, none⟩ := by unfold Addr.add; simp; omega
  rw [e, cell_of_row w g i cur E fz hgg]
  rw [← ht, List.getElem?_take] at hu
  split at hu
  · simpa using hu
  · cases hu
theorem run_storeCells_atG (P : Program) (g o : Nat) (t : TypeId) (fz : Nat × Nat) : ∀ (vs : List Value) (i : Nat) (cur : Array Value) (w : World), w.heap[g]? = some (.cells cur t fz) → (cur.size ≤ fz.1 ∨ fz.2 = 0) → o + i + vs.length ≤ cur.size → (∀ v ∈ vs, v.oneCell' = true) →
    (storeCells ⟨g, o, none⟩ vs i).run P w = .ok () (w.setRow g (cur.toList.take (o + i) ++ vs ++ cur.toList.drop (o + i + vs.length)).toArray)
  | [], i, cur, w, hg, _, _, _ => by
    simp only [storeCells, List.append_nil, List.length_nil, Nat.add_zero, List.take_append_drop, Array.toArray_toList]
    rw [setRow_self w g cur t fz hg]
    rfl
  | v :: rest, i, cur, w, hg, hfz, hl, h1 => by
    have hi : o + i < cur.size := by simp at hl; omega
    have hadd : (⟨g, o, none⟩ : Addr).add i = ⟨g, o + i, none⟩ := by unfold Addr.add; split <;> simp_all
    have hcell : w.cell? ⟨g, o + i, none⟩ = some cur[o + i] := by simp [World.cell?, hg, hi]
    have hfro : w.frozen? ⟨g, o + i, none⟩ = false := by
      obtain ⟨lo, hi'⟩ := fz
      simp only [World.frozen?, hg, Bool.and_eq_false_iff, decide_eq_false_iff_not]
      simp only at hfz
      rcases hfz with h | h
      · left; omega
      · right; omega
    have hst : (store ((⟨g, o, none⟩ : Addr).add i) v).run P w = .ok () (w.setRow g (cur.setIfInBounds (o + i) v)) := by
      rw [hadd, run_store P w _ v _ (h1 v (by simp)), hcell]
      simp [hfro, setCell_eq_setRow w g (o + i) cur t fz v hg]
    have ih := run_storeCells_atG P g o t fz rest (i + 1) (cur.setIfInBounds (o + i) v) (w.setRow g (cur.setIfInBounds (o + i) v)) (setRow_heap w g cur _ t _ hg) (by simpa using hfz) (by simp at hl ⊢; omega) (fun x hx => h1 x (by simp [hx]))
    simp only [storeCells, Sem.run_bind, hst, Result.andThen_ok, ih, setRow_setRow]
    congr 3
    have e := list_seg_step cur.toList (o + i) v rest (by simp at hl ⊢; omega)
    simpa [Array.toList_setIfInBounds, Nat.add_assoc] using e
theorem OwnQ.append {P : Program} {t ty E : TypeId} {w : World} {base : Nat} {v : Value} {l : List UInt8} (h : OwnQ E w base v l) (El : Elem P t E (.int .u8 0) 1 1) {a : Option Addr} {n c : Nat} {m : List UInt8} (hm : Row w a (m.map b8)) (hn : n = m.length)
    (hl : l.length + m.length ≤ 140737488355328) (hb : base ≤ w.heap.size) :
    ∃ v' w', (Builtin.append_ #[t, t] ty #[v, .slice a n c]).run P w = .ok v' w' ∧ OwnQ E w' base v' (l ++ m) ∧ w.grownBy w' v.ownBlock ∧ Below base w w' ∧ (∀ k, v'.ownBlock = some k → v.ownBlock = some k ∨ w.heap.size ≤ k) := by
  subst hn
  have hsrc : Src P 1 t (.slice a m.length c) m.length (m.map b8) w := Src.ofRow El.ht a m.length c (m.map b8) (by decide) (by simp) hm (bytes_one m)
  obtain ⟨i, hi, hz, hsize, hby⟩ := info_parts El.hi
  have ht := El.ht
  obtain ⟨g, cap, cur, fz, rfl, hbg, hg, hfz, hnc, hcm, hcs, htake⟩ := h
  have hll : (l ++ m).length = l.length + m.length := by simp
  by_cases hroom : l.length + m.length ≤ cap
  · have hst := run_storeCells_atG P g l.length E fz (m.map b8) 0 cur w hg hfz (by simp; omega) (bytes_one m)
    simp only [Nat.add_zero, List.length_map] at hst
    have hr : (Builtin.append_ #[t, t] ty #[.slice (some ⟨g, 0, none⟩) l.length cap, .slice a m.length c]).run P w =
        .ok (.slice (some ⟨g, 0, none⟩) (l.length + m.length) cap) (w.setRow g (cur.toList.take l.length ++ m.map b8 ++ cur.toList.drop (l.length + m.length)).toArray) := by
      simp [Builtin.append_, run_underlying ht, sizeOf, typeInfo, hi, hsize, hsrc.len, hroom, hsrc.cells, Addr.add_lit, hst]
    refine ⟨_, _, hr, ⟨g, cap, _, fz, by rw [hll], hbg, setRow_heap w g cur _ E _ hg, ?_, by rw [hll]; exact hroom, hcm, ?_, ?_⟩, ?_, ?_, ?_⟩
    · simp only [List.size_toArray, List.length_append, List.length_take, List.length_drop, Array.length_toList, List.length_map]
      rcases hfz with h | h
      · left; omega
      · right; exact h
    · simp only [List.size_toArray, List.length_append, List.length_take, List.length_drop, Array.length_toList, List.length_map]; omega
    · rw [htake, hll, List.map_append]
      exact List.take_left' (by simp)
    · exact ⟨rfl, rfl, rfl, by simp, fun k _ hk => setRow_other w g k _ (fun e => hk (by simp [Value.ownBlock, e]))⟩
    · refine ⟨rfl, rfl, rfl, by simp, fun k hk => setRow_other w g k _ (by omega)⟩
    · exact fun k hk => .inl hk
  · have holds : ∀ j u, (l.map b8)[j]? = some u → w.drew.cell? ((⟨g, 0, none⟩ : Addr).add j) = some u := by
      intro j u hu
      have hadd : (⟨g, 0, none⟩ : Addr).add j = ⟨g, j, none⟩ := by unfold Addr.add; split <;> simp_all
      rw [hadd]
      show w.cell? _ = _
      rw [cell_of_row w g j cur E fz hg]
      rw [← htake, List.getElem?_take] at hu
      split at hu
      · simpa using hu
      · cases hu
    have hr := run_append_grow_src (P := P) w t t ty E i (.int .u8 0) ht hi hz (some ⟨g, 0, none⟩) l.length cap (l.map b8) (by rw [hsize]; exact run_firstCells_some w.drew 1 l.length ⟨g, 0, none⟩ l.length cap (l.map b8) (by simp) holds)
      (.slice a m.length c) m.length (m.map b8) (by rw [hsize]; exact hsrc) (by omega) (by omega) (growslice_fits (by omega) (by rw [hby]; omega))
    have hge := grownCap_ge w (l.length + m.length) cap E
    have hcm2 : grownCap w (l.length + m.length) cap E ≤ maxLen := grownCap_le_maxLen w (l.length + m.length) cap E (by unfold maxLen; omega)
    refine ⟨_, _, hr, ⟨w.heap.size, _, _, (0, 0), by rw [hll], hb, heap_alloc_new w.drew _, .inr rfl, by rw [hll]; exact hge, hcm2, ?_, ?_⟩, ?_, ?_, ?_⟩
    · simp only [Array.size_append, List.size_toArray, size_zeroCells, List.length_append, List.length_map, Value.cells, List.size_toArray, List.length_cons, List.length_nil]
      omega
    · rw [Array.toList_append, hll, List.map_append]
      exact List.take_left' (by simp)
    · exact ⟨rfl, rfl, rfl, by simp, fun k hk _ => Below.heap_alloc w.drew _ k hk⟩
    · exact ⟨rfl, rfl, rfl, by simp, fun k hk => Below.heap_alloc w.drew _ k (by show k < w.heap.size; omega)⟩
    · exact fun k hk => .inr (by simp [Value.ownBlock] at hk; omega)

/-! A text made bytes. -/
def cvOp (t u : TypeId) (x : Value) : Sem Value := convert t u x
def cvW (E : TypeId) (w : World) (l : List UInt8) : World := Lib.bytesWorld w E (str l)
def cvC (E : TypeId) (w : World) (l : List UInt8) : Nat := grownCap w l.length 0 E
theorem cvOp_run {P : Program} {t u E : TypeId} {w : World} {l : List UInt8} {d : TypeDesc} (ht : P.underlying t = some d) (hu : P.underlying u = some (.slice E)) (he : P.underlying E = some (.int .u8)) :
    (cvOp t u (.string (str l))).run P w = .ok (.slice (some ⟨w.heap.size, 0, none⟩) l.length (cvC E w l)) (cvW E w l) := by
  have := Lib.run_convert_string_bytes (P := P) w t u E (str l) ht hu he
  rw [str_size] at this
  exact this
theorem cvW_below (E : TypeId) (w : World) (l : List UInt8) : Below w.heap.size w (cvW E w l) := by
  have h : ∀ (a : Addr) (n : Nat), w.drew.heap.size ≤ a.block → Below w.heap.size w ((w.drew.alloc (.cells (Lib.bytesCells w E (str l)) E)).freeze a n) := by
    intro a n ha
    have h0 : Below w.heap.size w (w.drew.alloc (.cells (Lib.bytesCells w E (str l)) E)) := (Below.drewN (Below.refl _ _) 1).alloc (Nat.le_refl _) _
    unfold World.freeze
    split
    · exact h0
    · refine ⟨h0.os, h0.tape, h0.output, by simp, fun i hi => ?_⟩
      rw [← h0.block i hi]
      simp only [Array.getElem?_modify]
      rw [if_neg (by have : w.drew.heap.size = w.heap.size := rfl; omega)]
  exact h ⟨w.heap.size, (Lib.bytesCells w E (str l)).size, none⟩ 1 (Nat.le_refl _)
theorem cvW_size (E : TypeId) (w : World) (l : List UInt8) : (cvW E w l).heap.size = w.heap.size + 1 := Lib.bytesWorld_size w E (str l)
theorem cvW_own {E : TypeId} {w : World} {l : List UInt8} {base : Nat} (hb : base ≤ w.heap.size) (hl : l.length ≤ maxLen) : OwnQ E (cvW E w l) base (.slice (some ⟨w.heap.size, 0, none⟩) l.length (cvC E w l)) l := by
  have hge := grownCap_ge w l.length 0 E
  refine ⟨w.heap.size, cvC E w l, _, _, rfl, hb, Lib.bytesWorld_at_new w E (str l), .inl (Nat.le_refl _), hge, grownCap_le_maxLen w l.length 0 E hl, ?_, ?_⟩
  · simp only [Lib.bytesCells, Array.size_append, Array.size_map, Array.size_replicate, cvC, str]
    simp only [ByteArray.size, List.size_toArray]
    omega
  · simp only [Lib.bytesCells, str, Array.toList_append, Array.toList_map]
    exact List.take_left' (by simp)
theorem Row.ofBlk {w : World} {g : Nat} {T : TypeId} {xs : List Value} {ys zs : List Value} (h : Blk w g T xs) (e : xs = ys ++ zs) : Row w (some ⟨g, 0, none⟩) ys := by
  have := h.row.take ys.length
  rwa [e, List.take_left] at this
/-- Read. -/
def BRd (w : World) (v : Value) (l : List UInt8) : Prop := ∃ a c, v = .slice a l.length c ∧ l.length ≤ c ∧ c ≤ maxLen ∧ Row w a (l.map b8)
theorem BRd.nil (w : World) : BRd w (.slice none 0 0) [] := ⟨none, 0, rfl, Nat.le_refl _, Nat.zero_le _, Row.nil _ _⟩
theorem OwnQ.rd {E : TypeId} {w : World} {base : Nat} {v : Value} {l : List UInt8} (h : OwnQ E w base v l) : BRd w v l := h.at
theorem BRd.below {w w' : World} {v : Value} {l : List UInt8} (h : BRd w v l) (hb : Below w.heap.size w w') : BRd w' v l := by
  obtain ⟨a, c, h1, h2, h3, h4⟩ := h
  exact ⟨a, c, h1, h2, h3, h4.below hb⟩
end Go.Hd
