/- Buffers in a field, and what a call leaves as it was but for one block. -/
import Derived.Test.YtakliplkabgmbaaLib2
import Derived.Lib.SlicesS
set_option maxRecDepth 20000
namespace Go.Hd
open Go Go.RowKit

theorem str_beq (l m : List UInt8) : ((str l).toList == (str m).toList) = (l == m) := by
  rw [Bool.eq_iff_iff, Lib.bytes_beq_iff, beq_iff_eq]
  exact str_inj
/-- Below block B all is as it was, but for block r. -/
structure Kp (B : Nat) (r : Option Nat) (w w' : World) : Prop where
  os : w'.os = w.os
  tape : w'.tape = w.tape
  output : w'.output = w.output
  size : w.heap.size ≤ w'.heap.size
  block : ∀ k, k < B → some k ≠ r → w'.heap[k]? = w.heap[k]?
theorem Kp.refl (B : Nat) (r : Option Nat) (w : World) : Kp B r w w := ⟨rfl, rfl, rfl, Nat.le_refl _, fun _ _ _ => rfl⟩
theorem Kp.trans {B : Nat} {r : Option Nat} {a b c : World} (h : Kp B r a b) (k : Kp B r b c) : Kp B r a c :=
  ⟨k.os.trans h.os, k.tape.trans h.tape, k.output.trans h.output, Nat.le_trans h.size k.size, fun i hi hr => (k.block i hi hr).trans (h.block i hi hr)⟩
theorem Kp.ofBelow {B B' : Nat} {r : Option Nat} {a b : World} (h : Below B' a b) (hB : B ≤ B') : Kp B r a b := ⟨h.os, h.tape, h.output, h.size, fun i hi _ => h.block i (by omega)⟩
theorem Kp.ofGrown {B : Nat} {r q : Option Nat} {a b : World} (h : a.grownBy b q) (hB : B ≤ a.heap.size) (hq : ∀ k, q = some k → B ≤ k ∨ r = some k) : Kp B r a b :=
  ⟨h.os, h.tape, h.output, h.size, fun i hi hr => h.block i (by omega) (fun e => by
    rcases hq i e.symm with h1 | h1
    · omega
    · exact hr h1.symm)⟩
theorem Kp.set {B : Nat} {g : Nat} (w : World) (i : Nat) (v : Value) : Kp B (some g) w (w.setCell ⟨g, i, none⟩ v) :=
  ⟨rfl, rfl, rfl, by simp, fun k _ hk => Below.heap_setCell w _ v k (fun e => hk (by rw [e]))⟩
theorem Kp.alloc {B : Nat} {r : Option Nat} (w : World) (o : Obj) (hB : B ≤ w.heap.size) : Kp B r w (w.alloc o) := Kp.ofBelow ((Below.refl w.heap.size w).alloc (Nat.le_refl _) o) hB
theorem Kp.drewN {B : Nat} {r : Option Nat} {a b : World} (h : Kp B r a b) (n : Nat) : Kp B r a (b.drewN n) := ⟨h.os, h.tape, h.output, h.size, h.block⟩
theorem Kp.drewN' {B : Nat} {r : Option Nat} {a b : World} {n : Nat} (h : Kp B r (a.drewN n) b) : Kp B r a b := ⟨h.os, h.tape, h.output, h.size, h.block⟩
theorem Kp.none {B : Nat} {r : Option Nat} {a b : World} (h : Kp B none a b) : Kp B r a b := ⟨h.os, h.tape, h.output, h.size, fun i hi _ => h.block i hi (by simp)⟩
theorem Kp.mono {B B' : Nat} {r : Option Nat} {a b : World} (h : Kp B r a b) (hB : B' ≤ B) : Kp B' r a b := ⟨h.os, h.tape, h.output, h.size, fun i hi hr => h.block i (by omega) hr⟩
theorem Kp.below {B base : Nat} {r : Option Nat} {a b : World} (h : Kp B r a b) (hB : base ≤ B) (hr : ∀ k, r = some k → base ≤ k) : Below base a b :=
  ⟨h.os, h.tape, h.output, h.size, fun i hi => h.block i (by omega) (fun e => by have := hr i e.symm; omega)⟩
theorem Blk.kp {w w' : World} {B g : Nat} {r : Option Nat} {T : TypeId} {xs : List Value} (h : Blk w g T xs) (hb : Kp B r w w') (hg : g < B) (hr : r ≠ some g) : Blk w' g T xs := by
  unfold Blk at *
  rw [hb.block g hg (fun e => hr e.symm)]; exact h
theorem Row.kp {w w' : World} {B : Nat} {r : Option Nat} {a : Option Addr} {xs : List Value} (h : Row w a xs) (hb : Kp B r w w') (hg : 0 < xs.length → (hd a).block < B ∧ r ≠ some (hd a).block) : Row w' a xs := by
  refine ⟨h.1, fun i u hu => ?_⟩
  have hc := h.2 i u hu
  have hpos : 0 < xs.length := by
    rcases Nat.lt_or_ge i xs.length with h1 | h1
    · omega
    · rw [List.getElem?_eq_none h1] at hu; cases hu
  obtain ⟨h1, h2⟩ := hg hpos
  rw [World.cell?_of_block (w := w) (by rw [add_block]; exact hb.block _ h1 (fun e => h2 e.symm))]
  exact hc

/-- A buffer of bytes v, held in a block g whose cells are xs; its own memory lies from block B on. -/
structure Buf (B : Nat) (w : World) (g : Nat) (T E : TypeId) (xs : List Value) (v : Value) (l : List UInt8) : Prop where
  blk : Blk w g T xs
  own : w.ownsRow B E 1 v l.length (l.map b8)
  lt : g < B
  le : B ≤ w.heap.size
theorem Buf.keep {B g : Nat} {w w' : World} {T E : TypeId} {xs : List Value} {v : Value} {l : List UInt8} (h : Buf B w g T E xs v l) (hb : Below w.heap.size w w') : Buf B w' g T E xs v l :=
  ⟨h.blk.below hb, ownsRow_below h.own hb, h.lt, Nat.le_trans h.le hb.size⟩
theorem Buf.drewN {B g : Nat} {w : World} {T E : TypeId} {xs : List Value} {v : Value} {l : List UInt8} (h : Buf B w g T E xs v l) (n : Nat) : Buf B (w.drewN n) g T E xs v l := h.keep (Gr.drewN w n)
theorem Buf.store {B g : Nat} {w : World} {T E : TypeId} {xs : List Value} {v : Value} {l : List UInt8} (h : Buf B w g T E xs v l) (i : Nat) (u : Value) : Buf B (w.setCell ⟨g, i, none⟩ u) g T E (xs.set i u) v l := by
  have hg : w.grownBy (w.setCell ⟨g, i, none⟩ u) (some g) := ⟨rfl, rfl, rfl, by simp, fun k _ hk => Below.heap_setCell w _ u k (fun e => hk (by rw [e]))⟩
  refine ⟨h.blk.set i u, h.own.kept hg ?_, h.lt, by have := h.le; simpa using this⟩
  right
  intro e
  have := h.own.lt g e
  have := h.lt
  omega
theorem Buf.append {P : Program} {t ty : TypeId} {B g : Nat} {w : World} {T E : TypeId} {xs : List Value} {v : Value} {l : List UInt8} (h : Buf B w g T E xs v l) (El : Elem P t E (.int .u8 0) 1 1) {x : Value} {m : List UInt8}
    (hsrc : Src P 1 t x m.length (m.map b8) w) (hl : l.length + m.length ≤ 140737488355328) :
    ∃ a' n' c' w', (Builtin.append_ #[t, t] ty #[v, x]).run P w = .ok (.slice a' n' c') w' ∧ Buf B w' g T E xs (.slice a' n' c') (l ++ m) ∧ Kp B none w w' ∧ (∀ k, v.ownBlock = some k → B ≤ k) := by
  obtain ⟨v', w', h1, h2, h3⟩ := append_src (ty := ty) El h.own hsrc (by unfold maxLen; omega) (by omega) h.le
  have hv : ∀ k, v.ownBlock = some k → B ≤ k := fun k hk => (h.own.lt k hk).1
  have hk : Kp B none w w' := Kp.ofGrown h3 h.le (fun k hk => .inl (hv k hk))
  obtain ⟨a', c', rfl, _⟩ := owns_at h2
  refine ⟨a', _, c', w', h1, ⟨h.blk.kp hk h.lt (by simp), ?_, h.lt, Nat.le_trans h.le hk.size⟩, hk, hv⟩
  rw [List.length_append, List.map_append]; exact h2
theorem Buf.append1 {P : Program} {t ty : TypeId} {B g : Nat} {w : World} {T E : TypeId} {xs : List Value} {v : Value} {l : List UInt8} (h : Buf B w g T E xs v l) (El : Elem P t E (.int .u8 0) 1 1) (c : UInt8) (hl : l.length + 1 ≤ 140737488355328) :
    ∃ a' n' c' w', (Builtin.append_ #[t, t] ty #[v, .slice (some ⟨w.heap.size, 0, none⟩) 1 1]).run P (w.alloc (.cells #[b8 c] E)) = .ok (.slice a' n' c') w' ∧ Buf B w' g T E xs (.slice a' n' c') (l ++ [c]) ∧ Kp B none w w' := by
  have hsrc : Src P 1 t (.slice (some ⟨w.heap.size, 0, none⟩) 1 1) [c].length ([c].map b8) (w.alloc (.cells #[b8 c] E)) :=
    Src.ofRow El.ht _ 1 1 [b8 c] (by decide) rfl (Blk.new w E #[b8 c]).row (fun u hu => by simp at hu; subst hu; rfl)
  obtain ⟨a', n', c', w', h1, h2, h3, _⟩ := Buf.append (ty := ty) (h.keep ((Below.refl w.heap.size w).alloc (Nat.le_refl _) _)) El hsrc hl
  exact ⟨a', n', c', w', h1, h2, (Kp.alloc w _ h.le).trans h3⟩

/-! A slice of bytes of the call's own, or any: what it reads, and where it lies. -/
/-- A block whose first n cells are bytes. -/
def Byts (E : TypeId) (w : World) (g n : Nat) : Prop := ∃ ys : List Value, Blk w g E ys ∧ ∀ i, i < n → ∃ z, ys[i]? = some (.int .u8 z)
theorem Byts.cell {E : TypeId} {w : World} {g n : Nat} (h : Byts E w g n) {i : Nat} (hi : i < n) : ∃ z, w.cell? ⟨g, i, none⟩ = some (.int .u8 z) ∧ w.frozen? ⟨g, i, none⟩ = false := by
  obtain ⟨ys, hb, hz⟩ := h
  obtain ⟨z, hz⟩ := hz i hi
  exact ⟨z, hb.cell hz, hb.free i⟩
theorem Byts.set {E : TypeId} {w : World} {g n : Nat} (h : Byts E w g n) (i : Nat) (z : Int) : Byts E (w.setCell ⟨g, i, none⟩ (.int .u8 z)) g n := by
  obtain ⟨ys, hb, hz⟩ := h
  refine ⟨_, hb.set i _, fun j hj => ?_⟩
  by_cases hij : i = j
  · subst hij
    obtain ⟨z', hz'⟩ := hz i hj
    have hl : i < ys.length := by
      rcases Nat.lt_or_ge i ys.length with h | h
      · exact h
      · rw [List.getElem?_eq_none h] at hz'; cases hz'
    exact ⟨z, by rw [List.getElem?_set_self hl]⟩
  · rw [List.getElem?_set_ne hij]; exact hz j hj
theorem Byts.kp {E : TypeId} {B g n : Nat} {r : Option Nat} {w w' : World} (h : Byts E w g n) (hb : Kp B r w w') (hg : g < B) (hr : r ≠ some g) : Byts E w' g n := by
  obtain ⟨ys, h1, h2⟩ := h
  exact ⟨ys, h1.kp hb hg hr, h2⟩
theorem own_byts {E : TypeId} {w : World} {base : Nat} {v : Value} {l : List UInt8} (h : w.ownsRow base E 1 v l.length (l.map b8)) :
    ∃ am cm r, v = .slice am l.length cm ∧ l.length ≤ cm ∧ cm ≤ maxLen ∧ (∀ k, r = some k → base ≤ k ∧ k < w.heap.size) ∧ Row w am (l.map b8) ∧ (0 < l.length → ∃ mb, am = some ⟨mb, 0, none⟩ ∧ r = some mb ∧ Byts E w mb l.length) := by
  rcases owns_bytes h with ⟨rfl, rfl⟩ | ⟨g, c, rest, rfl, hg, hb, hc, hm, _⟩
  · exact ⟨none, 0, none, rfl, by simp, Nat.zero_le _, by simp, Row.nil _ _, by simp⟩
  · refine ⟨_, c, some g, rfl, hc, hm, fun k hk => by cases hk; exact ⟨hg, hb.lt⟩, ?_, fun _ => ⟨g, rfl, rfl, _, hb, fun i hi => ?_⟩⟩
    · have := hb.row.take l.length
      rwa [List.take_left' (by simp)] at this
    · exact ⟨_, by rw [List.getElem?_append_left (by simpa using hi), List.getElem?_map, List.getElem?_eq_getElem hi]; rfl⟩

/-- v is an owned row of bytes. -/
abbrev Own (E : TypeId) (w : World) (base : Nat) (v : Value) (l : List UInt8) : Prop := w.ownsRow base E 1 v l.length (l.map b8)
theorem Own.append {P : Program} {t ty E : TypeId} {w : World} {base : Nat} {v : Value} {l : List UInt8} (h : Own E w base v l) (El : Elem P t E (.int .u8 0) 1 1) {a : Option Addr} {n c : Nat} {m : List UInt8} (hm : Row w a (m.map b8)) (hn : n = m.length)
    (hl : l.length + m.length ≤ 140737488355328) (hb : base ≤ w.heap.size) :
    ∃ v' w', (Builtin.append_ #[t, t] ty #[v, .slice a n c]).run P w = .ok v' w' ∧ Own E w' base v' (l ++ m) ∧ w.grownBy w' v.ownBlock ∧ (∀ k, v'.ownBlock = some k → v.ownBlock = some k ∨ w.heap.size ≤ k) ∧ Below base w w' := by
  subst hn
  obtain ⟨v', w', h1, h2, h3, h4⟩ := append_srcK (ty := ty) El h (Src.ofRow El.ht a m.length c (m.map b8) (by decide) (by simp) hm (bytes_one m)) (by unfold maxLen; omega) (by omega) hb
  refine ⟨v', w', h1, ?_, h3, h4, Below.ofGrown h3 h hb⟩
  show w'.ownsRow _ _ _ _ _ _
  rw [List.length_append, List.map_append]; exact h2
theorem Own.append1 {P : Program} {t ty E : TypeId} {w : World} {base : Nat} {v : Value} {l : List UInt8} (h : Own E w base v l) (El : Elem P t E (.int .u8 0) 1 1) (c : UInt8) (hl : l.length + 1 ≤ 140737488355328) (hb : base ≤ w.heap.size) :
    ∃ v' w', (Builtin.append_ #[t, t] ty #[v, .slice (some ⟨w.heap.size, 0, none⟩) 1 1]).run P (w.alloc (.cells #[.int .u8 (c.toNat : Int)] E)) = .ok v' w' ∧ Own E w' base v' (l ++ [c]) ∧ w.grownBy w' v.ownBlock ∧ (∀ k, v'.ownBlock = some k → v.ownBlock = some k ∨ w.heap.size ≤ k) ∧ Below base w w' := by
  have hr : Row (w.alloc (.cells #[.int .u8 (c.toNat : Int)] E)) (some ⟨w.heap.size, 0, none⟩) ([c].map b8) := row_alloc w #[.int .u8 (c.toNat : Int)] E (0, 0)
  obtain ⟨v', w', h1, h2, h3, h4, h5⟩ := Own.append (ty := ty) (w := w.alloc (.cells #[.int .u8 (c.toNat : Int)] E)) (World.ownsRow.alloc h _) El hr (c := 1) rfl hl (by simp; omega)
  have hg : w.grownBy w' v.ownBlock := ⟨h3.os, h3.tape, h3.output, by have := h3.size; simp at this; omega, fun k hk hne => by rw [h3.block k (by simp; omega) hne, Below.heap_alloc _ _ _ hk]⟩
  refine ⟨v', w', h1, h2, hg, fun k hk => ?_, Below.ofGrown hg h hb⟩
  rcases h4 k hk with h | h
  · exact .inl h
  · right; simp at h; omega
theorem Own.nil (E : TypeId) (w : World) (base : Nat) : Own E w base (.slice none 0 0) [] := World.ownsRow_nil _ _ _ _
theorem Own.new {E : TypeId} (w : World) {base : Nat} (l : List UInt8) (h : base ≤ w.heap.size) (hl : l.length ≤ 1000) : Own E (w.alloc (.cells (l.map b8).toArray E)) base (.slice (some ⟨w.heap.size, 0, none⟩) l.length l.length) l := by
  have := (Blk.new w E (l.map b8).toArray).owns (base := base) (n := l.length) (c := l.length) h (Nat.le_refl _) (by simp) (by unfold maxLen; omega)
  show World.ownsRow _ _ _ _ _ _ _
  rw [List.take_of_length_le (by simp)] at this
  simpa using this
theorem Own.below {E : TypeId} {w w' : World} {base : Nat} {v : Value} {l : List UInt8} (h : Own E w base v l) (hb : Below w.heap.size w w') : Own E w' base v l := ownsRow_below h hb
theorem Own.mono {E : TypeId} {w : World} {base base' : Nat} {v : Value} {l : List UInt8} (h : Own E w base v l) (hb : base' ≤ base) : Own E w base' v l := ownsRow_mono h hb
theorem Own.at {E : TypeId} {w : World} {base : Nat} {v : Value} {l : List UInt8} (h : Own E w base v l) :
    ∃ a c, v = .slice a l.length c ∧ l.length ≤ c ∧ c ≤ maxLen ∧ Row w a (l.map b8) ∧ (0 < l.length → base ≤ (hd a).block ∧ (hd a).block < w.heap.size) := by
  obtain ⟨a, c, h1, h2, h3, h4, h5⟩ := owns_at h
  exact ⟨a, c, h1, h2, h3, h4, fun h0 => h5 (by simpa using h0)⟩
/-- Kept, if another block than its own is written. -/
theorem Own.kept' {E : TypeId} {w w' : World} {base : Nat} {v : Value} {l : List UInt8} {r : Option Nat} (h : Own E w base v l) (hg : w.grownBy w' r) (hr : ∀ k, v.ownBlock = some k → r ≠ some k) : Own E w' base v l := by
  refine World.ownsRow.kept h hg ?_
  cases hv : v.ownBlock with
  | none => left; rfl
  | some k => right; exact fun e => hr k hv e.symm
/-- Another block is written. -/
theorem Buf.far {B g r : Nat} {w w' : World} {T E : TypeId} {xs : List Value} {v : Value} {l : List UInt8} (h : Buf B w g T E xs v l) (hg : w.grownBy w' (some r)) (hne : r ≠ g) (hr : r < B) : Buf B w' g T E xs v l :=
  ⟨h.blk.grown hg (Ne.symm hne), Own.kept' h.own hg (fun k hk e => by have := (h.own.lt k hk).1; cases e; omega), h.lt, Nat.le_trans h.le hg.size⟩
end Go.Hd
