/- More small words on memory: texts out of bytes, what grows, owned rows handed on. -/
import Derived.Test.YtakliplkabgmbaaLib
import Derived.Test.YtakliplkabgmbaaPl1
import Derived.Deep.RegionHeld3
set_option maxRecDepth 20000
namespace Go.Hd
open Go Go.RowKit

/-- A text of bytes. -/
def str (l : List UInt8) : ByteArray := ⟨l.toArray⟩
@[simp] theorem str_data (l : List UInt8) : (str l).data.toList = l := by simp [str]
@[simp] theorem str_size (l : List UInt8) : (str l).size = l.length := by simp [str, ByteArray.size]
theorem str_inj {l m : List UInt8} : str l = str m ↔ l = m := by
  constructor
  · intro h
    have := congrArg (fun s : ByteArray => s.data.toList) h
    simpa using this
  · rintro rfl; rfl
theorem str_of (s : ByteArray) : str s.data.toList = s := by cases s; simp [str]

theorem run_convert_row {P : Program} {w : World} {src e dst : TypeId} (hs : P.underlying src = some (.slice e)) (he : P.underlying e = some (.int .u8)) (hd' : P.underlying dst = some .string) {a : Option Addr} {n c : Nat} {l : List UInt8} (hn : n = l.length) (h : Row w a (l.map b8)) :
    (convert src dst (.slice a n c)).run P w = .ok (.string (str l)) w := by
  subst hn
  cases a with
  | none =>
    have h0 : l = [] := by
      cases l with
      | nil => rfl
      | cons x l => have := h.1 (by simp); cases this
    subst h0
    rw [run_convert_bytes_nil w src e hs he _ _ dst hd']
    rfl
  | some a =>
    have hl : (loadCells a l.length).run P w = .ok ((l.map fun c => (c.toNat : Int)).map (Value.int .u8)).toArray w := by
      have := run_loadCells_list (P := P) w a (l.map b8) (fun j v hj => h.2 j v hj)
      rw [List.map_map]
      simpa [b8, Function.comp_def] using this
    rw [run_convert_bytes_string w src dst e _ l.length c hs he hd', run_bytesToString w _ l.length c _ hl, foldl_push_bytes]
    have e : ((fun n : Int => UInt8.ofNat n.toNat) ∘ fun c : UInt8 => (c.toNat : Int)) = id := by funext c; simp
    simp [str, ByteArray.empty, ByteArray.emptyWithCapacity, e]
    rfl

theorem grownBy_trans {a b c : World} {r : Option Nat} (h : a.grownBy b r) (k : b.grownBy c r) : a.grownBy c r :=
  ⟨k.os.trans h.os, k.tape.trans h.tape, k.output.trans h.output, Nat.le_trans h.size k.size, fun i hi hne => (k.block i (Nat.lt_of_lt_of_le hi h.size) hne).trans (h.block i hi hne)⟩
theorem grownBy_undrew {a b : World} {r : Option Nat} {n : Nat} (h : (a.drewN n).grownBy b r) : a.grownBy b r := ⟨h.os, h.tape, h.output, h.size, h.block⟩
theorem grownBy_below {a b : World} {r : Option Nat} (h : Below a.heap.size a b) : a.grownBy b r :=
  ⟨h.os, h.tape, h.output, h.size, fun i hi _ => h.block i hi⟩
theorem grownBy_none {a b : World} (h : a.grownBy b none) : Below a.heap.size a b :=
  ⟨h.os, h.tape, h.output, h.size, fun i hi => h.block i hi (by simp)⟩
/-- What grows but for a block that is new grows. -/
theorem Gr.ofGrown {a b c : World} {g : Nat} (h : Below a.heap.size a b) (k : b.grownBy c (some g)) (hg : a.heap.size ≤ g) : Below a.heap.size a c :=
  Below.grown h k h.size (fun i hi => by cases hi; exact hg)
theorem Gr.ofOwn {a b c : World} {r : Option Nat} (h : Below a.heap.size a b) (k : b.grownBy c r) (hg : ∀ i, r = some i → a.heap.size ≤ i) : Below a.heap.size a c :=
  Below.grown h k h.size hg
theorem ownsRow_mono {w : World} {base base' : Nat} {e : TypeId} {size : Nat} {v : Value} {n : Nat} {xs : List Value} (h : w.ownsRow base e size v n xs) (hb : base' ≤ base) : w.ownsRow base' e size v n xs := by
  obtain ⟨h1, h2⟩ := h
  refine ⟨h1, ?_⟩
  rcases h2 with h2 | ⟨g, cap, cur, hv, hg, r⟩
  · exact .inl h2
  · exact .inr ⟨g, cap, cur, hv, Nat.le_trans hb hg, r⟩
theorem ownsRow_below {w w' : World} {base : Nat} {e : TypeId} {size : Nat} {v : Value} {n : Nat} {xs : List Value} (h : w.ownsRow base e size v n xs) (hb : Below w.heap.size w w') : w'.ownsRow base e size v n xs :=
  h.kept (grownBy_below (r := none) hb) (by cases hv : v.ownBlock <;> simp)
theorem Row.ofBlock {w w' : World} {a : Option Addr} {xs : List Value} (h : Row w a xs) (hb : ∀ i, i < w.heap.size → w'.heap[i]? = w.heap[i]?) : Row w' a xs :=
  ⟨h.1, fun i u hu => by
    have hc := h.2 i u hu
    rw [World.cell?_of_block (w := w) (hb _ (World.block_lt_of_cell? w _ hc))]; exact hc⟩
theorem Blk.below {w w' : World} {g : Nat} {T : TypeId} {xs : List Value} (h : Blk w g T xs) (hb : Below w.heap.size w w') : Blk w' g T xs := by
  unfold Blk at *
  rw [hb.block g (Array.getElem?_eq_some_iff.1 h).1]; exact h
theorem Blk.grown {w w' : World} {g r : Nat} {T : TypeId} {xs : List Value} (h : Blk w g T xs) (hb : w.grownBy w' (some r)) (hne : g ≠ r) : Blk w' g T xs := by
  unfold Blk at *
  rw [hb.block g (Array.getElem?_eq_some_iff.1 h).1 (by simpa using hne)]; exact h

/-! A slice of a slice: where it lies is left open, what it reads is known. -/
theorem sliced_row {w : World} {a : Option Addr} {xs : List Value} {s : Nat} (hr : Row w a xs) (p q m : Nat) (hpq : p ≤ q) (hqm : q ≤ m) :
    ∃ a', sliced a p q m s = .slice a' (q - p) (m - p) ∧ Row w a' ((xs.drop (p * s)).take ((q - p) * s)) := by
  unfold sliced
  by_cases hmp : m = p
  · have h0 : q - p = 0 := by omega
    refine ⟨a, by rw [if_pos hmp], ?_⟩
    rw [h0, Nat.zero_mul, List.take_zero]; exact Row.nil _ _
  · exact ⟨a.map (·.add (p * s)), by rw [if_neg hmp], (hr.drop _).take _⟩
section
variable {P : Program} {w : World} {t e : TypeId} {s : Nat}
theorem size_run (hs : (P.info? e).map (·.size) = some s) (w' : World) : (sizeOf e).run P w' = .ok s w' := by
  obtain ⟨i, hi, rfl⟩ := Option.map_eq_some_iff.1 hs
  simp [sizeOf, typeInfo, hi]
theorem cut_lh (ht : P.underlying t = some (.slice e)) (hs : (P.info? e).map (·.size) = some s) {a : Option Addr} {n c : Nat} {xs : List Value} (hr : Row w a xs) {k1 k2 : IntKind} {i j : Int} {p q : Nat} (hi : i = p) (hj : j = q) (hpq : p ≤ q) (hqc : q ≤ c) :
    ∃ a' c', (∀ w', (Instr.slice t (.slice a n c) (some (.int k1 i)) (some (.int k2 j)) none).run P w' = .ok (.slice a' (q - p) c') w') ∧ q - p ≤ c' ∧ c' ≤ c ∧ Row w a' ((xs.drop (p * s)).take ((q - p) * s)) := by
  subst hi hj
  have he : P.elem t = e := by simp [Program.elem, ht]
  have ht' : P.underlying t = some (.slice (P.elem t)) := by rw [he]; exact ht
  obtain ⟨a', h1, h2⟩ := sliced_row hr p q c hpq hqc
  refine ⟨a', c - p, fun w' => ?_, by omega, by omega, h2⟩
  rw [run_slice_lh w' t a n c ht' k1 k2 p q (by omega) (by omega) (by omega), he, size_run hs w']
  simp only [Result.andThen_ok, Int.toNat_natCast, h1]
theorem cut_l (ht : P.underlying t = some (.slice e)) (hs : (P.info? e).map (·.size) = some s) {a : Option Addr} {n c : Nat} {xs : List Value} (hr : Row w a xs) (hx : xs.length = n * s) (hc : n ≤ c) {k1 : IntKind} {i : Int} {p : Nat} (hi : i = p) (hp : p ≤ n) :
    ∃ a' c', (∀ w', (Instr.slice t (.slice a n c) (some (.int k1 i)) none none).run P w' = .ok (.slice a' (n - p) c') w') ∧ n - p ≤ c' ∧ c' ≤ c ∧ Row w a' (xs.drop (p * s)) := by
  subst hi
  have he : P.elem t = e := by simp [Program.elem, ht]
  have ht' : P.underlying t = some (.slice (P.elem t)) := by rw [he]; exact ht
  obtain ⟨a', h1, h2⟩ := sliced_row (s := s) hr p n c hp hc
  refine ⟨a', c - p, fun w' => ?_, by omega, by omega, ?_⟩
  · rw [run_slice_l w' t a n c ht' k1 p (by omega) (by omega), he, size_run hs w']
    simp only [Result.andThen_ok, Int.toNat_natCast, h1]
  · rw [List.take_of_length_le (by rw [List.length_drop, hx, ← Nat.sub_mul]; exact Nat.le_refl _)] at h2
    exact h2
theorem cut_h (ht : P.underlying t = some (.slice e)) (hs : (P.info? e).map (·.size) = some s) {a : Option Addr} {n c : Nat} {xs : List Value} (hr : Row w a xs) {k2 : IntKind} {j : Int} {q : Nat} (hj : j = q) (hq : q ≤ c) :
    ∃ a' c', (∀ w', (Instr.slice t (.slice a n c) none (some (.int k2 j)) none).run P w' = .ok (.slice a' q c') w') ∧ q ≤ c' ∧ c' ≤ c ∧ Row w a' (xs.take (q * s)) := by
  subst hj
  have he : P.elem t = e := by simp [Program.elem, ht]
  have ht' : P.underlying t = some (.slice (P.elem t)) := by rw [he]; exact ht
  obtain ⟨a', h1, h2⟩ := sliced_row hr 0 q c (Nat.zero_le _) hq
  refine ⟨a', c, fun w' => ?_, by omega, by omega, by simpa using h2⟩
  rw [run_slice_h w' t a n c ht' k2 q (by omega) (by omega), he, size_run hs w']
  simp only [Result.andThen_ok, Int.toNat_natCast, h1, Nat.sub_zero]
end
/-- A builtin append whose run is known, as one step of a region that draws. -/
theorem step_append_run {P : Program} {ops : Array Oper} {o : Oper} {a : Act} {w w' : World} {K : Act → World → Prop} {Q : Exit → Act → World → Prop} {E : Prop} {t tx : TypeId} {v1 v2 v' : Value} {s x : Operand}
    (hrun : (Builtin.append_ #[t, tx] o.type #[v1, v2]).run P w = .ok v' w') (hg : o.guard = none)
    (hop : o.op = .call { callee := .builtin .append, args := #[s, x], argTypes := #[t, tx] }) (hs : a.eval s = v1) (hx : a.eval x = v2) (hK : K (a.put o.dst v') w') :
    if Region.wanted o (yielded ops a.tmps) = true then Oper.wp P o a w K Q else E := by
  have hw : Region.wanted o (yielded ops a.tmps) = true := by simp [Region.wanted, hg]
  rw [if_pos hw]
  unfold Oper.wp execOp
  simp only [hop, resolve, invoke, builtin, Sem.run_bind, Sem.run_pure, Result.andThen_ok, List.map_toArray, List.map_cons, List.map_nil, hs, hx, hrun]
  exact hK
/-- A row of memory that was there when the call began. -/
theorem Row.old {w0 w w' : World} {a : Option Addr} {xs : List Value} {r : Option Nat} (h0 : Row w0 a xs) (h : Row w a xs) (hg : w.grownBy w' r) (hr : ∀ k, r = some k → w0.heap.size ≤ k) : Row w' a xs := by
  refine ⟨h.1, fun i u hu => ?_⟩
  have hc0 := World.block_lt_of_cell? w0 _ (h0.2 i u hu)
  have hc := h.2 i u hu
  rw [World.cell?_of_block (w := w) (hg.block _ (World.block_lt_of_cell? w _ hc) (fun e => by have := hr _ e.symm; omega))]
  exact hc
theorem Row.oldB {w0 w : World} {a : Option Addr} {xs : List Value} (h0 : Row w0 a xs) (hb : Below w0.heap.size w0 w) : Row w a xs := h0.below hb

/-! Rows apart from blocks. -/
theorem Blk.apart {w : World} {g : Nat} {T : TypeId} {xs : List Value} (h : Blk w g T xs) (hx : ∀ (i : Nat) (n : Int), xs[i]? ≠ some (Value.int .u8 n)) {a : Option Addr} {m : List UInt8} (hr : Row w a (m.map b8)) (hm : 0 < m.length) : (hd a).block ≠ g := by
  intro e
  have hc := hr.byte hm
  have hs := hr.byteSome hm
  obtain ⟨⟨b, o, s⟩, rfl⟩ := Option.isSome_iff_exists.1 hs
  simp only [hd_some] at e hc
  subst e
  unfold World.cell? at hc
  have e0 : ((⟨b, o, s⟩ : Addr).add 0) = ⟨b, o, s⟩ := by simp [Addr.add]
  rw [e0, h] at hc
  simp only at hc
  split at hc
  · cases hc
  · exact hx o _ (by simpa using hc)
theorem Row.grown {w w' : World} {a : Option Addr} {xs : List Value} {g : Nat} (h : Row w a xs) (hg : w.grownBy w' (some g)) (hne : 0 < xs.length → (hd a).block ≠ g) : Row w' a xs := by
  refine ⟨h.1, fun i u hu => ?_⟩
  have hc := h.2 i u hu
  have hpos : 0 < xs.length := by
    rcases Nat.lt_or_ge i xs.length with h1 | h1
    · omega
    · rw [List.getElem?_eq_none h1] at hu; cases hu
  have hlt := World.block_lt_of_cell? w _ hc
  rw [add_block] at hlt
  rw [World.cell?_of_block (w := w) (by rw [add_block]; exact hg.block _ hlt (by simpa using hne hpos))]
  exact hc
theorem hd_map_block {a : Option Addr} {n : Nat} (h : a.isSome = true) : (hd (a.map (fun x => x.add n))).block = (hd a).block := by
  obtain ⟨a, rfl⟩ := Option.isSome_iff_exists.1 h
  exact add_block _ _
theorem Row.keptFar {w w' : World} {a : Option Addr} {xs : List Value} {r : Option Nat} (h : Row w a xs) (hg : w.grownBy w' r) (hne : 0 < xs.length → r ≠ some (hd a).block) : Row w' a xs := by
  refine ⟨h.1, fun i u hu => ?_⟩
  have hc := h.2 i u hu
  have hpos : 0 < xs.length := by
    rcases Nat.lt_or_ge i xs.length with h1 | h1
    · omega
    · rw [List.getElem?_eq_none h1] at hu; cases hu
  have hlt := World.block_lt_of_cell? w _ hc
  rw [add_block] at hlt
  rw [World.cell?_of_block (w := w) (by rw [add_block]; exact hg.block _ hlt (fun e => hne hpos e.symm))]
  exact hc
theorem Blk.keptBy {w w' : World} {g : Nat} {r : Option Nat} {T : TypeId} {xs : List Value} (h : Blk w g T xs) (hb : w.grownBy w' r) (hne : r ≠ some g) : Blk w' g T xs := by
  unfold Blk at *
  rw [hb.block g (Array.getElem?_eq_some_iff.1 h).1 (fun e => hne e.symm)]; exact h
theorem owns_at {w : World} {base : Nat} {e : TypeId} {v : Value} {n : Nat} {xs : List Value} (h : w.ownsRow base e 1 v n xs) :
    ∃ a c, v = .slice a n c ∧ n ≤ c ∧ c ≤ maxLen ∧ Row w a xs ∧ (0 < xs.length → base ≤ (hd a).block ∧ (hd a).block < w.heap.size) := by
  obtain ⟨hl, ⟨rfl, rfl⟩ | ⟨g, c, ys, rfl, hg, hb, hn, hm, hy, ht⟩⟩ := owns_open h
  · obtain rfl : xs = [] := List.eq_nil_of_length_eq_zero hl
    exact ⟨none, 0, rfl, Nat.le_refl _, Nat.zero_le _, Row.nil _ _, fun h => by simp at h⟩
  · refine ⟨_, c, rfl, hn, hm, ?_, fun _ => ⟨hg, hb.lt⟩⟩
    rw [← ht]; exact hb.row.take n
theorem hd_map_add (a : Option Addr) (n : Nat) : (hd (a.map (fun x => x.add n))).block = (hd a).block := by
  cases a with
  | none => rfl
  | some a => exact add_block _ _
/-- 's[p:]', and where it lies. -/
theorem cut_lb {P : Program} {w : World} {t e : TypeId} {s : Nat} (ht : P.underlying t = some (.slice e)) (hs : (P.info? e).map (·.size) = some s) {a : Option Addr} {n c : Nat} {xs : List Value} (hr : Row w a xs) (hx : xs.length = n * s) (hc : n ≤ c) {k1 : IntKind} {i : Int} {p : Nat} (hi : i = p) (hp : p ≤ n) :
    ∃ a' c', (∀ w', (Instr.slice t (.slice a n c) (some (.int k1 i)) none none).run P w' = .ok (.slice a' (n - p) c') w') ∧ n - p ≤ c' ∧ c' ≤ c ∧ Row w a' (xs.drop (p * s)) ∧ (hd a').block = (hd a).block := by
  subst hi
  have he : P.elem t = e := by simp [Program.elem, ht]
  have ht' : P.underlying t = some (.slice (P.elem t)) := by rw [he]; exact ht
  have hrow : Row w (if n = p then a else a.map (fun x => x.add (p * s))) (xs.drop (p * s)) := by
    by_cases h : n = p
    · rw [if_pos h, List.drop_eq_nil_of_le (by rw [hx, h]; exact Nat.le_refl _)]; exact Row.nil _ _
    · rw [if_neg h]; exact hr.drop _
  by_cases hcp : c = p
  · have hnp : n = p := by omega
    rw [if_pos hnp] at hrow
    refine ⟨a, c - p, fun w' => ?_, by omega, by omega, hrow, rfl⟩
    rw [run_slice_l w' t a n c ht' k1 p (by omega) (by omega), he, size_run hs w']
    simp [sliced, hcp]
  · refine ⟨a.map (fun x => x.add (p * s)), c - p, fun w' => ?_, by omega, by omega, hr.drop _, hd_map_add _ _⟩
    rw [run_slice_l w' t a n c ht' k1 p (by omega) (by omega), he, size_run hs w']
    simp [sliced, hcp]
/-- A call that leaves the world alone, within a region that draws. -/
theorem quiet0 {P : Program} {f : FuncId} {args : Array Value} {w : World} {r : Ending} (h : Calls P f args w fun e w' => e = r ∧ w = w') : Calls P f args w fun e w' => e = r ∧ ∃ n, w' = w.drewN n :=
  h.mono fun _ _ ⟨h1, h2⟩ => ⟨h1, 0, h2.symm⟩
theorem row_alloc (w : World) (C : Array Value) (E : TypeId) (f : Nat × Nat) : Row (w.alloc (.cells C E f)) (some ⟨w.heap.size, 0, none⟩) C.toList := by
  refine ⟨fun _ => rfl, fun i u hu => ?_⟩
  have e : (hd (some ⟨w.heap.size, 0, none⟩)).add i = ⟨w.heap.size, i, none⟩ := by unfold Addr.add; simp; omega
  rw [e]
  unfold World.cell?
  rw [heap_alloc_new w (.cells C E f)]
  simpa using hu
end Go.Hd
