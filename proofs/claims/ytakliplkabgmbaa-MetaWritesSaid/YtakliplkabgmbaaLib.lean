/- Small words on bytes in memory: what a slice of bytes reads, what a call owns. -/
import Derived.WalkKit
import Derived.WalkSpells
import Derived.WalkLawsBesides
import Derived.Deep.QuietTactic
import Derived.BigQuiet
import Derived.Lib.Hide
import Derived.Deep.AppendSrc
set_option maxRecDepth 20000
namespace Go.Hd
open Go Go.RowKit

/-- The head of a slice's row. -/
def hd (a : Option Addr) : Addr := a.getD default
@[simp] theorem hd_some (a : Addr) : hd (some a) = a := rfl

/-- A byte as a cell. -/
abbrev b8 (c : UInt8) : Value := .int .u8 (c.toNat : Int)

/-- From address a on the cells hold xs. -/
def Row (w : World) (a : Option Addr) (xs : List Value) : Prop :=
  (0 < xs.length → a.isSome = true) ∧ ∀ i u, xs[i]? = some u → w.cell? ((hd a).add i) = some u

theorem Row.cell {w : World} {a : Option Addr} {xs : List Value} (h : Row w a xs) {i : Nat} {u : Value} (hu : xs[i]? = some u) : w.cell? ((hd a).add i) = some u := h.2 i u hu

theorem Row.isSome {w : World} {a : Option Addr} {xs : List Value} (h : Row w a xs) {i : Nat} (hi : i < xs.length) : a.isSome = true := h.1 (by omega)

/-- A byte of a slice of bytes. -/
theorem Row.byte {w : World} {a : Option Addr} {l : List UInt8} (h : Row w a (l.map b8)) {i : Nat} (hi : i < l.length) : w.cell? ((hd a).add i) = some (.int .u8 (l[i].toNat : Int)) :=
  h.2 i _ (by simp [hi])
theorem Row.byteSome {w : World} {a : Option Addr} {l : List UInt8} (h : Row w a (l.map b8)) {i : Nat} (hi : i < l.length) : a.isSome = true := h.1 (by simp; omega)

/-- What was there before the call is there in w'. -/
theorem Row.block_lt {w : World} {a : Option Addr} {xs : List Value} (h : Row w a xs) (hx : 0 < xs.length) : (hd a).block < w.heap.size := by
  obtain ⟨a, rfl⟩ := Option.isSome_iff_exists.1 (h.1 hx)
  have := h.2 0 xs[0] (by simp [hx])
  have h2 := World.block_lt_of_cell? w _ this
  simpa [Addr.add] using h2

theorem add_block (a : Addr) (i : Nat) : (a.add i).block = a.block := by unfold Addr.add; split <;> rfl

theorem Row.below {w w' : World} {a : Option Addr} {xs : List Value} (h : Row w a xs) (hb : Below w.heap.size w w') : Row w' a xs := by
  refine ⟨h.1, fun i u hu => ?_⟩
  have hc := h.2 i u hu
  rw [hb.cell (World.block_lt_of_cell? w _ hc)]
  exact hc

theorem Row.drewN {w : World} {a : Option Addr} {xs : List Value} (h : Row w a xs) (n : Nat) : Row (w.drewN n) a xs := h

section
variable {P : Program} (w : World)
@[go_sem] theorem run_indexAt_opt (t : TypeId) (a : Option Addr) (len cap : Nat) (k : IntKind) (i : Int) (h : P.underlying t = some (.slice (P.elem t))) (hs : a.isSome = true) (h0 : 0 ≤ i) (h1 : i < len) :
    (Instr.indexAt t (.slice a len cap) (.int k i)).run P w =
      ((sizeOf (P.elem t)).run P w).andThen fun s w => .ok (.pointer (some ((hd a).add (i.toNat * s)))) w := by
  obtain ⟨a, rfl⟩ := Option.isSome_iff_exists.1 hs
  rw [run_indexAt_slice _ _ _ _ _ _ _ h, if_pos ⟨h0, h1⟩]
  rfl
end

theorem ret_int {k : IntKind} {a b : Int} (h : a = b) : Ending.returned (.int k a) = .returned (.int k b) := by rw [h]
theorem ret_eq {v v' : Value} (h : v = v') : Ending.returned v = .returned v' := by rw [h]
theorem slice_len {a : Option Addr} {n n' c : Nat} (h : n = n') : Value.slice a n c = .slice a n' c := by rw [h]
theorem ret_bool {a b : Bool} (h : a = b) : Ending.returned (.bool a) = .returned (.bool b) := by rw [h]

/-! Blocks of the call's own, known whole. -/
def Blk (w : World) (B : Nat) (E : TypeId) (xs : List Value) : Prop := w.heap[B]? = some (.cells xs.toArray E (0, 0))

theorem Blk.cell {w : World} {B : Nat} {E : TypeId} {xs : List Value} (h : Blk w B E xs) {i : Nat} {u : Value} (hu : xs[i]? = some u) : w.cell? ⟨B, i, none⟩ = some u := by
  unfold World.cell?
  rw [h]
  simpa using hu
theorem Blk.free {w : World} {B : Nat} {E : TypeId} {xs : List Value} (h : Blk w B E xs) (i : Nat) : w.frozen? ⟨B, i, none⟩ = false := by
  unfold World.frozen?
  rw [h]
  simp
theorem Blk.lt {w : World} {B : Nat} {E : TypeId} {xs : List Value} (h : Blk w B E xs) : B < w.heap.size := (Array.getElem?_eq_some_iff.1 h).1
theorem Blk.set {w : World} {B : Nat} {E : TypeId} {xs : List Value} (h : Blk w B E xs) (i : Nat) (u : Value) : Blk (w.setCell ⟨B, i, none⟩ u) B E (xs.set i u) := by
  unfold Blk World.setCell at *
  simp only [Array.getElem?_modify, if_true, h]
  simp
theorem Blk.drewN {w : World} {B : Nat} {E : TypeId} {xs : List Value} (h : Blk w B E xs) (n : Nat) : Blk (w.drewN n) B E xs := h
theorem Blk.alloc {w : World} {B : Nat} {E : TypeId} {xs : List Value} (h : Blk w B E xs) (o : Obj) : Blk (w.alloc o) B E xs := by
  unfold Blk at *
  rw [Below.heap_alloc _ _ _ (Array.getElem?_eq_some_iff.1 h).1]; exact h
theorem Blk.new (w : World) (E : TypeId) (xs : Array Value) : Blk (w.alloc (.cells xs E)) w.heap.size E xs.toList := by
  unfold Blk
  simpa using heap_alloc_new w (.cells xs E)
theorem Blk.row {w : World} {B : Nat} {E : TypeId} {xs : List Value} (h : Blk w B E xs) : Row w (some ⟨B, 0, none⟩) xs := by
  refine ⟨fun _ => rfl, fun i u hu => ?_⟩
  have : (hd (some ⟨B, 0, none⟩)).add i = ⟨B, i, none⟩ := by unfold Addr.add; simp; omega
  rw [this]; exact h.cell hu
theorem Blk.owns {w : World} {B base : Nat} {E : TypeId} {xs : List Value} {n c : Nat} (h : Blk w B E xs) (hb : base ≤ B) (hn : n ≤ c) (hc : xs.length = c) (hm : c ≤ maxLen) : w.ownsRow base E 1 (.slice (some ⟨B, 0, none⟩) n c) n (xs.take n) :=
  ⟨by simp; omega, .inr ⟨B, c, xs.toArray, rfl, hb, h, hn, hm, by simp [hc], by simp⟩⟩
/-- An owned row, opened. -/
theorem owns_open {w : World} {base : Nat} {E : TypeId} {v : Value} {n : Nat} {xs : List Value} (h : w.ownsRow base E 1 v n xs) :
    xs.length = n ∧ ((v = .slice none 0 0 ∧ n = 0) ∨ ∃ g c ys, v = .slice (some ⟨g, 0, none⟩) n c ∧ base ≤ g ∧ Blk w g E ys ∧ n ≤ c ∧ c ≤ maxLen ∧ ys.length = c ∧ ys.take n = xs) := by
  obtain ⟨h1, h2⟩ := h
  refine ⟨by simpa using h1, ?_⟩
  rcases h2 with h2 | ⟨g, cap, cur, hv, hg, hh, hc, hm, hs, ht⟩
  · exact .inl h2
  · exact .inr ⟨g, cap, cur.toList, hv, hg, by unfold Blk; simpa using hh, hc, hm, by simpa using hs, by simpa using ht⟩
theorem owns_row {w : World} {base : Nat} {E : TypeId} {v : Value} {n : Nat} {xs : List Value} (h : w.ownsRow base E 1 v n xs) :
    ∃ a c, v = .slice a n c ∧ n ≤ c ∧ c ≤ maxLen ∧ Row w a xs := by
  obtain ⟨hl, ⟨rfl, rfl⟩ | ⟨g, c, ys, rfl, hg, hb, hn, hm, hy, ht⟩⟩ := owns_open h
  · obtain rfl : xs = [] := List.eq_nil_of_length_eq_zero hl
    exact ⟨none, 0, rfl, Nat.le_refl _, Nat.zero_le _, by simp, by simp⟩
  · refine ⟨_, c, rfl, hn, hm, fun _ => rfl, fun i u hu => hb.row.2 i u ?_⟩
    rw [← ht, List.getElem?_take] at hu
    split at hu
    · exact hu
    · cases hu
/-! Slices that a call owns: make, append. -/
/-- t is the slice type over e; e's zero value, its cells, its bytes. -/
structure Elem (P : Program) (t e : TypeId) (z : Value) (size bytes : Nat) : Prop where
  ht : P.underlying t = some (.slice e)
  hi : (P.info? e).map (fun i => (i.zero, i.size, i.bytes)) = some (some z, size, bytes)
  hz : z.cells.size = size
  hs : 0 < size

theorem Src.ofRow {P : Program} {w : World} {size : Nat} {tx e' : TypeId} (hk : P.underlying tx = some (.slice e')) (a : Option Addr) (n c : Nat) (news : List Value) (hsz : 0 < size) (hl : news.length = n * size) (h : Row w a news)
    (h1 : ∀ u ∈ news, u.oneCell' = true) : Src P size tx (.slice a n c) n news w := by
  cases a with
  | some a => exact Src.ofSlice w hk a n c news hl (fun j u hu => h.2 j u hu) h1
  | none =>
    have h0 : ¬ 0 < news.length := fun h0 => by have := h.1 h0; cases this
    have hn : n = 0 := by
      rcases Nat.eq_zero_or_pos n with h | h
      · exact h
      · have := Nat.mul_pos h hsz; omega
    subst hn
    obtain rfl : news = [] := List.eq_nil_of_length_eq_zero (by omega)
    exact Src.ofNil w hk c

theorem append_srcK {P : Program} {w : World} {t tx ty e : TypeId} {z : Value} {size bytes : Nat} (E : Elem P t e z size bytes) {base : Nat} {v : Value} {n : Nat} {xs : List Value} (hown : w.ownsRow base e size v n xs)
    {x : Value} {m : Nat} {news : List Value} (hsrc : Src P size tx x m news w) (h63 : n + m ≤ maxLen) (hbytes : (n + m) * bytes ≤ 140737488355328) (hbase : base ≤ w.heap.size) :
    ∃ v' w', (Builtin.append_ #[t, tx] ty #[v, x]).run P w = .ok v' w' ∧ w'.ownsRow base e size v' (n + m) (xs ++ news) ∧ w.grownBy w' v.ownBlock ∧ (∀ k, v'.ownBlock = some k → v.ownBlock = some k ∨ w.heap.size ≤ k) := by
  obtain ⟨i, hi, hz, hsize, hby⟩ := info_parts E.hi
  have ht := E.ht
  have hzs := E.hz
  subst hsize hby
  have hsmall : n + m ≤ 9223372036854775807 := by simp only [maxLen] at h63; omega
  have hl := hsrc.newsLen
  have hlen : (xs ++ news).length = (n + m) * i.size := by rw [List.length_append, hown.1, hl, Nat.add_mul]
  have grown : ∀ (old : Nat), old < n + m → ∀ (row : Option Nat),
      (w.drew.alloc (.cells ((xs ++ news).toArray ++ Builtin.zeroCells z.cells (grownCap w (n + m) old e - (n + m))) e)).ownsRow base e i.size
        (.slice (some ⟨w.heap.size, 0, none⟩) (n + m) (grownCap w (n + m) old e)) (n + m) (xs ++ news) ∧
      w.grownBy (w.drew.alloc (.cells ((xs ++ news).toArray ++ Builtin.zeroCells z.cells (grownCap w (n + m) old e - (n + m))) e)) row := by
    intro old ho row
    have hge := grownCap_ge w (n + m) old e
    have hcm : grownCap w (n + m) old e ≤ maxLen := grownCap_le_maxLen w (n + m) old e h63
    refine ⟨⟨hlen, .inr ⟨w.heap.size, _, _, rfl, hbase, heap_alloc_new w.drew _, hge, hcm, ?_, ?_⟩⟩, ⟨rfl, rfl, rfl, by simp, fun k hk _ => Below.heap_alloc w.drew _ k hk⟩⟩
    · rw [Array.size_append, List.size_toArray, hlen, size_zeroCells, hzs, ← Nat.add_mul]
      congr 1
      omega
    · rw [Array.toList_append, ← hlen]
      exact List.take_left
  rcases hown.2 with ⟨rfl, rfl⟩ | ⟨g, cap, cur, rfl, hbg, hg, hnc, hcm, hcs, htake⟩
  · have hx : xs = [] := List.eq_nil_of_length_eq_zero (by simpa using hown.1)
    subst hx
    by_cases hm : m = 0
    · subst hm
      have hn : news = [] := List.eq_nil_of_length_eq_zero (by simpa using hl)
      subst hn
      refine ⟨.slice none 0 0, w, ?_, World.ownsRow_nil w base e i.size, ⟨rfl, rfl, rfl, Nat.le_refl _, fun _ _ _ => rfl⟩, fun k hk => by simp [Value.ownBlock] at hk⟩
      rcases hsrc.kind with ⟨e', hk⟩ | hk <;> simp [Builtin.append_, run_underlying ht, run_underlying hk, sizeOf, typeInfo, hi, hsrc.len, hsrc.cells]
    · have hr := run_append_grow_src (P := P) w t tx ty e i z ht hi hz none 0 0 [] (by simp [Builtin.firstCells]) x m news hsrc (by omega) (by omega) (growslice_fits (by omega) hbytes)
      have hgr := grown 0 (by omega) (Value.ownBlock (.slice none 0 0))
      exact ⟨_, _, hr, hgr.1, hgr.2, fun k hk => .inr (by simp [Value.ownBlock] at hk; omega)⟩
  · by_cases hroom : n + m ≤ cap
    · have hfit : 0 + n * i.size + 0 + news.length ≤ cur.size := by rw [hl, hcs, Nat.zero_add, Nat.add_zero, ← Nat.add_mul]; exact Nat.mul_le_mul_right _ hroom
      have hst := run_storeCells_at P g (n * i.size) e news 0 cur w hg (by omega) hsrc.one
      simp only [Nat.add_zero] at hst
      have hr : (Builtin.append_ #[t, tx] ty #[.slice (some ⟨g, 0, none⟩) n cap, x]).run P w =
          .ok (.slice (some ⟨g, 0, none⟩) (n + m) cap) (w.setRow g (cur.toList.take (n * i.size) ++ news ++ cur.toList.drop (n * i.size + news.length)).toArray) := by
        rcases hsrc.kind with ⟨e', hk⟩ | hk <;> simp [Builtin.append_, run_underlying ht, run_underlying hk, sizeOf, typeInfo, hi, hsrc.len, hroom, hsrc.cells, Addr.add_lit, hst]
      refine ⟨_, _, hr, ⟨hlen, .inr ⟨g, cap, _, rfl, hbg, setRow_heap w g cur _ e _ hg, hroom, hcm, ?_, ?_⟩⟩, ⟨rfl, rfl, rfl, by simp, fun k _ hk => setRow_other w g k _ (fun e => hk (by simp [Value.ownBlock, e]))⟩, fun k hk => .inl hk⟩
      · simp only [List.size_toArray, List.length_append, List.length_take, List.length_drop, Array.length_toList]
        omega
      · rw [htake, ← hlen]
        exact List.take_left
    · have holds : ∀ j u, xs[j]? = some u → w.cell? ((⟨g, 0, none⟩ : Addr).add j) = some u := hown.cells (g := g) rfl
      have hr := run_append_grow_src (P := P) w t tx ty e i z ht hi hz (some ⟨g, 0, none⟩) n cap xs (run_firstCells_some w.drew i.size n ⟨g, 0, none⟩ n cap xs hown.1 (by simpa using holds)) x m news hsrc (by omega) (by omega) (growslice_fits (by omega) hbytes)
      have hgr := grown cap (by omega) (Value.ownBlock (.slice (some ⟨g, 0, none⟩) n cap))
      exact ⟨_, _, hr, hgr.1, hgr.2, fun k hk => .inr (by simp [Value.ownBlock] at hk; omega)⟩

theorem append_src {P : Program} {w : World} {t tx ty e : TypeId} {z : Value} {size bytes : Nat} (E : Elem P t e z size bytes) {base : Nat} {v : Value} {n : Nat} {xs : List Value} (hown : w.ownsRow base e size v n xs)
    {x : Value} {m : Nat} {news : List Value} (hsrc : Src P size tx x m news w) (h63 : n + m ≤ maxLen) (hbytes : (n + m) * bytes ≤ 140737488355328) (hbase : base ≤ w.heap.size) :
    ∃ v' w', (Builtin.append_ #[t, tx] ty #[v, x]).run P w = .ok v' w' ∧ w'.ownsRow base e size v' (n + m) (xs ++ news) ∧ w.grownBy w' v.ownBlock := by
  obtain ⟨v', w', h1, h2, h3, _⟩ := append_srcK (ty := ty) E hown hsrc h63 hbytes hbase
  exact ⟨v', w', h1, h2, h3⟩

theorem drew_alloc_size (w : World) (o : Obj) : (w.alloc o).heap.size = w.heap.size + 1 := by simp

/-- One element: 'append(v, x)'. -/
theorem append_one {P : Program} {w : World} {t ty e : TypeId} {z : Value} {bytes : Nat} (E : Elem P t e z 1 bytes) {base : Nat} {v : Value} {n : Nat} {xs : List Value} (hown : w.ownsRow base e 1 v n xs)
    (x : Value) (hx : x.oneCell' = true) (h63 : n + 1 ≤ maxLen) (hbytes : (n + 1) * bytes ≤ 140737488355328) (hbase : base ≤ w.heap.size) :
    ∃ v' w', (Builtin.append_ #[t, t] ty #[v, .slice (some ⟨w.heap.size, 0, none⟩) 1 1]).run P (w.alloc (.cells #[x] e)) = .ok v' w' ∧ w'.ownsRow base e 1 v' (n + 1) (xs ++ [x]) ∧ w.grownBy w' v.ownBlock := by
  have hsrc : Src P 1 t (.slice (some ⟨w.heap.size, 0, none⟩) 1 1) 1 [x] (w.alloc (.cells #[x] e)) :=
    Src.ofRow E.ht _ 1 1 [x] (by decide) rfl (Blk.new w e #[x]).row (fun u hu => by simp at hu; subst hu; exact hx)
  obtain ⟨v', w', h1, h2, h3⟩ := append_src (ty := ty) E (hown.alloc _) hsrc h63 hbytes (by simp; omega)
  refine ⟨v', w', h1, h2, ?_⟩
  exact ⟨h3.os, h3.tape, h3.output, by have := h3.size; simp at this; omega, fun k hk hne => by rw [h3.block k (by simp; omega) hne, Below.heap_alloc _ _ _ hk]⟩

theorem Below.ofGrown {base : Nat} {w w' : World} {v : Value} {e : TypeId} {n : Nat} {xs : List Value} {size : Nat} (hg : w.grownBy w' v.ownBlock) (hown : w.ownsRow base e size v n xs) (hb : base ≤ w.heap.size) : Below base w w' :=
  (Below.refl base w).grown hg hb (fun k hk => (hown.lt k hk).1)

theorem bytes_one (l : List UInt8) : ∀ u ∈ l.map b8, u.oneCell' = true := by
  intro u hu
  obtain ⟨c, _, rfl⟩ := List.mem_map.1 hu
  rfl
/-- THE ARM at a builtin append whose run is known. -/
theorem wpList_append_run {P : Program} {w w' : World} {ops : Array Oper} {rest : List Oper} {o : Oper} {a : Act} {Q : Exit → Act → World → Prop} {t tx : TypeId} {v1 v2 v' : Value} {s x : Operand}
    (hrun : (Builtin.append_ #[t, tx] o.type #[v1, v2]).run P w = .ok v' w') (hg : o.guard = none)
    (ho : o.op = .call { callee := .builtin .append, args := #[s, x], argTypes := #[t, tx] }) (hs : a.eval s = v1) (hx : a.eval x = v2)
    (h : wpList P ops Q rest (a.put o.dst v') w') : wpList P ops Q (o :: rest) a w := by
  refine wpList_plain hg fun K hK' => ?_
  unfold Oper.wp execOp
  simp only [ho, resolve, invoke, builtin, Sem.run_bind, Sem.run_pure, Result.andThen_ok, List.map_toArray, List.map_cons, List.map_nil, hs, hx, hrun]
  exact hK' _ _ h
theorem drewN_two (w : World) (n m : Nat) : (w.drewN n).drewN m = w.drewN (n + m) := by rw [World.drewN_drewN]
theorem Blk.byte {w : World} {B : Nat} {E : TypeId} {l : List UInt8} (h : Blk w B E (l.map b8)) {i : Nat} (hi : i < l.length) : w.cell? ⟨B, i, none⟩ = some (.int .u8 (l[i].toNat : Int)) :=
  h.cell (by rw [List.getElem?_map, List.getElem?_eq_getElem hi]; rfl)
theorem Blk.drew {w : World} {B : Nat} {E : TypeId} {xs : List Value} (h : Blk w B E xs) : Blk w.drew B E xs := h
theorem grownBy_drew {w w' : World} {r : Option Nat} (h : w.grownBy w' r) : w.grownBy w'.drew r := ⟨h.os, h.tape, h.output, h.size, h.block⟩
theorem grownBy_drewN {w w' : World} {r : Option Nat} (h : w.grownBy w' r) (n : Nat) : w.grownBy (w'.drewN n) r := ⟨h.os, h.tape, h.output, h.size, h.block⟩
theorem Below.drewN {B : Nat} {a w : World} (h : Below B a w) (n : Nat) : Below B a (w.drewN n) := ⟨h.os, h.tape, h.output, h.size, h.block⟩
theorem Below.drewN' {B : Nat} {a w : World} {n : Nat} (h : Below B (a.drewN n) w) : Below B a w := ⟨h.os, h.tape, h.output, h.size, h.block⟩
theorem Blk.byteL {w : World} {B : Nat} {E : TypeId} {l : List UInt8} {rest : List Value} (h : Blk w B E (l.map b8 ++ rest)) {i : Nat} (hi : i < l.length) : w.cell? ⟨B, i, none⟩ = some (.int .u8 (l[i].toNat : Int)) :=
  h.cell (by rw [List.getElem?_append_left (by simpa using hi), List.getElem?_map, List.getElem?_eq_getElem hi]; rfl)
theorem Blk.setL {w : World} {B : Nat} {E : TypeId} {l : List UInt8} {rest : List Value} (h : Blk w B E (l.map b8 ++ rest)) {i : Nat} (hi : i < l.length) (c : UInt8) : Blk (w.setCell ⟨B, i, none⟩ (b8 c)) B E ((l.set i c).map b8 ++ rest) := by
  have h2 := h.set i (b8 c)
  rw [List.set_append_left _ _ (by simpa using hi), ← List.map_set] at h2
  exact h2
/-- An owned row of bytes, opened: nil, or a block. -/
theorem owns_bytes {w : World} {base : Nat} {E : TypeId} {v : Value} {l : List UInt8} (h : w.ownsRow base E 1 v l.length (l.map b8)) :
    (v = .slice none 0 0 ∧ l = []) ∨ ∃ g c rest, v = .slice (some ⟨g, 0, none⟩) l.length c ∧ base ≤ g ∧ Blk w g E (l.map b8 ++ rest) ∧ l.length ≤ c ∧ c ≤ maxLen ∧ l.length + rest.length = c := by
  obtain ⟨hl, ⟨rfl, hn⟩ | ⟨g, c, ys, rfl, hg, hb, hn, hm, hy, ht⟩⟩ := owns_open h
  · exact .inl ⟨rfl, List.eq_nil_of_length_eq_zero hn⟩
  · refine .inr ⟨g, c, ys.drop l.length, rfl, hg, ?_, hn, hm, by simp; omega⟩
    rw [← ht, List.take_append_drop]; exact hb
theorem Blk.ownsB {w : World} {base g c : Nat} {E : TypeId} {l : List UInt8} {rest : List Value} (h : Blk w g E (l.map b8 ++ rest)) (hg : base ≤ g) (hn : l.length ≤ c) (hm : c ≤ maxLen) (hc : l.length + rest.length = c) :
    w.ownsRow base E 1 (.slice (some ⟨g, 0, none⟩) l.length c) l.length (l.map b8) := by
  have h2 := h.owns (base := base) (n := l.length) hg hn (by simp; omega) hm
  rw [List.take_left' (by simp)] at h2
  exact h2
/-! What a call leaves as it was, handed on. -/
theorem Gr.trans {a b c : World} (h : Below a.heap.size a b) (k : Below b.heap.size b c) : Below a.heap.size a c := Below.trans h (k.mono h.size)
theorem Gr.drewN (a : World) (n : Nat) : Below a.heap.size a (a.drewN n) := Below.drewN (Below.refl _ _) n
theorem Gr.transN {a b c : World} {n : Nat} (h : Below a.heap.size a b) (k : Below (b.drewN n).heap.size (b.drewN n) c) : Below a.heap.size a c := Gr.trans h (Below.drewN' k)
theorem add_add (a : Addr) (n m : Nat) : (a.add n).add m = a.add (n + m) := by
  unfold Addr.add
  by_cases hn : n = 0 <;> by_cases hm : m = 0 <;> simp [hn, hm, Nat.add_assoc]
theorem Row.take {w : World} {a : Option Addr} {xs : List Value} (h : Row w a xs) (n : Nat) : Row w a (xs.take n) :=
  ⟨fun h0 => h.1 (by simp at h0 ⊢; omega), fun i u hu => h.2 i u (by
    rw [List.getElem?_take] at hu
    split at hu
    · exact hu
    · cases hu)⟩
theorem Row.drop {w : World} {a : Option Addr} {xs : List Value} (h : Row w a xs) (n : Nat) : Row w (a.map (·.add n)) (xs.drop n) := by
  refine ⟨fun h0 => ?_, fun i u hu => ?_⟩
  · have := h.1 (by simp at h0; omega)
    simpa using this
  · rw [List.getElem?_drop] at hu
    have h2 := h.2 _ _ hu
    cases a with
    | some a => rw [Option.map_some, hd_some, add_add]; exact h2
    | none =>
      have h1 : 0 < xs.length := by
        rcases Nat.lt_or_ge (n + i) xs.length with h3 | h3
        · omega
        · rw [List.getElem?_eq_none h3] at hu; cases hu
      have := h.1 h1
      cases this
theorem Row.nil (w : World) (a : Option Addr) : Row w a [] := ⟨by simp, by simp⟩
end Go.Hd
