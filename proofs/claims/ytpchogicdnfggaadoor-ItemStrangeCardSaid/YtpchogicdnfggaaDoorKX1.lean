/- Joined: what one statement of this layer stands on, part 1 of 17; nothing is assumed. -/
import Derived.Test.YtpchogicdnfggaaDoorRows
import Derived.BigQuiet
import Derived.Deep.AppendSrc
import Derived.Deep.MidRow
import Derived.Deep.QuietTactic
import Derived.Deep.RegionHeld3
import Derived.Deep.WholeRow
import Derived.DeepKeys
import Derived.Great.BuildSlice
import Derived.Laws.StructEq
import Derived.Lib.Hide
import Derived.Lib.SlicesS
import Derived.WalkKit
import Derived.WalkLawsBesides
import Derived.WalkSpells
set_option maxRecDepth 20000
namespace Go.Hd
open Go Go.RowKit

/-- The head of a slice's row. -/
def hd (a : Option Addr) : Addr := a.getD default
@[simp] theorem hd_some (a : Addr) : hd (some a) = a := rfl

/-- A byte as a cell. -/
abbrev b8 (c : UInt8) : Value := .int .u8 (c.toNat : Int)

/-- From address a on the cells hold xs. -/
def Row (w : World) (a : Option Addr) (xs : List Value) : Prop :=
  (0 < xs.length → a.isSome = true) ∧ ∀ i u, xs[i]? = some u → w.cell? ((hd a).add i) = some u

theorem Row.cell {w : World} {a : Option Addr} {xs : List Value} (h : Row w a xs) {i : Nat} {u : Value} (hu : xs[i]? = some u) : w.cell? ((hd a).add i) = some u := h.2 i u hu

theorem Row.isSome {w : World} {a : Option Addr} {xs : List Value} (h : Row w a xs) {i : Nat} (hi : i < xs.length) : a.isSome = true := h.1 (by omega)

/-- What was there before the call is there in w'. -/
theorem Row.block_lt {w : World} {a : Option Addr} {xs : List Value} (h : Row w a xs) (hx : 0 < xs.length) : (hd a).block < w.heap.size := by
  obtain ⟨a, rfl⟩ := Option.isSome_iff_exists.1 (h.1 hx)
  have := h.2 0 xs[0] (by simp [hx])
  have h2 := World.block_lt_of_cell? w _ this
  simpa [Addr.add] using h2

theorem add_block (a : Addr) (i : Nat) : (a.add i).block = a.block := by unfold Addr.add; split <;> rfl

theorem Row.below {w w' : World} {a : Option Addr} {xs : List Value} (h : Row w a xs) (hb : Below w.heap.size w w') : Row w' a xs := by
  refine ⟨h.1, fun i u hu => ?_⟩
  have hc := h.2 i u hu
  rw [hb.cell (World.block_lt_of_cell? w _ hc)]
  exact hc

theorem Row.drewN {w : World} {a : Option Addr} {xs : List Value} (h : Row w a xs) (n : Nat) : Row (w.drewN n) a xs := h

section
variable {P : Program} (w : World)
@[go_sem] theorem run_indexAt_opt (t : TypeId) (a : Option Addr) (len cap : Nat) (k : IntKind) (i : Int) (h : P.underlying t = some (.slice (P.elem t))) (hs : a.isSome = true) (h0 : 0 ≤ i) (h1 : i < len) :
    (Instr.indexAt t (.slice a len cap) (.int k i)).run P w =
      ((sizeOf (P.elem t)).run P w).andThen fun s w => .ok (.pointer (some ((hd a).add (i.toNat * s)))) w := by
  obtain ⟨a, rfl⟩ := Option.isSome_iff_exists.1 hs
  rw [run_indexAt_slice _ _ _ _ _ _ _ h, if_pos ⟨h0, h1⟩]
  rfl
end

theorem ret_eq {v v' : Value} (h : v = v') : Ending.returned v = .returned v' := by rw [h]
theorem slice_len {a : Option Addr} {n n' c : Nat} (h : n = n') : Value.slice a n c = .slice a n' c := by rw [h]
theorem ret_bool {a b : Bool} (h : a = b) : Ending.returned (.bool a) = .returned (.bool b) := by rw [h]

/-! Blocks of the call's own, known whole. -/
def Blk (w : World) (B : Nat) (E : TypeId) (xs : List Value) : Prop := w.heap[B]? = some (.cells xs.toArray E (0, 0))

theorem Blk.cell {w : World} {B : Nat} {E : TypeId} {xs : List Value} (h : Blk w B E xs) {i : Nat} {u : Value} (hu : xs[i]? = some u) : w.cell? ⟨B, i, none⟩ = some u := by
  unfold World.cell?
  rw [h]
  simpa using hu
theorem Blk.free {w : World} {B : Nat} {E : TypeId} {xs : List Value} (h : Blk w B E xs) (i : Nat) : w.frozen? ⟨B, i, none⟩ = false := by
  unfold World.frozen?
  rw [h]
  simp
theorem Blk.lt {w : World} {B : Nat} {E : TypeId} {xs : List Value} (h : Blk w B E xs) : B < w.heap.size := (Array.getElem?_eq_some_iff.1 h).1
theorem Blk.set {w : World} {B : Nat} {E : TypeId} {xs : List Value} (h : Blk w B E xs) (i : Nat) (u : Value) : Blk (w.setCell ⟨B, i, none⟩ u) B E (xs.set i u) := by
  unfold Blk World.setCell at *
  simp only [Array.getElem?_modify, if_true, h]
  simp
theorem Blk.drewN {w : World} {B : Nat} {E : TypeId} {xs : List Value} (h : Blk w B E xs) (n : Nat) : Blk (w.drewN n) B E xs := h
theorem Blk.alloc {w : World} {B : Nat} {E : TypeId} {xs : List Value} (h : Blk w B E xs) (o : Obj) : Blk (w.alloc o) B E xs := by
  unfold Blk at *
  rw [Below.heap_alloc _ _ _ (Array.getElem?_eq_some_iff.1 h).1]; exact h
theorem Blk.new (w : World) (E : TypeId) (xs : Array Value) : Blk (w.alloc (.cells xs E)) w.heap.size E xs.toList := by
  unfold Blk
  simpa using heap_alloc_new w (.cells xs E)
theorem Blk.row {w : World} {B : Nat} {E : TypeId} {xs : List Value} (h : Blk w B E xs) : Row w (some ⟨B, 0, none⟩) xs := by
  refine ⟨fun _ => rfl, fun i u hu => ?_⟩
  have : (hd (some ⟨B, 0, none⟩)).add i = ⟨B, i, none⟩ := by unfold Addr.add; simp; omega
  rw [this]; exact h.cell hu
theorem Blk.owns {w : World} {B base : Nat} {E : TypeId} {xs : List Value} {n c : Nat} (h : Blk w B E xs) (hb : base ≤ B) (hn : n ≤ c) (hc : xs.length = c) (hm : c ≤ maxLen) : w.ownsRow base E 1 (.slice (some ⟨B, 0, none⟩) n c) n (xs.take n) :=
  ⟨by simp; omega, .inr ⟨B, c, xs.toArray, rfl, hb, h, hn, hm, by simp [hc], by simp⟩⟩
/-- An owned row, opened. -/
theorem owns_open {w : World} {base : Nat} {E : TypeId} {v : Value} {n : Nat} {xs : List Value} (h : w.ownsRow base E 1 v n xs) :
    xs.length = n ∧ ((v = .slice none 0 0 ∧ n = 0) ∨ ∃ g c ys, v = .slice (some ⟨g, 0, none⟩) n c ∧ base ≤ g ∧ Blk w g E ys ∧ n ≤ c ∧ c ≤ maxLen ∧ ys.length = c ∧ ys.take n = xs) := by
  obtain ⟨h1, h2⟩ := h
  refine ⟨by simpa using h1, ?_⟩
  rcases h2 with h2 | ⟨g, cap, cur, hv, hg, hh, hc, hm, hs, ht⟩
  · exact .inl h2
  · exact .inr ⟨g, cap, cur.toList, hv, hg, by unfold Blk; simpa using hh, hc, hm, by simpa using hs, by simpa using ht⟩
theorem owns_row {w : World} {base : Nat} {E : TypeId} {v : Value} {n : Nat} {xs : List Value} (h : w.ownsRow base E 1 v n xs) :
    ∃ a c, v = .slice a n c ∧ n ≤ c ∧ c ≤ maxLen ∧ Row w a xs := by
  obtain ⟨hl, ⟨rfl, rfl⟩ | ⟨g, c, ys, rfl, hg, hb, hn, hm, hy, ht⟩⟩ := owns_open h
  · obtain rfl : xs = [] := List.eq_nil_of_length_eq_zero hl
    exact ⟨none, 0, rfl, Nat.le_refl _, Nat.zero_le _, by simp, by simp⟩
  · refine ⟨_, c, rfl, hn, hm, fun _ => rfl, fun i u hu => hb.row.2 i u ?_⟩
    rw [← ht, List.getElem?_take] at hu
    split at hu
    · exact hu
    · cases hu
/-! Slices that a call owns: make, append. -/
/-- t is the slice type over e; e's zero value, its cells, its bytes. -/
structure Elem (P : Program) (t e : TypeId) (z : Value) (size bytes : Nat) : Prop where
  ht : P.underlying t = some (.slice e)
  hi : (P.info? e).map (fun i => (i.zero, i.size, i.bytes)) = some (some z, size, bytes)
  hz : z.cells.size = size
  hs : 0 < size

theorem Src.ofRow {P : Program} {w : World} {size : Nat} {tx e' : TypeId} (hk : P.underlying tx = some (.slice e')) (a : Option Addr) (n c : Nat) (news : List Value) (hsz : 0 < size) (hl : news.length = n * size) (h : Row w a news)
    (h1 : ∀ u ∈ news, u.oneCell' = true) : Src P size tx (.slice a n c) n news w := by
  cases a with
  | some a => exact Src.ofSlice w hk a n c news hl (fun j u hu => h.2 j u hu) h1
  | none =>
    have h0 : ¬ 0 < news.length := fun h0 => by have := h.1 h0; cases this
    have hn : n = 0 := by
      rcases Nat.eq_zero_or_pos n with h | h
      · exact h
      · have := Nat.mul_pos h hsz; omega
    subst hn
    obtain rfl : news = [] := List.eq_nil_of_length_eq_zero (by omega)
    exact Src.ofNil w hk c

theorem append_srcK {P : Program} {w : World} {t tx ty e : TypeId} {z : Value} {size bytes : Nat} (E : Elem P t e z size bytes) {base : Nat} {v : Value} {n : Nat} {xs : List Value} (hown : w.ownsRow base e size v n xs)
    {x : Value} {m : Nat} {news : List Value} (hsrc : Src P size tx x m news w) (h63 : n + m ≤ maxLen) (hbytes : (n + m) * bytes ≤ 140737488355328) (hbase : base ≤ w.heap.size) :
    ∃ v' w', (Builtin.append_ #[t, tx] ty #[v, x]).run P w = .ok v' w' ∧ w'.ownsRow base e size v' (n + m) (xs ++ news) ∧ w.grownBy w' v.ownBlock ∧ (∀ k, v'.ownBlock = some k → v.ownBlock = some k ∨ w.heap.size ≤ k) := by
  obtain ⟨i, hi, hz, hsize, hby⟩ := info_parts E.hi
  have ht := E.ht
  have hzs := E.hz
  subst hsize hby
  have hsmall : n + m ≤ 9223372036854775807 := by simp only [maxLen] at h63; omega
  have hl := hsrc.newsLen
  have hlen : (xs ++ news).length = (n + m) * i.size := by rw [List.length_append, hown.1, hl, Nat.add_mul]
  have grown : ∀ (old : Nat), old < n + m → ∀ (row : Option Nat),
      (w.drew.alloc (.cells ((xs ++ news).toArray ++ Builtin.zeroCells z.cells (grownCap w (n + m) old e - (n + m))) e)).ownsRow base e i.size
        (.slice (some ⟨w.heap.size, 0, none⟩) (n + m) (grownCap w (n + m) old e)) (n + m) (xs ++ news) ∧
      w.grownBy (w.drew.alloc (.cells ((xs ++ news).toArray ++ Builtin.zeroCells z.cells (grownCap w (n + m) old e - (n + m))) e)) row := by
    intro old ho row
    have hge := grownCap_ge w (n + m) old e
    have hcm : grownCap w (n + m) old e ≤ maxLen := grownCap_le_maxLen w (n + m) old e h63
    refine ⟨⟨hlen, .inr ⟨w.heap.size, _, _, rfl, hbase, heap_alloc_new w.drew _, hge, hcm, ?_, ?_⟩⟩, ⟨rfl, rfl, rfl, by simp, fun k hk _ => Below.heap_alloc w.drew _ k hk⟩⟩
    · rw [Array.size_append, List.size_toArray, hlen, size_zeroCells, hzs, ← Nat.add_mul]
      congr 1
      omega
    · rw [Array.toList_append, ← hlen]
      exact List.take_left
  rcases hown.2 with ⟨rfl, rfl⟩ | ⟨g, cap, cur, rfl, hbg, hg, hnc, hcm, hcs, htake⟩
  · have hx : xs = [] := List.eq_nil_of_length_eq_zero (by simpa using hown.1)
    subst hx
    by_cases hm : m = 0
    · subst hm
      have hn : news = [] := List.eq_nil_of_length_eq_zero (by simpa using hl)
      subst hn
      refine ⟨.slice none 0 0, w, ?_, World.ownsRow_nil w base e i.size, ⟨rfl, rfl, rfl, Nat.le_refl _, fun _ _ _ => rfl⟩, fun k hk => by simp [Value.ownBlock] at hk⟩
      rcases hsrc.kind with ⟨e', hk⟩ | hk <;> simp [Builtin.append_, run_underlying ht, run_underlying hk, sizeOf, typeInfo, hi, hsrc.len, hsrc.cells]
    · have hr := run_append_grow_src (P := P) w t tx ty e i z ht hi hz none 0 0 [] (by simp [Builtin.firstCells]) x m news hsrc (by omega) (by omega) (growslice_fits (by omega) hbytes)
      have hgr := grown 0 (by omega) (Value.ownBlock (.slice none 0 0))
      exact ⟨_, _, hr, hgr.1, hgr.2, fun k hk => .inr (by simp [Value.ownBlock] at hk; omega)⟩
  · by_cases hroom : n + m ≤ cap
    · have hfit : 0 + n * i.size + 0 + news.length ≤ cur.size := by rw [hl, hcs, Nat.zero_add, Nat.add_zero, ← Nat.add_mul]; exact Nat.mul_le_mul_right _ hroom
      have hst := run_storeCells_at P g (n * i.size) e news 0 cur w hg (by omega) hsrc.one
      simp only [Nat.add_zero] at hst
      have hr : (Builtin.append_ #[t, tx] ty #[.slice (some ⟨g, 0, none⟩) n cap, x]).run P w =
          .ok (.slice (some ⟨g, 0, none⟩) (n + m) cap) (w.setRow g (cur.toList.take (n * i.size) ++ news ++ cur.toList.drop (n * i.size + news.length)).toArray) := by
        rcases hsrc.kind with ⟨e', hk⟩ | hk <;> simp [Builtin.append_, run_underlying ht, run_underlying hk, sizeOf, typeInfo, hi, hsrc.len, hroom, hsrc.cells, Addr.add_lit, hst]
      refine ⟨_, _, hr, ⟨hlen, .inr ⟨g, cap, _, rfl, hbg, setRow_heap w g cur _ e _ hg, hroom, hcm, ?_, ?_⟩⟩, ⟨rfl, rfl, rfl, by simp, fun k _ hk => setRow_other w g k _ (fun e => hk (by simp [Value.ownBlock, e]))⟩, fun k hk => .inl hk⟩
      · simp only [List.size_toArray, List.length_append, List.length_take, List.length_drop, Array.length_toList]
        omega
      · rw [htake, ← hlen]
        exact List.take_left
    · have holds : ∀ j u, xs[j]? = some u → w.cell? ((⟨g, 0, none⟩ : Addr).add j) = some u := hown.cells (g := g) rfl
      have hr := run_append_grow_src (P := P) w t tx ty e i z ht hi hz (some ⟨g, 0, none⟩) n cap xs (run_firstCells_some w.drew i.size n ⟨g, 0, none⟩ n cap xs hown.1 (by simpa using holds)) x m news hsrc (by omega) (by omega) (growslice_fits (by omega) hbytes)
      have hgr := grown cap (by omega) (Value.ownBlock (.slice (some ⟨g, 0, none⟩) n cap))
      exact ⟨_, _, hr, hgr.1, hgr.2, fun k hk => .inr (by simp [Value.ownBlock] at hk; omega)⟩

theorem append_src {P : Program} {w : World} {t tx ty e : TypeId} {z : Value} {size bytes : Nat} (E : Elem P t e z size bytes) {base : Nat} {v : Value} {n : Nat} {xs : List Value} (hown : w.ownsRow base e size v n xs)
    {x : Value} {m : Nat} {news : List Value} (hsrc : Src P size tx x m news w) (h63 : n + m ≤ maxLen) (hbytes : (n + m) * bytes ≤ 140737488355328) (hbase : base ≤ w.heap.size) :
    ∃ v' w', (Builtin.append_ #[t, tx] ty #[v, x]).run P w = .ok v' w' ∧ w'.ownsRow base e size v' (n + m) (xs ++ news) ∧ w.grownBy w' v.ownBlock := by
  obtain ⟨v', w', h1, h2, h3, _⟩ := append_srcK (ty := ty) E hown hsrc h63 hbytes hbase
  exact ⟨v', w', h1, h2, h3⟩

theorem drew_alloc_size (w : World) (o : Obj) : (w.alloc o).heap.size = w.heap.size + 1 := by simp

theorem Below.ofGrown {base : Nat} {w w' : World} {v : Value} {e : TypeId} {n : Nat} {xs : List Value} {size : Nat} (hg : w.grownBy w' v.ownBlock) (hown : w.ownsRow base e size v n xs) (hb : base ≤ w.heap.size) : Below base w w' :=
  (Below.refl base w).grown hg hb (fun k hk => (hown.lt k hk).1)

theorem bytes_one (l : List UInt8) : ∀ u ∈ l.map b8, u.oneCell' = true := by
  intro u hu
  obtain ⟨c, _, rfl⟩ := List.mem_map.1 hu
  rfl
/-- THE ARM at a builtin append whose run is known. -/
theorem wpList_append_run {P : Program} {w w' : World} {ops : Array Oper} {rest : List Oper} {o : Oper} {a : Act} {Q : Exit → Act → World → Prop} {t tx : TypeId} {v1 v2 v' : Value} {s x : Operand}
    (hrun : (Builtin.append_ #[t, tx] o.type #[v1, v2]).run P w = .ok v' w') (hg : o.guard = none)
    (ho : o.op = .call { callee := .builtin .append, args := #[s, x], argTypes := #[t, tx] }) (hs : a.eval s = v1) (hx : a.eval x = v2)
    (h : wpList P ops Q rest (a.put o.dst v') w') : wpList P ops Q (o :: rest) a w := by
  refine wpList_plain hg fun K hK' => ?_
  unfold Oper.wp execOp
  simp only [ho, resolve, invoke, builtin, Sem.run_bind, Sem.run_pure, Result.andThen_ok, List.map_toArray, List.map_cons, List.map_nil, hs, hx, hrun]
  exact hK' _ _ h
theorem drewN_two (w : World) (n m : Nat) : (w.drewN n).drewN m = w.drewN (n + m) := by rw [World.drewN_drewN]
theorem Blk.drew {w : World} {B : Nat} {E : TypeId} {xs : List Value} (h : Blk w B E xs) : Blk w.drew B E xs := h
theorem grownBy_drew {w w' : World} {r : Option Nat} (h : w.grownBy w' r) : w.grownBy w'.drew r := ⟨h.os, h.tape, h.output, h.size, h.block⟩
theorem Below.drewN {B : Nat} {a w : World} (h : Below B a w) (n : Nat) : Below B a (w.drewN n) := ⟨h.os, h.tape, h.output, h.size, h.block⟩
theorem Below.drewN' {B : Nat} {a w : World} {n : Nat} (h : Below B (a.drewN n) w) : Below B a w := ⟨h.os, h.tape, h.output, h.size, h.block⟩
theorem Blk.byteL {w : World} {B : Nat} {E : TypeId} {l : List UInt8} {rest : List Value} (h : Blk w B E (l.map b8 ++ rest)) {i : Nat} (hi : i < l.length) : w.cell? ⟨B, i, none⟩ = some (.int .u8 (l[i].toNat : Int)) :=
  h.cell (by rw [List.getElem?_append_left (by simpa using hi), List.getElem?_map, List.getElem?_eq_getElem hi]; rfl)
theorem Blk.setL {w : World} {B : Nat} {E : TypeId} {l : List UInt8} {rest : List Value} (h : Blk w B E (l.map b8 ++ rest)) {i : Nat} (hi : i < l.length) (c : UInt8) : Blk (w.setCell ⟨B, i, none⟩ (b8 c)) B E ((l.set i c).map b8 ++ rest) := by
  have h2 := h.set i (b8 c)
  rw [List.set_append_left _ _ (by simpa using hi), ← List.map_set] at h2
  exact h2
/-- An owned row of bytes, opened: nil, or a block. -/
theorem owns_bytes {w : World} {base : Nat} {E : TypeId} {v : Value} {l : List UInt8} (h : w.ownsRow base E 1 v l.length (l.map b8)) :
    (v = .slice none 0 0 ∧ l = []) ∨ ∃ g c rest, v = .slice (some ⟨g, 0, none⟩) l.length c ∧ base ≤ g ∧ Blk w g E (l.map b8 ++ rest) ∧ l.length ≤ c ∧ c ≤ maxLen ∧ l.length + rest.length = c := by
  obtain ⟨hl, ⟨rfl, hn⟩ | ⟨g, c, ys, rfl, hg, hb, hn, hm, hy, ht⟩⟩ := owns_open h
  · exact .inl ⟨rfl, List.eq_nil_of_length_eq_zero hn⟩
  · refine .inr ⟨g, c, ys.drop l.length, rfl, hg, ?_, hn, hm, by simp; omega⟩
    rw [← ht, List.take_append_drop]; exact hb
theorem Blk.ownsB {w : World} {base g c : Nat} {E : TypeId} {l : List UInt8} {rest : List Value} (h : Blk w g E (l.map b8 ++ rest)) (hg : base ≤ g) (hn : l.length ≤ c) (hm : c ≤ maxLen) (hc : l.length + rest.length = c) :
    w.ownsRow base E 1 (.slice (some ⟨g, 0, none⟩) l.length c) l.length (l.map b8) := by
  have h2 := h.owns (base := base) (n := l.length) hg hn (by simp; omega) hm
  rw [List.take_left' (by simp)] at h2
  exact h2
/-! What a call leaves as it was, handed on. -/
theorem Gr.trans {a b c : World} (h : Below a.heap.size a b) (k : Below b.heap.size b c) : Below a.heap.size a c := Below.trans h (k.mono h.size)
theorem Gr.drewN (a : World) (n : Nat) : Below a.heap.size a (a.drewN n) := Below.drewN (Below.refl _ _) n
theorem add_add (a : Addr) (n m : Nat) : (a.add n).add m = a.add (n + m) := by
  unfold Addr.add
  by_cases hn : n = 0 <;> by_cases hm : m = 0 <;> simp [hn, hm, Nat.add_assoc]
theorem Row.take {w : World} {a : Option Addr} {xs : List Value} (h : Row w a xs) (n : Nat) : Row w a (xs.take n) :=
  ⟨fun h0 => h.1 (by simp at h0 ⊢; omega), fun i u hu => h.2 i u (by
    rw [List.getElem?_take] at hu
    split at hu
    · exact hu
    · cases hu)⟩
theorem Row.nil (w : World) (a : Option Addr) : Row w a [] := ⟨by simp, by simp⟩
end Go.Hd
set_option maxRecDepth 20000
namespace Go.Hd
open Go Go.RowKit

/-! u64, u32 as bit vectors. -/
/-! The document's turn, bit by bit. -/
def pl (i : Nat) (n : Int) (o : Nat) : Nat := (((i : Int) + n) % (o : Int)).toNat
/-! Flipped. -/
def st (m : BitVec 32) (k : Nat) (x : BitVec 32) : BitVec 32 := x >>> k &&& m ||| (x &&& m) <<< k
/-! Numbers as bytes. -/
/-- The lowest n bytes of x, the lowest first. -/
def putL (x : Nat) : Nat → List UInt8
  | 0 => []
  | n + 1 => putL x n ++ [UInt8.ofNat (x / 256 ^ n)]
@[simp] theorem putL_length (x n : Nat) : (putL x n).length = n := by
  induction n with
  | zero => rfl
  | succ n ih => simp [putL, ih]
theorem set_next {α : Type} (A : List α) (z v : α) (k m : Nat) (hA : A.length = k) : (A ++ List.replicate (m + 1) z).set k v = (A ++ [v]) ++ List.replicate m z := by
  subst hA
  rw [List.set_append_right _ _ (Nat.le_refl _), Nat.sub_self, List.replicate_succ, List.set_cons_zero, List.append_assoc]
  rfl
theorem byte_shr (x k : Nat) : ((x : Int) / 2 ^ (8 * k)) % 256 = ((UInt8.ofNat (x / 256 ^ k)).toNat : Int) := by
  have e : (2 : Int) ^ (8 * k) = ((256 ^ k : Nat) : Int) := by rw [Int.pow_mul]; simp
  rw [e]; simp
/-- m is l, turned round as far as places i and j. -/
def RevAt (l m : List UInt8) (n i j : Nat) : Prop := m.length = l.length ∧ ∀ p, m[p]? = if p < n ∧ (p < i ∨ j < p) then l[n - 1 - p]? else l[p]?
theorem RevAt.start (l : List UInt8) (n : Nat) : RevAt l l n 0 (n - 1) := ⟨rfl, fun p => by rw [if_neg (by omega)]⟩
theorem RevAt.step {l m : List UInt8} {n i j : Nat} (h : RevAt l m n i j) (hn : n ≤ l.length) (hij : i + j + 1 = n) (hlt : i < j) :
    RevAt l ((m.set i (m[j]'(by have := h.1; omega))).set j (m[i]'(by have := h.1; omega))) n (i + 1) (j - 1) := by
  obtain ⟨h1, h2⟩ := h
  refine ⟨by simp [h1], fun p => ?_⟩
  have ei : m[i]? = l[i]? := by rw [h2, if_neg (by omega)]
  have ej : m[j]? = l[j]? := by rw [h2, if_neg (by omega)]
  by_cases hpj : p = j
  · subst hpj
    rw [List.getElem?_set_self (by simp; omega), if_pos (by omega), show n - 1 - p = i by omega, ← ei, List.getElem?_eq_getElem (by omega)]
  · rw [List.getElem?_set_ne (by omega)]
    by_cases hpi : p = i
    · subst hpi
      rw [List.getElem?_set_self (by omega), if_pos (by omega), show n - 1 - p = j by omega, ← ej, List.getElem?_eq_getElem (by omega)]
    · rw [List.getElem?_set_ne (by omega), h2]
      by_cases hc : p < n ∧ (p < i ∨ j < p)
      · rw [if_pos hc, if_pos (by omega)]
      · rw [if_neg hc, if_neg (by omega)]
theorem RevAt.done {l m : List UInt8} {n i j : Nat} (h : RevAt l m n i j) (hn : n ≤ l.length) (hij : i + j + 1 = n) (hlt : ¬ i < j) : m = (l.take n).reverse ++ l.drop n := by
  obtain ⟨h1, h2⟩ := h
  apply List.ext_getElem?
  intro p
  rw [h2]
  by_cases hp : p < n
  · rw [List.getElem?_append_left (by simp; omega), List.getElem?_reverse (by simp; omega), List.length_take, Nat.min_eq_left hn, List.getElem?_take_of_lt (by omega)]
    by_cases hc : p < i ∨ j < p
    · rw [if_pos ⟨hp, hc⟩]
    · rw [if_neg (by omega), show n - 1 - p = p by omega]
  · rw [if_neg (by omega), List.getElem?_append_right (by simp; omega), List.length_reverse, List.length_take, Nat.min_eq_left hn, List.getElem?_drop, show n + (p - n) = p by omega]
theorem RevAt.whole {l m : List UInt8} {i j : Nat} (h : RevAt l m l.length i j) (hij : i + j + 1 = l.length) (hlt : ¬ i < j) : m = l.reverse := by
  have := h.done (Nat.le_refl _) hij hlt
  simpa using this
/-! Turns, there and back; two as one; flipped. -/
end Go.Hd
set_option maxRecDepth 20000
namespace Go.Hd
open Go Go.RowKit

/-- A text of bytes. -/
def str (l : List UInt8) : ByteArray := ⟨l.toArray⟩
@[simp] theorem str_data (l : List UInt8) : (str l).data.toList = l := by simp [str]
@[simp] theorem str_size (l : List UInt8) : (str l).size = l.length := by simp [str, ByteArray.size]
theorem str_inj {l m : List UInt8} : str l = str m ↔ l = m := by
  constructor
  · intro h
    have := congrArg (fun s : ByteArray => s.data.toList) h
    simpa using this
  · rintro rfl; rfl
theorem str_of (s : ByteArray) : str s.data.toList = s := by cases s; simp [str]

theorem run_convert_row {P : Program} {w : World} {src e dst : TypeId} (hs : P.underlying src = some (.slice e)) (he : P.underlying e = some (.int .u8)) (hd' : P.underlying dst = some .string) {a : Option Addr} {n c : Nat} {l : List UInt8} (hn : n = l.length) (h : Row w a (l.map b8)) :
    (convert src dst (.slice a n c)).run P w = .ok (.string (str l)) w := by
  subst hn
  cases a with
  | none =>
    have h0 : l = [] := by
      cases l with
      | nil => rfl
      | cons x l => have := h.1 (by simp); cases this
    subst h0
    rw [run_convert_bytes_nil w src e hs he _ _ dst hd']
    rfl
  | some a =>
    have hl : (loadCells a l.length).run P w = .ok ((l.map fun c => (c.toNat : Int)).map (Value.int .u8)).toArray w := by
      have := run_loadCells_list (P := P) w a (l.map b8) (fun j v hj => h.2 j v hj)
      rw [List.map_map]
      simpa [b8, Function.comp_def] using this
    rw [run_convert_bytes_string w src dst e _ l.length c hs he hd', run_bytesToString w _ l.length c _ hl, foldl_push_bytes]
    have e : ((fun n : Int => UInt8.ofNat n.toNat) ∘ fun c : UInt8 => (c.toNat : Int)) = id := by funext c; simp
    simp [str, ByteArray.empty, ByteArray.emptyWithCapacity, e]
    rfl

theorem grownBy_trans {a b c : World} {r : Option Nat} (h : a.grownBy b r) (k : b.grownBy c r) : a.grownBy c r :=
  ⟨k.os.trans h.os, k.tape.trans h.tape, k.output.trans h.output, Nat.le_trans h.size k.size, fun i hi hne => (k.block i (Nat.lt_of_lt_of_le hi h.size) hne).trans (h.block i hi hne)⟩
theorem grownBy_below {a b : World} {r : Option Nat} (h : Below a.heap.size a b) : a.grownBy b r :=
  ⟨h.os, h.tape, h.output, h.size, fun i hi _ => h.block i hi⟩
theorem ownsRow_below {w w' : World} {base : Nat} {e : TypeId} {size : Nat} {v : Value} {n : Nat} {xs : List Value} (h : w.ownsRow base e size v n xs) (hb : Below w.heap.size w w') : w'.ownsRow base e size v n xs :=
  h.kept (grownBy_below (r := none) hb) (by cases hv : v.ownBlock <;> simp)
theorem Blk.below {w w' : World} {g : Nat} {T : TypeId} {xs : List Value} (h : Blk w g T xs) (hb : Below w.heap.size w w') : Blk w' g T xs := by
  unfold Blk at *
  rw [hb.block g (Array.getElem?_eq_some_iff.1 h).1]; exact h
theorem Blk.grown {w w' : World} {g r : Nat} {T : TypeId} {xs : List Value} (h : Blk w g T xs) (hb : w.grownBy w' (some r)) (hne : g ≠ r) : Blk w' g T xs := by
  unfold Blk at *
  rw [hb.block g (Array.getElem?_eq_some_iff.1 h).1 (by simpa using hne)]; exact h

/-! A slice of a slice: where it lies is left open, what it reads is known. -/
section
variable {P : Program} {w : World} {t e : TypeId} {s : Nat}
end
/-- A builtin append whose run is known, as one step of a region that draws. -/
theorem step_append_run {P : Program} {ops : Array Oper} {o : Oper} {a : Act} {w w' : World} {K : Act → World → Prop} {Q : Exit → Act → World → Prop} {E : Prop} {t tx : TypeId} {v1 v2 v' : Value} {s x : Operand}
    (hrun : (Builtin.append_ #[t, tx] o.type #[v1, v2]).run P w = .ok v' w') (hg : o.guard = none)
    (hop : o.op = .call { callee := .builtin .append, args := #[s, x], argTypes := #[t, tx] }) (hs : a.eval s = v1) (hx : a.eval x = v2) (hK : K (a.put o.dst v') w') :
    if Region.wanted o (yielded ops a.tmps) = true then Oper.wp P o a w K Q else E := by
  have hw : Region.wanted o (yielded ops a.tmps) = true := by simp [Region.wanted, hg]
  rw [if_pos hw]
  unfold Oper.wp execOp
  simp only [hop, resolve, invoke, builtin, Sem.run_bind, Sem.run_pure, Result.andThen_ok, List.map_toArray, List.map_cons, List.map_nil, hs, hx, hrun]
  exact hK
/-! Rows apart from blocks. -/
theorem Row.grown {w w' : World} {a : Option Addr} {xs : List Value} {g : Nat} (h : Row w a xs) (hg : w.grownBy w' (some g)) (hne : 0 < xs.length → (hd a).block ≠ g) : Row w' a xs := by
  refine ⟨h.1, fun i u hu => ?_⟩
  have hc := h.2 i u hu
  have hpos : 0 < xs.length := by
    rcases Nat.lt_or_ge i xs.length with h1 | h1
    · omega
    · rw [List.getElem?_eq_none h1] at hu; cases hu
  have hlt := World.block_lt_of_cell? w _ hc
  rw [add_block] at hlt
  rw [World.cell?_of_block (w := w) (by rw [add_block]; exact hg.block _ hlt (by simpa using hne hpos))]
  exact hc
theorem Row.keptFar {w w' : World} {a : Option Addr} {xs : List Value} {r : Option Nat} (h : Row w a xs) (hg : w.grownBy w' r) (hne : 0 < xs.length → r ≠ some (hd a).block) : Row w' a xs := by
  refine ⟨h.1, fun i u hu => ?_⟩
  have hc := h.2 i u hu
  have hpos : 0 < xs.length := by
    rcases Nat.lt_or_ge i xs.length with h1 | h1
    · omega
    · rw [List.getElem?_eq_none h1] at hu; cases hu
  have hlt := World.block_lt_of_cell? w _ hc
  rw [add_block] at hlt
  rw [World.cell?_of_block (w := w) (by rw [add_block]; exact hg.block _ hlt (fun e => hne hpos e.symm))]
  exact hc
theorem Blk.keptBy {w w' : World} {g : Nat} {r : Option Nat} {T : TypeId} {xs : List Value} (h : Blk w g T xs) (hb : w.grownBy w' r) (hne : r ≠ some g) : Blk w' g T xs := by
  unfold Blk at *
  rw [hb.block g (Array.getElem?_eq_some_iff.1 h).1 (fun e => hne e.symm)]; exact h
theorem owns_at {w : World} {base : Nat} {e : TypeId} {v : Value} {n : Nat} {xs : List Value} (h : w.ownsRow base e 1 v n xs) :
    ∃ a c, v = .slice a n c ∧ n ≤ c ∧ c ≤ maxLen ∧ Row w a xs ∧ (0 < xs.length → base ≤ (hd a).block ∧ (hd a).block < w.heap.size) := by
  obtain ⟨hl, ⟨rfl, rfl⟩ | ⟨g, c, ys, rfl, hg, hb, hn, hm, hy, ht⟩⟩ := owns_open h
  · obtain rfl : xs = [] := List.eq_nil_of_length_eq_zero hl
    exact ⟨none, 0, rfl, Nat.le_refl _, Nat.zero_le _, Row.nil _ _, fun h => by simp at h⟩
  · refine ⟨_, c, rfl, hn, hm, ?_, fun _ => ⟨hg, hb.lt⟩⟩
    rw [← ht]; exact hb.row.take n
theorem row_alloc (w : World) (C : Array Value) (E : TypeId) (f : Nat × Nat) : Row (w.alloc (.cells C E f)) (some ⟨w.heap.size, 0, none⟩) C.toList := by
  refine ⟨fun _ => rfl, fun i u hu => ?_⟩
  have e : (hd (some ⟨w.heap.size, 0, none⟩)).add i = ⟨w.heap.size, i, none⟩ := by unfold Addr.add; simp; omega
  rw [e]
  unfold World.cell?
  rw [heap_alloc_new w (.cells C E f)]
  simpa using hu
end Go.Hd
set_option maxRecDepth 20000
namespace Go.Hd
open Go Go.RowKit

theorem str_beq (l m : List UInt8) : ((str l).toList == (str m).toList) = (l == m) := by
  rw [Bool.eq_iff_iff, Lib.bytes_beq_iff, beq_iff_eq]
  exact str_inj
/-- Below block B all is as it was, but for block r. -/
structure Kp (B : Nat) (r : Option Nat) (w w' : World) : Prop where
  os : w'.os = w.os
  tape : w'.tape = w.tape
  output : w'.output = w.output
  size : w.heap.size ≤ w'.heap.size
  block : ∀ k, k < B → some k ≠ r → w'.heap[k]? = w.heap[k]?
theorem Kp.trans {B : Nat} {r : Option Nat} {a b c : World} (h : Kp B r a b) (k : Kp B r b c) : Kp B r a c :=
  ⟨k.os.trans h.os, k.tape.trans h.tape, k.output.trans h.output, Nat.le_trans h.size k.size, fun i hi hr => (k.block i hi hr).trans (h.block i hi hr)⟩
theorem Kp.ofBelow {B B' : Nat} {r : Option Nat} {a b : World} (h : Below B' a b) (hB : B ≤ B') : Kp B r a b := ⟨h.os, h.tape, h.output, h.size, fun i hi _ => h.block i (by omega)⟩
theorem Kp.ofGrown {B : Nat} {r q : Option Nat} {a b : World} (h : a.grownBy b q) (hB : B ≤ a.heap.size) (hq : ∀ k, q = some k → B ≤ k ∨ r = some k) : Kp B r a b :=
  ⟨h.os, h.tape, h.output, h.size, fun i hi hr => h.block i (by omega) (fun e => by
    rcases hq i e.symm with h1 | h1
    · omega
    · exact hr h1.symm)⟩
theorem Kp.set {B : Nat} {g : Nat} (w : World) (i : Nat) (v : Value) : Kp B (some g) w (w.setCell ⟨g, i, none⟩ v) :=
  ⟨rfl, rfl, rfl, by simp, fun k _ hk => Below.heap_setCell w _ v k (fun e => hk (by rw [e]))⟩
theorem Kp.none {B : Nat} {r : Option Nat} {a b : World} (h : Kp B none a b) : Kp B r a b := ⟨h.os, h.tape, h.output, h.size, fun i hi _ => h.block i hi (by simp)⟩
theorem Kp.below {B base : Nat} {r : Option Nat} {a b : World} (h : Kp B r a b) (hB : base ≤ B) (hr : ∀ k, r = some k → base ≤ k) : Below base a b :=
  ⟨h.os, h.tape, h.output, h.size, fun i hi => h.block i (by omega) (fun e => by have := hr i e.symm; omega)⟩
theorem Blk.kp {w w' : World} {B g : Nat} {r : Option Nat} {T : TypeId} {xs : List Value} (h : Blk w g T xs) (hb : Kp B r w w') (hg : g < B) (hr : r ≠ some g) : Blk w' g T xs := by
  unfold Blk at *
  rw [hb.block g hg (fun e => hr e.symm)]; exact h
/-- A buffer of bytes v, held in a block g whose cells are xs; its own memory lies from block B on. -/
structure Buf (B : Nat) (w : World) (g : Nat) (T E : TypeId) (xs : List Value) (v : Value) (l : List UInt8) : Prop where
  blk : Blk w g T xs
  own : w.ownsRow B E 1 v l.length (l.map b8)
  lt : g < B
  le : B ≤ w.heap.size
theorem Buf.keep {B g : Nat} {w w' : World} {T E : TypeId} {xs : List Value} {v : Value} {l : List UInt8} (h : Buf B w g T E xs v l) (hb : Below w.heap.size w w') : Buf B w' g T E xs v l :=
  ⟨h.blk.below hb, ownsRow_below h.own hb, h.lt, Nat.le_trans h.le hb.size⟩
theorem Buf.store {B g : Nat} {w : World} {T E : TypeId} {xs : List Value} {v : Value} {l : List UInt8} (h : Buf B w g T E xs v l) (i : Nat) (u : Value) : Buf B (w.setCell ⟨g, i, none⟩ u) g T E (xs.set i u) v l := by
  have hg : w.grownBy (w.setCell ⟨g, i, none⟩ u) (some g) := ⟨rfl, rfl, rfl, by simp, fun k _ hk => Below.heap_setCell w _ u k (fun e => hk (by rw [e]))⟩
  refine ⟨h.blk.set i u, h.own.kept hg ?_, h.lt, by have := h.le; simpa using this⟩
  right
  intro e
  have := h.own.lt g e
  have := h.lt
  omega
/-! A slice of bytes of the call's own, or any: what it reads, and where it lies. -/
/-- v is an owned row of bytes. -/
abbrev Own (E : TypeId) (w : World) (base : Nat) (v : Value) (l : List UInt8) : Prop := w.ownsRow base E 1 v l.length (l.map b8)
theorem Own.at {E : TypeId} {w : World} {base : Nat} {v : Value} {l : List UInt8} (h : Own E w base v l) :
    ∃ a c, v = .slice a l.length c ∧ l.length ≤ c ∧ c ≤ maxLen ∧ Row w a (l.map b8) ∧ (0 < l.length → base ≤ (hd a).block ∧ (hd a).block < w.heap.size) := by
  obtain ⟨a, c, h1, h2, h3, h4, h5⟩ := owns_at h
  exact ⟨a, c, h1, h2, h3, h4, fun h0 => h5 (by simpa using h0)⟩
end Go.Hd
set_option maxRecDepth 20000
namespace Go.Hd
open Go Go.RowKit

/-! The operations under names of their own: the walk does not take them apart. -/
def ldOp (t : TypeId) (x : Value) : Sem Value := Instr.loadAt t x
def stoOp (t : TypeId) (x y : Value) : Sem Unit := Instr.storeAt t x y
def alOp (t : TypeId) : Sem Value := Instr.alloc t true (.tuple #[])
def bdOp (t : TypeId) (parts : Array (Nat × Value)) : Sem Value := Instr.build t parts
def bsOp (t : TypeId) (n : Nat) (parts : Array (Nat × Value)) : Sem Value := Instr.buildSlice t n parts
/-- Each is one cell. -/
def OneC (cs : Array Value) : Prop := cs.all (·.oneCell') = true
def apOp (t : TypeId) (x : Value) : Sem Value := Instr.arrayAt t x
section
variable (ρ : Operand → Value) (dst : Option Tmp) (ty : TypeId) (pos : String) (after : Array Edge) (guard : Option (Nat × Bool))
theorem ex_ld (t : TypeId) (x : Operand) : execOp ρ { dst, op := .load t x, type := ty, pos, after, guard } = (do pure (.value (← ldOp t (ρ x)))) := rfl
theorem ex_st (t : TypeId) (x y : Operand) : execOp ρ { dst, op := .store t x y, type := ty, pos, after, guard } = (do stoOp t (ρ x) (ρ y); pure .skip) := rfl
theorem ex_bs (t : TypeId) (n : Nat) (parts : Array (Nat × Operand)) : execOp ρ { dst, op := .buildSlice t n parts, type := ty, pos, after, guard } = (do pure (.value (← bsOp t n (parts.map fun (i, x) => (i, ρ x))))) := rfl
end

section
variable {P : Program}
/-! Loads. -/
theorem run_loadVar_at (w : World) (p : Addr) (ty : TypeId) (cs : List Value) (d : TypeDesc) (hc : ∀ j v, cs[j]? = some v → w.cell? (p.add j) = some v)
    (hu : P.underlying ty = some d) (hd : d.isRow = true) (hi : (P.info? ty).map (·.size) = some cs.length) : (loadVar ty p).run P w = .ok (.agg cs.toArray) w := by
  have hl : (loadCells p cs.length).run P w = .ok cs.toArray w := run_loadCells_list (P := P) w p cs hc
  cases hq : P.info? ty with
  | none => simp [hq] at hi
  | some i =>
    have hs : i.size = cs.length := by simpa [hq] using hi
    have hagg : (isAgg ty).run P w = .ok true w := by
      unfold isAgg
      rw [Sem.run_bind, run_underlying hu w]
      cases d <;> simp_all
    simp [loadVar, Sem.run_bind, hagg, sizeOf, typeInfo, hq, hs, hl]
theorem ldOp_at {w : World} {p : Addr} {ty : TypeId} {cs : List Value} {d : TypeDesc} (hc : ∀ j v, cs[j]? = some v → w.cell? (p.add j) = some v)
    (hu : P.underlying ty = some d) (hd : d.isRow = true) (hi : (P.info? ty).map (·.size) = some cs.length) : (ldOp ty (.pointer (some p))).run P w = .ok (.agg cs.toArray) w := by
  unfold ldOp
  simp only [Instr.loadAt, Instr.sureAddr, Sem.run_bind, Sem.run_pure, Result.andThen_ok, run_loadVar_at w p ty cs d hc hu hd hi]
/-- Out of a block that is known whole. -/
theorem ldOp_blk {w : World} {g o n : Nat} {T ty : TypeId} {xs : List Value} {d : TypeDesc} (h : Blk w g T xs) (hn : o + n ≤ xs.length)
    (hu : P.underlying ty = some d) (hd : d.isRow = true) (hi : (P.info? ty).map (·.size) = some n) : (ldOp ty (.pointer (some ⟨g, o, none⟩))).run P w = .ok (.agg ((xs.drop o).take n).toArray) w := by
  refine ldOp_at (fun j v hv => ?_) hu hd (by rw [hi]; simp; omega)
  have e : (⟨g, o, none⟩ : Addr).add j = ⟨g, o + j, none⟩ := Addr.add_mid _ _ _
  rw [e]
  refine h.cell ?_
  rw [List.getElem?_take] at hv
  split at hv
  · rw [List.getElem?_drop] at hv; exact hv
  · cases hv
theorem ldOp_all {w : World} {g : Nat} {T ty : TypeId} {xs : List Value} {d : TypeDesc} (h : Blk w g T xs)
    (hu : P.underlying ty = some d) (hd : d.isRow = true) (hi : (P.info? ty).map (·.size) = some xs.length) : (ldOp ty (.pointer (some ⟨g, 0, none⟩))).run P w = .ok (.agg xs.toArray) w := by
  have := ldOp_blk (P := P) (o := 0) (n := xs.length) h (by omega) hu hd hi
  simpa using this
theorem blk_alloc (w : World) (cs : Array Value) (T : TypeId) : Blk (w.alloc (.cells cs T)) w.heap.size T cs.toList := Blk.new _ _ _
theorem ldOp_new {w : World} {b : Nat} {cs : Array Value} {T ty : TypeId} {d : TypeDesc} (hb : w.heap.size = b)
    (hu : P.underlying ty = some d) (hd : d.isRow = true) (hi : (P.info? ty).map (·.size) = some cs.size) : (ldOp ty (.pointer (some ⟨b, 0, none⟩))).run P (w.alloc (.cells cs T)) = .ok (.agg cs) (w.alloc (.cells cs T)) := by
  subst hb
  have := ldOp_all (P := P) (blk_alloc w cs T) hu hd (by rw [hi]; simp)
  simpa using this

/-! Stores. -/
theorem stOp_new {w : World} {b : Nat} {old cs : Array Value} {T ty : TypeId} (hb : w.heap.size = b) (hi : (P.info? ty).map (·.size) = some cs.size) (ho : old.size = cs.size) (h1 : cs.all (·.oneCell') = true) :
    (stoOp ty (.pointer (some ⟨b, 0, none⟩)) (.agg cs)).run P (w.alloc (.cells old T)) = .ok () (w.alloc (.cells cs T)) := by
  subst hb
  unfold stoOp
  simp only [Instr.storeAt, Instr.sureAddr, Sem.run_bind, Sem.run_pure, Result.andThen]
  rw [run_storeVar_row _ _ T ty old cs (heap_alloc_last w _) hi ho h1, World.setRow_alloc_new]
theorem stOp_blk {w : World} {g o : Nat} {T ty : TypeId} {xs cs : List Value} (h : Blk w g T xs) (hn : o + cs.length ≤ xs.length) (hi : (P.info? ty).map (·.size) = some cs.length) (h1 : ∀ v ∈ cs, v.oneCell' = true) :
    ∃ w', (stoOp ty (.pointer (some ⟨g, o, none⟩)) (.agg cs.toArray)).run P w = .ok () w' ∧ Blk w' g T (xs.take o ++ cs ++ xs.drop (o + cs.length)) ∧ w.grownBy w' (some g) := by
  have hst := run_storeCells_at P g o T cs 0 xs.toArray w h (by simpa using hn) h1
  refine ⟨w.setRow g (xs.toArray.toList.take (o + 0) ++ cs ++ xs.toArray.toList.drop (o + 0 + cs.length)).toArray, ?_, ?_, ⟨rfl, rfl, rfl, by simp, fun k _ hk => setRow_other w g k _ (fun e => hk (by rw [e]))⟩⟩
  · unfold stoOp
    simp only [Instr.storeAt, Instr.sureAddr, Sem.run_bind, Sem.run_pure, Result.andThen_ok]
    cases hq : P.info? ty with
    | none => simp [hq] at hi
    | some i =>
      have hs : cs.length = i.size := by simp [hq] at hi; omega
      simp [storeVar, sizeOf, typeInfo, hq, Value.cells, hs, hst]
  · have := setRow_heap w g xs.toArray (xs.toArray.toList.take (o + 0) ++ cs ++ xs.toArray.toList.drop (o + 0 + cs.length)).toArray T (0, 0) h
    simpa [Blk] using this
/-! New variables. -/
theorem alOp_run {t : TypeId} {z : Array Value} {w : World} (hz : (P.info? t).bind (·.zero) = some (.agg z)) : (alOp t).run P w = .ok (.pointer (some ⟨w.heap.size, 0, none⟩)) (w.alloc (.cells z t)) := by
  obtain ⟨i, hi, hz⟩ := Option.bind_eq_some_iff.1 hz
  unfold alOp
  simp [Instr.alloc, zeroValue, typeInfo, hi, hz, newVar, newRow, Value.cells]
/-! Built. -/
theorem put_cells (off : Nat) (c z : Array Value) (h : off + c.size ≤ z.size) :
    (c.zipIdx.foldl (fun cs (x : Value × Nat) => cs.setIfInBounds (off + x.2) x.1) z) = (z.toList.take off ++ c.toList ++ z.toList.drop (off + c.size)).toArray := by
  have e : c.zipIdx.foldl (fun cs (x : Value × Nat) => cs.setIfInBounds (off + x.2) x.1) z = (c.toList.zipIdx 0).foldl (fun cs (x : Value × Nat) => cs.setIfInBounds (off + x.2) x.1) z := by
    rw [← Array.foldl_toList, Array.toList_zipIdx]
  obtain ⟨h1, h2⟩ := Great.foldl_set off c.toList 0 z
  rw [e]
  apply Array.ext_getElem?
  intro k
  rw [h2 k]
  simp only [Nat.add_zero, Array.length_toList, List.getElem?_toArray]
  by_cases hk : k < off
  · rw [if_neg (by omega), List.append_assoc, List.getElem?_append_left (by simp; omega), List.getElem?_take_of_lt hk]; simp
  · by_cases hk2 : k < off + c.size
    · rw [if_pos ⟨by omega, hk2, by omega⟩, List.append_assoc, List.getElem?_append_right (by simp; omega), List.getElem?_append_left (by simp; omega)]
      congr 1
      simp; omega
    · rw [if_neg (by omega), List.getElem?_append_right (by simp; omega), List.getElem?_drop]
      simp only [List.length_append, List.length_take, Array.length_toList]
      rw [show off + c.size + (k - (min off z.size + c.size)) = k by omega]
      simp
theorem fill_cons {place : Nat → Option (Nat × Nat)} {z : Array Value} {i off size : Nat} {v : Value} {rest : List (Nat × Value)} (hp : place i = some (off, size)) (hs : v.cells.size = size) (hz : off + size ≤ z.size) :
    Instr.fill place z ((i, v) :: rest) = Instr.fill place (z.toList.take off ++ v.cells.toList ++ z.toList.drop (off + size)).toArray rest := by
  subst hs
  rw [Instr.fill, hp]
  simp only
  rw [if_neg (by simp; omega), put_cells off v.cells z hz]
theorem fill_nil {place : Nat → Option (Nat × Nat)} {z : Array Value} : Instr.fill place z [] = some z := rfl
theorem built_struct {t : TypeId} {fs : Array Field} {z : Value} {places : List (Nat × Nat)} {parts : List (Nat × Value)} (hu : P.underlying t = some (.struct fs)) (hz : (P.info? t).bind (·.zero) = some z)
    (hp : fs.toList.mapM (fun f => (P.info? f.type).map fun i => (f.offset, i.size)) = some places) : P.built t parts = Instr.fill (places.toArray[·]?) z.cells parts := by
  obtain ⟨i, hi, hz⟩ := Option.bind_eq_some_iff.1 hz
  unfold Program.built
  simp only [hi, hu, hz, hp]
/-- Two parts that fill it. -/
theorem bdOp_two {t : TypeId} {fs : Array Field} {z : Value} {m n : Nat} {u v : Value} {w : World} (hu : P.underlying t = some (.struct fs)) (hz : (P.info? t).bind (·.zero) = some z)
    (hp : fs.toList.mapM (fun f => (P.info? f.type).map fun i => (f.offset, i.size)) = some [(0, m), (m, n)]) (hzs : z.cells.size = m + n) (hm : u.cells.size = m) (hn : v.cells.size = n) :
    (bdOp t #[(0, u), (1, v)]).run P w = .ok (.agg (u.cells.toList ++ v.cells.toList).toArray) w := by
  refine run_build w t _ _ ?_
  rw [built_struct hu hz hp]
  have h1 := Array.length_toList (xs := u.cells)
  rw [fill_cons (off := 0) (size := m) (by rfl) hm (by omega), fill_cons (off := m) (size := n) (by rfl) hn (by simp; omega), fill_nil]
  congr 2
  simp only [List.take_zero, List.nil_append, Nat.zero_add]
  rw [List.take_left' (by omega), List.drop_eq_nil_of_le (by simp; omega), List.append_nil]
theorem bdOp_none {t : TypeId} {fs : Array Field} {z : Array Value} {places : List (Nat × Nat)} {w : World} (hu : P.underlying t = some (.struct fs)) (hz : (P.info? t).bind (·.zero) = some (.agg z))
    (hp : fs.toList.mapM (fun f => (P.info? f.type).map fun i => (f.offset, i.size)) = some places) : (bdOp t #[]).run P w = .ok (.agg z) w := by
  refine run_build w t _ _ ?_
  rw [built_struct hu hz hp]
  rfl
/-- A slice of one. -/
theorem bsOp_one {t e : TypeId} {z : Value} {s : Nat} {cs : Array Value} {w : World} (hu : P.underlying t = some (.slice e)) (hz : (P.info? e).map (fun i => (i.zero, i.size)) = some (some z, s)) (hs : 0 < s) (hs2 : s ≤ 1000) (hzs : z.cells.size = s) (hc : cs.size = s) :
    (bsOp t 1 #[(0, .agg cs)]).run P w = .ok (.slice (some ⟨w.heap.size, 0, none⟩) 1 1) (w.alloc (.cells cs e)) := by
  obtain ⟨i, hi, hzz⟩ := Option.map_eq_some_iff.1 hz
  simp only [Prod.mk.injEq] at hzz
  obtain ⟨hz1, hz2⟩ := hzz
  refine run_buildSlice w t e 1 _ cs i z hu hi hz1 (by omega) (by omega) ?_
  rw [hz2]
  have := Great.fill_whole hs [Value.agg cs] ((Array.range (1 * s)).map (z.cells[· % z.cells.size]!)) (by simp [Value.cells, hc]) (by simp)
  simpa [Value.cells] using this
theorem apOp_run {t e : TypeId} {n m c : Nat} {a : Addr} {w : World} (hu : P.underlying t = some (.array n e)) (hn : n ≤ m) : (apOp t (.slice (some a) m c)).run P w = .ok (.pointer (some a)) w := by
  unfold apOp Instr.arrayAt
  simp only [Sem.run_bind, run_underlying hu, Result.andThen_ok]
  rw [if_neg (by omega)]
  rfl
/-! Compared. -/
end
end Go.Hd
set_option maxRecDepth 20000
namespace Go.Hd
open Go Go.RowKit

theorem flatten_at {α : Type} {s : Nat} : ∀ {xs : List (List α)}, (∀ x ∈ xs, x.length = s) → ∀ {i j : Nat} {c : List α} {u : α}, xs[i]? = some c → c[j]? = some u → xs.flatten[i * s + j]? = some u
  | [], _, i, j, c, u, h, _ => by simp at h
  | x :: xs, hs, i, j, c, u, h1, h2 => by
    have hx := hs x (by simp)
    rw [List.flatten_cons]
    cases i with
    | zero =>
      simp only [List.getElem?_cons_zero, Option.some.injEq] at h1
      subst h1
      have hj : j < x.length := by
        rcases Nat.lt_or_ge j x.length with h | h
        · exact h
        · rw [List.getElem?_eq_none h] at h2; cases h2
      rw [Nat.zero_mul, Nat.zero_add, List.getElem?_append_left hj]; exact h2
    | succ i =>
      rw [Nat.add_mul, Nat.one_mul, List.getElem?_append_right (by omega), hx, show i * s + s + j - s = i * s + j by omega]
      exact flatten_at (fun y hy => hs y (by simp [hy])) (by simpa using h1) h2
theorem flatten_len {α : Type} {s : Nat} : ∀ {xs : List (List α)}, (∀ x ∈ xs, x.length = s) → xs.flatten.length = xs.length * s
  | [], _ => by simp
  | x :: xs, hs => by
    rw [List.flatten_cons, List.length_append, hs x (by simp), flatten_len (fun y hy => hs y (by simp [hy])), List.length_cons, Nat.add_mul]; omega
/-- The cells of element i. -/
theorem Row.elem {w : World} {a : Option Addr} {s : Nat} {xs : List (List Value)} (h : Row w a xs.flatten) (hs : ∀ x ∈ xs, x.length = s) {i : Nat} {c : List Value} (hc : xs[i]? = some c) : ∀ j v, c[j]? = some v → w.cell? (((hd a).add (i * s)).add j) = some v := by
  intro j v hv
  rw [add_add]
  exact h.2 _ _ (flatten_at hs hc hv)
theorem Row.elemSome {w : World} {a : Option Addr} {s : Nat} {xs : List (List Value)} (h : Row w a xs.flatten) (hs : ∀ x ∈ xs, x.length = s) (h0 : 0 < s) {i : Nat} (hi : i < xs.length) : a.isSome = true := by
  refine h.1 ?_
  rw [flatten_len hs]
  exact Nat.mul_pos (by omega) h0
/-- One field of element i. -/
theorem Row.field {w : World} {a : Option Addr} {s : Nat} {xs : List (List Value)} (h : Row w a xs.flatten) (hs : ∀ x ∈ xs, x.length = s) {i j : Nat} {c : List Value} {v : Value} (hc : xs[i]? = some c) (hv : c[j]? = some v) : w.cell? ((hd a).add (i * s + j)) = some v :=
  h.2 _ _ (flatten_at hs hc hv)
end Go.Hd
set_option maxRecDepth 20000
namespace Go.Hd
open Go Go.RowKit

/-- A value, as it is packed. -/
inductive PV where
  | mk (kind int : Int) (bytes text : List UInt8) (keys : List (List UInt8)) (list : List PV)
namespace PV
def kind : PV → Int | mk k _ _ _ _ _ => k
def int : PV → Int | mk _ n _ _ _ _ => n
def bytes : PV → List UInt8 | mk _ _ b _ _ _ => b
def text : PV → List UInt8 | mk _ _ _ t _ _ => t
def keys : PV → List (List UInt8) | mk _ _ _ _ k _ => k
def list : PV → List PV | mk _ _ _ _ _ l => l
end PV
def strV (t : List UInt8) : Value := .string (str t)
def in64 (n : Int) : Prop := -9223372036854775808 ≤ n ∧ n ≤ 9223372036854775807
/-- Six cells that hold a value. -/
inductive VAt (w : World) : List Value → PV → Prop
  | mk {k n : Int} {b t : List UInt8} {ks : List (List UInt8)} {l : List PV} {ab ak al : Option Addr} {cb ck cl : Nat} (css : List (List Value))
      (hk : in64 k) (hn : in64 n) (hb : Row w ab (b.map b8)) (hbc : b.length ≤ cb ∧ cb ≤ maxLen) (ht : t.length ≤ maxLen)
      (hks : Row w ak (ks.map strV)) (hkc : ks.length ≤ ck ∧ ck ≤ maxLen) (hkt : ∀ x ∈ ks, x.length ≤ maxLen) (hl : Row w al css.flatten) (hlc : l.length ≤ cl ∧ cl ≤ maxLen) (hcs : css.length = l.length) (h6 : ∀ c ∈ css, c.length = 6)
      (sub : ∀ (i : Nat) (c : List Value) (v : PV), css[i]? = some c → l[i]? = some v → VAt w c v) :
      VAt w [.int .i64 k, .int .i64 n, .slice ab b.length cb, strV t, .slice ak ks.length ck, .slice al l.length cl] (.mk k n b t ks l)
theorem VAt.len {w : World} {cs : List Value} {v : PV} (h : VAt w cs v) : cs.length = 6 := by
  cases h; rfl
theorem VAt.one {w : World} {cs : List Value} {v : PV} (h : VAt w cs v) : ∀ u ∈ cs, u.oneCell' = true := by
  cases h
  intro u hu
  simp only [List.mem_cons, List.not_mem_nil, or_false] at hu
  rcases hu with rfl | rfl | rfl | rfl | rfl | rfl <;> rfl
theorem VAt.keep {w w' : World} {cs : List Value} {v : PV} (h : VAt w cs v) (hb : Below w.heap.size w w') : VAt w' cs v := by
  induction h with
  | mk css hk hn hB hbc ht hks hkc hkt hl hlc hcs h6 _ ih => exact .mk css hk hn (hB.below hb) hbc ht (hks.below hb) hkc hkt (hl.below hb) hlc hcs h6 ih
/-- The zero value. -/
def pv0 : PV := .mk 0 0 [] [] [] []
/-! What can be. -/
/-- A text is not behind another one. -/
def leT (a b : List UInt8) : Bool := Op.bytesLess (str a).toList (str b).toList || (str a).toList == (str b).toList
def risesT : List (List UInt8) → Bool
  | a :: b :: l => !leT b a && risesT (b :: l)
  | _ => true
theorem risesT_snoc : ∀ (l : List (List UInt8)) (r s : List UInt8), risesT (l ++ [r, s]) = (risesT (l ++ [r]) && !leT s r)
  | [], r, s => by simp [risesT]
  | [x], r, s => by simp [risesT]
  | x :: y :: l, r, s => by
    have := risesT_snoc (y :: l) r s
    simp only [List.cons_append, risesT] at *
    rw [this, Bool.and_assoc]
theorem risesT_take (l : List (List UInt8)) (i : Nat) (h : i + 1 < l.length) : risesT (l.take (i + 2)) = (risesT (l.take (i + 1)) && !leT l[i + 1] l[i]) := by
  rw [List.take_succ_eq_append_getElem h, List.take_succ_eq_append_getElem (by omega : i < l.length), List.append_assoc]
  exact risesT_snoc _ _ _
theorem risesT_one (l : List (List UInt8)) : risesT (l.take 1) = true := by
  match l with
  | [] => rfl
  | x :: l => rfl
theorem risesT_of (l : List (List UInt8)) (n : Nat) (h : risesT l = true) : risesT (l.take n) = true := by
  induction l generalizing n with
  | nil => simp [risesT]
  | cons r l ih =>
    match n, l with
    | 0, _ => rfl
    | 1, _ => simp [risesT]
    | n + 2, [] => simp [risesT]
    | n + 2, s :: l =>
      simp only [risesT, Bool.and_eq_true] at h
      have := ih (n + 1) h.2
      simp only [List.take_succ_cons, risesT, h.1, Bool.true_and] at this ⊢
      exact this
def canF : Nat → PV → Bool
  | 0, _ => false
  | d + 1, v => decide (0 ≤ v.kind ∧ v.kind ≤ 7) && (v.kind != 7 || (v.keys.length == v.list.length && risesT v.keys)) && (decide (v.kind < 6) || v.list.all (canF d))

/-! Which bytes a value has. -/
def bigB (x : Nat) (n : Nat) : List UInt8 := (putL x n).reverse
def u64Of (x : Int) : Nat := (x % 18446744073709551616).toNat
def intB (x : Int) : List UInt8 :=
  if -32 ≤ x ∧ x ≤ 127 then [UInt8.ofNat (x % 256).toNat] else
  if 0 ≤ x then
    if x ≤ 255 then 0xcc :: bigB (u64Of x) 1 else if x ≤ 65535 then 0xcd :: bigB (u64Of x) 2 else if x ≤ 4294967295 then 0xce :: bigB (u64Of x) 4 else 0xcf :: bigB (u64Of x) 8
  else
    if -128 ≤ x then 0xd0 :: bigB (u64Of x) 1 else if -32768 ≤ x then 0xd1 :: bigB (u64Of x) 2 else if -2147483648 ≤ x then 0xd2 :: bigB (u64Of x) 4 else 0xd3 :: bigB (u64Of x) 8
end Go.Hd
set_option maxRecDepth 20000
namespace Go.Proofs.YtpchogicdnfggaaDoor
open Go.RowKit Go.Hd

theorem eB : Elem Tryd.prog 26 5 (.int .u8 0) 1 1 := ⟨by kernel_rfl, by kernel_rfl, rfl, by decide⟩

/-- v is the call's own, holds l; what was there is as it was. -/
def Fresh (w w' : World) (v : Value) (l : List UInt8) : Prop := w'.ownsRow w.heap.size 5 1 v l.length (l.map b8) ∧ Below w.heap.size w w'

set_option maxRecDepth 20000 in
theorem put_any (x : Nat) (n : Nat) (w : World) (_hx : x < 18446744073709551616) (h1 : 1 ≤ n) (h8 : n ≤ 8) :
    Calls Tryd.prog 68 #[.int .u64 x, .int .i64 n] w fun e w' => ∃ v, e = .returned v ∧ Fresh w w' v (putL x n) := by
  obtain ⟨i0, hi, hz0, hz1, hz2⟩ := info_parts eB.hi
  have hmk := run_make (P := Tryd.prog) w 26 5 i0 (.int .u8 0) eB.ht hi hz0 .i64 .i64 n n (by omega) (Int.le_refl _) (by rw [hz2]; omega) (by omega)
  rw [hz1] at hmk
  simp only [Int.toNat_natCast, Nat.mul_one] at hmk
  have hm0 := toList_madeCells_one (.int .u8 0) n
  have hB : Blk (w.alloc (.cells (madeCells #[.int .u8 0] n) 5)) w.heap.size 5 (List.replicate n (.int .u8 0)) := by rw [← hm0]; exact Blk.new _ _ _
  have hb0 : Below w.heap.size w (w.alloc (.cells (madeCells #[.int .u8 0] n) 5)) := (Below.refl _ _).alloc (Nat.le_refl _) _
  clear hm0
  have HB := Lib.hid hB
  clear hB
  go_enter Tryd.func68, Tryd.ntmps68
  go_wp2
  go_loopw [17] (fun i w' => ∃ k : Nat, k ≤ n ∧ i = .int .i64 k ∧ Blk w' w.heap.size 5 ((putL x k).map b8 ++ List.replicate (n - k) (.int .u8 0)) ∧ Below w.heap.size w w') (fun i _ => n - (intOf i).toNat)
  case atStart => exact ⟨0, Nat.zero_le _, rfl, by simpa [putL] using HB.out, hb0⟩
  case round =>
    obtain ⟨k, hk, rfl, hB, hb⟩ := hrel
    by_cases hlt : k < n
    · have hc : wr.cell? ⟨w.heap.size, k, none⟩ = some (.int .u8 0) := hB.cell (by rw [List.getElem?_append_right (by simp)]; simp [List.getElem?_replicate]; omega)
      have hf := hB.free k
      have HS : Hid (Blk (wr.setCell ⟨w.heap.size, k, none⟩ (.int .u8 (((x : Int) / 2 ^ (8 * k)) % 256))) w.heap.size 5 ((putL x (k + 1)).map b8 ++ List.replicate (n - (k + 1)) (.int .u8 0))) := by
        have h := hB.set k (.int .u8 (((x : Int) / 2 ^ (8 * k)) % 256))
        rw [show n - k = (n - (k + 1)) + 1 by omega, set_next _ _ _ k _ (by simp)] at h
        rw [byte_shr] at h ⊢
        simp only [putL, List.map_append, List.map_cons, List.map_nil]
        exact h
      have hb1 := hb.setCell (p := ⟨w.heap.size, k, none⟩) (Nat.le_refl _) (.int .u8 (((x : Int) / 2 ^ (8 * k)) % 256))
      clear hB
      go_wp2
      first
        | exact ⟨⟨k + 1, by omega, by go_num, HS.out, hb1⟩, by simp [intOf] <;> omega⟩
        | (refine ⟨?_, by simp [intOf] <;> omega⟩; (repeat apply Exists.intro); exact ⟨⟨k + 1, by omega, by go_num, HS.out, hb1⟩, rfl⟩)
    · obtain rfl : k = n := by omega
      go_wp2
      go_ret
      have h := hB.owns (base := w.heap.size) (n := k) (c := k) (Nat.le_refl _) (Nat.le_refl _) (by simp) (by unfold maxLen; omega)
      refine ⟨_, rfl, ?_, hb⟩
      have e : ((putL x k).map b8).take k = (putL x k).map b8 := List.take_of_length_le (by simp)
      rw [putL_length]
      simp only [Nat.sub_self, List.replicate_zero, List.append_nil, e] at h
      exact h

theorem grown_set {w wr : World} {g : Nat} (h : w.grownBy wr (some g)) (i : Nat) (u : Value) : w.grownBy (wr.setCell ⟨g, i, none⟩ u) (some g) :=
  ⟨h.os, h.tape, h.output, by simpa [World.setCell] using h.size, fun k hk hne => by rw [Below.heap_setCell _ _ _ _ (fun e => hne (by simp only at e; rw [e]))]; exact h.block k hk hne⟩

theorem rev_any (g n c : Nat) (l : List UInt8) (rest : List Value) (w : World) (hB : Blk w g 5 (l.map b8 ++ rest)) (h1 : 1 ≤ n) (hn : n = l.length) (hm : l.length ≤ maxLen) :
    Calls Tryd.prog 69 #[.slice (some ⟨g, 0, none⟩) n c] w fun e w' => e = .returned (.tuple #[]) ∧ Blk w' g 5 (l.reverse.map b8 ++ rest) ∧ w.grownBy w' (some g) := by
  unfold maxLen at hm
  have HB := Lib.hid hB
  have HN := Lib.hid hn
  have hnm : n ≤ 2 ^ 63 - 1 := by omega
  clear hB hn hm
  go_enter Tryd.func69, Tryd.ntmps69
  go_wp2
  go_loopw [2, 3] (fun i j w' => ∃ (i0 j0 : Nat) (m : List UInt8), i0 + j0 + 1 = n ∧ i = .int .i64 i0 ∧ j = .int .i64 j0 ∧ RevAt l m n i0 j0 ∧ Blk w' g 5 (m.map b8 ++ rest) ∧ w.grownBy w' (some g)) (fun i _ _ => n - (intOf i).toNat)
  case atStart => exact ⟨0, n - 1, l, by omega, rfl, by congr 1; omega, RevAt.start l n, HB.out, World.grownBy.refl _ _⟩
  case round =>
    obtain ⟨i, j, m, hij, rfl, rfl, hr, hB, hg⟩ := hrel
    have HIJ := Lib.hid hij
    have hj : (j : Int) ≤ n := by omega
    have hjn : j < n := by omega
    have hin : i < n := by omega
    have hin2 : (i : Int) < n := by omega
    have hjn2 : (j : Int) < n := by omega
    have hml := hr.1
    have hn := HN.out
    by_cases hlt : i < j
    · have hmi : i < m.length := by omega
      have hmj : j < m.length := by omega
      have c1 := hB.byteL hmi
      have c2 := hB.byteL hmj
      have f1 := hB.free i
      have f2 := hB.free j
      have HS : Hid (Blk (((wr.setCell ⟨g, i, none⟩ (b8 m[j])).setCell ⟨g, j, none⟩ (b8 m[i])).drew) g 5 (((m.set i m[j]).set j m[i]).map b8 ++ rest)) :=
        ((hB.setL hmi m[j]).setL (by simpa using hmj) m[i]).drew
      have HG : Hid (w.grownBy (((wr.setCell ⟨g, i, none⟩ (b8 m[j])).setCell ⟨g, j, none⟩ (b8 m[i])).drew) (some g)) := grownBy_drew (grown_set (grown_set hg _ _) _ _)
      have HR : RevAt l ((m.set i m[j]).set j m[i]) n (i + 1) (j - 1) := hr.step (by omega) hij hlt
      have hlt2 : (i : Int) < j := by omega
      clear hij hml hB hg hr hn
      go_wp2
      go_region
      go_wp2
      have := HIJ.out
      first
        | exact ⟨⟨i + 1, j - 1, _, by omega, by go_num, by congr 1; omega, HR, HS.out, HG.out⟩, by simp [intOf] <;> omega⟩
        | (refine ⟨?_, by simp [intOf] <;> omega⟩; (repeat apply Exists.intro); exact ⟨⟨i + 1, j - 1, _, by omega, by go_num, by congr 1; omega, HR, HS.out, HG.out⟩, rfl⟩)
    · clear hn
      go_wp2
      go_end0
      refine ⟨rfl, ?_, hg⟩
      have hn := HN.out
      subst hn
      rw [← hr.whole hij hlt]
      exact hB
theorem Fresh.open {w w' : World} {v : Value} {l : List UInt8} (h : Fresh w w' v l) : ∃ a c, v = .slice a l.length c ∧ Row w' a (l.map b8) ∧ Below w.heap.size w w' ∧ l.length ≤ maxLen ∧ l.length ≤ c := by
  obtain ⟨a, c, hv, h1, h2, h3⟩ := owns_row h.1
  exact ⟨a, c, hv, h3, h.2, by omega, h1⟩
end Go.Proofs.YtpchogicdnfggaaDoor
