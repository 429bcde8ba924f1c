/- Values of many cells (an array, a struct that holds one): loaded, stored, made, built, compared whole. -/
import Derived.Test.YtakliplkabgmbaaLib2
import Derived.Deep.MidRow
import Derived.Deep.WholeRow
import Derived.Great.BuildSlice
import Derived.DeepKeys
import Derived.Laws.StructEq
set_option maxRecDepth 20000
namespace Go.Hd
open Go Go.RowKit

/-! The operations under names of their own: the walk does not take them apart. -/
def ldOp (t : TypeId) (x : Value) : Sem Value := Instr.loadAt t x
def stoOp (t : TypeId) (x y : Value) : Sem Unit := Instr.storeAt t x y
def alOp (t : TypeId) : Sem Value := Instr.alloc t true (.tuple #[])
def bdOp (t : TypeId) (parts : Array (Nat × Value)) : Sem Value := Instr.build t parts
def bsOp (t : TypeId) (n : Nat) (parts : Array (Nat × Value)) : Sem Value := Instr.buildSlice t n parts
/-- Each is one cell. -/
def OneC (cs : Array Value) : Prop := cs.all (·.oneCell') = true
def apOp (t : TypeId) (x : Value) : Sem Value := Instr.arrayAt t x
def nqOp (t : TypeId) (x y : Operand) (u v : Value) : Sem Value := do eqGuard .neq t x y u v; binOp .neq t u v
section
variable (ρ : Operand → Value) (dst : Option Tmp) (ty : TypeId) (pos : String) (after : Array Edge) (guard : Option (Nat × Bool))
theorem ex_ld (t : TypeId) (x : Operand) : execOp ρ { dst, op := .load t x, type := ty, pos, after, guard } = (do pure (.value (← ldOp t (ρ x)))) := rfl
theorem ex_st (t : TypeId) (x y : Operand) : execOp ρ { dst, op := .store t x y, type := ty, pos, after, guard } = (do stoOp t (ρ x) (ρ y); pure .skip) := rfl
theorem ex_al (t : TypeId) : execOp ρ { dst, op := .alloc t, type := ty, pos, after, guard } = (do pure (.value (← alOp t))) := rfl
theorem ex_bd (t : TypeId) (parts : Array (Nat × Operand)) : execOp ρ { dst, op := .build t parts, type := ty, pos, after, guard } = (do pure (.value (← bdOp t (parts.map fun (i, x) => (i, ρ x))))) := rfl
theorem ex_bs (t : TypeId) (n : Nat) (parts : Array (Nat × Operand)) : execOp ρ { dst, op := .buildSlice t n parts, type := ty, pos, after, guard } = (do pure (.value (← bsOp t n (parts.map fun (i, x) => (i, ρ x))))) := rfl
end

section
variable {P : Program}
/-! Loads. -/
theorem run_loadVar_at (w : World) (p : Addr) (ty : TypeId) (cs : List Value) (d : TypeDesc) (hc : ∀ j v, cs[j]? = some v → w.cell? (p.add j) = some v)
    (hu : P.underlying ty = some d) (hd : d.isRow = true) (hi : (P.info? ty).map (·.size) = some cs.length) : (loadVar ty p).run P w = .ok (.agg cs.toArray) w := by
  have hl : (loadCells p cs.length).run P w = .ok cs.toArray w := run_loadCells_list (P := P) w p cs hc
  cases hq : P.info? ty with
  | none => simp [hq] at hi
  | some i =>
    have hs : i.size = cs.length := by simpa [hq] using hi
    have hagg : (isAgg ty).run P w = .ok true w := by
      unfold isAgg
      rw [Sem.run_bind, run_underlying hu w]
      cases d <;> simp_all
    simp [loadVar, Sem.run_bind, hagg, sizeOf, typeInfo, hq, hs, hl]
theorem ldOp_at {w : World} {p : Addr} {ty : TypeId} {cs : List Value} {d : TypeDesc} (hc : ∀ j v, cs[j]? = some v → w.cell? (p.add j) = some v)
    (hu : P.underlying ty = some d) (hd : d.isRow = true) (hi : (P.info? ty).map (·.size) = some cs.length) : (ldOp ty (.pointer (some p))).run P w = .ok (.agg cs.toArray) w := by
  unfold ldOp
  simp only [Instr.loadAt, Instr.sureAddr, Sem.run_bind, Sem.run_pure, Result.andThen_ok, run_loadVar_at w p ty cs d hc hu hd hi]
/-- Out of a block that is known whole. -/
theorem ldOp_blk {w : World} {g o n : Nat} {T ty : TypeId} {xs : List Value} {d : TypeDesc} (h : Blk w g T xs) (hn : o + n ≤ xs.length)
    (hu : P.underlying ty = some d) (hd : d.isRow = true) (hi : (P.info? ty).map (·.size) = some n) : (ldOp ty (.pointer (some ⟨g, o, none⟩))).run P w = .ok (.agg ((xs.drop o).take n).toArray) w := by
  refine ldOp_at (fun j v hv => ?_) hu hd (by rw [hi]; simp; omega)
  have e : (⟨g, o, none⟩ : Addr).add j = ⟨g, o + j, none⟩ := Addr.add_mid _ _ _
  rw [e]
  refine h.cell ?_
  rw [List.getElem?_take] at hv
  split at hv
  · rw [List.getElem?_drop] at hv; exact hv
  · cases hv
theorem ldOp_all {w : World} {g : Nat} {T ty : TypeId} {xs : List Value} {d : TypeDesc} (h : Blk w g T xs)
    (hu : P.underlying ty = some d) (hd : d.isRow = true) (hi : (P.info? ty).map (·.size) = some xs.length) : (ldOp ty (.pointer (some ⟨g, 0, none⟩))).run P w = .ok (.agg xs.toArray) w := by
  have := ldOp_blk (P := P) (o := 0) (n := xs.length) h (by omega) hu hd hi
  simpa using this
theorem blk_alloc (w : World) (cs : Array Value) (T : TypeId) : Blk (w.alloc (.cells cs T)) w.heap.size T cs.toList := Blk.new _ _ _
theorem ldOp_new {w : World} {b : Nat} {cs : Array Value} {T ty : TypeId} {d : TypeDesc} (hb : w.heap.size = b)
    (hu : P.underlying ty = some d) (hd : d.isRow = true) (hi : (P.info? ty).map (·.size) = some cs.size) : (ldOp ty (.pointer (some ⟨b, 0, none⟩))).run P (w.alloc (.cells cs T)) = .ok (.agg cs) (w.alloc (.cells cs T)) := by
  subst hb
  have := ldOp_all (P := P) (blk_alloc w cs T) hu hd (by rw [hi]; simp)
  simpa using this

/-! Stores. -/
theorem stOp_new {w : World} {b : Nat} {old cs : Array Value} {T ty : TypeId} (hb : w.heap.size = b) (hi : (P.info? ty).map (·.size) = some cs.size) (ho : old.size = cs.size) (h1 : cs.all (·.oneCell') = true) :
    (stoOp ty (.pointer (some ⟨b, 0, none⟩)) (.agg cs)).run P (w.alloc (.cells old T)) = .ok () (w.alloc (.cells cs T)) := by
  subst hb
  unfold stoOp
  simp only [Instr.storeAt, Instr.sureAddr, Sem.run_bind, Sem.run_pure, Result.andThen]
  rw [run_storeVar_row _ _ T ty old cs (heap_alloc_last w _) hi ho h1, World.setRow_alloc_new]
theorem stOp_blk {w : World} {g o : Nat} {T ty : TypeId} {xs cs : List Value} (h : Blk w g T xs) (hn : o + cs.length ≤ xs.length) (hi : (P.info? ty).map (·.size) = some cs.length) (h1 : ∀ v ∈ cs, v.oneCell' = true) :
    ∃ w', (stoOp ty (.pointer (some ⟨g, o, none⟩)) (.agg cs.toArray)).run P w = .ok () w' ∧ Blk w' g T (xs.take o ++ cs ++ xs.drop (o + cs.length)) ∧ w.grownBy w' (some g) := by
  have hst := run_storeCells_at P g o T cs 0 xs.toArray w h (by simpa using hn) h1
  refine ⟨w.setRow g (xs.toArray.toList.take (o + 0) ++ cs ++ xs.toArray.toList.drop (o + 0 + cs.length)).toArray, ?_, ?_, ⟨rfl, rfl, rfl, by simp, fun k _ hk => setRow_other w g k _ (fun e => hk (by rw [e]))⟩⟩
  · unfold stoOp
    simp only [Instr.storeAt, Instr.sureAddr, Sem.run_bind, Sem.run_pure, Result.andThen_ok]
    cases hq : P.info? ty with
    | none => simp [hq] at hi
    | some i =>
      have hs : cs.length = i.size := by simp [hq] at hi; omega
      simp [storeVar, sizeOf, typeInfo, hq, Value.cells, hs, hst]
  · have := setRow_heap w g xs.toArray (xs.toArray.toList.take (o + 0) ++ cs ++ xs.toArray.toList.drop (o + 0 + cs.length)).toArray T (0, 0) h
    simpa [Blk] using this
theorem setRow_alloc_other (w : World) (g : Nat) (cs : Array Value) (o : Obj) (h : g < w.heap.size) : (w.alloc o).setRow g cs = (w.setRow g cs).alloc o := by
  simp only [World.setRow, World.alloc]
  congr 1
  apply Array.ext_getElem?
  intro i
  rw [Array.getElem?_modify]
  by_cases hi : i < w.heap.size
  · rw [Array.getElem?_push_lt hi, Array.getElem?_push_lt (by simpa using hi), ← Array.getElem?_eq_getElem, ← Array.getElem?_eq_getElem, Array.getElem?_modify]
  · rw [if_neg (by omega), Array.getElem?_push, Array.getElem?_push]
    simp only [Array.size_modify, Array.getElem?_modify]
    rw [if_neg (by omega : ¬ g = i)]
theorem stOp_new2 {w : World} {b : Nat} {old cs : Array Value} {T ty : TypeId} {o : Obj} (hb : w.heap.size = b) (hi : (P.info? ty).map (·.size) = some cs.size) (ho : old.size = cs.size) (h1 : cs.all (·.oneCell') = true) :
    (stoOp ty (.pointer (some ⟨b, 0, none⟩)) (.agg cs)).run P ((w.alloc (.cells old T)).alloc o) = .ok () ((w.alloc (.cells cs T)).alloc o) := by
  subst hb
  have hg : ((w.alloc (.cells old T)).alloc o).heap[w.heap.size]? = some (.cells old T (0, 0)) := by
    rw [Below.heap_alloc _ _ _ (by simp)]; exact heap_alloc_last w _
  unfold stoOp
  simp only [Instr.storeAt, Instr.sureAddr, Sem.run_bind, Sem.run_pure, Result.andThen]
  rw [run_storeVar_row _ _ T ty old cs hg hi ho h1, setRow_alloc_other _ _ _ _ (by simp), World.setRow_alloc_new]
/-! New variables. -/
theorem alOp_run {t : TypeId} {z : Array Value} {w : World} (hz : (P.info? t).bind (·.zero) = some (.agg z)) : (alOp t).run P w = .ok (.pointer (some ⟨w.heap.size, 0, none⟩)) (w.alloc (.cells z t)) := by
  obtain ⟨i, hi, hz⟩ := Option.bind_eq_some_iff.1 hz
  unfold alOp
  simp [Instr.alloc, zeroValue, typeInfo, hi, hz, newVar, newRow, Value.cells]
/-! Built. -/
theorem put_cells (off : Nat) (c z : Array Value) (h : off + c.size ≤ z.size) :
    (c.zipIdx.foldl (fun cs (x : Value × Nat) => cs.setIfInBounds (off + x.2) x.1) z) = (z.toList.take off ++ c.toList ++ z.toList.drop (off + c.size)).toArray := by
  have e : c.zipIdx.foldl (fun cs (x : Value × Nat) => cs.setIfInBounds (off + x.2) x.1) z = (c.toList.zipIdx 0).foldl (fun cs (x : Value × Nat) => cs.setIfInBounds (off + x.2) x.1) z := by
    rw [← Array.foldl_toList, Array.toList_zipIdx]
  obtain ⟨h1, h2⟩ := Great.foldl_set off c.toList 0 z
  rw [e]
  apply Array.ext_getElem?
  intro k
  rw [h2 k]
  simp only [Nat.add_zero, Array.length_toList, List.getElem?_toArray]
  by_cases hk : k < off
  · rw [if_neg (by omega), List.append_assoc, List.getElem?_append_left (by simp; omega), List.getElem?_take_of_lt hk]; simp
  · by_cases hk2 : k < off + c.size
    · rw [if_pos ⟨by omega, hk2, by omega⟩, List.append_assoc, List.getElem?_append_right (by simp; omega), List.getElem?_append_left (by simp; omega)]
      congr 1
      simp; omega
    · rw [if_neg (by omega), List.getElem?_append_right (by simp; omega), List.getElem?_drop]
      simp only [List.length_append, List.length_take, Array.length_toList]
      rw [show off + c.size + (k - (min off z.size + c.size)) = k by omega]
      simp
theorem fill_cons {place : Nat → Option (Nat × Nat)} {z : Array Value} {i off size : Nat} {v : Value} {rest : List (Nat × Value)} (hp : place i = some (off, size)) (hs : v.cells.size = size) (hz : off + size ≤ z.size) :
    Instr.fill place z ((i, v) :: rest) = Instr.fill place (z.toList.take off ++ v.cells.toList ++ z.toList.drop (off + size)).toArray rest := by
  subst hs
  rw [Instr.fill, hp]
  simp only
  rw [if_neg (by simp; omega), put_cells off v.cells z hz]
theorem fill_nil {place : Nat → Option (Nat × Nat)} {z : Array Value} : Instr.fill place z [] = some z := rfl
theorem built_struct {t : TypeId} {fs : Array Field} {z : Value} {places : List (Nat × Nat)} {parts : List (Nat × Value)} (hu : P.underlying t = some (.struct fs)) (hz : (P.info? t).bind (·.zero) = some z)
    (hp : fs.toList.mapM (fun f => (P.info? f.type).map fun i => (f.offset, i.size)) = some places) : P.built t parts = Instr.fill (places.toArray[·]?) z.cells parts := by
  obtain ⟨i, hi, hz⟩ := Option.bind_eq_some_iff.1 hz
  unfold Program.built
  simp only [hi, hu, hz, hp]
/-- Two parts that fill it. -/
theorem bdOp_two {t : TypeId} {fs : Array Field} {z : Value} {m n : Nat} {u v : Value} {w : World} (hu : P.underlying t = some (.struct fs)) (hz : (P.info? t).bind (·.zero) = some z)
    (hp : fs.toList.mapM (fun f => (P.info? f.type).map fun i => (f.offset, i.size)) = some [(0, m), (m, n)]) (hzs : z.cells.size = m + n) (hm : u.cells.size = m) (hn : v.cells.size = n) :
    (bdOp t #[(0, u), (1, v)]).run P w = .ok (.agg (u.cells.toList ++ v.cells.toList).toArray) w := by
  refine run_build w t _ _ ?_
  rw [built_struct hu hz hp]
  have h1 := Array.length_toList (xs := u.cells)
  rw [fill_cons (off := 0) (size := m) (by rfl) hm (by omega), fill_cons (off := m) (size := n) (by rfl) hn (by simp; omega), fill_nil]
  congr 2
  simp only [List.take_zero, List.nil_append, Nat.zero_add]
  rw [List.take_left' (by omega), List.drop_eq_nil_of_le (by simp; omega), List.append_nil]
/-- The last part alone. -/
theorem bdOp_snd {t : TypeId} {fs : Array Field} {z : Value} {m n : Nat} {v : Value} {w : World} (hu : P.underlying t = some (.struct fs)) (hz : (P.info? t).bind (·.zero) = some z)
    (hp : fs.toList.mapM (fun f => (P.info? f.type).map fun i => (f.offset, i.size)) = some [(0, m), (m, n)]) (hzs : z.cells.size = m + n) (hn : v.cells.size = n) :
    (bdOp t #[(1, v)]).run P w = .ok (.agg (z.cells.toList.take m ++ v.cells.toList).toArray) w := by
  refine run_build w t _ _ ?_
  rw [built_struct hu hz hp]
  rw [fill_cons (off := m) (size := n) (by rfl) hn (by omega), fill_nil]
  congr 2
  rw [List.drop_eq_nil_of_le (by simp; omega), List.append_nil]
theorem bdOp_none {t : TypeId} {fs : Array Field} {z : Array Value} {places : List (Nat × Nat)} {w : World} (hu : P.underlying t = some (.struct fs)) (hz : (P.info? t).bind (·.zero) = some (.agg z))
    (hp : fs.toList.mapM (fun f => (P.info? f.type).map fun i => (f.offset, i.size)) = some places) : (bdOp t #[]).run P w = .ok (.agg z) w := by
  refine run_build w t _ _ ?_
  rw [built_struct hu hz hp]
  rfl
/-- A slice of one. -/
theorem bsOp_one {t e : TypeId} {z : Value} {s : Nat} {cs : Array Value} {w : World} (hu : P.underlying t = some (.slice e)) (hz : (P.info? e).map (fun i => (i.zero, i.size)) = some (some z, s)) (hs : 0 < s) (hs2 : s ≤ 1000) (hzs : z.cells.size = s) (hc : cs.size = s) :
    (bsOp t 1 #[(0, .agg cs)]).run P w = .ok (.slice (some ⟨w.heap.size, 0, none⟩) 1 1) (w.alloc (.cells cs e)) := by
  obtain ⟨i, hi, hzz⟩ := Option.map_eq_some_iff.1 hz
  simp only [Prod.mk.injEq] at hzz
  obtain ⟨hz1, hz2⟩ := hzz
  refine run_buildSlice w t e 1 _ cs i z hu hi hz1 (by omega) (by omega) ?_
  rw [hz2]
  have := Great.fill_whole hs [Value.agg cs] ((Array.range (1 * s)).map (z.cells[· % z.cells.size]!)) (by simp [Value.cells, hc]) (by simp)
  simpa [Value.cells] using this
theorem apOp_run {t e : TypeId} {n m c : Nat} {a : Addr} {w : World} (hu : P.underlying t = some (.array n e)) (hn : n ≤ m) : (apOp t (.slice (some a) m c)).run P w = .ok (.pointer (some a)) w := by
  unfold apOp Instr.arrayAt
  simp only [Sem.run_bind, run_underlying hu, Result.andThen_ok]
  rw [if_neg (by omega)]
  rfl
/-! Compared. -/
theorem nqOp_agg {t : TypeId} {m : Nat} {x y : Operand} {xs ys : Array Value} {D D' : Nat} {lx ly : List Lit} {w : World} (hm : m ≤ 10000) (hk : P.keyTypeAt m t = true) (hg : P.eqGuardType P.depth t = false)
    (fx : (Value.agg xs).formed P t = true) (fy : (Value.agg ys).formed P t = true) (hx : P.keyLits D t xs.toList = some lx) (hy : P.keyLits D' t ys.toList = some ly) :
    ∃ r : Bool, (nqOp t x y (.agg xs) (.agg ys)).run P w = .ok (.bool (!r)) w ∧ (r = true ↔ lx = ly) := by
  obtain ⟨r, hr, hiff⟩ := run_equalIn_deep (10000 - m) m t hk w D D' (.agg xs) (.agg ys) lx ly fx fy hx hy
  rw [show 10000 - m + m = 10000 by omega] at hr
  refine ⟨r, ?_, hiff⟩
  unfold nqOp
  rw [Sem.run_bind, run_eqGuard_agg w .neq t x y xs ys hg]
  simp only [Result.andThen_ok, run_neq_struct, hr]
end
end Go.Hd
