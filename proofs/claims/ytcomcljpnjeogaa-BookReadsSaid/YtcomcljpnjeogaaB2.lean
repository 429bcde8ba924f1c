/- Walks of layer 13: rows out of keys with places, counts, uses. -/
import Derived.Test.YtcomcljpnjeogaaB1
import Derived.Test.YtcomcljpnjeogaaPl13
set_option maxRecDepth 20000
namespace Go.Proofs.Ytcomcljpnjeogaa
open Go.RowKit Go.Hd
attribute [local go_sem ↓] h_ldID h_stID h_alID h_ldROW h_stROW h_alROW h_bdROW h_bsROW h_ldKD h_stKD h_alKD h_bdKD h_bsKD h_ldCD h_stCD h_alCD h_bdCD h_bsCD h_ldUS h_stUS h_alUS h_bdUS h_bsUS
attribute [local go_sem] r_ldID r_stID r_s2ID r_alID r_ldROW r_stROW r_s2ROW r_alROW r_bsROW r_ldKD r_stKD r_s2KD r_alKD r_bsKD r_ldCD r_stCD r_s2CD r_alCD r_bsCD r_ldUS r_stUS r_s2US r_alUS r_bsUS

/-- A key's cells; a row's; an entry's. -/
def kcs (l : List UInt8) : Array Value := (l.map b8).toArray
theorem kcs_size {l : List UInt8} (h : l.length = 32) : (kcs l).size = 32 := by simp [kcs, h]
theorem kcs_one (l : List UInt8) : OneC (kcs l) := all_oneCell_toArray (bytes_one l)
def rowL (key : List UInt8) (a : Option Addr) (n c : Nat) : List Value := key.map b8 ++ [.slice a n c]
def rowA (key : List UInt8) (a : Option Addr) (n c : Nat) : Array Value := (rowL key a n c).toArray
theorem rowA_size {key : List UInt8} (h : key.length = 32) (a : Option Addr) (n c : Nat) : (rowA key a n c).size = 33 := by simp [rowA, rowL, h]
theorem rowL_one (key : List UInt8) (a : Option Addr) (n c : Nat) : ∀ v ∈ rowL key a n c, v.oneCell' = true := by
  intro v hv
  rcases List.mem_append.1 hv with h | h
  · exact bytes_one key v h
  · simp at h; subst h; rfl
theorem rowA_one (key : List UInt8) (a : Option Addr) (n c : Nat) : OneC (rowA key a n c) := all_oneCell_toArray (rowL_one key a n c)
def entL (r : BRow) : List Value := r.1.map b8 ++ r.2.map (Value.int .i64)
def entA (r : BRow) : Array Value := (entL r).toArray
theorem entL_one (r : BRow) : ∀ v ∈ entL r, v.oneCell' = true := by
  intro v hv
  rcases List.mem_append.1 hv with h | h
  · exact bytes_one r.1 v h
  · obtain ⟨n, _, rfl⟩ := List.mem_map.1 h; rfl
theorem entA_one (r : BRow) : OneC (entA r) := all_oneCell_toArray (entL_one r)
def z32 : List UInt8 := List.replicate 32 0
def pad (l : List UInt8) : List UInt8 := l ++ List.replicate (32 - l.length) 0
theorem pad_full {l : List UInt8} (h : l.length = 32) : pad l = l := by simp [pad, h]
theorem pad_length {l : List UInt8} (h : l.length ≤ 32) : (pad l).length = 32 := by simp [pad]; omega
theorem r_bdROW {w : World} {key : List UInt8} {a : Option Addr} {n c : Nat} (h : key.length = 32) : (bdOp 74 #[(0, .agg (kcs key)), (1, .slice a n c)]).run Try.prog w = .ok (.agg (rowA key a n c)) w := by
  have := bdOp_two (P := Try.prog) (u := .agg (kcs key)) (v := .slice a n c) (w := w) Try.underlying74 zeroROW (m := 32) (n := 1) (by kernel_rfl) (by exact zROW_size) (kcs_size h) rfl
  simpa [rowA, rowL, kcs, Value.cells] using this
theorem r_bdROW1 {w : World} {a : Option Addr} {n c : Nat} : (bdOp 74 #[(1, .slice a n c)]).run Try.prog w = .ok (.agg (rowA z32 a n c)) w := by
  have := bdOp_snd (P := Try.prog) (v := .slice a n c) (w := w) Try.underlying74 zeroROW (m := 32) (n := 1) (by kernel_rfl) (by exact zROW_size) rfl
  rw [this]
  rfl
theorem r_bdROW0 {w : World} : (bdOp 74 #[]).run Try.prog w = .ok (.agg (rowA z32 none 0 0)) w := by
  have := bdOp_none (P := Try.prog) (w := w) Try.underlying74 zeroROW (places := [(0, 32), (32, 1)]) (by kernel_rfl)
  rw [this]
  rfl

theorem entA_KD {r : BRow} (h1 : r.1.length = 32) (h2 : r.2.length = 3) : (entA r).size = 35 := by simp [entA, entL, h1, h2]
set_option maxRecDepth 20000 in
theorem cl_KD (key : List UInt8) (x y z : Int) (w : World) (hk : key.length = 32) :
    Calls Try.prog 32 #[.agg (entA (key, [x, y, z]))] w fun e w' => ∃ g, e = .returned (.agg (rowA key (some ⟨g, 0, none⟩) 3 3)) ∧ w.heap.size ≤ g ∧ Blk w' g 3 ([x, y, z].map (Value.int .i64)) ∧ Below w.heap.size w w' := by
  have hsz : (entA (key, [x, y, z])).size = 35 := entA_KD (by simp; exact hk) rfl
  have h0 : (entA (key, [x, y, z]))[32]? = some (.int .i64 x) := by simp [entA, entL, hk]
  have h1 : (entA (key, [x, y, z]))[33]? = some (.int .i64 y) := by simp [entA, entL, hk]
  have h2 : (entA (key, [x, y, z]))[34]? = some (.int .i64 z) := by simp [entA, entL, hk]
  have hB : Blk (w.alloc (.cells (entA (key, [x, y, z])) 71)) w.heap.size 71 (entL (key, [x, y, z])) := Blk.new _ _ _
  have q1 : (ldOp 67 (.pointer (some ⟨w.heap.size, 0, none⟩))).run Try.prog ((w.alloc (.cells (entA (key, [x, y, z])) 71)).alloc (.cells zROW 74)) = .ok (.agg (kcs key)) ((w.alloc (.cells (entA (key, [x, y, z])) 71)).alloc (.cells zROW 74)) := by
    have := ldOp_blk (P := Try.prog) (o := 0) (n := 32) (hB.alloc (.cells zROW 74)) (by simp [entL, hk]) Try.underlying67 rfl sizeID
    rw [this, List.drop_zero]
    simp only [entL]
    rw [List.take_left' (by simpa using hk)]
    rfl
  have q3 := fun (w : World) (a : Option Addr) (n c : Nat) => r_bdROW (w := w) (a := a) (n := n) (c := c) hk
  have rs := fun (a : Option Addr) (n c : Nat) => rowA_size hk a n c
  have ro := fun (a : Option Addr) (n c : Nat) => rowA_one key a n c
  have zs := zROW_size
  clear hB hsz
  generalize entA (key, [x, y, z]) = cs at *
  go_enter Try.func32, Try.ntmps32
  go_wp2
  refine bodyPost_ret (results_cell_row (fn := Try.f32) (by rfl) _ _ (w.heap.size + 1) 74 _ (0, 0) _ (by rfl) ?_ Try.underlying74 rfl (by rw [rs]; exact sizeROW)) rfl ⟨w.heap.size + 2, rfl, by omega, ?_, ?_⟩
  · rw [Below.heap_alloc _ _ _ (by simp)]
    have := heap_alloc_new (w.alloc (.cells cs 71)) (.cells (rowA key (some ⟨w.heap.size + 1 + 1, 0, none⟩) 3 3) 74)
    rw [drew_alloc_size] at this
    exact this
  · have := Blk.new ((w.alloc (.cells cs 71)).alloc (.cells (rowA key (some ⟨w.heap.size + 1 + 1, 0, none⟩) 3 3) 74)) 3 #[.int .i64 x, .int .i64 y, .int .i64 z]
    rw [drew_alloc_size, drew_alloc_size] at this
    exact this
  · exact (((Below.refl _ _).alloc (Nat.le_refl _) _).alloc (by simp) _).alloc (by simp; omega) _
theorem clo_KD (r : BRow) (w : World) (h1 : r.1.length = 32) (h2 : r.2.length = 3) :
    Calls Try.prog 32 #[.agg (entA r)] w fun e w' => ∃ g, e = .returned (.agg (rowA (pad r.1) (some ⟨g, 0, none⟩) 3 3)) ∧ w.heap.size ≤ g ∧ Blk w' g 3 (r.2.map (Value.int .i64)) ∧ Below w.heap.size w w' := by
  obtain ⟨key, l⟩ := r
  simp only at h1 h2
  match l, h2 with
  | [x, y, z], _ =>
    rw [pad_full h1]
    exact cl_KD key x y z w h1
theorem entA_CD {r : BRow} (h1 : r.1.length = 32) (h2 : r.2.length = 2) : (entA r).size = 34 := by simp [entA, entL, h1, h2]
set_option maxRecDepth 20000 in
theorem cl_CD (key : List UInt8) (x y : Int) (w : World) (hk : key.length = 32) :
    Calls Try.prog 35 #[.agg (entA (key, [x, y]))] w fun e w' => ∃ g, e = .returned (.agg (rowA key (some ⟨g, 0, none⟩) 2 2)) ∧ w.heap.size ≤ g ∧ Blk w' g 3 ([x, y].map (Value.int .i64)) ∧ Below w.heap.size w w' := by
  have hsz : (entA (key, [x, y])).size = 34 := entA_CD (by simp; exact hk) rfl
  have h0 : (entA (key, [x, y]))[32]? = some (.int .i64 x) := by simp [entA, entL, hk]
  have h1 : (entA (key, [x, y]))[33]? = some (.int .i64 y) := by simp [entA, entL, hk]
  have hB : Blk (w.alloc (.cells (entA (key, [x, y])) 80)) w.heap.size 80 (entL (key, [x, y])) := Blk.new _ _ _
  have q1 : (ldOp 67 (.pointer (some ⟨w.heap.size, 0, none⟩))).run Try.prog ((w.alloc (.cells (entA (key, [x, y])) 80)).alloc (.cells zROW 74)) = .ok (.agg (kcs key)) ((w.alloc (.cells (entA (key, [x, y])) 80)).alloc (.cells zROW 74)) := by
    have := ldOp_blk (P := Try.prog) (o := 0) (n := 32) (hB.alloc (.cells zROW 74)) (by simp [entL, hk]) Try.underlying67 rfl sizeID
    rw [this, List.drop_zero]
    simp only [entL]
    rw [List.take_left' (by simpa using hk)]
    rfl
  have q3 := fun (w : World) (a : Option Addr) (n c : Nat) => r_bdROW (w := w) (a := a) (n := n) (c := c) hk
  have rs := fun (a : Option Addr) (n c : Nat) => rowA_size hk a n c
  have ro := fun (a : Option Addr) (n c : Nat) => rowA_one key a n c
  have zs := zROW_size
  clear hB hsz
  generalize entA (key, [x, y]) = cs at *
  go_enter Try.func35, Try.ntmps35
  go_wp2
  refine bodyPost_ret (results_cell_row (fn := Try.f35) (by rfl) _ _ (w.heap.size + 1) 74 _ (0, 0) _ (by rfl) ?_ Try.underlying74 rfl (by rw [rs]; exact sizeROW)) rfl ⟨w.heap.size + 2, rfl, by omega, ?_, ?_⟩
  · rw [Below.heap_alloc _ _ _ (by simp)]
    have := heap_alloc_new (w.alloc (.cells cs 80)) (.cells (rowA key (some ⟨w.heap.size + 1 + 1, 0, none⟩) 2 2) 74)
    rw [drew_alloc_size] at this
    exact this
  · have := Blk.new ((w.alloc (.cells cs 80)).alloc (.cells (rowA key (some ⟨w.heap.size + 1 + 1, 0, none⟩) 2 2) 74)) 3 #[.int .i64 x, .int .i64 y]
    rw [drew_alloc_size, drew_alloc_size] at this
    exact this
  · exact (((Below.refl _ _).alloc (Nat.le_refl _) _).alloc (by simp) _).alloc (by simp; omega) _
theorem clo_CD (r : BRow) (w : World) (h1 : r.1.length = 32) (h2 : r.2.length = 2) :
    Calls Try.prog 35 #[.agg (entA r)] w fun e w' => ∃ g, e = .returned (.agg (rowA (pad r.1) (some ⟨g, 0, none⟩) 2 2)) ∧ w.heap.size ≤ g ∧ Blk w' g 3 (r.2.map (Value.int .i64)) ∧ Below w.heap.size w w' := by
  obtain ⟨key, l⟩ := r
  simp only at h1 h2
  match l, h2 with
  | [x, y], _ =>
    rw [pad_full h1]
    exact cl_CD key x y w h1
theorem entA_US {r : BRow} (h1 : r.1.length = 0) (h2 : r.2.length = 3) : (entA r).size = 3 := by simp [entA, entL, h1, h2]
set_option maxRecDepth 20000 in
theorem cl_US (x y z : Int) (w : World) :
    Calls Try.prog 38 #[.agg (entA ([], [x, y, z]))] w fun e w' => ∃ g, e = .returned (.agg (rowA z32 (some ⟨g, 0, none⟩) 3 3)) ∧ w.heap.size ≤ g ∧ Blk w' g 3 ([x, y, z].map (Value.int .i64)) ∧ Below w.heap.size w w' := by
  have hsz : (entA ([], [x, y, z])).size = 3 := entA_US (by simp) rfl
  have h0 : (entA ([], [x, y, z]))[0]? = some (.int .i64 x) := by rfl
  have h1 : (entA ([], [x, y, z]))[1]? = some (.int .i64 y) := by rfl
  have h2 : (entA ([], [x, y, z]))[2]? = some (.int .i64 z) := by rfl
  have hB : Blk (w.alloc (.cells (entA ([], [x, y, z])) 84)) w.heap.size 84 (entL ([], [x, y, z])) := Blk.new _ _ _
  have q3 := fun (w : World) (a : Option Addr) (n c : Nat) => r_bdROW1 (w := w) (a := a) (n := n) (c := c)
  have rs := fun (a : Option Addr) (n c : Nat) => rowA_size (key := z32) (by decide) a n c
  have ro := fun (a : Option Addr) (n c : Nat) => rowA_one z32 a n c
  have zs := zROW_size
  clear hB hsz
  generalize entA ([], [x, y, z]) = cs at *
  go_enter Try.func38, Try.ntmps38
  go_wp2
  refine bodyPost_ret (results_cell_row (fn := Try.f38) (by rfl) _ _ (w.heap.size + 1) 74 _ (0, 0) _ (by rfl) ?_ Try.underlying74 rfl (by rw [rs]; exact sizeROW)) rfl ⟨w.heap.size + 2, rfl, by omega, ?_, ?_⟩
  · rw [Below.heap_alloc _ _ _ (by simp)]
    have := heap_alloc_new (w.alloc (.cells cs 84)) (.cells (rowA z32 (some ⟨w.heap.size + 1 + 1, 0, none⟩) 3 3) 74)
    rw [drew_alloc_size] at this
    exact this
  · have := Blk.new ((w.alloc (.cells cs 84)).alloc (.cells (rowA z32 (some ⟨w.heap.size + 1 + 1, 0, none⟩) 3 3) 74)) 3 #[.int .i64 x, .int .i64 y, .int .i64 z]
    rw [drew_alloc_size, drew_alloc_size] at this
    exact this
  · exact (((Below.refl _ _).alloc (Nat.le_refl _) _).alloc (by simp) _).alloc (by simp; omega) _
theorem clo_US (r : BRow) (w : World) (h1 : r.1.length = 0) (h2 : r.2.length = 3) :
    Calls Try.prog 38 #[.agg (entA r)] w fun e w' => ∃ g, e = .returned (.agg (rowA (pad r.1) (some ⟨g, 0, none⟩) 3 3)) ∧ w.heap.size ≤ g ∧ Blk w' g 3 (r.2.map (Value.int .i64)) ∧ Below w.heap.size w w' := by
  obtain ⟨key, l⟩ := r
  simp only at h1 h2
  match l, h2 with
  | [x, y, z], _ =>
    obtain rfl : key = [] := List.eq_nil_of_length_eq_zero h1
    exact cl_US x y z w
end Go.Proofs.Ytcomcljpnjeogaa
