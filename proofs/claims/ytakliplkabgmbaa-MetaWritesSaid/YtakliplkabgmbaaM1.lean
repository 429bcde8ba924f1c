/- The types of many cells of layer 23 (ids, archives, parts), as the walks meet them; archives and parts as cells. -/
import Derived.Test.YtakliplkabgmbaaRows
import Derived.Test.YtakliplkabgmbaaLibA
import Derived.Test.YtakliplkabgmbaaLibQ
import Derived.Test.YtakliplkabgmbaaV2
import Derived.Test.YtakliplkabgmbaaOwnS
set_option maxRecDepth 20000
namespace Go.Hd
open Go Go.RowKit
/-- An archive, a part, as they are. -/
structure Abt where
  name : List UInt8
  id : List UInt8
  time : Int
  comment : List UInt8
  items : Int
  bytes : Int
structure Prt where
  id : List UInt8
  size : Int
def abtC (x : Abt) : List Value := strV x.name :: (x.id.map b8 ++ [.int .i64 x.time, strV x.comment, .int .i64 x.items, .int .i64 x.bytes])
def prtC (p : Prt) : List Value := p.id.map b8 ++ [.int .i64 p.size]
structure AbtOk (x : Abt) : Prop where
  id : x.id.length = 32
  time : in64 x.time
  items : in64 x.items
  bytes : in64 x.bytes
  name : x.name.length ≤ maxLen
  comment : x.comment.length ≤ maxLen
structure PrtOk (p : Prt) : Prop where
  id : p.id.length = 32
  size : in64 p.size
theorem abtC_len {x : Abt} (h : AbtOk x) : (abtC x).length = 37 := by simp [abtC, h.id]
theorem prtC_len {p : Prt} (h : PrtOk p) : (prtC p).length = 33 := by simp [prtC, h.id]
theorem b8_one (l : List UInt8) : ∀ v ∈ l.map b8, v.oneCell' = true := by
  intro v hv
  obtain ⟨c, _, rfl⟩ := List.mem_map.1 hv
  rfl
theorem abtC_one (x : Abt) : ∀ v ∈ abtC x, v.oneCell' = true := by
  intro v hv
  unfold abtC at hv
  rcases List.mem_cons.1 hv with rfl | hv
  · rfl
  · rcases List.mem_append.1 hv with hv | hv
    · exact b8_one _ v hv
    · simp only [List.mem_cons, List.not_mem_nil, or_false] at hv
      rcases hv with rfl | rfl | rfl | rfl <;> rfl
theorem prtC_one (p : Prt) : ∀ v ∈ prtC p, v.oneCell' = true := by
  intro v hv
  unfold prtC at hv
  rcases List.mem_append.1 hv with hv | hv
  · exact b8_one _ v hv
  · simp only [List.mem_cons, List.not_mem_nil, or_false] at hv
    subst hv; rfl
theorem abtC_0 (x : Abt) : (abtC x)[0]? = some (strV x.name) := rfl
theorem abtC_33 {x : Abt} (h : AbtOk x) : (abtC x)[33]? = some (.int .i64 x.time) := by
  unfold abtC; rw [List.getElem?_cons_succ, List.getElem?_append_right (by rw [List.length_map, h.id]; omega), List.length_map, h.id]; rfl
theorem abtC_34 {x : Abt} (h : AbtOk x) : (abtC x)[34]? = some (strV x.comment) := by
  unfold abtC; rw [List.getElem?_cons_succ, List.getElem?_append_right (by rw [List.length_map, h.id]; omega), List.length_map, h.id]; rfl
theorem abtC_35 {x : Abt} (h : AbtOk x) : (abtC x)[35]? = some (.int .i64 x.items) := by
  unfold abtC; rw [List.getElem?_cons_succ, List.getElem?_append_right (by rw [List.length_map, h.id]; omega), List.length_map, h.id]; rfl
theorem abtC_36 {x : Abt} (h : AbtOk x) : (abtC x)[36]? = some (.int .i64 x.bytes) := by
  unfold abtC; rw [List.getElem?_cons_succ, List.getElem?_append_right (by rw [List.length_map, h.id]; omega), List.length_map, h.id]; rfl
theorem abtC_id {x : Abt} (h : AbtOk x) : ((abtC x).drop 1).take 32 = x.id.map b8 := by
  unfold abtC
  rw [List.drop_one, List.tail_cons, List.take_append_of_le_length (by rw [List.length_map, h.id]; omega), List.take_of_length_le (by rw [List.length_map, h.id]; omega)]
theorem prtC_32 {p : Prt} (h : PrtOk p) : (prtC p)[32]? = some (.int .i64 p.size) := by
  unfold prtC; rw [List.getElem?_append_right (by rw [List.length_map, h.id]; omega), List.length_map, h.id]; rfl
theorem prtC_id {p : Prt} (h : PrtOk p) : ((prtC p).drop 0).take 32 = p.id.map b8 := by
  unfold prtC
  rw [List.drop_zero, List.take_append_of_le_length (by rw [List.length_map, h.id]; omega), List.take_of_length_le (by rw [List.length_map, h.id]; omega)]
end Go.Hd
namespace Go.Proofs.Ytakliplkabgmbaa
open Go.RowKit Go.Hd

section
variable (ρ : Operand → Value) (dst : Option Tmp) (ty : TypeId) (pos : String) (after : Array Edge) (guard : Option (Nat × Bool))
theorem h_ldID (x : Operand) : execOp ρ { dst, op := .load 29 x, type := ty, pos, after, guard } = (do pure (.value (← ldOp 29 (ρ x)))) := rfl
theorem h_stID (x y : Operand) : execOp ρ { dst, op := .store 29 x y, type := ty, pos, after, guard } = (do stoOp 29 (ρ x) (ρ y); pure .skip) := rfl
theorem h_alID : execOp ρ { dst, op := .alloc 29, type := ty, pos, after, guard } = (do pure (.value (← alOp 29))) := rfl
theorem h_ldAB (x : Operand) : execOp ρ { dst, op := .load 31 x, type := ty, pos, after, guard } = (do pure (.value (← ldOp 31 (ρ x)))) := rfl
theorem h_stAB (x y : Operand) : execOp ρ { dst, op := .store 31 x y, type := ty, pos, after, guard } = (do stoOp 31 (ρ x) (ρ y); pure .skip) := rfl
theorem h_alAB : execOp ρ { dst, op := .alloc 31, type := ty, pos, after, guard } = (do pure (.value (← alOp 31))) := rfl
theorem h_bdAB (parts : Array (Nat × Operand)) : execOp ρ { dst, op := .build 31 parts, type := ty, pos, after, guard } = (do pure (.value (← bdOp 31 (parts.map fun (i, x) => (i, ρ x))))) := rfl
theorem h_bsAB (n : Nat) (parts : Array (Nat × Operand)) : execOp ρ { dst, op := .buildSlice 27 n parts, type := ty, pos, after, guard } = (do pure (.value (← bsOp 27 n (parts.map fun (i, x) => (i, ρ x))))) := rfl
theorem h_nqAB (x y : Operand) (t : TypeId) : execOp ρ { dst, op := .binOp .neq 31 x y t, type := ty, pos, after, guard } = (do pure (.value (← nqOp 31 x y (ρ x) (ρ y)))) := rfl
theorem h_ldPA (x : Operand) : execOp ρ { dst, op := .load 83 x, type := ty, pos, after, guard } = (do pure (.value (← ldOp 83 (ρ x)))) := rfl
theorem h_stPA (x y : Operand) : execOp ρ { dst, op := .store 83 x y, type := ty, pos, after, guard } = (do stoOp 83 (ρ x) (ρ y); pure .skip) := rfl
theorem h_alPA : execOp ρ { dst, op := .alloc 83, type := ty, pos, after, guard } = (do pure (.value (← alOp 83))) := rfl
theorem h_bdPA (parts : Array (Nat × Operand)) : execOp ρ { dst, op := .build 83 parts, type := ty, pos, after, guard } = (do pure (.value (← bdOp 83 (parts.map fun (i, x) => (i, ρ x))))) := rfl
theorem h_bsPA (n : Nat) (parts : Array (Nat × Operand)) : execOp ρ { dst, op := .buildSlice 32 n parts, type := ty, pos, after, guard } = (do pure (.value (← bsOp 32 n (parts.map fun (i, x) => (i, ρ x))))) := rfl
theorem h_nqPA (x y : Operand) (t : TypeId) : execOp ρ { dst, op := .binOp .neq 83 x y t, type := ty, pos, after, guard } = (do pure (.value (← nqOp 83 x y (ρ x) (ρ y)))) := rfl
theorem h_ap (x : Operand) : execOp ρ { dst, op := .sliceToArrayPointer 29 x, type := ty, pos, after, guard } = (do pure (.value (← apOp 29 (ρ x)))) := rfl
theorem h_cv (x : Operand) : execOp ρ { dst, op := .convert 9 35 x, type := ty, pos, after, guard } = (do pure (.value (← cvOp 9 35 (ρ x)))) := rfl
end
def zID : Array Value := List.toArray (α := Value) (List.replicate 32 (.int .u8 0))
theorem zID_size : zID.size = 32 := by rfl
theorem zID_one : OneC zID := by unfold OneC; decide +kernel
theorem infoID : (Try.prog.info? 29).map (fun i => (i.zero, i.size)) = some (some (.agg zID), 32) := by kernel_rfl
theorem sizeID : (Try.prog.info? 29).map (·.size) = some 32 := (zero_of_info infoID).2
theorem zeroID : (Try.prog.info? 29).bind (·.zero) = some (.agg zID) := by kernel_rfl
theorem r_ldID {w : World} {b : Nat} {cs : Array Value} {T : TypeId} (hb : w.heap.size = b) (hs : cs.size = 32) : (ldOp 29 (.pointer (some ⟨b, 0, none⟩))).run Try.prog (w.alloc (.cells cs T)) = .ok (.agg cs) (w.alloc (.cells cs T)) :=
  ldOp_new hb Try.underlying29 rfl (by rw [hs]; exact sizeID)
theorem r_stID {w : World} {b : Nat} {old cs : Array Value} {T : TypeId} (hb : w.heap.size = b) (ho : old.size = 32) (hs : cs.size = 32) (h1 : OneC cs) : (stoOp 29 (.pointer (some ⟨b, 0, none⟩)) (.agg cs)).run Try.prog (w.alloc (.cells old T)) = .ok () (w.alloc (.cells cs T)) :=
  stOp_new hb (by rw [hs]; exact sizeID) (by rw [ho, hs]) h1
theorem r_s2ID {w : World} {b : Nat} {old cs : Array Value} {T : TypeId} {o : Obj} (hb : w.heap.size = b) (ho : old.size = 32) (hs : cs.size = 32) (h1 : OneC cs) : (stoOp 29 (.pointer (some ⟨b, 0, none⟩)) (.agg cs)).run Try.prog ((w.alloc (.cells old T)).alloc o) = .ok () ((w.alloc (.cells cs T)).alloc o) :=
  stOp_new2 hb (by rw [hs]; exact sizeID) (by rw [ho, hs]) h1
theorem r_alID {w : World} : (alOp 29).run Try.prog w = .ok (.pointer (some ⟨w.heap.size, 0, none⟩)) (w.alloc (.cells zID 29)) := alOp_run zeroID
def zAB : Array Value := List.toArray (α := Value) (.string .empty :: (List.replicate 32 (.int .u8 0) ++ [.int .i64 0, .string .empty, .int .i64 0, .int .i64 0]))
theorem zAB_size : zAB.size = 37 := by rfl
theorem zAB_one : OneC zAB := by unfold OneC; decide +kernel
theorem infoAB : (Try.prog.info? 31).map (fun i => (i.zero, i.size)) = some (some (.agg zAB), 37) := by kernel_rfl
theorem sizeAB : (Try.prog.info? 31).map (·.size) = some 37 := (zero_of_info infoAB).2
theorem zeroAB : (Try.prog.info? 31).bind (·.zero) = some (.agg zAB) := by kernel_rfl
theorem r_ldAB {w : World} {b : Nat} {cs : Array Value} {T : TypeId} (hb : w.heap.size = b) (hs : cs.size = 37) : (ldOp 31 (.pointer (some ⟨b, 0, none⟩))).run Try.prog (w.alloc (.cells cs T)) = .ok (.agg cs) (w.alloc (.cells cs T)) :=
  ldOp_new hb Try.underlying31 rfl (by rw [hs]; exact sizeAB)
theorem r_stAB {w : World} {b : Nat} {old cs : Array Value} {T : TypeId} (hb : w.heap.size = b) (ho : old.size = 37) (hs : cs.size = 37) (h1 : OneC cs) : (stoOp 31 (.pointer (some ⟨b, 0, none⟩)) (.agg cs)).run Try.prog (w.alloc (.cells old T)) = .ok () (w.alloc (.cells cs T)) :=
  stOp_new hb (by rw [hs]; exact sizeAB) (by rw [ho, hs]) h1
theorem r_s2AB {w : World} {b : Nat} {old cs : Array Value} {T : TypeId} {o : Obj} (hb : w.heap.size = b) (ho : old.size = 37) (hs : cs.size = 37) (h1 : OneC cs) : (stoOp 31 (.pointer (some ⟨b, 0, none⟩)) (.agg cs)).run Try.prog ((w.alloc (.cells old T)).alloc o) = .ok () ((w.alloc (.cells cs T)).alloc o) :=
  stOp_new2 hb (by rw [hs]; exact sizeAB) (by rw [ho, hs]) h1
theorem r_alAB {w : World} : (alOp 31).run Try.prog w = .ok (.pointer (some ⟨w.heap.size, 0, none⟩)) (w.alloc (.cells zAB 31)) := alOp_run zeroAB
theorem r_bsAB {w : World} {cs : Array Value} (hs : cs.size = 37) : (bsOp 27 1 #[(0, .agg cs)]).run Try.prog w = .ok (.slice (some ⟨w.heap.size, 0, none⟩) 1 1) (w.alloc (.cells cs 31)) :=
  bsOp_one Try.underlying27 infoAB (by decide) (by decide) (by exact zAB_size) hs
theorem eAB : Elem Try.prog 27 31 (.agg zAB) 37 88 := ⟨by kernel_rfl, by kernel_rfl, rfl, by decide⟩
def zPA : Array Value := List.toArray (α := Value) (List.replicate 32 (.int .u8 0) ++ [.int .i64 0])
theorem zPA_size : zPA.size = 33 := by rfl
theorem zPA_one : OneC zPA := by unfold OneC; decide +kernel
theorem infoPA : (Try.prog.info? 83).map (fun i => (i.zero, i.size)) = some (some (.agg zPA), 33) := by kernel_rfl
theorem sizePA : (Try.prog.info? 83).map (·.size) = some 33 := (zero_of_info infoPA).2
theorem zeroPA : (Try.prog.info? 83).bind (·.zero) = some (.agg zPA) := by kernel_rfl
theorem r_ldPA {w : World} {b : Nat} {cs : Array Value} {T : TypeId} (hb : w.heap.size = b) (hs : cs.size = 33) : (ldOp 83 (.pointer (some ⟨b, 0, none⟩))).run Try.prog (w.alloc (.cells cs T)) = .ok (.agg cs) (w.alloc (.cells cs T)) :=
  ldOp_new hb Try.underlying83 rfl (by rw [hs]; exact sizePA)
theorem r_stPA {w : World} {b : Nat} {old cs : Array Value} {T : TypeId} (hb : w.heap.size = b) (ho : old.size = 33) (hs : cs.size = 33) (h1 : OneC cs) : (stoOp 83 (.pointer (some ⟨b, 0, none⟩)) (.agg cs)).run Try.prog (w.alloc (.cells old T)) = .ok () (w.alloc (.cells cs T)) :=
  stOp_new hb (by rw [hs]; exact sizePA) (by rw [ho, hs]) h1
theorem r_s2PA {w : World} {b : Nat} {old cs : Array Value} {T : TypeId} {o : Obj} (hb : w.heap.size = b) (ho : old.size = 33) (hs : cs.size = 33) (h1 : OneC cs) : (stoOp 83 (.pointer (some ⟨b, 0, none⟩)) (.agg cs)).run Try.prog ((w.alloc (.cells old T)).alloc o) = .ok () ((w.alloc (.cells cs T)).alloc o) :=
  stOp_new2 hb (by rw [hs]; exact sizePA) (by rw [ho, hs]) h1
theorem r_alPA {w : World} : (alOp 83).run Try.prog w = .ok (.pointer (some ⟨w.heap.size, 0, none⟩)) (w.alloc (.cells zPA 83)) := alOp_run zeroPA
theorem r_bsPA {w : World} {cs : Array Value} (hs : cs.size = 33) : (bsOp 32 1 #[(0, .agg cs)]).run Try.prog w = .ok (.slice (some ⟨w.heap.size, 0, none⟩) 1 1) (w.alloc (.cells cs 83)) :=
  bsOp_one Try.underlying32 infoPA (by decide) (by decide) (by exact zPA_size) hs
theorem ePA : Elem Try.prog 32 83 (.agg zPA) 33 40 := ⟨by kernel_rfl, by kernel_rfl, rfl, by decide⟩
theorem r_ap {w : World} {a : Addr} {c : Nat} : (apOp 29 (.slice (some a) 32 c)).run Try.prog w = .ok (.pointer (some a)) w := apOp_run Try.underlying29 (Nat.le_refl _)
theorem r_cv {w : World} {l : List UInt8} : (cvOp 9 35 (.string (str l))).run Try.prog w = .ok (.slice (some ⟨w.heap.size, 0, none⟩) l.length (cvC 5 w l)) (cvW 5 w l) := cvOp_run Try.underlying9 Try.underlying35 Try.underlying5
end Go.Proofs.Ytakliplkabgmbaa
