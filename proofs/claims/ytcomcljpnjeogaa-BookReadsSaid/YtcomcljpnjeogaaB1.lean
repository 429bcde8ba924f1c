/- The types of many cells of layer 13, as the walks meet them. -/
import Derived.Test.YtcomcljpnjeogaaRows
import Derived.Test.YtcomcljpnjeogaaLibA
import Derived.Test.YtcomcljpnjeogaaLibQ
set_option maxRecDepth 20000
namespace Go.Proofs.Ytcomcljpnjeogaa
open Go.RowKit Go.Hd

section
variable (ρ : Operand → Value) (dst : Option Tmp) (ty : TypeId) (pos : String) (after : Array Edge) (guard : Option (Nat × Bool))
theorem h_ldID (x : Operand) : execOp ρ { dst, op := .load 67 x, type := ty, pos, after, guard } = (do pure (.value (← ldOp 67 (ρ x)))) := rfl
theorem h_stID (x y : Operand) : execOp ρ { dst, op := .store 67 x y, type := ty, pos, after, guard } = (do stoOp 67 (ρ x) (ρ y); pure .skip) := rfl
theorem h_alID : execOp ρ { dst, op := .alloc 67, type := ty, pos, after, guard } = (do pure (.value (← alOp 67))) := rfl
theorem h_ldROW (x : Operand) : execOp ρ { dst, op := .load 74 x, type := ty, pos, after, guard } = (do pure (.value (← ldOp 74 (ρ x)))) := rfl
theorem h_stROW (x y : Operand) : execOp ρ { dst, op := .store 74 x y, type := ty, pos, after, guard } = (do stoOp 74 (ρ x) (ρ y); pure .skip) := rfl
theorem h_alROW : execOp ρ { dst, op := .alloc 74, type := ty, pos, after, guard } = (do pure (.value (← alOp 74))) := rfl
theorem h_bdROW (parts : Array (Nat × Operand)) : execOp ρ { dst, op := .build 74 parts, type := ty, pos, after, guard } = (do pure (.value (← bdOp 74 (parts.map fun (i, x) => (i, ρ x))))) := rfl
theorem h_bsROW (n : Nat) (parts : Array (Nat × Operand)) : execOp ρ { dst, op := .buildSlice 64 n parts, type := ty, pos, after, guard } = (do pure (.value (← bsOp 64 n (parts.map fun (i, x) => (i, ρ x))))) := rfl
theorem h_nqROW (x y : Operand) (t : TypeId) : execOp ρ { dst, op := .binOp .neq 74 x y t, type := ty, pos, after, guard } = (do pure (.value (← nqOp 74 x y (ρ x) (ρ y)))) := rfl
theorem h_ldKD (x : Operand) : execOp ρ { dst, op := .load 71 x, type := ty, pos, after, guard } = (do pure (.value (← ldOp 71 (ρ x)))) := rfl
theorem h_stKD (x y : Operand) : execOp ρ { dst, op := .store 71 x y, type := ty, pos, after, guard } = (do stoOp 71 (ρ x) (ρ y); pure .skip) := rfl
theorem h_alKD : execOp ρ { dst, op := .alloc 71, type := ty, pos, after, guard } = (do pure (.value (← alOp 71))) := rfl
theorem h_bdKD (parts : Array (Nat × Operand)) : execOp ρ { dst, op := .build 71 parts, type := ty, pos, after, guard } = (do pure (.value (← bdOp 71 (parts.map fun (i, x) => (i, ρ x))))) := rfl
theorem h_bsKD (n : Nat) (parts : Array (Nat × Operand)) : execOp ρ { dst, op := .buildSlice 22 n parts, type := ty, pos, after, guard } = (do pure (.value (← bsOp 22 n (parts.map fun (i, x) => (i, ρ x))))) := rfl
theorem h_nqKD (x y : Operand) (t : TypeId) : execOp ρ { dst, op := .binOp .neq 71 x y t, type := ty, pos, after, guard } = (do pure (.value (← nqOp 71 x y (ρ x) (ρ y)))) := rfl
theorem h_ldCD (x : Operand) : execOp ρ { dst, op := .load 80 x, type := ty, pos, after, guard } = (do pure (.value (← ldOp 80 (ρ x)))) := rfl
theorem h_stCD (x y : Operand) : execOp ρ { dst, op := .store 80 x y, type := ty, pos, after, guard } = (do stoOp 80 (ρ x) (ρ y); pure .skip) := rfl
theorem h_alCD : execOp ρ { dst, op := .alloc 80, type := ty, pos, after, guard } = (do pure (.value (← alOp 80))) := rfl
theorem h_bdCD (parts : Array (Nat × Operand)) : execOp ρ { dst, op := .build 80 parts, type := ty, pos, after, guard } = (do pure (.value (← bdOp 80 (parts.map fun (i, x) => (i, ρ x))))) := rfl
theorem h_bsCD (n : Nat) (parts : Array (Nat × Operand)) : execOp ρ { dst, op := .buildSlice 23 n parts, type := ty, pos, after, guard } = (do pure (.value (← bsOp 23 n (parts.map fun (i, x) => (i, ρ x))))) := rfl
theorem h_nqCD (x y : Operand) (t : TypeId) : execOp ρ { dst, op := .binOp .neq 80 x y t, type := ty, pos, after, guard } = (do pure (.value (← nqOp 80 x y (ρ x) (ρ y)))) := rfl
theorem h_ldUS (x : Operand) : execOp ρ { dst, op := .load 84 x, type := ty, pos, after, guard } = (do pure (.value (← ldOp 84 (ρ x)))) := rfl
theorem h_stUS (x y : Operand) : execOp ρ { dst, op := .store 84 x y, type := ty, pos, after, guard } = (do stoOp 84 (ρ x) (ρ y); pure .skip) := rfl
theorem h_alUS : execOp ρ { dst, op := .alloc 84, type := ty, pos, after, guard } = (do pure (.value (← alOp 84))) := rfl
theorem h_bdUS (parts : Array (Nat × Operand)) : execOp ρ { dst, op := .build 84 parts, type := ty, pos, after, guard } = (do pure (.value (← bdOp 84 (parts.map fun (i, x) => (i, ρ x))))) := rfl
theorem h_bsUS (n : Nat) (parts : Array (Nat × Operand)) : execOp ρ { dst, op := .buildSlice 24 n parts, type := ty, pos, after, guard } = (do pure (.value (← bsOp 24 n (parts.map fun (i, x) => (i, ρ x))))) := rfl
theorem h_nqUS (x y : Operand) (t : TypeId) : execOp ρ { dst, op := .binOp .neq 84 x y t, type := ty, pos, after, guard } = (do pure (.value (← nqOp 84 x y (ρ x) (ρ y)))) := rfl
theorem h_ap (x : Operand) : execOp ρ { dst, op := .sliceToArrayPointer 67 x, type := ty, pos, after, guard } = (do pure (.value (← apOp 67 (ρ x)))) := rfl
theorem h_cv (x : Operand) : execOp ρ { dst, op := .convert 9 27 x, type := ty, pos, after, guard } = (do pure (.value (← cvOp 9 27 (ρ x)))) := rfl
end
def zID : Array Value := List.toArray (α := Value) (List.replicate 32 (.int .u8 0))
theorem zID_size : zID.size = 32 := by rfl
theorem zID_one : OneC zID := by unfold OneC; decide +kernel
theorem infoID : (Try.prog.info? 67).map (fun i => (i.zero, i.size)) = some (some (.agg zID), 32) := by kernel_rfl
theorem sizeID : (Try.prog.info? 67).map (·.size) = some 32 := (zero_of_info infoID).2
theorem zeroID : (Try.prog.info? 67).bind (·.zero) = some (.agg zID) := by kernel_rfl
theorem r_ldID {w : World} {b : Nat} {cs : Array Value} {T : TypeId} (hb : w.heap.size = b) (hs : cs.size = 32) : (ldOp 67 (.pointer (some ⟨b, 0, none⟩))).run Try.prog (w.alloc (.cells cs T)) = .ok (.agg cs) (w.alloc (.cells cs T)) :=
  ldOp_new hb Try.underlying67 rfl (by rw [hs]; exact sizeID)
theorem r_stID {w : World} {b : Nat} {old cs : Array Value} {T : TypeId} (hb : w.heap.size = b) (ho : old.size = 32) (hs : cs.size = 32) (h1 : OneC cs) : (stoOp 67 (.pointer (some ⟨b, 0, none⟩)) (.agg cs)).run Try.prog (w.alloc (.cells old T)) = .ok () (w.alloc (.cells cs T)) :=
  stOp_new hb (by rw [hs]; exact sizeID) (by rw [ho, hs]) h1
theorem r_s2ID {w : World} {b : Nat} {old cs : Array Value} {T : TypeId} {o : Obj} (hb : w.heap.size = b) (ho : old.size = 32) (hs : cs.size = 32) (h1 : OneC cs) : (stoOp 67 (.pointer (some ⟨b, 0, none⟩)) (.agg cs)).run Try.prog ((w.alloc (.cells old T)).alloc o) = .ok () ((w.alloc (.cells cs T)).alloc o) :=
  stOp_new2 hb (by rw [hs]; exact sizeID) (by rw [ho, hs]) h1
theorem r_alID {w : World} : (alOp 67).run Try.prog w = .ok (.pointer (some ⟨w.heap.size, 0, none⟩)) (w.alloc (.cells zID 67)) := alOp_run zeroID
def zROW : Array Value := List.toArray (α := Value) (List.replicate 32 (.int .u8 0) ++ [.slice none 0 0])
theorem zROW_size : zROW.size = 33 := by rfl
theorem zROW_one : OneC zROW := by unfold OneC; decide +kernel
theorem infoROW : (Try.prog.info? 74).map (fun i => (i.zero, i.size)) = some (some (.agg zROW), 33) := by kernel_rfl
theorem sizeROW : (Try.prog.info? 74).map (·.size) = some 33 := (zero_of_info infoROW).2
theorem zeroROW : (Try.prog.info? 74).bind (·.zero) = some (.agg zROW) := by kernel_rfl
theorem r_ldROW {w : World} {b : Nat} {cs : Array Value} {T : TypeId} (hb : w.heap.size = b) (hs : cs.size = 33) : (ldOp 74 (.pointer (some ⟨b, 0, none⟩))).run Try.prog (w.alloc (.cells cs T)) = .ok (.agg cs) (w.alloc (.cells cs T)) :=
  ldOp_new hb Try.underlying74 rfl (by rw [hs]; exact sizeROW)
theorem r_stROW {w : World} {b : Nat} {old cs : Array Value} {T : TypeId} (hb : w.heap.size = b) (ho : old.size = 33) (hs : cs.size = 33) (h1 : OneC cs) : (stoOp 74 (.pointer (some ⟨b, 0, none⟩)) (.agg cs)).run Try.prog (w.alloc (.cells old T)) = .ok () (w.alloc (.cells cs T)) :=
  stOp_new hb (by rw [hs]; exact sizeROW) (by rw [ho, hs]) h1
theorem r_s2ROW {w : World} {b : Nat} {old cs : Array Value} {T : TypeId} {o : Obj} (hb : w.heap.size = b) (ho : old.size = 33) (hs : cs.size = 33) (h1 : OneC cs) : (stoOp 74 (.pointer (some ⟨b, 0, none⟩)) (.agg cs)).run Try.prog ((w.alloc (.cells old T)).alloc o) = .ok () ((w.alloc (.cells cs T)).alloc o) :=
  stOp_new2 hb (by rw [hs]; exact sizeROW) (by rw [ho, hs]) h1
theorem r_alROW {w : World} : (alOp 74).run Try.prog w = .ok (.pointer (some ⟨w.heap.size, 0, none⟩)) (w.alloc (.cells zROW 74)) := alOp_run zeroROW
theorem r_bsROW {w : World} {cs : Array Value} (hs : cs.size = 33) : (bsOp 64 1 #[(0, .agg cs)]).run Try.prog w = .ok (.slice (some ⟨w.heap.size, 0, none⟩) 1 1) (w.alloc (.cells cs 74)) :=
  bsOp_one Try.underlying64 infoROW (by decide) (by decide) (by exact zROW_size) hs
def zKD : Array Value := List.toArray (α := Value) (List.replicate 32 (.int .u8 0) ++ List.replicate 3 (.int .i64 0))
theorem zKD_size : zKD.size = 35 := by rfl
theorem zKD_one : OneC zKD := by unfold OneC; decide +kernel
theorem infoKD : (Try.prog.info? 71).map (fun i => (i.zero, i.size)) = some (some (.agg zKD), 35) := by kernel_rfl
theorem sizeKD : (Try.prog.info? 71).map (·.size) = some 35 := (zero_of_info infoKD).2
theorem zeroKD : (Try.prog.info? 71).bind (·.zero) = some (.agg zKD) := by kernel_rfl
theorem r_ldKD {w : World} {b : Nat} {cs : Array Value} {T : TypeId} (hb : w.heap.size = b) (hs : cs.size = 35) : (ldOp 71 (.pointer (some ⟨b, 0, none⟩))).run Try.prog (w.alloc (.cells cs T)) = .ok (.agg cs) (w.alloc (.cells cs T)) :=
  ldOp_new hb Try.underlying71 rfl (by rw [hs]; exact sizeKD)
theorem r_stKD {w : World} {b : Nat} {old cs : Array Value} {T : TypeId} (hb : w.heap.size = b) (ho : old.size = 35) (hs : cs.size = 35) (h1 : OneC cs) : (stoOp 71 (.pointer (some ⟨b, 0, none⟩)) (.agg cs)).run Try.prog (w.alloc (.cells old T)) = .ok () (w.alloc (.cells cs T)) :=
  stOp_new hb (by rw [hs]; exact sizeKD) (by rw [ho, hs]) h1
theorem r_s2KD {w : World} {b : Nat} {old cs : Array Value} {T : TypeId} {o : Obj} (hb : w.heap.size = b) (ho : old.size = 35) (hs : cs.size = 35) (h1 : OneC cs) : (stoOp 71 (.pointer (some ⟨b, 0, none⟩)) (.agg cs)).run Try.prog ((w.alloc (.cells old T)).alloc o) = .ok () ((w.alloc (.cells cs T)).alloc o) :=
  stOp_new2 hb (by rw [hs]; exact sizeKD) (by rw [ho, hs]) h1
theorem r_alKD {w : World} : (alOp 71).run Try.prog w = .ok (.pointer (some ⟨w.heap.size, 0, none⟩)) (w.alloc (.cells zKD 71)) := alOp_run zeroKD
theorem r_bsKD {w : World} {cs : Array Value} (hs : cs.size = 35) : (bsOp 22 1 #[(0, .agg cs)]).run Try.prog w = .ok (.slice (some ⟨w.heap.size, 0, none⟩) 1 1) (w.alloc (.cells cs 71)) :=
  bsOp_one Try.underlying22 infoKD (by decide) (by decide) (by exact zKD_size) hs
def zCD : Array Value := List.toArray (α := Value) (List.replicate 32 (.int .u8 0) ++ List.replicate 2 (.int .i64 0))
theorem zCD_size : zCD.size = 34 := by rfl
theorem zCD_one : OneC zCD := by unfold OneC; decide +kernel
theorem infoCD : (Try.prog.info? 80).map (fun i => (i.zero, i.size)) = some (some (.agg zCD), 34) := by kernel_rfl
theorem sizeCD : (Try.prog.info? 80).map (·.size) = some 34 := (zero_of_info infoCD).2
theorem zeroCD : (Try.prog.info? 80).bind (·.zero) = some (.agg zCD) := by kernel_rfl
theorem r_ldCD {w : World} {b : Nat} {cs : Array Value} {T : TypeId} (hb : w.heap.size = b) (hs : cs.size = 34) : (ldOp 80 (.pointer (some ⟨b, 0, none⟩))).run Try.prog (w.alloc (.cells cs T)) = .ok (.agg cs) (w.alloc (.cells cs T)) :=
  ldOp_new hb Try.underlying80 rfl (by rw [hs]; exact sizeCD)
theorem r_stCD {w : World} {b : Nat} {old cs : Array Value} {T : TypeId} (hb : w.heap.size = b) (ho : old.size = 34) (hs : cs.size = 34) (h1 : OneC cs) : (stoOp 80 (.pointer (some ⟨b, 0, none⟩)) (.agg cs)).run Try.prog (w.alloc (.cells old T)) = .ok () (w.alloc (.cells cs T)) :=
  stOp_new hb (by rw [hs]; exact sizeCD) (by rw [ho, hs]) h1
theorem r_s2CD {w : World} {b : Nat} {old cs : Array Value} {T : TypeId} {o : Obj} (hb : w.heap.size = b) (ho : old.size = 34) (hs : cs.size = 34) (h1 : OneC cs) : (stoOp 80 (.pointer (some ⟨b, 0, none⟩)) (.agg cs)).run Try.prog ((w.alloc (.cells old T)).alloc o) = .ok () ((w.alloc (.cells cs T)).alloc o) :=
  stOp_new2 hb (by rw [hs]; exact sizeCD) (by rw [ho, hs]) h1
theorem r_alCD {w : World} : (alOp 80).run Try.prog w = .ok (.pointer (some ⟨w.heap.size, 0, none⟩)) (w.alloc (.cells zCD 80)) := alOp_run zeroCD
theorem r_bsCD {w : World} {cs : Array Value} (hs : cs.size = 34) : (bsOp 23 1 #[(0, .agg cs)]).run Try.prog w = .ok (.slice (some ⟨w.heap.size, 0, none⟩) 1 1) (w.alloc (.cells cs 80)) :=
  bsOp_one Try.underlying23 infoCD (by decide) (by decide) (by exact zCD_size) hs
def zUS : Array Value := List.toArray (α := Value) (List.replicate 3 (.int .i64 0))
theorem zUS_size : zUS.size = 3 := by rfl
theorem zUS_one : OneC zUS := by unfold OneC; decide +kernel
theorem infoUS : (Try.prog.info? 84).map (fun i => (i.zero, i.size)) = some (some (.agg zUS), 3) := by kernel_rfl
theorem sizeUS : (Try.prog.info? 84).map (·.size) = some 3 := (zero_of_info infoUS).2
theorem zeroUS : (Try.prog.info? 84).bind (·.zero) = some (.agg zUS) := by kernel_rfl
theorem r_ldUS {w : World} {b : Nat} {cs : Array Value} {T : TypeId} (hb : w.heap.size = b) (hs : cs.size = 3) : (ldOp 84 (.pointer (some ⟨b, 0, none⟩))).run Try.prog (w.alloc (.cells cs T)) = .ok (.agg cs) (w.alloc (.cells cs T)) :=
  ldOp_new hb Try.underlying84 rfl (by rw [hs]; exact sizeUS)
theorem r_stUS {w : World} {b : Nat} {old cs : Array Value} {T : TypeId} (hb : w.heap.size = b) (ho : old.size = 3) (hs : cs.size = 3) (h1 : OneC cs) : (stoOp 84 (.pointer (some ⟨b, 0, none⟩)) (.agg cs)).run Try.prog (w.alloc (.cells old T)) = .ok () (w.alloc (.cells cs T)) :=
  stOp_new hb (by rw [hs]; exact sizeUS) (by rw [ho, hs]) h1
theorem r_s2US {w : World} {b : Nat} {old cs : Array Value} {T : TypeId} {o : Obj} (hb : w.heap.size = b) (ho : old.size = 3) (hs : cs.size = 3) (h1 : OneC cs) : (stoOp 84 (.pointer (some ⟨b, 0, none⟩)) (.agg cs)).run Try.prog ((w.alloc (.cells old T)).alloc o) = .ok () ((w.alloc (.cells cs T)).alloc o) :=
  stOp_new2 hb (by rw [hs]; exact sizeUS) (by rw [ho, hs]) h1
theorem r_alUS {w : World} : (alOp 84).run Try.prog w = .ok (.pointer (some ⟨w.heap.size, 0, none⟩)) (w.alloc (.cells zUS 84)) := alOp_run zeroUS
theorem r_bsUS {w : World} {cs : Array Value} (hs : cs.size = 3) : (bsOp 24 1 #[(0, .agg cs)]).run Try.prog w = .ok (.slice (some ⟨w.heap.size, 0, none⟩) 1 1) (w.alloc (.cells cs 84)) :=
  bsOp_one Try.underlying24 infoUS (by decide) (by decide) (by exact zUS_size) hs
theorem r_ap {w : World} {a : Addr} {c : Nat} : (apOp 67 (.slice (some a) 32 c)).run Try.prog w = .ok (.pointer (some a)) w := apOp_run Try.underlying67 (Nat.le_refl _)
theorem r_cv {w : World} {l : List UInt8} : (cvOp 9 27 (.string (str l))).run Try.prog w = .ok (.slice (some ⟨w.heap.size, 0, none⟩) l.length (cvC 5 w l)) (cvW 5 w l) := cvOp_run Try.underlying9 Try.underlying27 Try.underlying5
end Go.Proofs.Ytcomcljpnjeogaa
