/- Layer 20: tokens as cells; takes. -/
import Derived.Test.YtcanlgcifnjfaaaDoorPt1
import Derived.Test.YtcanlgcifnjfaaaDoorP5
set_option maxRecDepth 20000
namespace Go.Hd
def kindT : Tok → Int
  | .one _ => 0
  | .star => 1
  | .any1 => 2
  | .set _ => 3
  | .deep => 4
def chrT : Tok → UInt8
  | .one c => c
  | _ => 0
def bitsT : Tok → Nat → Bool
  | .set f => f
  | _ => fun _ => false
def bitsC (f : Nat → Bool) : List Value := (List.range 256).map fun j => .int .u8 (if f j then 1 else 0)
theorem bitsC_len (f : Nat → Bool) : (bitsC f).length = 256 := by simp [bitsC]
theorem bitsC_at (f : Nat → Bool) {j : Nat} (h : j < 256) : (bitsC f)[j]? = some (.int .u8 (if f j then 1 else 0)) := by
  unfold bitsC
  rw [List.getElem?_map, List.getElem?_range h]; rfl
def tokC (t : Tok) : List Value := .int .i64 (kindT t) :: .int .u8 ((chrT t).toNat : Int) :: bitsC (bitsT t)
theorem tokC_len (t : Tok) : (tokC t).length = 258 := by simp [tokC, bitsC_len]
def tokA (t : Tok) : Array Value := (tokC t).toArray
theorem tokA_size (t : Tok) : (tokA t).size = 258 := by simp [tokA, tokC_len]
theorem bitsC_one (f : Nat → Bool) : ∀ v ∈ bitsC f, v.oneCell' = true := by
  intro v hv
  obtain ⟨j, _, rfl⟩ := List.mem_map.1 hv
  rfl
theorem tokC_one (t : Tok) : ∀ v ∈ tokC t, v.oneCell' = true := by
  intro v hv
  rcases List.mem_cons.1 hv with rfl | hv
  · rfl
  · rcases List.mem_cons.1 hv with rfl | hv
    · rfl
    · exact bitsC_one _ v hv
theorem tokA_0 (t : Tok) : (tokA t)[0]? = some (.int .i64 (kindT t)) := by simp [tokA, tokC]
theorem tokA_1 (t : Tok) : (tokA t)[1]? = some (.int .u8 ((chrT t).toNat : Int)) := by simp [tokA, tokC]
theorem tokA_b (t : Tok) {j : Nat} (h : j < 256) : (tokA t)[2 + j]? = some (.int .u8 (if bitsT t j then 1 else 0)) := by
  have := bitsC_at (bitsT t) h
  simp only [tokA, tokC, List.getElem?_toArray]
  rw [Nat.add_comm]; exact this
def styV (sh : Bool) : ByteArray := if sh then ⟨#[115, 104, 58]⟩ else ⟨#[102, 109, 58]⟩
end Go.Hd
namespace Go.Proofs.YtcanlgcifnjfaaaDoor
open Go.RowKit Go.Hd

section
variable (ρ : Operand → Value) (dst : Option Tmp) (ty : TypeId) (pos : String) (after : Array Edge) (guard : Option (Nat × Bool))
theorem h_ldTK (x : Operand) : execOp ρ { dst, op := .load 85 x, type := ty, pos, after, guard } = (do pure (.value (← ldOp 85 (ρ x)))) := rfl
theorem h_stTK (x y : Operand) : execOp ρ { dst, op := .store 85 x y, type := ty, pos, after, guard } = (do stoOp 85 (ρ x) (ρ y); pure .skip) := rfl
theorem h_alTK : execOp ρ { dst, op := .alloc 85, type := ty, pos, after, guard } = (do pure (.value (← alOp 85))) := rfl
theorem h_bdTK (parts : Array (Nat × Operand)) : execOp ρ { dst, op := .build 85 parts, type := ty, pos, after, guard } = (do pure (.value (← bdOp 85 (parts.map fun (i, x) => (i, ρ x))))) := rfl
theorem h_bsTK (n : Nat) (parts : Array (Nat × Operand)) : execOp ρ { dst, op := .buildSlice 50 n parts, type := ty, pos, after, guard } = (do pure (.value (← bsOp 50 n (parts.map fun (i, x) => (i, ρ x))))) := rfl
end
def zTK : Array Value := List.toArray (α := Value) (.int .i64 0 :: .int .u8 0 :: List.replicate 256 (.int .u8 0))
theorem zTK_size : zTK.size = 258 := by rfl
theorem infoTK : (Tryd.prog.info? 85).map (fun i => (i.zero, i.size)) = some (some (.agg zTK), 258) := by kernel_rfl
theorem sizeTK : (Tryd.prog.info? 85).map (·.size) = some 258 := (zero_of_info infoTK).2
theorem zeroTK : (Tryd.prog.info? 85).bind (·.zero) = some (.agg zTK) := by kernel_rfl
theorem zTK_eq : zTK = tokA (.one 0) := by
  unfold zTK tokA tokC bitsC
  have : (List.range 256).map (fun j => Value.int .u8 (if bitsT (.one 0) j = true then 1 else 0)) = List.replicate 256 (.int .u8 0) := by
    have h : (fun j => Value.int .u8 (if bitsT (.one 0) j = true then 1 else 0)) = fun _ => Value.int .u8 0 := rfl
    rw [h, List.map_const', List.length_range]
  rw [this]; rfl
theorem r_alTK {w : World} : (alOp 85).run Tryd.prog w = .ok (.pointer (some ⟨w.heap.size, 0, none⟩)) (w.alloc (.cells zTK 85)) := alOp_run zeroTK

theorem r_stTK {w : World} {b : Nat} {old cs : Array Value} {T : TypeId} (hb : w.heap.size = b) (ho : old.size = 258) (hs : cs.size = 258) (h1 : OneC cs) : (stoOp 85 (.pointer (some ⟨b, 0, none⟩)) (.agg cs)).run Tryd.prog (w.alloc (.cells old T)) = .ok () (w.alloc (.cells cs T)) :=
  stOp_new hb (by rw [hs]; exact sizeTK) (by rw [ho, hs]) h1
theorem r_ldTK {w : World} {b : Nat} {cs : Array Value} {T : TypeId} (hb : w.heap.size = b) (hs : cs.size = 258) : (ldOp 85 (.pointer (some ⟨b, 0, none⟩))).run Tryd.prog (w.alloc (.cells cs T)) = .ok (.agg cs) (w.alloc (.cells cs T)) :=
  ldOp_new hb Tryd.underlying85 rfl (by rw [hs]; exact sizeTK)
theorem r_bsTK {w : World} {cs : Array Value} (hs : cs.size = 258) : (bsOp 50 1 #[(0, .agg cs)]).run Tryd.prog w = .ok (.slice (some ⟨w.heap.size, 0, none⟩) 1 1) (w.alloc (.cells cs 85)) :=
  bsOp_one Tryd.underlying50 infoTK (by decide) (by decide) (by exact zTK_size) hs
def takesR (sh : Bool) (K : Int) (e bit s47 : Bool) : Bool := if sh && s47 then K == 0 && e else if K = 0 then e else if K = 3 then bit else K == 2 || K == 1
set_option maxHeartbeats 4000000 in
theorem takes_raw (sh : Bool) (tx : ByteArray) (a : Option Addr) (n c : Nat) (cs : Array Value) (K : Int) (C : UInt8) (bit : Bool) (d : UInt8) (w : World)
    (hK : K = 0 ∨ K = 1 ∨ K = 2 ∨ K = 3 ∨ K = 4) (h0 : cs[0]? = some (.int .i64 K)) (h1 : cs[1]? = some (.int .u8 (C.toNat : Int))) (h2 : cs[2 + d.toNat]? = some (.int .u8 (if bit then 1 else 0))) :
    Calls Tryd.prog 64 #[.agg #[.string (styV sh), .string tx, .slice a n c], .agg cs, .int .u8 (d.toNat : Int)] w fun e w' => e = .returned (.bool (takesR sh K (C == d) bit (d == 47))) ∧ Below w.heap.size w w' := by
  have hd : d.toNat < 256 := d.toNat_lt
  have hb : ∀ v : Array Value, Below w.heap.size w ((w.alloc (.cells v 52)).alloc (.cells cs 85)) := fun v => ((Below.refl _ _).alloc (Nat.le_refl _) _).alloc (by simp) _
  have d0 : (0 : Int) ≤ (d.toNat : Int) := by omega
  have d1 : (d.toNat : Int) < 256 := by omega
  have t1 : ((C.toNat : Int) == (d.toNat : Int)) = (C == d) := by
    rw [Bool.eq_iff_iff, beq_iff_eq, beq_iff_eq]
    exact ⟨fun h => UInt8.toNat_inj.1 (by omega), fun h => by rw [h]⟩
  have t2 : ((d.toNat : Int) == 47) = (d == 47) := by
    rw [Bool.eq_iff_iff, beq_iff_eq, beq_iff_eq]
    exact ⟨fun h => UInt8.toNat_inj.1 (by have h47 : (47 : UInt8).toNat = 47 := rfl; omega), fun h => by rw [h]; rfl⟩
  generalize (C == d) = e at *
  generalize (d == 47) = q at *
  rcases hK with rfl | rfl | rfl | rfl | rfl
  all_goals
    cases sh
    · cases bit
      all_goals
        go_enter Tryd.func64, Tryd.ntmps64
        unfold styV
        go_wp2
        go_ret
        exact ⟨rfl, hb _⟩
    · cases q
      all_goals
        cases bit
        all_goals
          go_enter Tryd.func64, Tryd.ntmps64
          unfold styV
          go_wp2
          go_ret
          exact ⟨rfl, hb _⟩
theorem takes_any (sh : Bool) (tx : ByteArray) (a : Option Addr) (n c : Nat) (t : Tok) (d : UInt8) (w : World) :
    Calls Tryd.prog 64 #[.agg #[.string (styV sh), .string tx, .slice a n c], .agg (tokA t), .int .u8 (d.toNat : Int)] w fun e w' => e = .returned (.bool (takesF sh t d)) ∧ Below w.heap.size w w' := by
  have h := takes_raw sh tx a n c (tokA t) (kindT t) (chrT t) (bitsT t d.toNat) d w (by cases t <;> simp [kindT]) (tokA_0 t) (tokA_1 t) (tokA_b t d.toNat_lt)
  have e : takesR sh (kindT t) (chrT t == d) (bitsT t d.toNat) (d == 47) = takesF sh t d := by
    unfold takesR takesF
    cases sh
    · cases t <;> rfl
    · by_cases hd : d = 47
      · subst hd
        cases t <;> first | rfl | simp [kindT, chrT]
      · have hd2 : (d == 47) = false := by simpa using hd
        rw [hd2, if_neg (show ¬ (true && false) = true by decide), if_neg (fun h : true = true ∧ d = 47 => hd h.2)]
        cases t <;> rfl
  rw [e] at h
  exact h
end Go.Proofs.YtcanlgcifnjfaaaDoor
