/- Layer 05: which bytes a value has (plain). -/
import Derived.Test.YtakliplkabgmbaaV7
set_option maxRecDepth 20000
namespace Go.Proofs.Ytakliplkabgmbaa
open Go.RowKit Go.Hd

/-- The writer's state behind a value (fuel: its depth). -/
def encO : Nat → Option (List UInt8) → PV → Option (List UInt8)
  | 0, o, _ => o
  | d + 1, o, .mk k n b t ks l =>
    if k = 0 then putO o [0xc0] else if k = 1 then putO o [0xc2] else if k = 2 then putO o [0xc3] else if k = 3 then putO o (intB n) else
    if k = 4 then blobO o b else if k = 5 then textO o t else if k = 6 then l.foldl (encO d) (manyO 0x90 0xdc o l.length) else
    (ks.zip l).foldl (fun o x => encO d (textO o x.1) x.2) (manyO 0x80 0xde o l.length)
theorem blobO_none (m : List UInt8) : blobO none m = none := by
  unfold blobO; repeat' split
  all_goals rfl
theorem textO_none (m : List UInt8) : textO none m = none := by
  unfold textO; repeat' split
  all_goals rfl
theorem manyO_none (a b : UInt8) (n : Nat) : manyO a b none n = none := by
  unfold manyO; repeat' split
  all_goals rfl
theorem foldl_none {α : Type} (f : Option (List UInt8) → α → Option (List UInt8)) (hf : ∀ x, f none x = none) : ∀ l : List α, l.foldl f none = none
  | [] => rfl
  | x :: l => by rw [List.foldl_cons, hf]; exact foldl_none f hf l
/-- Who gave up lays nothing more. -/
theorem encO_none : ∀ (d : Nat) (v : PV), encO d none v = none
  | 0, _ => rfl
  | d + 1, .mk k n b t ks l => by
    unfold encO
    rw [blobO_none, textO_none, manyO_none, manyO_none, foldl_none _ (encO_none d), foldl_none _ (fun x => by rw [textO_none]; exact encO_none d x.2)]
    repeat' split
    all_goals rfl
/-- A value's bytes, or why it has none. -/
def encF (v : PV) : List UInt8 × Int := if canF 16 v = false then ([], 4) else match encO 16 (some []) v with | none => ([], 5) | some l => (l, 0)
theorem encF_num {n : Int} : encF (.mk 3 n [] [] [] []) = (intB n, 0) := by
  have h1 := intB_len n
  have e : encO 16 (some []) (.mk 3 n [] [] [] []) = some (intB n) := by
    show putO (some []) (intB n) = _
    unfold putO
    simp only [Option.bind_some, List.length_nil, List.nil_append]
    rw [if_neg (by omega)]
  have c : canF 16 (.mk 3 n [] [] [] []) = true := rfl
  unfold encF
  rw [c, e]
  rfl
end Go.Proofs.Ytakliplkabgmbaa
