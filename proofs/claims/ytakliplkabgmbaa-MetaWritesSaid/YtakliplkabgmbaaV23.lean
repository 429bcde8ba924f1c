/- Layer 05: lives, PackWrites. -/
import Derived.Test.YtakliplkabgmbaaV22
import Derived.Test.YtakliplkabgmbaaV20
set_option maxRecDepth 20000
namespace Go.Proofs.Ytakliplkabgmbaa
open Go.RowKit Go.Hd Go.ChangeShapes Go.WideShapes Go.ChangeAt
attribute [local go_sem ↓] h_ldV h_stV h_alV
attribute [local go_sem] r_ldV r_stV r_alV

/-- A number, as six cells. -/
def numC (n : Int) : List Value := [.int .i64 3, .int .i64 n, .slice none 0 0, strV [], .slice none 0 0, .slice none 0 0]
theorem of_any (n : Int) (w : World) : Calls Try.prog 54 #[.int .i64 n] w fun e w' => e = .returned (.agg (List.toArray (numC n))) ∧ Below w.heap.size w w' := by
  have zs := zV_size
  have hO6 := oneC6
  have B3 : Blk (w.alloc (.cells (List.toArray (numC n)) 63)) w.heap.size 63 (numC n) := Blk.new _ _ _
  have hb : Below w.heap.size w (w.alloc (.cells (List.toArray (numC n)) 63)) := (Below.refl _ _).alloc (Nat.le_refl _) _
  go_enter Try.func54, Try.ntmps54
  go_wp2
  refine bodyPost_ret (results_cell_row (fn := Try.f54) (by rfl) _ _ w.heap.size 63 _ (0, 0) _ (by rfl) B3 Try.underlying63 rfl sizeV) rfl ⟨rfl, hb⟩
theorem encF_five : encF (.mk 3 5 [] [] [] []) = ([5], 0) := by rw [encF_num]; rfl
end Go.Proofs.Ytakliplkabgmbaa
