/- Joined: what one statement of this layer stands on, part 16 of 17; nothing is assumed. -/
import Derived.Test.YtpchogicdnfggaaDoorKX15
set_option maxRecDepth 20000
namespace Go.Proofs.YtpchogicdnfggaaDoor
open Go.RowKit Go.Hd Go.ChangeShapes Go.WideShapes Go.ChangeAt
attribute [local go_sem ↓] h_ldV h_stV h_alV h_ldIT h_stIT h_alIT
attribute [local go_sem] r_ldV r_stV r_alV r_ldIT r_stIT r_alIT
set_option maxHeartbeats 8000000 in
set_option pp.deepTerms true in
theorem istrange_law {cs0 ys0 : List Value} {x0 : Itm} {y0 : PV} {key0 : List UInt8} {nn : Int} {W : World} (hx : ItAt W cs0 x0) (hy : VAt W ys0 y0) (hkey : key0.length ≤ maxLen) (hnn : in64 nn) :
    Calls Tryd.prog 6 #[.agg (List.toArray cs0), .string (str key0), .agg (List.toArray ys0), .int .i64 nn] W fun e W' => e = .returned (.bool true) ∧ Below W.heap.size W W' := by
  have zs := zV_size
  have zi := zIT_size
  have c7 := hx.len
  have y6 := hy.len
  have hb0 : Below W.heap.size W ((W.alloc (.cells (List.toArray cs0) 24)).alloc (.cells (List.toArray ys0) 30)) := ((Below.refl _ _).alloc (Nat.le_refl _) _).alloc (by simp) _
  have hB0 : Blk ((W.alloc (.cells (List.toArray cs0) 24)).alloc (.cells (List.toArray ys0) 30)) W.heap.size 24 cs0 := by simpa using (Blk.new W 24 (List.toArray cs0)).alloc (.cells (List.toArray ys0) 30)
  have hC0 : Blk ((W.alloc (.cells (List.toArray cs0) 24)).alloc (.cells (List.toArray ys0) 30)) (W.heap.size + 1) 30 ys0 := by
    have := Blk.new (W.alloc (.cells (List.toArray cs0) 24)) 30 (List.toArray ys0)
    simpa using this
  have hlv := fun w' => lives21_any w'
  go_enter Tryd.func6, Tryd.ntmps6
  go_upto_region 1 with (fail)
  have hW0s : ((W.alloc (.cells (List.toArray cs0) 24)).alloc (.cells (List.toArray ys0) 30)).heap.size = W.heap.size + 2 := by simp
  generalize (W.alloc (.cells (List.toArray cs0) 24)).alloc (.cells (List.toArray ys0) 30) = W0 at *
  have hbD : Below W.heap.size W (W0.drewN 1) := Below.drewN hb0 1
  generalize undef = o
  --REGION1
  have hSm : ∀ (L : Array Bool) (w1 w2 : World), ((L.getD 6 false = false → Blk w1 W.heap.size 24 cs0) ∧ (L.getD 7 false = false → Blk w1 (W.heap.size + 1) 30 ys0)) → Mo w1 w2 → ((L.getD 6 false = false → Blk w2 W.heap.size 24 cs0) ∧ (L.getD 7 false = false → Blk w2 (W.heap.size + 1) 30 ys0)) := fun _ w1 w2 h hm => ⟨fun e => (h.1 e).below hm, fun e => (h.2 e).below hm⟩
  have hSi : ∀ i, i ≠ 6 → i ≠ 7 → ∀ (L : Array Bool) (w1 : World), (((L.setIfInBounds i true).getD 6 false = false → Blk w1 W.heap.size 24 cs0) ∧ ((L.setIfInBounds i true).getD 7 false = false → Blk w1 (W.heap.size + 1) 30 ys0)) ↔ ((L.getD 6 false = false → Blk w1 W.heap.size 24 cs0) ∧ (L.getD 7 false = false → Blk w1 (W.heap.size + 1) 30 ys0)) := fun i h6 h7 L w1 => by
    rw [getD_set_ne false h6, getD_set_ne false h7]
  have hS0 : ∀ L : Array Bool, ((L.getD 6 false = false → Blk (W0.drewN 1) W.heap.size 24 cs0) ∧ (L.getD 7 false = false → Blk (W0.drewN 1) (W.heap.size + 1) 30 ys0)) := fun L => ⟨fun _ => hB0.drewN 1, fun _ => hC0.drewN 1⟩
  refine wp_region_upN (S := fun L w1 => (L.getD 6 false = false → Blk w1 W.heap.size 24 cs0) ∧ (L.getD 7 false = false → Blk w1 (W.heap.size + 1) 30 ys0)) 9 rfl (by kernel_rfl) ?_
  refine wpAnyU_takeK (i := 0) 6 (A := fun w1 => Blk w1 W.heap.size 24 cs0) (v := .agg (List.toArray cs0)) (a' := ⟨#[.agg (List.toArray cs0),.string (str key0),.agg (List.toArray ys0),.int .i64 nn,.pointer (some ⟨W.heap.size, 0, none⟩),o,.pointer (some ⟨W.heap.size + 1, 0, none⟩),o,.bool false,o,o,o,o,o,o,o,o,o,o,o,o,.agg (List.toArray cs0),o,o,o,o,o,o,o,o,o,o,o,o,o,o,o,o,o,o,o,o,o,o,o,o,o,o,o,o,o,o,o,o,o,o,o,o,o,o,o,o,o,o,o,o,o,o,o,o,o,o,o,o,o,o,o,o,o,o,o,o,o,o,o,o,o,o,o,o,o,o,o,o,o,o,o,o,o,o,o,o,o,o,o,o,o,o,o,o,o,o,o,o,o,o,o,o,o,o,o,o,o,o,o,o,o,o,o,o,o,o,o,o,o,o,o,o,o,o,o,o,o,o,o,o,o,o,o,o,o,o,o,o,o,o,o,o,o,o,o,o,o,o,o,o,o,o,o,o,o,o,o,o,o,o,o,o],[]⟩) hSm (hSi 0 (by decide) (by decide)) (fun _ _ h h2 => h.1 h2) rfl rfl (by kernel_rfl) (by kernel_rfl) (by kernel_rfl) (by kernel_rfl) (by kernel_rfl) (fun _ _ _ h => h) (hS0 _) (Tame.val rfl (fun w' hA => run_ldOp (ldOp_all hA Tryd.underlying24 rfl (by rw [c7]; exact sizeIT)))) rfl ?_
  refine wpAnyU_takeK (i := 2) 7 (A := fun w1 => Blk w1 (W.heap.size + 1) 30 ys0) (v := .agg (List.toArray ys0)) (a' := ⟨#[.agg (List.toArray cs0),.string (str key0),.agg (List.toArray ys0),.int .i64 nn,.pointer (some ⟨W.heap.size, 0, none⟩),o,.pointer (some ⟨W.heap.size + 1, 0, none⟩),o,.bool false,o,o,o,o,o,o,o,o,o,o,o,o,.agg (List.toArray cs0),o,.agg (List.toArray ys0),o,o,o,o,o,o,o,o,o,o,o,o,o,o,o,o,o,o,o,o,o,o,o,o,o,o,o,o,o,o,o,o,o,o,o,o,o,o,o,o,o,o,o,o,o,o,o,o,o,o,o,o,o,o,o,o,o,o,o,o,o,o,o,o,o,o,o,o,o,o,o,o,o,o,o,o,o,o,o,o,o,o,o,o,o,o,o,o,o,o,o,o,o,o,o,o,o,o,o,o,o,o,o,o,o,o,o,o,o,o,o,o,o,o,o,o,o,o,o,o,o,o,o,o,o,o,o,o,o,o,o,o,o,o,o,o,o,o,o,o,o,o,o,o,o,o,o,o,o,o,o,o,o,o],[]⟩) hSm (hSi 2 (by decide) (by decide)) (fun _ _ h h2 => h.2 h2) rfl rfl (by kernel_rfl) (by kernel_rfl) (by kernel_rfl) (by kernel_rfl) (by kernel_rfl) (fun _ _ _ h => h) (hS0 _) (Tame.val rfl (fun w' hA => run_ldOp (ldOp_all hA Tryd.underlying30 rfl (by rw [y6]; exact sizeV)))) rfl ?_
  refine wpAnyU_take (i := 4) (A := fun _ => True) (v := .string (str key0)) (a' := ⟨#[.agg (List.toArray cs0),.string (str key0),.agg (List.toArray ys0),.int .i64 nn,.pointer (some ⟨W.heap.size, 0, none⟩),o,.pointer (some ⟨W.heap.size + 1, 0, none⟩),o,.bool false,o,o,o,o,o,o,o,o,o,o,o,o,.agg (List.toArray cs0),o,.agg (List.toArray ys0),o,.string (str key0),o,o,o,o,o,o,o,o,o,o,o,o,o,o,o,o,o,o,o,o,o,o,o,o,o,o,o,o,o,o,o,o,o,o,o,o,o,o,o,o,o,o,o,o,o,o,o,o,o,o,o,o,o,o,o,o,o,o,o,o,o,o,o,o,o,o,o,o,o,o,o,o,o,o,o,o,o,o,o,o,o,o,o,o,o,o,o,o,o,o,o,o,o,o,o,o,o,o,o,o,o,o,o,o,o,o,o,o,o,o,o,o,o,o,o,o,o,o,o,o,o,o,o,o,o,o,o,o,o,o,o,o,o,o,o,o,o,o,o,o,o,o,o,o,o,o,o,o,o,o,o,o],[]⟩) hSm (hSi 4 (by decide) (by decide)) (fun _ _ _ => trivial) rfl (by kernel_rfl) (by kernel_rfl) (by kernel_rfl) (fun _ _ _ h => h) (hS0 _) (Tame.val rfl (fun w' hA => by go_simp)) rfl ?_
  refine wpAnyU_all (rs := [1]) (by kernel_rfl) (by decide) ?_
  intro w1 hm1 i hi
  obtain rfl : i = 1 := by simpa using hi
  have hb1 := hbD.trans (hm1.mono hbD.size)
  refine wpOp_enter (f := 9) (args := #[.agg (List.toArray cs0)]) rfl rfl (by go_simp) ((rcut_any (hx.below hb1)).mono ?_)
  rintro e w2 ⟨ds, rfl, hD, hb2⟩
  have hm12 := Mo.trans hm1 hb2
  have hbW2 := hb1.trans (hb2.mono hb1.size)
  refine ⟨_, rfl, ?_⟩
  show _ ∧ wpAnyU _ _ _ _ _ _ _ (⟨#[.agg (List.toArray cs0),.string (str key0),.agg (List.toArray ys0),.int .i64 nn,.pointer (some ⟨W.heap.size, 0, none⟩),o,.pointer (some ⟨W.heap.size + 1, 0, none⟩),o,.bool false,o,o,o,o,o,o,o,o,o,o,o,o,.agg (List.toArray cs0),.agg (List.toArray ds),.agg (List.toArray ys0),o,.string (str key0),o,o,o,o,o,o,o,o,o,o,o,o,o,o,o,o,o,o,o,o,o,o,o,o,o,o,o,o,o,o,o,o,o,o,o,o,o,o,o,o,o,o,o,o,o,o,o,o,o,o,o,o,o,o,o,o,o,o,o,o,o,o,o,o,o,o,o,o,o,o,o,o,o,o,o,o,o,o,o,o,o,o,o,o,o,o,o,o,o,o,o,o,o,o,o,o,o,o,o,o,o,o,o,o,o,o,o,o,o,o,o,o,o,o,o,o,o,o,o,o,o,o,o,o,o,o,o,o,o,o,o,o,o,o,o,o,o,o,o,o,o,o,o,o,o,o,o,o,o,o,o,o],[]⟩ : Act) _
  refine ⟨hSm _ _ _ (hS0 _) hm12, ?_⟩
  refine wpAnyU_all (rs := [3]) (by kernel_rfl) (by decide) ?_
  intro w3 hm3 i hi
  obtain rfl : i = 3 := by simpa using hi
  have hm13 := Mo.trans hm12 hm3
  have hbW3 := hbW2.trans (hm3.mono hbW2.size)
  refine wpOp_enter (f := 21) (args := #[.agg (List.toArray ys0)]) rfl rfl (by go_simp) ((small_any (w0 := W) hy hbW3).mono ?_)
  rintro e w4 ⟨ys, rfl, hY, hb4⟩
  have hm14 := Mo.trans hm13 hb4
  have hbW4 := hbW3.trans (hb4.mono hbW3.size)
  refine ⟨_, rfl, ?_⟩
  show _ ∧ wpAnyU _ _ _ _ _ _ _ (⟨#[.agg (List.toArray cs0),.string (str key0),.agg (List.toArray ys0),.int .i64 nn,.pointer (some ⟨W.heap.size, 0, none⟩),o,.pointer (some ⟨W.heap.size + 1, 0, none⟩),o,.bool false,o,o,o,o,o,o,o,o,o,o,o,o,.agg (List.toArray cs0),.agg (List.toArray ds),.agg (List.toArray ys0),.agg (List.toArray ys),.string (str key0),o,o,o,o,o,o,o,o,o,o,o,o,o,o,o,o,o,o,o,o,o,o,o,o,o,o,o,o,o,o,o,o,o,o,o,o,o,o,o,o,o,o,o,o,o,o,o,o,o,o,o,o,o,o,o,o,o,o,o,o,o,o,o,o,o,o,o,o,o,o,o,o,o,o,o,o,o,o,o,o,o,o,o,o,o,o,o,o,o,o,o,o,o,o,o,o,o,o,o,o,o,o,o,o,o,o,o,o,o,o,o,o,o,o,o,o,o,o,o,o,o,o,o,o,o,o,o,o,o,o,o,o,o,o,o,o,o,o,o,o,o,o,o,o,o,o,o,o,o,o,o,o],[]⟩ : Act) _
  refine ⟨hSm _ _ _ (hS0 _) hm14, ?_⟩
  refine wpAnyU_take (i := 5) (A := fun _ => True) (v := .string (str (key0.take 20))) (a' := ⟨#[.agg (List.toArray cs0),.string (str key0),.agg (List.toArray ys0),.int .i64 nn,.pointer (some ⟨W.heap.size, 0, none⟩),o,.pointer (some ⟨W.heap.size + 1, 0, none⟩),o,.bool false,o,o,o,o,o,o,o,o,o,o,o,o,.agg (List.toArray cs0),.agg (List.toArray ds),.agg (List.toArray ys0),.agg (List.toArray ys),.string (str key0),.string (str (key0.take 20)),o,o,o,o,o,o,o,o,o,o,o,o,o,o,o,o,o,o,o,o,o,o,o,o,o,o,o,o,o,o,o,o,o,o,o,o,o,o,o,o,o,o,o,o,o,o,o,o,o,o,o,o,o,o,o,o,o,o,o,o,o,o,o,o,o,o,o,o,o,o,o,o,o,o,o,o,o,o,o,o,o,o,o,o,o,o,o,o,o,o,o,o,o,o,o,o,o,o,o,o,o,o,o,o,o,o,o,o,o,o,o,o,o,o,o,o,o,o,o,o,o,o,o,o,o,o,o,o,o,o,o,o,o,o,o,o,o,o,o,o,o,o,o,o,o,o,o,o,o,o,o],[]⟩) hSm (hSi 5 (by decide) (by decide)) (fun _ _ _ => trivial) rfl (by kernel_rfl) (by kernel_rfl) (by kernel_rfl) (fun _ _ _ h => h) (hSm _ _ _ (hS0 _) hm14) (Tame.enter rfl (fun w' => by go_simp) (fun w' _ => (short_any key0 20 w' (by decide)).mono (fun e w2 h => ⟨h.1, by rw [← h.2]; exact Mo.refl _⟩))) rfl ?_
  refine wpAnyU_all (rs := [6]) (by kernel_rfl) (by decide) ?_
  intro w5 hm5 i hi
  obtain rfl : i = 6 := by simpa using hi
  have hm15 := Mo.trans hm14 hm5
  have hB5 := (hB0.drewN 1).below hm15
  have hC5 := (hC0.drewN 1).below hm15
  have d7 := hD.at.len
  have d7' : (List.toArray ds).size = 7 := by simpa using d7
  have hst := st_rowI hB5 c7 (List.toArray ds) d7' (all_oneCell_toArray hD.at.one)
  have hB6 := setRow_blk hB5 ds
  have hgr6 := setRow_gr w5 W.heap.size (List.toArray ds)
  have hC6 := hC5.grown hgr6 (by omega)
  have hbW5 := hbW4.trans (hm5.mono hbW4.size)
  have hbW6 := Below.grown hbW5 hgr6 hbW5.size (fun k hk => by cases hk; exact Nat.le_refl _)
  refine wpOp_skip (w' := w5.setRow W.heap.size (List.toArray ds)) (a' := ⟨#[.agg (List.toArray cs0),.string (str key0),.agg (List.toArray ys0),.int .i64 nn,.pointer (some ⟨W.heap.size, 0, none⟩),o,.pointer (some ⟨W.heap.size + 1, 0, none⟩),o,.bool false,o,o,o,o,o,o,o,o,o,o,o,o,.agg (List.toArray cs0),.agg (List.toArray ds),.agg (List.toArray ys0),.agg (List.toArray ys),.string (str key0),.string (str (key0.take 20)),o,o,o,o,o,o,o,o,o,o,o,o,o,o,o,o,o,o,o,o,o,o,o,o,o,o,o,o,o,o,o,o,o,o,o,o,o,o,o,o,o,o,o,o,o,o,o,o,o,o,o,o,o,o,o,o,o,o,o,o,o,o,o,o,o,o,o,o,o,o,o,o,o,o,o,o,o,o,o,o,o,o,o,o,o,o,o,o,o,o,o,o,o,o,o,o,o,o,o,o,o,o,o,o,o,o,o,o,o,o,o,o,o,o,o,o,o,o,o,o,o,o,o,o,o,o,o,o,o,o,o,o,o,o,o,o,o,o,o,o,o,o,o,o,o,o,o,o,o,o,o],[]⟩) rfl rfl (run_stoOp hst) rfl ?_
  refine ⟨⟨fun e => absurd e (by decide), fun _ => hC6⟩, ?_⟩
  refine wpAnyU_all (rs := [7]) (by kernel_rfl) (by decide) ?_
  intro w7 hm7 i hi
  obtain rfl : i = 7 := by simpa using hi
  have hC7 := hC6.below hm7
  have hB7 := hB6.below hm7
  have hbW7 := hbW6.trans (hm7.mono hbW6.size)
  have v6 := hY.len
  have hst2 := st_row hC7 y6 (List.toArray ys) (by simpa using v6) (all_oneCell_toArray hY.one)
  have hC8 := setRow_blk hC7 ys
  have hgr8 := setRow_gr w7 (W.heap.size + 1) (List.toArray ys)
  have hB8 := hB7.grown hgr8 (by omega)
  have hbW8 := Below.grown hbW7 hgr8 hbW7.size (fun k hk => by cases hk; omega)
  refine wpOp_skip (w' := w7.setRow (W.heap.size + 1) (List.toArray ys)) (a' := ⟨#[.agg (List.toArray cs0),.string (str key0),.agg (List.toArray ys0),.int .i64 nn,.pointer (some ⟨W.heap.size, 0, none⟩),o,.pointer (some ⟨W.heap.size + 1, 0, none⟩),o,.bool false,o,o,o,o,o,o,o,o,o,o,o,o,.agg (List.toArray cs0),.agg (List.toArray ds),.agg (List.toArray ys0),.agg (List.toArray ys),.string (str key0),.string (str (key0.take 20)),o,o,o,o,o,o,o,o,o,o,o,o,o,o,o,o,o,o,o,o,o,o,o,o,o,o,o,o,o,o,o,o,o,o,o,o,o,o,o,o,o,o,o,o,o,o,o,o,o,o,o,o,o,o,o,o,o,o,o,o,o,o,o,o,o,o,o,o,o,o,o,o,o,o,o,o,o,o,o,o,o,o,o,o,o,o,o,o,o,o,o,o,o,o,o,o,o,o,o,o,o,o,o,o,o,o,o,o,o,o,o,o,o,o,o,o,o,o,o,o,o,o,o,o,o,o,o,o,o,o,o,o,o,o,o,o,o,o,o,o,o,o,o,o,o,o,o,o,o,o,o],[]⟩) rfl rfl (run_stoOp hst2) rfl ?_
  refine ⟨⟨fun e => absurd e (by decide), fun e => absurd e (by decide)⟩, ?_⟩
  refine wpAnyU_take (i := 8) (A := fun _ => True) (v := .string (str (key0.take 20))) (a' := ⟨#[.agg (List.toArray cs0),.string (str (key0.take 20)),.agg (List.toArray ys0),.int .i64 nn,.pointer (some ⟨W.heap.size, 0, none⟩),o,.pointer (some ⟨W.heap.size + 1, 0, none⟩),o,.bool false,o,o,o,o,o,o,o,o,o,o,o,o,.agg (List.toArray cs0),.agg (List.toArray ds),.agg (List.toArray ys0),.agg (List.toArray ys),.string (str key0),.string (str (key0.take 20)),o,o,o,o,o,o,o,o,o,o,o,o,o,o,o,o,o,o,o,o,o,o,o,o,o,o,o,o,o,o,o,o,o,o,o,o,o,o,o,o,o,o,o,o,o,o,o,o,o,o,o,o,o,o,o,o,o,o,o,o,o,o,o,o,o,o,o,o,o,o,o,o,o,o,o,o,o,o,o,o,o,o,o,o,o,o,o,o,o,o,o,o,o,o,o,o,o,o,o,o,o,o,o,o,o,o,o,o,o,o,o,o,o,o,o,o,o,o,o,o,o,o,o,o,o,o,o,o,o,o,o,o,o,o,o,o,o,o,o,o,o,o,o,o,o,o,o,o,o,o,o],[]⟩) hSm (hSi 8 (by decide) (by decide)) (fun _ _ _ => trivial) rfl (by kernel_rfl) (by kernel_rfl) (by kernel_rfl) (fun _ _ _ h => h) ⟨fun e => absurd e (by decide), fun e => absurd e (by decide)⟩ (Tame.val rfl (fun w' hA => by go_simp)) rfl ?_
  refine wpAnyU_done (by kernel_rfl) ?_ _
  intro W9 hm9
  --END1
  have hbW9 := hbW8.trans (hm9.mono hbW8.size)
  have hB9 := hB8.below hm9
  have hC9 := hC8.below hm9
  have hws : W.heap.size + 2 ≤ w1.heap.size := by have := hm1.size; simp at this; omega
  have hws3 : w1.heap.size ≤ w3.heap.size := Nat.le_trans hb2.size hm3.size
  have hD9 := (((((((hD.below hm3).below hb4).below hm5).kept hgr6 (fun b hb e => by simp at e; omega)).below hm7).kept hgr8 (fun b hb e => by simp at e; omega)).below hm9).at
  have hY9 := (((((hY.grow hm5).same (w' := w5.setRow W.heap.size (List.toArray ds)) (fun b hb hlt => hgr6.block b hlt (by simp; omega))).grow hm7).same (w' := w7.setRow (W.heap.size + 1) (List.toArray ys)) (fun b hb hlt => hgr8.block b hlt (by simp; omega))).grow hm9).at
  clear hSm hSi hS0 hb1 hm1 hm12 hbW2 hm3 hm13 hbW3 hm14 hbW4 hm5 hm15 hB5 hC5 hst hB6 hgr6 hC6 hbW5 hbW6 hm7 hC7 hB7 hbW7 hst2 hC8 hgr8 hB8 hbW8 hm9 hD hY hws hws3 hb2 hb4 hb0 hB0 hC0 hbD hW0s
  have hXs := few_smallX x0
  have hXi : ∀ p ∈ (cutI x0).parts, p.id.length = 32 := by
    obtain ⟨_, _, _, _, _, _, hok⟩ := hD9
    exact fun p hp => (hok.parts p hp).id
  have hYs := Lib.hid (small_sm y0)
  have hkk : Hid ((key0.take 20).length ≤ 20) := by show _ ≤ _; simp; omega
  generalize key0.take 20 = kk at *
  generalize smallF y0 = Y at *
  generalize cutI x0 = X at *
  clear hx hy
  have q0 := ldOp_all (P := Tryd.prog) (ty := 24) hB9 Tryd.underlying24 rfl (by rw [d7]; exact sizeIT)
  go_wp2_with fail
  refine (ivalue_at hD9 (by omega) (by omega)).mono ?_
  rintro e W10 ⟨cv, rfl, hV, hb10⟩
  have hV := hV.at
  have v6' : (List.toArray cv).size = 6 := by simpa using hV.len
  have vo : OneC (List.toArray cv) := all_oneCell_toArray hV.one
  have hbA : Below W10.heap.size W10 (W10.alloc (.cells (List.toArray cv) 30)) := (Below.refl _ _).alloc (Nat.le_refl _) _
  have hVB : Blk (W10.alloc (.cells (List.toArray cv) 30)) W10.heap.size 30 cv := Blk.new _ _ _
  have hb911 := Gr.trans hb10 hbA
  have hV11 := hV.keep hbA
  have hY11 := hY9.keep hb911
  have hC11 := hC9.below hb911
  have hbW11 := hbW9.trans (hb911.mono hbW9.size)
  clear hbA hb10 hV hb911 hY9 hC9 hbW9 q0 hB9 hD9
  go_upto_region 3 with (fail)
  have hs11 : (W10.alloc (.cells (List.toArray cv) 30)).heap.size = W10.heap.size + 1 := by simp
  generalize W10.alloc (.cells (List.toArray cv) 30) = W11 at *
  generalize W10.heap.size = gv at *
  by_cases hc : checkI X = 0
  case neg =>
    rw [itV_bad hc] at hV11
    obtain ⟨_, _, _, _, _, e0⟩ := vat_kind hV11
    have c0 : W11.cell? ⟨gv, 0, none⟩ = some (.int .i64 0) := hVB.cell (by rw [e0]; rfl)
    clear e0 hV11 hVB hc
    go_wp2_with fail
    refine (hlv _).mono ?_
    rintro e w5 ⟨rfl, hb5⟩
    go_wp2
    go_ret
    exact ⟨rfl, hbW11.trans (hb5.mono hbW11.size)⟩
  case pos =>
  obtain ⟨ks, vs, hiv, hkl, hvl, hKk, hmem⟩ := itV_map hc
  have hSv : Hid (∀ v ∈ vs, Sm v) := by
    have := sm_itV (x := X) (by omega) (by omega) (by omega) hXi
    rw [hiv] at this
    exact this.parts.2.2.2
  rw [hiv] at hV11
  generalize hVV : PV.mk 7 0 [] [] ks vs = VV at *
  cases hV11 with
  | @mk k0 n0 b0 t0 ks0 vs0 ab ak al cb ck cl css hk hn hb hbc ht hks hkc hkt hl hlc hcs h6 sub =>
  obtain ⟨rfl, rfl, rfl, rfl, rfl, rfl⟩ := PV.mk.inj hVV
  have c0 : W11.cell? ⟨gv, 0, none⟩ = some (.int .i64 7) := hVB.cell rfl
  have c4 : W11.cell? ⟨gv, 4, none⟩ = some (.slice ak ks.length ck) := hVB.cell rfl
  have c5 : W11.cell? ⟨gv, 5, none⟩ = some (.slice al vs.length cl) := hVB.cell rfl
  have hN : 4 ≤ keysN X.kind ∧ keysN X.kind ≤ 6 := by unfold keysN; split <;> (try split) <;> omega
  have hvk : vs.length = ks.length := by omega
  rw [hvk] at c5 hlc hVB
  have t1 : ((ks.length : Int) != (ks.length : Int)) = false := by simp
  have t2 : ((ks.length : Int) == 0) = false := by rw [beq_eq_false_iff_ne]; omega
  have hw : IntKind.i64.wrap ((ks.length : Int) - 1) = (ks.length : Int) - 1 := IntWalk.i64_in _ (by omega)
  obtain ⟨m, hm, hmN⟩ : ∃ m : Nat, (if nn < 0 then 0 else if (ks.length : Int) - 1 < nn then (ks.length : Int) - 1 else nn) = (m : Int) ∧ m < ks.length := by
    by_cases h1 : nn < 0
    · exact ⟨0, by rw [if_pos h1]; rfl, by omega⟩
    · by_cases h2 : (ks.length : Int) - 1 < nn
      · exact ⟨ks.length - 1, by rw [if_neg h1, if_pos h2]; omega, by omega⟩
      · exact ⟨nn.toNat, by rw [if_neg h1, if_neg h2]; omega, by omega⟩
  have hwi := within_any nn 0 ((ks.length : Int) - 1) W11
  rw [hm] at hwi
  have HKL := Lib.hid (And.intro hkl hN)
  have HMN := Lib.hid hmN
  have hal : Hid (∀ W13, W13 = (((W11.alloc (.cells zV 30)).alloc (.cells zV 30)).setCell ⟨W11.heap.size, 0, none⟩ (.int .i64 7)).setCell ⟨W11.heap.size + 1, 0, none⟩ (.int .i64 7) → True) := fun _ _ => trivial
  have HVK := Lib.hid hvk
  clear hkl hN hm hmN hvl hvk hc hal hXs hXi
  go_wp2_with fail
  refine hwi.mono ?_
  rintro e w12 ⟨rfl, rfl⟩
  clear hwi hw t1 t2
  have hz7 : zV.setIfInBounds 0 (Value.int .i64 7) = List.toArray zM := rfl
  go_upto_region 10 with (fail)
  generalize (Value.agg (List.toArray cs0)) = B
  generalize (Value.agg (List.toArray ds)) = C
  generalize (Value.agg (List.toArray ys0)) = D
  generalize (Value.agg (List.toArray ys)) = E
  generalize (Value.string (str key0)) = F
  generalize (Value.agg #[Value.int .i64 7, Value.int .i64 0, Value.slice ab 0 cb, strV [], Value.slice ak ks.length ck, Value.slice al vs.length cl]) = G
  have hbA : Below W11.heap.size W11 ((W11.alloc (.cells (List.toArray zM) 30)).alloc (.cells (List.toArray zM) 30)) := ((Below.refl _ _).alloc (Nat.le_refl _) _).alloc (by simp) _
  have hQ1 : Blk ((W11.alloc (.cells (List.toArray zM) 30)).alloc (.cells (List.toArray zM) 30)) W11.heap.size 30 zM := by simpa using (Blk.new W11 30 (List.toArray zM)).alloc (.cells (List.toArray zM) 30)
  have hR1 : Blk ((W11.alloc (.cells (List.toArray zM) 30)).alloc (.cells (List.toArray zM) 30)) (W11.heap.size + 1) 30 zM := by
    have := Blk.new (W11.alloc (.cells (List.toArray zM) 30)) 30 (List.toArray zM)
    simpa using this
  generalize (W11.alloc (.cells (List.toArray zM) 30)).alloc (.cells (List.toArray zM) 30) = W13 at *
  have hI0 : Hid (SJ W11 W13 W11.heap.size (gv + 1) (gv + 1 + 1) X.kind ks kk m 0 0 false) := by
    rw [hs11] at hQ1 hR1
    refine ⟨_, _, _, _, _, _, _, _, ⟨MB.new hQ1 (by omega) hbA.size, MB.new hR1 (by omega) hbA.size, ?_⟩, ⟨rfl, rfl⟩, ⟨rfl, rfl⟩, Kk.nil _, fun _ => Kk.nil _, fun i hi => absurd hi (Nat.not_lt_zero _), (by intro v hv; cases hv), (by intro v hv; cases hv), hbA⟩
    have hno : (Value.slice none 0 0).ownBlock = none := rfl
    rintro x (hx | hx | hx) (h2 | h2 | h2)
    all_goals first | omega | (rw [hno] at hx; cases hx) | (rw [hno] at h2; cases h2)
  have HV := Lib.hid hVB
  have HC := Lib.hid hC11
  have HY := Lib.hid hY11
  have HKS := Lib.hid hks
  have HLS := Lib.hid hl
  have HSUB := Lib.hid sub
  have HCS := Lib.hid (And.intro hcs h6)
  have HKT := Lib.hid hkt
  have HBW := Lib.hid hbW11
  have HGV := Lib.hid hs11
  have HKk := Lib.hid hKk
  have HME := Lib.hid hmem
  clear hQ1 hR1 hbA hVB hC11 hY11 hks hl sub hcs h6 hkt hbW11 hKk hmem c0 c4 c5 hk hn hb hbc ht hkc hlc
  generalize hKK : X.kind = K at *
  clear hKK
  go_wp2
  --GEN
  generalize (Value.int .i64 ((ks.length : Int) - 1)) = J
  generalize (Value.int .i64 (ks.length : Int)) = O
  generalize (Value.pointer (some ⟨gv, 5, none⟩)) = U
  generalize (Value.pointer (some ⟨gv, 4, none⟩)) = Z
  generalize (Value.slice al ks.length cl) = q1
  generalize (Value.slice ak ks.length ck) = q2
  generalize (Value.pointer (some ⟨W.heap.size, 0, none⟩)) = q3
  --ENDGEN
  go_loopw [13, 14] (fun u i wr => ∃ (d : Bool) (j : Nat), j ≤ ks.length ∧ u = .bool d ∧ i = .int .i64 j ∧ Hid (SJ W11 wr W11.heap.size (gv + 1) (gv + 1 + 1) K ks kk m j j d)) (fun _ i _ => ks.length - (intOf i).toNat)
  case atStart => exact ⟨false, 0, Nat.zero_le _, rfl, rfl, hI0⟩
  case round =>
    clear hI0
    obtain ⟨d, j, hj, rfl, rfl, hI⟩ := hrel
    have hbel : Below W11.heap.size W11 wr := by
      obtain ⟨_, _, _, _, _, _, _, _, h⟩ := hI.out
      exact h.bel
    have c4 : wr.cell? ⟨gv, 4, none⟩ = some (.slice ak ks.length ck) := (HV.out.below hbel).cell rfl
    have j0 : (0 : Int) ≤ (j : Int) := by omega
    have jb : IntKind.i64.wrap ((j : Int) + 1) = (j : Int) + 1 := IntWalk.i64_in _ (by have := HKL.out; omega)
    by_cases hlt : j < ks.length
    case neg =>
      obtain rfl : j = ks.length := by omega
      have j1 : ¬ (ks.length : Int) < (ks.length : Int) := by omega
      have hn107 : Hid (kk ≠ [107]) := by
        intro e
        obtain ⟨kA, lA, kB, lB, KA, KB, VA, VB, h⟩ := hI.out
        obtain ⟨i, hi, e2⟩ := List.getElem_of_mem HME.out
        exact h.ne i hi (by rw [List.getElem?_eq_getElem hi, e2, e])
      go_upto_if 136 with (fail)
      go_cut [] (fun wx => SK W11 wx W11.heap.size (gv + 1) (gv + 1 + 1) K ks.length)
      case first =>
        cases d with
        | true =>
          have hF : Hid (SK W11 wr W11.heap.size (gv + 1) (gv + 1 + 1) K ks.length) := by
            obtain ⟨kA, lA, kB, lB, KA, KB, VA, VB, h⟩ := hI.out
            have h1 := h.la.2
            have h2 := h.lb.2
            rw [if_pos HMN.out] at h1
            rw [if_pos rfl] at h2
            exact ⟨kA, lA, kB, lB, KA, KB, VA, VB, h.tm, h.la.1, h1, h.lb.1, h2, h.ka, h.kb hn107.out, h.sa, h.sb, h.bel⟩
          clear hI
          go_wp2
          go_meet
          exact hF.out
        | false =>
          obtain ⟨kB, lB, kA, lA, KB, KA, VB, VA, hSI⟩ := hI.out
          have hT0 := hSI.tm.swap.below (Below.drewN (Below.refl wr.heap.size wr) 1)
          have hE0 := Below.drewN hbel 1
          have hxP := VAt.inP HY.out
          have cx6 : (List.toArray ys).size = 6 := by simpa using HY.out.len
          have hkl0 : kk.length ≤ maxLen := by have := hkk.out; unfold maxLen; omega
          have hVc : ∀ w', Below W11.heap.size W11 w' → (ldOp 30 (.pointer (some ⟨W.heap.size + 1, 0, none⟩))).run Tryd.prog w' = .ok (.agg (List.toArray ys)) w' := fun w' hb => ldOp_all (P := Tryd.prog) (ty := 30) (HC.out.below hb) Tryd.underlying30 rfl (by rw [v6]; exact sizeV)
          have hla := hSI.la.2
          have hlb := hSI.lb.2
          rw [if_pos HMN.out] at hla
          rw [if_neg (by simp)] at hlb
          have hnK : KA.length ≤ 1000 := by have := HKL.out; omega
          have hnV : VA.length ≤ 1000 := by have := hSI.lb.1; omega
          have hfin : ∀ (wx : World) (kA' lA' : Value), TM W11.heap.size (gv + 1 + 1) (gv + 1) wx kA' lA' kA' lA' (KA ++ [kk]) (VA ++ [Y]) kB lB kB lB KB VB → Below W11.heap.size W11 wx → SK W11 wx W11.heap.size (gv + 1) (gv + 1 + 1) K ks.length := fun wx kA' lA' hT hE =>
            ⟨kB, lB, kA', lA', KB, _, VB, _, hT.swap, hSI.la.1, hla, by simp [hSI.lb.1], by rw [List.length_append, List.length_singleton]; omega, hSI.ka, (hSI.kb hn107.out).snoc hSI.lb.1 (fun e => absurd e hn107.out), hSI.sa, (fun v hv => by
              rcases List.mem_append.1 hv with hv | hv
              · exact hSI.sb v hv
              · simp at hv; subst hv; exact hYs.out), hE⟩
          have hla' := Lib.hid hla
          have hlb' := Lib.hid hlb
          clear hI hSI hbel hla hlb c4
          go_upto_region 23 with (fail)
          --REGION23
          generalize u59 = q4, u60 = q5, u61 = q6, u62 = q8, u63 = q9, u64 = qa, u65 = qb, u66 = qc, u67 = qd, u68 = qe, u69 = qf, u70 = qg, u71 = qh, u72 = qi, u73 = qj, u74 = qk, u75 = ql, u76 = qm, u77 = qn, u78 = qp, u79 = qq, u80 = qr, u81 = qs, u82 = qt, u83 = qu, u84 = qv, u85 = qw, u86 = qx, u87 = qy, u88 = qz, u89 = r0, u90 = r1, u91 = r2, u92 = r3, u93 = r4, u94 = r5, u95 = r6, u96 = r7, u97 = r8, u98 = r9, u99 = ra, u100 = rb, u101 = rc, u102 = rd, u103 = re, u104 = rf, u105 = rg, u106 = rh, u107 = ri, u108 = rj, u109 = rk, u110 = rl, u111 = rm, u112 = rn, u113 = ro, u114 = rp, u115 = rq, u116 = rr, u117 = rt, u118 = ru, u119 = rv, u120 = rx, u121 = ry, u122 = rz, u123 = t5, u124 = t6, u125 = t7, u126 = t8, u127 = t9, u128 = ta, u129 = tb, u130 = tc, u131 = td, u132 = te, u133 = tf, u134 = tg
          have hSm : ∀ (L : Array Bool) (w1 w2 : World), SS36 W11 (gv + 1 + 1) kA lA 11 13 L w1 → Mo w1 w2 → SS36 W11 (gv + 1 + 1) kA lA 11 13 L w2 := fun _ w1 w2 h hm => ⟨fun e => (h.1 e).below hm, fun e => (h.2.1 e).below hm, h.2.2.trans (hm.mono h.2.2.size)⟩
          have hSi : ∀ i, (i != 11 && i != 13) = true → ∀ (L : Array Bool) (w1 : World), SS36 W11 (gv + 1 + 1) kA lA 11 13 (L.setIfInBounds i true) w1 ↔ SS36 W11 (gv + 1 + 1) kA lA 11 13 L w1 := fun i h L w1 => by have h := (Bool.and_eq_true _ _).mp h; unfold SS36; rw [getD_set_ne false (by simpa using h.1), getD_set_ne false (by simpa using h.2)]
          have hS0 := s36 hT0.a.c4 hT0.a.c5 hE0 11 13
          refine wp_region_upN (S := fun L w1 => SS36 W11 (gv + 1 + 1) kA lA 11 13 L w1) 14 rfl (by kernel_rfl) ?_
          refine tk0 0 (.pointer (some ⟨gv + 1 + 1, 4, none⟩)) (⟨#[B,.string (str kk),D,.int .i64 nn,q3,o,.pointer (some ⟨W.heap.size + 1, 0, none⟩),o,u8,.pointer (some ⟨gv, 0, none⟩),.int .i64 (m : Int),.pointer (some ⟨gv + 1, 0, none⟩),.pointer (some ⟨gv + 1 + 1, 0, none⟩),.bool false,.int .i64 (ks.length : Int),o,o,o,o,o,o,B,C,D,E,F,.string (str kk),C,G,.pointer (some ⟨gv, 0, none⟩),.int .i64 7,.bool false,o,U,q1,O,Z,q2,O,.bool false,.bool false,Z,q2,O,.bool false,.bool false,.int .i64 nn,Z,q2,O,J,.int .i64 (m : Int),.pointer (some ⟨gv + 1, 0, none⟩),.pointer (some ⟨gv + 1 + 1, 0, none⟩),.int .i64 (ks.length : Int),.pointer (some ⟨gv, 4, none⟩),.slice ak ks.length ck,.int .i64 (ks.length : Int),.bool false,q4,q5,q6,q8,q9,qa,qb,qc,qd,qe,qf,qg,qh,qi,qj,qk,ql,qm,qn,qp,qq,qr,qs,qt,qu,qv,qw,qx,qy,qz,r0,r1,r2,r3,r4,r5,r6,r7,r8,r9,ra,rb,rc,rd,re,rf,rg,rh,ri,rj,rk,rl,rm,rn,ro,rp,rq,rr,rt,ru,rv,rx,ry,rz,t5,t6,t7,t8,t9,ta,tb,tc,td,te,tf,tg,.bool false,.bool (!false),.pointer (some ⟨gv + 1 + 1, 4, none⟩),o,o,o,o,o,o,o,o,o,o,o,o,o,o,o,o,o,o,o,o,o,o,o,o,o,o,o,o,o,o,o,o,o,o,o,o,o,o,o,o],[]⟩) hSm (hSi 0 rfl) rfl (by kernel_rfl) (fun _ _ _ h => h) (hS0 _) (Tame.val rfl fun _ _ => by go_simp) rfl ?_
          refine tk2 1 11 (fun w1 => CL w1 (gv + 1 + 1) 4 kA) (kA) (⟨#[B,.string (str kk),D,.int .i64 nn,q3,o,.pointer (some ⟨W.heap.size + 1, 0, none⟩),o,u8,.pointer (some ⟨gv, 0, none⟩),.int .i64 (m : Int),.pointer (some ⟨gv + 1, 0, none⟩),.pointer (some ⟨gv + 1 + 1, 0, none⟩),.bool false,.int .i64 (ks.length : Int),o,o,o,o,o,o,B,C,D,E,F,.string (str kk),C,G,.pointer (some ⟨gv, 0, none⟩),.int .i64 7,.bool false,o,U,q1,O,Z,q2,O,.bool false,.bool false,Z,q2,O,.bool false,.bool false,.int .i64 nn,Z,q2,O,J,.int .i64 (m : Int),.pointer (some ⟨gv + 1, 0, none⟩),.pointer (some ⟨gv + 1 + 1, 0, none⟩),.int .i64 (ks.length : Int),.pointer (some ⟨gv, 4, none⟩),.slice ak ks.length ck,.int .i64 (ks.length : Int),.bool false,q4,q5,q6,q8,q9,qa,qb,qc,qd,qe,qf,qg,qh,qi,qj,qk,ql,qm,qn,qp,qq,qr,qs,qt,qu,qv,qw,qx,qy,qz,r0,r1,r2,r3,r4,r5,r6,r7,r8,r9,ra,rb,rc,rd,re,rf,rg,rh,ri,rj,rk,rl,rm,rn,ro,rp,rq,rr,rt,ru,rv,rx,ry,rz,t5,t6,t7,t8,t9,ta,tb,tc,td,te,tf,tg,.bool false,.bool (!false),.pointer (some ⟨gv + 1 + 1, 4, none⟩),kA,o,o,o,o,o,o,o,o,o,o,o,o,o,o,o,o,o,o,o,o,o,o,o,o,o,o,o,o,o,o,o,o,o,o,o,o,o,o,o],[]⟩) hSm (hSi 1 rfl) (fun _ _ h h2 => h.1 h2) rfl rfl (by kernel_rfl) (fun _ _ _ h => h) (hS0 _) (Tame.val rfl (fun w' hA => by have h1 := hA.cell; go_simp)) rfl ?_
          refine tk0 2 (.string (str kk)) (⟨#[B,.string (str kk),D,.int .i64 nn,q3,o,.pointer (some ⟨W.heap.size + 1, 0, none⟩),o,u8,.pointer (some ⟨gv, 0, none⟩),.int .i64 (m : Int),.pointer (some ⟨gv + 1, 0, none⟩),.pointer (some ⟨gv + 1 + 1, 0, none⟩),.bool false,.int .i64 (ks.length : Int),o,o,o,o,o,o,B,C,D,E,F,.string (str kk),C,G,.pointer (some ⟨gv, 0, none⟩),.int .i64 7,.bool false,o,U,q1,O,Z,q2,O,.bool false,.bool false,Z,q2,O,.bool false,.bool false,.int .i64 nn,Z,q2,O,J,.int .i64 (m : Int),.pointer (some ⟨gv + 1, 0, none⟩),.pointer (some ⟨gv + 1 + 1, 0, none⟩),.int .i64 (ks.length : Int),.pointer (some ⟨gv, 4, none⟩),.slice ak ks.length ck,.int .i64 (ks.length : Int),.bool false,q4,q5,q6,q8,q9,qa,qb,qc,qd,qe,qf,qg,qh,qi,qj,qk,ql,qm,qn,qp,qq,qr,qs,qt,qu,qv,qw,qx,qy,qz,r0,r1,r2,r3,r4,r5,r6,r7,r8,r9,ra,rb,rc,rd,re,rf,rg,rh,ri,rj,rk,rl,rm,rn,ro,rp,rq,rr,rt,ru,rv,rx,ry,rz,t5,t6,t7,t8,t9,ta,tb,tc,td,te,tf,tg,.bool false,.bool (!false),.pointer (some ⟨gv + 1 + 1, 4, none⟩),kA,.string (str kk),o,o,o,o,o,o,o,o,o,o,o,o,o,o,o,o,o,o,o,o,o,o,o,o,o,o,o,o,o,o,o,o,o,o,o,o,o,o],[]⟩) hSm (hSi 2 rfl) rfl (by kernel_rfl) (fun _ _ _ h => h) (hS0 _) (Tame.val rfl fun _ _ => by go_simp) rfl ?_
          refine tk0 5 (.pointer (some ⟨gv + 1 + 1, 5, none⟩)) (⟨#[B,.string (str kk),D,.int .i64 nn,q3,o,.pointer (some ⟨W.heap.size + 1, 0, none⟩),o,u8,.pointer (some ⟨gv, 0, none⟩),.int .i64 (m : Int),.pointer (some ⟨gv + 1, 0, none⟩),.pointer (some ⟨gv + 1 + 1, 0, none⟩),.bool false,.int .i64 (ks.length : Int),o,o,o,o,o,o,B,C,D,E,F,.string (str kk),C,G,.pointer (some ⟨gv, 0, none⟩),.int .i64 7,.bool false,o,U,q1,O,Z,q2,O,.bool false,.bool false,Z,q2,O,.bool false,.bool false,.int .i64 nn,Z,q2,O,J,.int .i64 (m : Int),.pointer (some ⟨gv + 1, 0, none⟩),.pointer (some ⟨gv + 1 + 1, 0, none⟩),.int .i64 (ks.length : Int),.pointer (some ⟨gv, 4, none⟩),.slice ak ks.length ck,.int .i64 (ks.length : Int),.bool false,q4,q5,q6,q8,q9,qa,qb,qc,qd,qe,qf,qg,qh,qi,qj,qk,ql,qm,qn,qp,qq,qr,qs,qt,qu,qv,qw,qx,qy,qz,r0,r1,r2,r3,r4,r5,r6,r7,r8,r9,ra,rb,rc,rd,re,rf,rg,rh,ri,rj,rk,rl,rm,rn,ro,rp,rq,rr,rt,ru,rv,rx,ry,rz,t5,t6,t7,t8,t9,ta,tb,tc,td,te,tf,tg,.bool false,.bool (!false),.pointer (some ⟨gv + 1 + 1, 4, none⟩),kA,.string (str kk),o,o,.pointer (some ⟨gv + 1 + 1, 5, none⟩),o,o,o,o,o,o,o,o,o,o,o,o,o,o,o,o,o,o,o,o,o,o,o,o,o,o,o,o,o,o,o,o,o,o,o],[]⟩) hSm (hSi 5 rfl) rfl (by kernel_rfl) (fun _ _ _ h => h) (hS0 _) (Tame.val rfl fun _ _ => by go_simp) rfl ?_
          refine tk2 6 13 (fun w1 => CL w1 (gv + 1 + 1) 5 lA) (lA) (⟨#[B,.string (str kk),D,.int .i64 nn,q3,o,.pointer (some ⟨W.heap.size + 1, 0, none⟩),o,u8,.pointer (some ⟨gv, 0, none⟩),.int .i64 (m : Int),.pointer (some ⟨gv + 1, 0, none⟩),.pointer (some ⟨gv + 1 + 1, 0, none⟩),.bool false,.int .i64 (ks.length : Int),o,o,o,o,o,o,B,C,D,E,F,.string (str kk),C,G,.pointer (some ⟨gv, 0, none⟩),.int .i64 7,.bool false,o,U,q1,O,Z,q2,O,.bool false,.bool false,Z,q2,O,.bool false,.bool false,.int .i64 nn,Z,q2,O,J,.int .i64 (m : Int),.pointer (some ⟨gv + 1, 0, none⟩),.pointer (some ⟨gv + 1 + 1, 0, none⟩),.int .i64 (ks.length : Int),.pointer (some ⟨gv, 4, none⟩),.slice ak ks.length ck,.int .i64 (ks.length : Int),.bool false,q4,q5,q6,q8,q9,qa,qb,qc,qd,qe,qf,qg,qh,qi,qj,qk,ql,qm,qn,qp,qq,qr,qs,qt,qu,qv,qw,qx,qy,qz,r0,r1,r2,r3,r4,r5,r6,r7,r8,r9,ra,rb,rc,rd,re,rf,rg,rh,ri,rj,rk,rl,rm,rn,ro,rp,rq,rr,rt,ru,rv,rx,ry,rz,t5,t6,t7,t8,t9,ta,tb,tc,td,te,tf,tg,.bool false,.bool (!false),.pointer (some ⟨gv + 1 + 1, 4, none⟩),kA,.string (str kk),o,o,.pointer (some ⟨gv + 1 + 1, 5, none⟩),lA,o,o,o,o,o,o,o,o,o,o,o,o,o,o,o,o,o,o,o,o,o,o,o,o,o,o,o,o,o,o,o,o,o,o],[]⟩) hSm (hSi 6 rfl) (fun _ _ h h2 => h.2.1 h2) rfl rfl (by kernel_rfl) (fun _ _ _ h => h) (hS0 _) (Tame.val rfl (fun w' hA => by have h1 := hA.cell; go_simp)) rfl ?_
          refine tk1 7 (fun w1 => Below W11.heap.size W11 w1) (.agg (List.toArray ys)) (⟨#[B,.string (str kk),D,.int .i64 nn,q3,o,.pointer (some ⟨W.heap.size + 1, 0, none⟩),o,u8,.pointer (some ⟨gv, 0, none⟩),.int .i64 (m : Int),.pointer (some ⟨gv + 1, 0, none⟩),.pointer (some ⟨gv + 1 + 1, 0, none⟩),.bool false,.int .i64 (ks.length : Int),o,o,o,o,o,o,B,C,D,E,F,.string (str kk),C,G,.pointer (some ⟨gv, 0, none⟩),.int .i64 7,.bool false,o,U,q1,O,Z,q2,O,.bool false,.bool false,Z,q2,O,.bool false,.bool false,.int .i64 nn,Z,q2,O,J,.int .i64 (m : Int),.pointer (some ⟨gv + 1, 0, none⟩),.pointer (some ⟨gv + 1 + 1, 0, none⟩),.int .i64 (ks.length : Int),.pointer (some ⟨gv, 4, none⟩),.slice ak ks.length ck,.int .i64 (ks.length : Int),.bool false,q4,q5,q6,q8,q9,qa,qb,qc,qd,qe,qf,qg,qh,qi,qj,qk,ql,qm,qn,qp,qq,qr,qs,qt,qu,qv,qw,qx,qy,qz,r0,r1,r2,r3,r4,r5,r6,r7,r8,r9,ra,rb,rc,rd,re,rf,rg,rh,ri,rj,rk,rl,rm,rn,ro,rp,rq,rr,rt,ru,rv,rx,ry,rz,t5,t6,t7,t8,t9,ta,tb,tc,td,te,tf,tg,.bool false,.bool (!false),.pointer (some ⟨gv + 1 + 1, 4, none⟩),kA,.string (str kk),o,o,.pointer (some ⟨gv + 1 + 1, 5, none⟩),lA,.agg (List.toArray ys),o,o,o,o,o,o,o,o,o,o,o,o,o,o,o,o,o,o,o,o,o,o,o,o,o,o,o,o,o,o,o,o,o],[]⟩) hSm (hSi 7 rfl) (fun _ _ h => h.2.2) rfl (by kernel_rfl) (fun _ _ _ h => h) (hS0 _) (Tame.val rfl (fun w' hA => run_ldOp (hVc w' hA))) rfl ?_
          refine wpAnyU_all (rs := [3, 8]) (by kernel_rfl) (by decide) ?_
          intro w1 hm2 i hi3
          have hi3 : i = 3 ∨ i = 8 := by simpa using hi3
          rcases hi3 with rfl | rfl
          · have hT4 := hT0.below hm2
            have hE5 := hE0.trans (hm2.mono hE0.size)
            refine wpOp_val (v := .slice (some ⟨w1.heap.size, 0, none⟩) 1 1) (w' := w1.alloc (.cells #[.string (str kk)] 9)) (a' := ⟨#[B,.string (str kk),D,.int .i64 nn,q3,o,.pointer (some ⟨W.heap.size + 1, 0, none⟩),o,u8,.pointer (some ⟨gv, 0, none⟩),.int .i64 (m : Int),.pointer (some ⟨gv + 1, 0, none⟩),.pointer (some ⟨gv + 1 + 1, 0, none⟩),.bool false,.int .i64 (ks.length : Int),o,o,o,o,o,o,B,C,D,E,F,.string (str kk),C,G,.pointer (some ⟨gv, 0, none⟩),.int .i64 7,.bool false,o,U,q1,O,Z,q2,O,.bool false,.bool false,Z,q2,O,.bool false,.bool false,.int .i64 nn,Z,q2,O,J,.int .i64 (m : Int),.pointer (some ⟨gv + 1, 0, none⟩),.pointer (some ⟨gv + 1 + 1, 0, none⟩),.int .i64 (ks.length : Int),.pointer (some ⟨gv, 4, none⟩),.slice ak ks.length ck,.int .i64 (ks.length : Int),.bool false,q4,q5,q6,q8,q9,qa,qb,qc,qd,qe,qf,qg,qh,qi,qj,qk,ql,qm,qn,qp,qq,qr,qs,qt,qu,qv,qw,qx,qy,qz,r0,r1,r2,r3,r4,r5,r6,r7,r8,r9,ra,rb,rc,rd,re,rf,rg,rh,ri,rj,rk,rl,rm,rn,ro,rp,rq,rr,rt,ru,rv,rx,ry,rz,t5,t6,t7,t8,t9,ta,tb,tc,td,te,tf,tg,.bool false,.bool (!false),.pointer (some ⟨gv + 1 + 1, 4, none⟩),kA,.string (str kk),.slice (some ⟨w1.heap.size, 0, none⟩) 1 1,o,.pointer (some ⟨gv + 1 + 1, 5, none⟩),lA,.agg (List.toArray ys),o,o,o,o,o,o,o,o,o,o,o,o,o,o,o,o,o,o,o,o,o,o,o,o,o,o,o,o,o,o,o,o,o],[]⟩) rfl rfl (run_bsOp (vals := #[(0, .string (str kk))]) (by first | rfl | go_simp | simp [Act.eval]) (bsOp_text Tryd.underlying27 infoStr2 (by decide))) rfl ?_
            have hm6 : Mo w1 (w1.alloc (.cells #[.string (str kk)] 9)) := (Below.refl _ _).alloc (Nat.le_refl _) _
            have hB7 : Blk (w1.alloc (.cells #[.string (str kk)] 9)) w1.heap.size 9 [strV kk] := Blk.new _ _ _
            have hT8 := hT4.below hm6
            have hE9 := hE5.trans (hm6.mono hE5.size)
            have hN10 : ∀ b, Ob (gv + 1 + 1) kA lA b → b < w1.heap.size := fun b hb => (hT4.a.olt b hb).2
            generalize w1.alloc (.cells #[.string (str kk)] 9) = w11 at *
            generalize w1.heap.size = g12 at *
            have hS13 := s36 hT8.a.c4 hT8.a.c5 hE9 11 13
            refine ⟨(hS13 _), ?_⟩
            refine wpAnyU_all (rs := [4, 8]) (by kernel_rfl) (by decide) ?_
            intro w14 hm15 i hi16
            have hi16 : i = 4 ∨ i = 8 := by simpa using hi16
            rcases hi16 with rfl | rfl
            · have hT17 := hT8.below hm15
              have hE18 := hE9.trans (hm15.mono hE9.size)
              have hB19 := hB7.below hm15
              obtain ⟨a25, c26, w20, hrun27, hM21, hG22⟩ := hT17.a.appK (ty := 27) hkl0 hB19 hnK
              refine wpOp_val (v := .slice a25 (KA.length + 1) c26) (w' := w20) (a' := ⟨#[B,.string (str kk),D,.int .i64 nn,q3,o,.pointer (some ⟨W.heap.size + 1, 0, none⟩),o,u8,.pointer (some ⟨gv, 0, none⟩),.int .i64 (m : Int),.pointer (some ⟨gv + 1, 0, none⟩),.pointer (some ⟨gv + 1 + 1, 0, none⟩),.bool false,.int .i64 (ks.length : Int),o,o,o,o,o,o,B,C,D,E,F,.string (str kk),C,G,.pointer (some ⟨gv, 0, none⟩),.int .i64 7,.bool false,o,U,q1,O,Z,q2,O,.bool false,.bool false,Z,q2,O,.bool false,.bool false,.int .i64 nn,Z,q2,O,J,.int .i64 (m : Int),.pointer (some ⟨gv + 1, 0, none⟩),.pointer (some ⟨gv + 1 + 1, 0, none⟩),.int .i64 (ks.length : Int),.pointer (some ⟨gv, 4, none⟩),.slice ak ks.length ck,.int .i64 (ks.length : Int),.bool false,q4,q5,q6,q8,q9,qa,qb,qc,qd,qe,qf,qg,qh,qi,qj,qk,ql,qm,qn,qp,qq,qr,qs,qt,qu,qv,qw,qx,qy,qz,r0,r1,r2,r3,r4,r5,r6,r7,r8,r9,ra,rb,rc,rd,re,rf,rg,rh,ri,rj,rk,rl,rm,rn,ro,rp,rq,rr,rt,ru,rv,rx,ry,rz,t5,t6,t7,t8,t9,ta,tb,tc,td,te,tf,tg,.bool false,.bool (!false),.pointer (some ⟨gv + 1 + 1, 4, none⟩),kA,.string (str kk),.slice (some ⟨g12, 0, none⟩) 1 1,.slice a25 (KA.length + 1) c26,.pointer (some ⟨gv + 1 + 1, 5, none⟩),lA,.agg (List.toArray ys),o,o,o,o,o,o,o,o,o,o,o,o,o,o,o,o,o,o,o,o,o,o,o,o,o,o,o,o,o,o,o,o,o],[]⟩) rfl rfl (run_append hrun27 rfl rfl rfl) rfl ?_
              have hT23 := hT17.gK hM21 hG22
              have hE24 := hE18.trans (hT17.a.growK hG22)
              have hS28 := s36 hT23.a.c4 hT23.a.c5 hE24 11 13
              refine ⟨(hS28 _), ?_⟩
              have hS29 := s36 hT23.a.c4 hT23.a.c5 hE24 11 13
              refine tk0 10 (.pointer (some ⟨gv + 1 + 1, 4, none⟩)) (⟨#[B,.string (str kk),D,.int .i64 nn,q3,o,.pointer (some ⟨W.heap.size + 1, 0, none⟩),o,u8,.pointer (some ⟨gv, 0, none⟩),.int .i64 (m : Int),.pointer (some ⟨gv + 1, 0, none⟩),.pointer (some ⟨gv + 1 + 1, 0, none⟩),.bool false,.int .i64 (ks.length : Int),o,o,o,o,o,o,B,C,D,E,F,.string (str kk),C,G,.pointer (some ⟨gv, 0, none⟩),.int .i64 7,.bool false,o,U,q1,O,Z,q2,O,.bool false,.bool false,Z,q2,O,.bool false,.bool false,.int .i64 nn,Z,q2,O,J,.int .i64 (m : Int),.pointer (some ⟨gv + 1, 0, none⟩),.pointer (some ⟨gv + 1 + 1, 0, none⟩),.int .i64 (ks.length : Int),.pointer (some ⟨gv, 4, none⟩),.slice ak ks.length ck,.int .i64 (ks.length : Int),.bool false,q4,q5,q6,q8,q9,qa,qb,qc,qd,qe,qf,qg,qh,qi,qj,qk,ql,qm,qn,qp,qq,qr,qs,qt,qu,qv,qw,qx,qy,qz,r0,r1,r2,r3,r4,r5,r6,r7,r8,r9,ra,rb,rc,rd,re,rf,rg,rh,ri,rj,rk,rl,rm,rn,ro,rp,rq,rr,rt,ru,rv,rx,ry,rz,t5,t6,t7,t8,t9,ta,tb,tc,td,te,tf,tg,.bool false,.bool (!false),.pointer (some ⟨gv + 1 + 1, 4, none⟩),kA,.string (str kk),.slice (some ⟨g12, 0, none⟩) 1 1,.slice a25 (KA.length + 1) c26,.pointer (some ⟨gv + 1 + 1, 5, none⟩),lA,.agg (List.toArray ys),o,o,.pointer (some ⟨gv + 1 + 1, 4, none⟩),o,o,o,o,o,o,o,o,o,o,o,o,o,o,o,o,o,o,o,o,o,o,o,o,o,o,o,o,o,o],[]⟩) hSm (hSi 10 rfl) rfl (by kernel_rfl) (fun _ _ _ h => h) (hS29 _) (Tame.val rfl fun _ _ => by go_simp) rfl ?_
              refine wpAnyU_all (rs := [8]) (by kernel_rfl) (by decide) ?_
              intro w30 hm31 i hi
              obtain rfl : i = 8 := by simpa using hi
              have hT32 := hT23.below hm31
              have hE33 := hE24.trans (hm31.mono hE24.size)
              refine wpOp_val (v := .slice (some ⟨w30.heap.size, 0, none⟩) 1 1) (w' := w30.alloc (.cells (List.toArray ys) 30)) (a' := ⟨#[B,.string (str kk),D,.int .i64 nn,q3,o,.pointer (some ⟨W.heap.size + 1, 0, none⟩),o,u8,.pointer (some ⟨gv, 0, none⟩),.int .i64 (m : Int),.pointer (some ⟨gv + 1, 0, none⟩),.pointer (some ⟨gv + 1 + 1, 0, none⟩),.bool false,.int .i64 (ks.length : Int),o,o,o,o,o,o,B,C,D,E,F,.string (str kk),C,G,.pointer (some ⟨gv, 0, none⟩),.int .i64 7,.bool false,o,U,q1,O,Z,q2,O,.bool false,.bool false,Z,q2,O,.bool false,.bool false,.int .i64 nn,Z,q2,O,J,.int .i64 (m : Int),.pointer (some ⟨gv + 1, 0, none⟩),.pointer (some ⟨gv + 1 + 1, 0, none⟩),.int .i64 (ks.length : Int),.pointer (some ⟨gv, 4, none⟩),.slice ak ks.length ck,.int .i64 (ks.length : Int),.bool false,q4,q5,q6,q8,q9,qa,qb,qc,qd,qe,qf,qg,qh,qi,qj,qk,ql,qm,qn,qp,qq,qr,qs,qt,qu,qv,qw,qx,qy,qz,r0,r1,r2,r3,r4,r5,r6,r7,r8,r9,ra,rb,rc,rd,re,rf,rg,rh,ri,rj,rk,rl,rm,rn,ro,rp,rq,rr,rt,ru,rv,rx,ry,rz,t5,t6,t7,t8,t9,ta,tb,tc,td,te,tf,tg,.bool false,.bool (!false),.pointer (some ⟨gv + 1 + 1, 4, none⟩),kA,.string (str kk),.slice (some ⟨g12, 0, none⟩) 1 1,.slice a25 (KA.length + 1) c26,.pointer (some ⟨gv + 1 + 1, 5, none⟩),lA,.agg (List.toArray ys),.slice (some ⟨w30.heap.size, 0, none⟩) 1 1,o,.pointer (some ⟨gv + 1 + 1, 4, none⟩),o,o,o,o,o,o,o,o,o,o,o,o,o,o,o,o,o,o,o,o,o,o,o,o,o,o,o,o,o,o],[]⟩) rfl rfl (run_bsOp (vals := #[(0, .agg (List.toArray ys))]) (by first | rfl | go_simp | simp [Act.eval]) (bsOp_one (cs := List.toArray ys) Tryd.underlying28 infoV (by decide) (by decide) (by exact zV_size) cx6)) rfl ?_
              have hm34 : Mo w30 (w30.alloc (.cells (List.toArray ys) 30)) := (Below.refl _ _).alloc (Nat.le_refl _) _
              have hB35 : Blk (w30.alloc (.cells (List.toArray ys) 30)) w30.heap.size 30 ys := Blk.new _ _ _
              have hT36 := hT32.below hm34
              have hE37 := hE33.trans (hm34.mono hE33.size)
              have hN38 : ∀ b, Ob (gv + 1 + 1) (.slice a25 (KA.length + 1) c26) lA b → b < w30.heap.size := fun b hb => (hT32.a.olt b hb).2
              generalize w30.alloc (.cells (List.toArray ys) 30) = w39 at *
              generalize w30.heap.size = g40 at *
              have hS41 := s36 hT36.a.c4 hT36.a.c5 hE37 11 13
              refine ⟨(hS41 _), ?_⟩
              refine wpAnyU_all (rs := [9]) (by kernel_rfl) (by decide) ?_
              intro w42 hm43 i hi
              obtain rfl : i = 9 := by simpa using hi
              have hT44 := hT36.below hm43
              have hE45 := hE37.trans (hm43.mono hE37.size)
              have hB46 := hB35.below hm43
              have hX55 := hxP.same (w' := w42) (fun b hb _ => hE45.block b hb)
              obtain ⟨a52, c53, w47, hrun54, hM48, hG49⟩ := hT44.a.appL (ty := 28) hX55 hB46 hnV
              refine wpOp_val (v := .slice a52 (VA.length + 1) c53) (w' := w47) (a' := ⟨#[B,.string (str kk),D,.int .i64 nn,q3,o,.pointer (some ⟨W.heap.size + 1, 0, none⟩),o,u8,.pointer (some ⟨gv, 0, none⟩),.int .i64 (m : Int),.pointer (some ⟨gv + 1, 0, none⟩),.pointer (some ⟨gv + 1 + 1, 0, none⟩),.bool false,.int .i64 (ks.length : Int),o,o,o,o,o,o,B,C,D,E,F,.string (str kk),C,G,.pointer (some ⟨gv, 0, none⟩),.int .i64 7,.bool false,o,U,q1,O,Z,q2,O,.bool false,.bool false,Z,q2,O,.bool false,.bool false,.int .i64 nn,Z,q2,O,J,.int .i64 (m : Int),.pointer (some ⟨gv + 1, 0, none⟩),.pointer (some ⟨gv + 1 + 1, 0, none⟩),.int .i64 (ks.length : Int),.pointer (some ⟨gv, 4, none⟩),.slice ak ks.length ck,.int .i64 (ks.length : Int),.bool false,q4,q5,q6,q8,q9,qa,qb,qc,qd,qe,qf,qg,qh,qi,qj,qk,ql,qm,qn,qp,qq,qr,qs,qt,qu,qv,qw,qx,qy,qz,r0,r1,r2,r3,r4,r5,r6,r7,r8,r9,ra,rb,rc,rd,re,rf,rg,rh,ri,rj,rk,rl,rm,rn,ro,rp,rq,rr,rt,ru,rv,rx,ry,rz,t5,t6,t7,t8,t9,ta,tb,tc,td,te,tf,tg,.bool false,.bool (!false),.pointer (some ⟨gv + 1 + 1, 4, none⟩),kA,.string (str kk),.slice (some ⟨g12, 0, none⟩) 1 1,.slice a25 (KA.length + 1) c26,.pointer (some ⟨gv + 1 + 1, 5, none⟩),lA,.agg (List.toArray ys),.slice (some ⟨g40, 0, none⟩) 1 1,.slice a52 (VA.length + 1) c53,.pointer (some ⟨gv + 1 + 1, 4, none⟩),o,o,o,o,o,o,o,o,o,o,o,o,o,o,o,o,o,o,o,o,o,o,o,o,o,o,o,o,o,o],[]⟩) rfl rfl (run_append hrun54 rfl rfl rfl) rfl ?_
              have hT50 := hT44.gL hM48 hG49
              have hE51 := hE45.trans (hT44.a.growL hG49)
              have hS56 := s36 hT50.a.c4 hT50.a.c5 hE51 11 13
              refine ⟨(hS56 _), ?_⟩
              refine wpAnyU_all (rs := [11]) (by kernel_rfl) (by decide) ?_
              intro w57 hm58 i hi
              obtain rfl : i = 11 := by simpa using hi
              have hT59 := hT50.below hm58
              have hE60 := hE51.trans (hm58.mono hE51.size)
              have hz61 := hT59.a.c4.cell
              have hf62 := hT59.a.blk.free 4
              refine wpOp_skip (w' := w57.setCell ⟨gv + 1 + 1, 4, none⟩ (.slice a25 (KA.length + 1) c26)) (a' := ⟨#[B,.string (str kk),D,.int .i64 nn,q3,o,.pointer (some ⟨W.heap.size + 1, 0, none⟩),o,u8,.pointer (some ⟨gv, 0, none⟩),.int .i64 (m : Int),.pointer (some ⟨gv + 1, 0, none⟩),.pointer (some ⟨gv + 1 + 1, 0, none⟩),.bool false,.int .i64 (ks.length : Int),o,o,o,o,o,o,B,C,D,E,F,.string (str kk),C,G,.pointer (some ⟨gv, 0, none⟩),.int .i64 7,.bool false,o,U,q1,O,Z,q2,O,.bool false,.bool false,Z,q2,O,.bool false,.bool false,.int .i64 nn,Z,q2,O,J,.int .i64 (m : Int),.pointer (some ⟨gv + 1, 0, none⟩),.pointer (some ⟨gv + 1 + 1, 0, none⟩),.int .i64 (ks.length : Int),.pointer (some ⟨gv, 4, none⟩),.slice ak ks.length ck,.int .i64 (ks.length : Int),.bool false,q4,q5,q6,q8,q9,qa,qb,qc,qd,qe,qf,qg,qh,qi,qj,qk,ql,qm,qn,qp,qq,qr,qs,qt,qu,qv,qw,qx,qy,qz,r0,r1,r2,r3,r4,r5,r6,r7,r8,r9,ra,rb,rc,rd,re,rf,rg,rh,ri,rj,rk,rl,rm,rn,ro,rp,rq,rr,rt,ru,rv,rx,ry,rz,t5,t6,t7,t8,t9,ta,tb,tc,td,te,tf,tg,.bool false,.bool (!false),.pointer (some ⟨gv + 1 + 1, 4, none⟩),kA,.string (str kk),.slice (some ⟨g12, 0, none⟩) 1 1,.slice a25 (KA.length + 1) c26,.pointer (some ⟨gv + 1 + 1, 5, none⟩),lA,.agg (List.toArray ys),.slice (some ⟨g40, 0, none⟩) 1 1,.slice a52 (VA.length + 1) c53,.pointer (some ⟨gv + 1 + 1, 4, none⟩),o,o,o,o,o,o,o,o,o,o,o,o,o,o,o,o,o,o,o,o,o,o,o,o,o,o,o,o,o,o],[]⟩) rfl rfl (by go_simp) rfl ?_
              have hT63 := hT59.sK
              have hE64 := hE60.trans (set_below21 (i := 4) (u := (.slice a25 (KA.length + 1) c26)) hT59.a.hq)
              generalize w57.setCell ⟨gv + 1 + 1, 4, none⟩ (.slice a25 (KA.length + 1) c26) = w65 at *
              refine ⟨⟨fun e => absurd e (by decide), fun _ => hT63.a.c5, hE64⟩, ?_⟩
              refine tk0 12 (.pointer (some ⟨gv + 1 + 1, 5, none⟩)) (⟨#[B,.string (str kk),D,.int .i64 nn,q3,o,.pointer (some ⟨W.heap.size + 1, 0, none⟩),o,u8,.pointer (some ⟨gv, 0, none⟩),.int .i64 (m : Int),.pointer (some ⟨gv + 1, 0, none⟩),.pointer (some ⟨gv + 1 + 1, 0, none⟩),.bool false,.int .i64 (ks.length : Int),o,o,o,o,o,o,B,C,D,E,F,.string (str kk),C,G,.pointer (some ⟨gv, 0, none⟩),.int .i64 7,.bool false,o,U,q1,O,Z,q2,O,.bool false,.bool false,Z,q2,O,.bool false,.bool false,.int .i64 nn,Z,q2,O,J,.int .i64 (m : Int),.pointer (some ⟨gv + 1, 0, none⟩),.pointer (some ⟨gv + 1 + 1, 0, none⟩),.int .i64 (ks.length : Int),.pointer (some ⟨gv, 4, none⟩),.slice ak ks.length ck,.int .i64 (ks.length : Int),.bool false,q4,q5,q6,q8,q9,qa,qb,qc,qd,qe,qf,qg,qh,qi,qj,qk,ql,qm,qn,qp,qq,qr,qs,qt,qu,qv,qw,qx,qy,qz,r0,r1,r2,r3,r4,r5,r6,r7,r8,r9,ra,rb,rc,rd,re,rf,rg,rh,ri,rj,rk,rl,rm,rn,ro,rp,rq,rr,rt,ru,rv,rx,ry,rz,t5,t6,t7,t8,t9,ta,tb,tc,td,te,tf,tg,.bool false,.bool (!false),.pointer (some ⟨gv + 1 + 1, 4, none⟩),kA,.string (str kk),.slice (some ⟨g12, 0, none⟩) 1 1,.slice a25 (KA.length + 1) c26,.pointer (some ⟨gv + 1 + 1, 5, none⟩),lA,.agg (List.toArray ys),.slice (some ⟨g40, 0, none⟩) 1 1,.slice a52 (VA.length + 1) c53,.pointer (some ⟨gv + 1 + 1, 4, none⟩),.pointer (some ⟨gv + 1 + 1, 5, none⟩),o,o,o,o,o,o,o,o,o,o,o,o,o,o,o,o,o,o,o,o,o,o,o,o,o,o,o,o,o],[]⟩) hSm (hSi 12 rfl) rfl (by kernel_rfl) (fun _ _ _ h => h) ⟨fun e => absurd e (by decide), fun _ => hT63.a.c5, hE64⟩ (Tame.val rfl fun _ _ => by go_simp) rfl ?_
              refine wpAnyU_all (rs := [13]) (by kernel_rfl) (by decide) ?_
              intro w68 hm69 i hi
              obtain rfl : i = 13 := by simpa using hi
              have hT70 := hT63.below hm69
              have hE71 := hE64.trans (hm69.mono hE64.size)
              have hz72 := hT70.a.c5.cell
              have hf73 := hT70.a.blk.free 5
              refine wpOp_skip (w' := w68.setCell ⟨gv + 1 + 1, 5, none⟩ (.slice a52 (VA.length + 1) c53)) (a' := ⟨#[B,.string (str kk),D,.int .i64 nn,q3,o,.pointer (some ⟨W.heap.size + 1, 0, none⟩),o,u8,.pointer (some ⟨gv, 0, none⟩),.int .i64 (m : Int),.pointer (some ⟨gv + 1, 0, none⟩),.pointer (some ⟨gv + 1 + 1, 0, none⟩),.bool false,.int .i64 (ks.length : Int),o,o,o,o,o,o,B,C,D,E,F,.string (str kk),C,G,.pointer (some ⟨gv, 0, none⟩),.int .i64 7,.bool false,o,U,q1,O,Z,q2,O,.bool false,.bool false,Z,q2,O,.bool false,.bool false,.int .i64 nn,Z,q2,O,J,.int .i64 (m : Int),.pointer (some ⟨gv + 1, 0, none⟩),.pointer (some ⟨gv + 1 + 1, 0, none⟩),.int .i64 (ks.length : Int),.pointer (some ⟨gv, 4, none⟩),.slice ak ks.length ck,.int .i64 (ks.length : Int),.bool false,q4,q5,q6,q8,q9,qa,qb,qc,qd,qe,qf,qg,qh,qi,qj,qk,ql,qm,qn,qp,qq,qr,qs,qt,qu,qv,qw,qx,qy,qz,r0,r1,r2,r3,r4,r5,r6,r7,r8,r9,ra,rb,rc,rd,re,rf,rg,rh,ri,rj,rk,rl,rm,rn,ro,rp,rq,rr,rt,ru,rv,rx,ry,rz,t5,t6,t7,t8,t9,ta,tb,tc,td,te,tf,tg,.bool false,.bool (!false),.pointer (some ⟨gv + 1 + 1, 4, none⟩),kA,.string (str kk),.slice (some ⟨g12, 0, none⟩) 1 1,.slice a25 (KA.length + 1) c26,.pointer (some ⟨gv + 1 + 1, 5, none⟩),lA,.agg (List.toArray ys),.slice (some ⟨g40, 0, none⟩) 1 1,.slice a52 (VA.length + 1) c53,.pointer (some ⟨gv + 1 + 1, 4, none⟩),.pointer (some ⟨gv + 1 + 1, 5, none⟩),o,o,o,o,o,o,o,o,o,o,o,o,o,o,o,o,o,o,o,o,o,o,o,o,o,o,o,o,o],[]⟩) rfl rfl (by go_simp) rfl ?_
              have hT74 := hT70.sL
              have hE75 := hE71.trans (set_below21 (i := 5) (u := (.slice a52 (VA.length + 1) c53)) hT70.a.hq)
              generalize w68.setCell ⟨gv + 1 + 1, 5, none⟩ (.slice a52 (VA.length + 1) c53) = w76 at *
              refine ⟨⟨fun e => absurd e (by decide), fun e => absurd e (by decide), hE75⟩, ?_⟩
              refine wpAnyU_done (by kernel_rfl) ?_ _
              intro w78 hm79
              have hTF := hT74.below hm79
              have hEF := hE75.trans (hm79.mono hE75.size)
              have hF := Lib.hid (hfin _ _ _ hTF hEF)
              clear hTF hEF
              go_wp2
              go_meet
              exact hF.out
            · have hT80 := hT8.below hm15
              have hE81 := hE9.trans (hm15.mono hE9.size)
              have hB82 := hB7.below hm15
              refine wpOp_val (v := .slice (some ⟨w14.heap.size, 0, none⟩) 1 1) (w' := w14.alloc (.cells (List.toArray ys) 30)) (a' := ⟨#[B,.string (str kk),D,.int .i64 nn,q3,o,.pointer (some ⟨W.heap.size + 1, 0, none⟩),o,u8,.pointer (some ⟨gv, 0, none⟩),.int .i64 (m : Int),.pointer (some ⟨gv + 1, 0, none⟩),.pointer (some ⟨gv + 1 + 1, 0, none⟩),.bool false,.int .i64 (ks.length : Int),o,o,o,o,o,o,B,C,D,E,F,.string (str kk),C,G,.pointer (some ⟨gv, 0, none⟩),.int .i64 7,.bool false,o,U,q1,O,Z,q2,O,.bool false,.bool false,Z,q2,O,.bool false,.bool false,.int .i64 nn,Z,q2,O,J,.int .i64 (m : Int),.pointer (some ⟨gv + 1, 0, none⟩),.pointer (some ⟨gv + 1 + 1, 0, none⟩),.int .i64 (ks.length : Int),.pointer (some ⟨gv, 4, none⟩),.slice ak ks.length ck,.int .i64 (ks.length : Int),.bool false,q4,q5,q6,q8,q9,qa,qb,qc,qd,qe,qf,qg,qh,qi,qj,qk,ql,qm,qn,qp,qq,qr,qs,qt,qu,qv,qw,qx,qy,qz,r0,r1,r2,r3,r4,r5,r6,r7,r8,r9,ra,rb,rc,rd,re,rf,rg,rh,ri,rj,rk,rl,rm,rn,ro,rp,rq,rr,rt,ru,rv,rx,ry,rz,t5,t6,t7,t8,t9,ta,tb,tc,td,te,tf,tg,.bool false,.bool (!false),.pointer (some ⟨gv + 1 + 1, 4, none⟩),kA,.string (str kk),.slice (some ⟨g12, 0, none⟩) 1 1,o,.pointer (some ⟨gv + 1 + 1, 5, none⟩),lA,.agg (List.toArray ys),.slice (some ⟨w14.heap.size, 0, none⟩) 1 1,o,o,o,o,o,o,o,o,o,o,o,o,o,o,o,o,o,o,o,o,o,o,o,o,o,o,o,o,o,o,o,o],[]⟩) rfl rfl (run_bsOp (vals := #[(0, .agg (List.toArray ys))]) (by first | rfl | go_simp | simp [Act.eval]) (bsOp_one (cs := List.toArray ys) Tryd.underlying28 infoV (by decide) (by decide) (by exact zV_size) cx6)) rfl ?_
              have hm83 : Mo w14 (w14.alloc (.cells (List.toArray ys) 30)) := (Below.refl _ _).alloc (Nat.le_refl _) _
              have hB84 : Blk (w14.alloc (.cells (List.toArray ys) 30)) w14.heap.size 30 ys := Blk.new _ _ _
              have hT85 := hT80.below hm83
              have hE86 := hE81.trans (hm83.mono hE81.size)
              have hN87 : ∀ b, Ob (gv + 1 + 1) kA lA b → b < w14.heap.size := fun b hb => (hT80.a.olt b hb).2
              have hB90 := hB82.below hm83
              generalize w14.alloc (.cells (List.toArray ys) 30) = w88 at *
              generalize w14.heap.size = g89 at *
              have hS91 := s36 hT85.a.c4 hT85.a.c5 hE86 11 13
              refine ⟨(hS91 _), ?_⟩
              refine wpAnyU_all (rs := [4]) (by kernel_rfl) (by decide) ?_
              intro w92 hm93 i hi
              obtain rfl : i = 4 := by simpa using hi
              have hT94 := hT85.below hm93
              have hE95 := hE86.trans (hm93.mono hE86.size)
              have hB96 := hB90.below hm93
              have hB97 := hB84.below hm93
              obtain ⟨a103, c104, w98, hrun105, hM99, hG100⟩ := hT94.a.appK (ty := 27) hkl0 hB96 hnK
              refine wpOp_val (v := .slice a103 (KA.length + 1) c104) (w' := w98) (a' := ⟨#[B,.string (str kk),D,.int .i64 nn,q3,o,.pointer (some ⟨W.heap.size + 1, 0, none⟩),o,u8,.pointer (some ⟨gv, 0, none⟩),.int .i64 (m : Int),.pointer (some ⟨gv + 1, 0, none⟩),.pointer (some ⟨gv + 1 + 1, 0, none⟩),.bool false,.int .i64 (ks.length : Int),o,o,o,o,o,o,B,C,D,E,F,.string (str kk),C,G,.pointer (some ⟨gv, 0, none⟩),.int .i64 7,.bool false,o,U,q1,O,Z,q2,O,.bool false,.bool false,Z,q2,O,.bool false,.bool false,.int .i64 nn,Z,q2,O,J,.int .i64 (m : Int),.pointer (some ⟨gv + 1, 0, none⟩),.pointer (some ⟨gv + 1 + 1, 0, none⟩),.int .i64 (ks.length : Int),.pointer (some ⟨gv, 4, none⟩),.slice ak ks.length ck,.int .i64 (ks.length : Int),.bool false,q4,q5,q6,q8,q9,qa,qb,qc,qd,qe,qf,qg,qh,qi,qj,qk,ql,qm,qn,qp,qq,qr,qs,qt,qu,qv,qw,qx,qy,qz,r0,r1,r2,r3,r4,r5,r6,r7,r8,r9,ra,rb,rc,rd,re,rf,rg,rh,ri,rj,rk,rl,rm,rn,ro,rp,rq,rr,rt,ru,rv,rx,ry,rz,t5,t6,t7,t8,t9,ta,tb,tc,td,te,tf,tg,.bool false,.bool (!false),.pointer (some ⟨gv + 1 + 1, 4, none⟩),kA,.string (str kk),.slice (some ⟨g12, 0, none⟩) 1 1,.slice a103 (KA.length + 1) c104,.pointer (some ⟨gv + 1 + 1, 5, none⟩),lA,.agg (List.toArray ys),.slice (some ⟨g89, 0, none⟩) 1 1,o,o,o,o,o,o,o,o,o,o,o,o,o,o,o,o,o,o,o,o,o,o,o,o,o,o,o,o,o,o,o,o],[]⟩) rfl rfl (run_append hrun105 rfl rfl rfl) rfl ?_
              have hT101 := hT94.gK hM99 hG100
              have hE102 := hE95.trans (hT94.a.growK hG100)
              have hB106 := (hG100.blk hB97 (fun e => Nat.lt_irrefl _ (hN87 _ (.inr (.inl e))))).1
              have hS107 := s36 hT101.a.c4 hT101.a.c5 hE102 11 13
              refine ⟨(hS107 _), ?_⟩
              have hS108 := s36 hT101.a.c4 hT101.a.c5 hE102 11 13
              refine tk0 10 (.pointer (some ⟨gv + 1 + 1, 4, none⟩)) (⟨#[B,.string (str kk),D,.int .i64 nn,q3,o,.pointer (some ⟨W.heap.size + 1, 0, none⟩),o,u8,.pointer (some ⟨gv, 0, none⟩),.int .i64 (m : Int),.pointer (some ⟨gv + 1, 0, none⟩),.pointer (some ⟨gv + 1 + 1, 0, none⟩),.bool false,.int .i64 (ks.length : Int),o,o,o,o,o,o,B,C,D,E,F,.string (str kk),C,G,.pointer (some ⟨gv, 0, none⟩),.int .i64 7,.bool false,o,U,q1,O,Z,q2,O,.bool false,.bool false,Z,q2,O,.bool false,.bool false,.int .i64 nn,Z,q2,O,J,.int .i64 (m : Int),.pointer (some ⟨gv + 1, 0, none⟩),.pointer (some ⟨gv + 1 + 1, 0, none⟩),.int .i64 (ks.length : Int),.pointer (some ⟨gv, 4, none⟩),.slice ak ks.length ck,.int .i64 (ks.length : Int),.bool false,q4,q5,q6,q8,q9,qa,qb,qc,qd,qe,qf,qg,qh,qi,qj,qk,ql,qm,qn,qp,qq,qr,qs,qt,qu,qv,qw,qx,qy,qz,r0,r1,r2,r3,r4,r5,r6,r7,r8,r9,ra,rb,rc,rd,re,rf,rg,rh,ri,rj,rk,rl,rm,rn,ro,rp,rq,rr,rt,ru,rv,rx,ry,rz,t5,t6,t7,t8,t9,ta,tb,tc,td,te,tf,tg,.bool false,.bool (!false),.pointer (some ⟨gv + 1 + 1, 4, none⟩),kA,.string (str kk),.slice (some ⟨g12, 0, none⟩) 1 1,.slice a103 (KA.length + 1) c104,.pointer (some ⟨gv + 1 + 1, 5, none⟩),lA,.agg (List.toArray ys),.slice (some ⟨g89, 0, none⟩) 1 1,o,.pointer (some ⟨gv + 1 + 1, 4, none⟩),o,o,o,o,o,o,o,o,o,o,o,o,o,o,o,o,o,o,o,o,o,o,o,o,o,o,o,o,o,o],[]⟩) hSm (hSi 10 rfl) rfl (by kernel_rfl) (fun _ _ _ h => h) (hS108 _) (Tame.val rfl fun _ _ => by go_simp) rfl ?_
              refine wpAnyU_all (rs := [9]) (by kernel_rfl) (by decide) ?_
              intro w109 hm110 i hi
              obtain rfl : i = 9 := by simpa using hi
              have hT111 := hT101.below hm110
              have hE112 := hE102.trans (hm110.mono hE102.size)
              have hB113 := hB106.below hm110
              have hX122 := hxP.same (w' := w109) (fun b hb _ => hE112.block b hb)
              obtain ⟨a119, c120, w114, hrun121, hM115, hG116⟩ := hT111.a.appL (ty := 28) hX122 hB113 hnV
              refine wpOp_val (v := .slice a119 (VA.length + 1) c120) (w' := w114) (a' := ⟨#[B,.string (str kk),D,.int .i64 nn,q3,o,.pointer (some ⟨W.heap.size + 1, 0, none⟩),o,u8,.pointer (some ⟨gv, 0, none⟩),.int .i64 (m : Int),.pointer (some ⟨gv + 1, 0, none⟩),.pointer (some ⟨gv + 1 + 1, 0, none⟩),.bool false,.int .i64 (ks.length : Int),o,o,o,o,o,o,B,C,D,E,F,.string (str kk),C,G,.pointer (some ⟨gv, 0, none⟩),.int .i64 7,.bool false,o,U,q1,O,Z,q2,O,.bool false,.bool false,Z,q2,O,.bool false,.bool false,.int .i64 nn,Z,q2,O,J,.int .i64 (m : Int),.pointer (some ⟨gv + 1, 0, none⟩),.pointer (some ⟨gv + 1 + 1, 0, none⟩),.int .i64 (ks.length : Int),.pointer (some ⟨gv, 4, none⟩),.slice ak ks.length ck,.int .i64 (ks.length : Int),.bool false,q4,q5,q6,q8,q9,qa,qb,qc,qd,qe,qf,qg,qh,qi,qj,qk,ql,qm,qn,qp,qq,qr,qs,qt,qu,qv,qw,qx,qy,qz,r0,r1,r2,r3,r4,r5,r6,r7,r8,r9,ra,rb,rc,rd,re,rf,rg,rh,ri,rj,rk,rl,rm,rn,ro,rp,rq,rr,rt,ru,rv,rx,ry,rz,t5,t6,t7,t8,t9,ta,tb,tc,td,te,tf,tg,.bool false,.bool (!false),.pointer (some ⟨gv + 1 + 1, 4, none⟩),kA,.string (str kk),.slice (some ⟨g12, 0, none⟩) 1 1,.slice a103 (KA.length + 1) c104,.pointer (some ⟨gv + 1 + 1, 5, none⟩),lA,.agg (List.toArray ys),.slice (some ⟨g89, 0, none⟩) 1 1,.slice a119 (VA.length + 1) c120,.pointer (some ⟨gv + 1 + 1, 4, none⟩),o,o,o,o,o,o,o,o,o,o,o,o,o,o,o,o,o,o,o,o,o,o,o,o,o,o,o,o,o,o],[]⟩) rfl rfl (run_append hrun121 rfl rfl rfl) rfl ?_
              have hT117 := hT111.gL hM115 hG116
              have hE118 := hE112.trans (hT111.a.growL hG116)
              have hS123 := s36 hT117.a.c4 hT117.a.c5 hE118 11 13
              refine ⟨(hS123 _), ?_⟩
              refine wpAnyU_all (rs := [11]) (by kernel_rfl) (by decide) ?_
              intro w124 hm125 i hi
              obtain rfl : i = 11 := by simpa using hi
              have hT126 := hT117.below hm125
              have hE127 := hE118.trans (hm125.mono hE118.size)
              have hz128 := hT126.a.c4.cell
              have hf129 := hT126.a.blk.free 4
              refine wpOp_skip (w' := w124.setCell ⟨gv + 1 + 1, 4, none⟩ (.slice a103 (KA.length + 1) c104)) (a' := ⟨#[B,.string (str kk),D,.int .i64 nn,q3,o,.pointer (some ⟨W.heap.size + 1, 0, none⟩),o,u8,.pointer (some ⟨gv, 0, none⟩),.int .i64 (m : Int),.pointer (some ⟨gv + 1, 0, none⟩),.pointer (some ⟨gv + 1 + 1, 0, none⟩),.bool false,.int .i64 (ks.length : Int),o,o,o,o,o,o,B,C,D,E,F,.string (str kk),C,G,.pointer (some ⟨gv, 0, none⟩),.int .i64 7,.bool false,o,U,q1,O,Z,q2,O,.bool false,.bool false,Z,q2,O,.bool false,.bool false,.int .i64 nn,Z,q2,O,J,.int .i64 (m : Int),.pointer (some ⟨gv + 1, 0, none⟩),.pointer (some ⟨gv + 1 + 1, 0, none⟩),.int .i64 (ks.length : Int),.pointer (some ⟨gv, 4, none⟩),.slice ak ks.length ck,.int .i64 (ks.length : Int),.bool false,q4,q5,q6,q8,q9,qa,qb,qc,qd,qe,qf,qg,qh,qi,qj,qk,ql,qm,qn,qp,qq,qr,qs,qt,qu,qv,qw,qx,qy,qz,r0,r1,r2,r3,r4,r5,r6,r7,r8,r9,ra,rb,rc,rd,re,rf,rg,rh,ri,rj,rk,rl,rm,rn,ro,rp,rq,rr,rt,ru,rv,rx,ry,rz,t5,t6,t7,t8,t9,ta,tb,tc,td,te,tf,tg,.bool false,.bool (!false),.pointer (some ⟨gv + 1 + 1, 4, none⟩),kA,.string (str kk),.slice (some ⟨g12, 0, none⟩) 1 1,.slice a103 (KA.length + 1) c104,.pointer (some ⟨gv + 1 + 1, 5, none⟩),lA,.agg (List.toArray ys),.slice (some ⟨g89, 0, none⟩) 1 1,.slice a119 (VA.length + 1) c120,.pointer (some ⟨gv + 1 + 1, 4, none⟩),o,o,o,o,o,o,o,o,o,o,o,o,o,o,o,o,o,o,o,o,o,o,o,o,o,o,o,o,o,o],[]⟩) rfl rfl (by go_simp) rfl ?_
              have hT130 := hT126.sK
              have hE131 := hE127.trans (set_below21 (i := 4) (u := (.slice a103 (KA.length + 1) c104)) hT126.a.hq)
              generalize w124.setCell ⟨gv + 1 + 1, 4, none⟩ (.slice a103 (KA.length + 1) c104) = w132 at *
              refine ⟨⟨fun e => absurd e (by decide), fun _ => hT130.a.c5, hE131⟩, ?_⟩
              refine tk0 12 (.pointer (some ⟨gv + 1 + 1, 5, none⟩)) (⟨#[B,.string (str kk),D,.int .i64 nn,q3,o,.pointer (some ⟨W.heap.size + 1, 0, none⟩),o,u8,.pointer (some ⟨gv, 0, none⟩),.int .i64 (m : Int),.pointer (some ⟨gv + 1, 0, none⟩),.pointer (some ⟨gv + 1 + 1, 0, none⟩),.bool false,.int .i64 (ks.length : Int),o,o,o,o,o,o,B,C,D,E,F,.string (str kk),C,G,.pointer (some ⟨gv, 0, none⟩),.int .i64 7,.bool false,o,U,q1,O,Z,q2,O,.bool false,.bool false,Z,q2,O,.bool false,.bool false,.int .i64 nn,Z,q2,O,J,.int .i64 (m : Int),.pointer (some ⟨gv + 1, 0, none⟩),.pointer (some ⟨gv + 1 + 1, 0, none⟩),.int .i64 (ks.length : Int),.pointer (some ⟨gv, 4, none⟩),.slice ak ks.length ck,.int .i64 (ks.length : Int),.bool false,q4,q5,q6,q8,q9,qa,qb,qc,qd,qe,qf,qg,qh,qi,qj,qk,ql,qm,qn,qp,qq,qr,qs,qt,qu,qv,qw,qx,qy,qz,r0,r1,r2,r3,r4,r5,r6,r7,r8,r9,ra,rb,rc,rd,re,rf,rg,rh,ri,rj,rk,rl,rm,rn,ro,rp,rq,rr,rt,ru,rv,rx,ry,rz,t5,t6,t7,t8,t9,ta,tb,tc,td,te,tf,tg,.bool false,.bool (!false),.pointer (some ⟨gv + 1 + 1, 4, none⟩),kA,.string (str kk),.slice (some ⟨g12, 0, none⟩) 1 1,.slice a103 (KA.length + 1) c104,.pointer (some ⟨gv + 1 + 1, 5, none⟩),lA,.agg (List.toArray ys),.slice (some ⟨g89, 0, none⟩) 1 1,.slice a119 (VA.length + 1) c120,.pointer (some ⟨gv + 1 + 1, 4, none⟩),.pointer (some ⟨gv + 1 + 1, 5, none⟩),o,o,o,o,o,o,o,o,o,o,o,o,o,o,o,o,o,o,o,o,o,o,o,o,o,o,o,o,o],[]⟩) hSm (hSi 12 rfl) rfl (by kernel_rfl) (fun _ _ _ h => h) ⟨fun e => absurd e (by decide), fun _ => hT130.a.c5, hE131⟩ (Tame.val rfl fun _ _ => by go_simp) rfl ?_
              refine wpAnyU_all (rs := [13]) (by kernel_rfl) (by decide) ?_
              intro w135 hm136 i hi
              obtain rfl : i = 13 := by simpa using hi
              have hT137 := hT130.below hm136
              have hE138 := hE131.trans (hm136.mono hE131.size)
              have hz139 := hT137.a.c5.cell
              have hf140 := hT137.a.blk.free 5
              refine wpOp_skip (w' := w135.setCell ⟨gv + 1 + 1, 5, none⟩ (.slice a119 (VA.length + 1) c120)) (a' := ⟨#[B,.string (str kk),D,.int .i64 nn,q3,o,.pointer (some ⟨W.heap.size + 1, 0, none⟩),o,u8,.pointer (some ⟨gv, 0, none⟩),.int .i64 (m : Int),.pointer (some ⟨gv + 1, 0, none⟩),.pointer (some ⟨gv + 1 + 1, 0, none⟩),.bool false,.int .i64 (ks.length : Int),o,o,o,o,o,o,B,C,D,E,F,.string (str kk),C,G,.pointer (some ⟨gv, 0, none⟩),.int .i64 7,.bool false,o,U,q1,O,Z,q2,O,.bool false,.bool false,Z,q2,O,.bool false,.bool false,.int .i64 nn,Z,q2,O,J,.int .i64 (m : Int),.pointer (some ⟨gv + 1, 0, none⟩),.pointer (some ⟨gv + 1 + 1, 0, none⟩),.int .i64 (ks.length : Int),.pointer (some ⟨gv, 4, none⟩),.slice ak ks.length ck,.int .i64 (ks.length : Int),.bool false,q4,q5,q6,q8,q9,qa,qb,qc,qd,qe,qf,qg,qh,qi,qj,qk,ql,qm,qn,qp,qq,qr,qs,qt,qu,qv,qw,qx,qy,qz,r0,r1,r2,r3,r4,r5,r6,r7,r8,r9,ra,rb,rc,rd,re,rf,rg,rh,ri,rj,rk,rl,rm,rn,ro,rp,rq,rr,rt,ru,rv,rx,ry,rz,t5,t6,t7,t8,t9,ta,tb,tc,td,te,tf,tg,.bool false,.bool (!false),.pointer (some ⟨gv + 1 + 1, 4, none⟩),kA,.string (str kk),.slice (some ⟨g12, 0, none⟩) 1 1,.slice a103 (KA.length + 1) c104,.pointer (some ⟨gv + 1 + 1, 5, none⟩),lA,.agg (List.toArray ys),.slice (some ⟨g89, 0, none⟩) 1 1,.slice a119 (VA.length + 1) c120,.pointer (some ⟨gv + 1 + 1, 4, none⟩),.pointer (some ⟨gv + 1 + 1, 5, none⟩),o,o,o,o,o,o,o,o,o,o,o,o,o,o,o,o,o,o,o,o,o,o,o,o,o,o,o,o,o],[]⟩) rfl rfl (by go_simp) rfl ?_
              have hT141 := hT137.sL
              have hE142 := hE138.trans (set_below21 (i := 5) (u := (.slice a119 (VA.length + 1) c120)) hT137.a.hq)
              generalize w135.setCell ⟨gv + 1 + 1, 5, none⟩ (.slice a119 (VA.length + 1) c120) = w143 at *
              refine ⟨⟨fun e => absurd e (by decide), fun e => absurd e (by decide), hE142⟩, ?_⟩
              refine wpAnyU_done (by kernel_rfl) ?_ _
              intro w145 hm146
              have hTF := hT141.below hm146
              have hEF := hE142.trans (hm146.mono hE142.size)
              have hF := Lib.hid (hfin _ _ _ hTF hEF)
              clear hTF hEF
              go_wp2
              go_meet
              exact hF.out
          · have hT147 := hT0.below hm2
            have hE148 := hE0.trans (hm2.mono hE0.size)
            refine wpOp_val (v := .slice (some ⟨w1.heap.size, 0, none⟩) 1 1) (w' := w1.alloc (.cells (List.toArray ys) 30)) (a' := ⟨#[B,.string (str kk),D,.int .i64 nn,q3,o,.pointer (some ⟨W.heap.size + 1, 0, none⟩),o,u8,.pointer (some ⟨gv, 0, none⟩),.int .i64 (m : Int),.pointer (some ⟨gv + 1, 0, none⟩),.pointer (some ⟨gv + 1 + 1, 0, none⟩),.bool false,.int .i64 (ks.length : Int),o,o,o,o,o,o,B,C,D,E,F,.string (str kk),C,G,.pointer (some ⟨gv, 0, none⟩),.int .i64 7,.bool false,o,U,q1,O,Z,q2,O,.bool false,.bool false,Z,q2,O,.bool false,.bool false,.int .i64 nn,Z,q2,O,J,.int .i64 (m : Int),.pointer (some ⟨gv + 1, 0, none⟩),.pointer (some ⟨gv + 1 + 1, 0, none⟩),.int .i64 (ks.length : Int),.pointer (some ⟨gv, 4, none⟩),.slice ak ks.length ck,.int .i64 (ks.length : Int),.bool false,q4,q5,q6,q8,q9,qa,qb,qc,qd,qe,qf,qg,qh,qi,qj,qk,ql,qm,qn,qp,qq,qr,qs,qt,qu,qv,qw,qx,qy,qz,r0,r1,r2,r3,r4,r5,r6,r7,r8,r9,ra,rb,rc,rd,re,rf,rg,rh,ri,rj,rk,rl,rm,rn,ro,rp,rq,rr,rt,ru,rv,rx,ry,rz,t5,t6,t7,t8,t9,ta,tb,tc,td,te,tf,tg,.bool false,.bool (!false),.pointer (some ⟨gv + 1 + 1, 4, none⟩),kA,.string (str kk),o,o,.pointer (some ⟨gv + 1 + 1, 5, none⟩),lA,.agg (List.toArray ys),.slice (some ⟨w1.heap.size, 0, none⟩) 1 1,o,o,o,o,o,o,o,o,o,o,o,o,o,o,o,o,o,o,o,o,o,o,o,o,o,o,o,o,o,o,o,o],[]⟩) rfl rfl (run_bsOp (vals := #[(0, .agg (List.toArray ys))]) (by first | rfl | go_simp | simp [Act.eval]) (bsOp_one (cs := List.toArray ys) Tryd.underlying28 infoV (by decide) (by decide) (by exact zV_size) cx6)) rfl ?_
            have hm149 : Mo w1 (w1.alloc (.cells (List.toArray ys) 30)) := (Below.refl _ _).alloc (Nat.le_refl _) _
            have hB150 : Blk (w1.alloc (.cells (List.toArray ys) 30)) w1.heap.size 30 ys := Blk.new _ _ _
            have hT151 := hT147.below hm149
            have hE152 := hE148.trans (hm149.mono hE148.size)
            have hN153 : ∀ b, Ob (gv + 1 + 1) kA lA b → b < w1.heap.size := fun b hb => (hT147.a.olt b hb).2
            generalize w1.alloc (.cells (List.toArray ys) 30) = w154 at *
            generalize w1.heap.size = g155 at *
            have hS156 := s36 hT151.a.c4 hT151.a.c5 hE152 11 13
            refine ⟨(hS156 _), ?_⟩
            refine wpAnyU_all (rs := [3]) (by kernel_rfl) (by decide) ?_
            intro w157 hm158 i hi
            obtain rfl : i = 3 := by simpa using hi
            have hT159 := hT151.below hm158
            have hE160 := hE152.trans (hm158.mono hE152.size)
            have hB161 := hB150.below hm158
            refine wpOp_val (v := .slice (some ⟨w157.heap.size, 0, none⟩) 1 1) (w' := w157.alloc (.cells #[.string (str kk)] 9)) (a' := ⟨#[B,.string (str kk),D,.int .i64 nn,q3,o,.pointer (some ⟨W.heap.size + 1, 0, none⟩),o,u8,.pointer (some ⟨gv, 0, none⟩),.int .i64 (m : Int),.pointer (some ⟨gv + 1, 0, none⟩),.pointer (some ⟨gv + 1 + 1, 0, none⟩),.bool false,.int .i64 (ks.length : Int),o,o,o,o,o,o,B,C,D,E,F,.string (str kk),C,G,.pointer (some ⟨gv, 0, none⟩),.int .i64 7,.bool false,o,U,q1,O,Z,q2,O,.bool false,.bool false,Z,q2,O,.bool false,.bool false,.int .i64 nn,Z,q2,O,J,.int .i64 (m : Int),.pointer (some ⟨gv + 1, 0, none⟩),.pointer (some ⟨gv + 1 + 1, 0, none⟩),.int .i64 (ks.length : Int),.pointer (some ⟨gv, 4, none⟩),.slice ak ks.length ck,.int .i64 (ks.length : Int),.bool false,q4,q5,q6,q8,q9,qa,qb,qc,qd,qe,qf,qg,qh,qi,qj,qk,ql,qm,qn,qp,qq,qr,qs,qt,qu,qv,qw,qx,qy,qz,r0,r1,r2,r3,r4,r5,r6,r7,r8,r9,ra,rb,rc,rd,re,rf,rg,rh,ri,rj,rk,rl,rm,rn,ro,rp,rq,rr,rt,ru,rv,rx,ry,rz,t5,t6,t7,t8,t9,ta,tb,tc,td,te,tf,tg,.bool false,.bool (!false),.pointer (some ⟨gv + 1 + 1, 4, none⟩),kA,.string (str kk),.slice (some ⟨w157.heap.size, 0, none⟩) 1 1,o,.pointer (some ⟨gv + 1 + 1, 5, none⟩),lA,.agg (List.toArray ys),.slice (some ⟨g155, 0, none⟩) 1 1,o,o,o,o,o,o,o,o,o,o,o,o,o,o,o,o,o,o,o,o,o,o,o,o,o,o,o,o,o,o,o,o],[]⟩) rfl rfl (run_bsOp (vals := #[(0, .string (str kk))]) (by first | rfl | go_simp | simp [Act.eval]) (bsOp_text Tryd.underlying27 infoStr2 (by decide))) rfl ?_
            have hm162 : Mo w157 (w157.alloc (.cells #[.string (str kk)] 9)) := (Below.refl _ _).alloc (Nat.le_refl _) _
            have hB163 : Blk (w157.alloc (.cells #[.string (str kk)] 9)) w157.heap.size 9 [strV kk] := Blk.new _ _ _
            have hT164 := hT159.below hm162
            have hE165 := hE160.trans (hm162.mono hE160.size)
            have hN166 : ∀ b, Ob (gv + 1 + 1) kA lA b → b < w157.heap.size := fun b hb => (hT159.a.olt b hb).2
            have hB169 := hB161.below hm162
            generalize w157.alloc (.cells #[.string (str kk)] 9) = w167 at *
            generalize w157.heap.size = g168 at *
            have hS170 := s36 hT164.a.c4 hT164.a.c5 hE165 11 13
            refine ⟨(hS170 _), ?_⟩
            refine wpAnyU_all (rs := [4]) (by kernel_rfl) (by decide) ?_
            intro w171 hm172 i hi
            obtain rfl : i = 4 := by simpa using hi
            have hT173 := hT164.below hm172
            have hE174 := hE165.trans (hm172.mono hE165.size)
            have hB175 := hB163.below hm172
            have hB176 := hB169.below hm172
            obtain ⟨a182, c183, w177, hrun184, hM178, hG179⟩ := hT173.a.appK (ty := 27) hkl0 hB175 hnK
            refine wpOp_val (v := .slice a182 (KA.length + 1) c183) (w' := w177) (a' := ⟨#[B,.string (str kk),D,.int .i64 nn,q3,o,.pointer (some ⟨W.heap.size + 1, 0, none⟩),o,u8,.pointer (some ⟨gv, 0, none⟩),.int .i64 (m : Int),.pointer (some ⟨gv + 1, 0, none⟩),.pointer (some ⟨gv + 1 + 1, 0, none⟩),.bool false,.int .i64 (ks.length : Int),o,o,o,o,o,o,B,C,D,E,F,.string (str kk),C,G,.pointer (some ⟨gv, 0, none⟩),.int .i64 7,.bool false,o,U,q1,O,Z,q2,O,.bool false,.bool false,Z,q2,O,.bool false,.bool false,.int .i64 nn,Z,q2,O,J,.int .i64 (m : Int),.pointer (some ⟨gv + 1, 0, none⟩),.pointer (some ⟨gv + 1 + 1, 0, none⟩),.int .i64 (ks.length : Int),.pointer (some ⟨gv, 4, none⟩),.slice ak ks.length ck,.int .i64 (ks.length : Int),.bool false,q4,q5,q6,q8,q9,qa,qb,qc,qd,qe,qf,qg,qh,qi,qj,qk,ql,qm,qn,qp,qq,qr,qs,qt,qu,qv,qw,qx,qy,qz,r0,r1,r2,r3,r4,r5,r6,r7,r8,r9,ra,rb,rc,rd,re,rf,rg,rh,ri,rj,rk,rl,rm,rn,ro,rp,rq,rr,rt,ru,rv,rx,ry,rz,t5,t6,t7,t8,t9,ta,tb,tc,td,te,tf,tg,.bool false,.bool (!false),.pointer (some ⟨gv + 1 + 1, 4, none⟩),kA,.string (str kk),.slice (some ⟨g168, 0, none⟩) 1 1,.slice a182 (KA.length + 1) c183,.pointer (some ⟨gv + 1 + 1, 5, none⟩),lA,.agg (List.toArray ys),.slice (some ⟨g155, 0, none⟩) 1 1,o,o,o,o,o,o,o,o,o,o,o,o,o,o,o,o,o,o,o,o,o,o,o,o,o,o,o,o,o,o,o,o],[]⟩) rfl rfl (run_append hrun184 rfl rfl rfl) rfl ?_
            have hT180 := hT173.gK hM178 hG179
            have hE181 := hE174.trans (hT173.a.growK hG179)
            have hB185 := (hG179.blk hB176 (fun e => Nat.lt_irrefl _ (hN153 _ (.inr (.inl e))))).1
            have hS186 := s36 hT180.a.c4 hT180.a.c5 hE181 11 13
            refine ⟨(hS186 _), ?_⟩
            have hS187 := s36 hT180.a.c4 hT180.a.c5 hE181 11 13
            refine tk0 10 (.pointer (some ⟨gv + 1 + 1, 4, none⟩)) (⟨#[B,.string (str kk),D,.int .i64 nn,q3,o,.pointer (some ⟨W.heap.size + 1, 0, none⟩),o,u8,.pointer (some ⟨gv, 0, none⟩),.int .i64 (m : Int),.pointer (some ⟨gv + 1, 0, none⟩),.pointer (some ⟨gv + 1 + 1, 0, none⟩),.bool false,.int .i64 (ks.length : Int),o,o,o,o,o,o,B,C,D,E,F,.string (str kk),C,G,.pointer (some ⟨gv, 0, none⟩),.int .i64 7,.bool false,o,U,q1,O,Z,q2,O,.bool false,.bool false,Z,q2,O,.bool false,.bool false,.int .i64 nn,Z,q2,O,J,.int .i64 (m : Int),.pointer (some ⟨gv + 1, 0, none⟩),.pointer (some ⟨gv + 1 + 1, 0, none⟩),.int .i64 (ks.length : Int),.pointer (some ⟨gv, 4, none⟩),.slice ak ks.length ck,.int .i64 (ks.length : Int),.bool false,q4,q5,q6,q8,q9,qa,qb,qc,qd,qe,qf,qg,qh,qi,qj,qk,ql,qm,qn,qp,qq,qr,qs,qt,qu,qv,qw,qx,qy,qz,r0,r1,r2,r3,r4,r5,r6,r7,r8,r9,ra,rb,rc,rd,re,rf,rg,rh,ri,rj,rk,rl,rm,rn,ro,rp,rq,rr,rt,ru,rv,rx,ry,rz,t5,t6,t7,t8,t9,ta,tb,tc,td,te,tf,tg,.bool false,.bool (!false),.pointer (some ⟨gv + 1 + 1, 4, none⟩),kA,.string (str kk),.slice (some ⟨g168, 0, none⟩) 1 1,.slice a182 (KA.length + 1) c183,.pointer (some ⟨gv + 1 + 1, 5, none⟩),lA,.agg (List.toArray ys),.slice (some ⟨g155, 0, none⟩) 1 1,o,.pointer (some ⟨gv + 1 + 1, 4, none⟩),o,o,o,o,o,o,o,o,o,o,o,o,o,o,o,o,o,o,o,o,o,o,o,o,o,o,o,o,o,o],[]⟩) hSm (hSi 10 rfl) rfl (by kernel_rfl) (fun _ _ _ h => h) (hS187 _) (Tame.val rfl fun _ _ => by go_simp) rfl ?_
            refine wpAnyU_all (rs := [9]) (by kernel_rfl) (by decide) ?_
            intro w188 hm189 i hi
            obtain rfl : i = 9 := by simpa using hi
            have hT190 := hT180.below hm189
            have hE191 := hE181.trans (hm189.mono hE181.size)
            have hB192 := hB185.below hm189
            have hX201 := hxP.same (w' := w188) (fun b hb _ => hE191.block b hb)
            obtain ⟨a198, c199, w193, hrun200, hM194, hG195⟩ := hT190.a.appL (ty := 28) hX201 hB192 hnV
            refine wpOp_val (v := .slice a198 (VA.length + 1) c199) (w' := w193) (a' := ⟨#[B,.string (str kk),D,.int .i64 nn,q3,o,.pointer (some ⟨W.heap.size + 1, 0, none⟩),o,u8,.pointer (some ⟨gv, 0, none⟩),.int .i64 (m : Int),.pointer (some ⟨gv + 1, 0, none⟩),.pointer (some ⟨gv + 1 + 1, 0, none⟩),.bool false,.int .i64 (ks.length : Int),o,o,o,o,o,o,B,C,D,E,F,.string (str kk),C,G,.pointer (some ⟨gv, 0, none⟩),.int .i64 7,.bool false,o,U,q1,O,Z,q2,O,.bool false,.bool false,Z,q2,O,.bool false,.bool false,.int .i64 nn,Z,q2,O,J,.int .i64 (m : Int),.pointer (some ⟨gv + 1, 0, none⟩),.pointer (some ⟨gv + 1 + 1, 0, none⟩),.int .i64 (ks.length : Int),.pointer (some ⟨gv, 4, none⟩),.slice ak ks.length ck,.int .i64 (ks.length : Int),.bool false,q4,q5,q6,q8,q9,qa,qb,qc,qd,qe,qf,qg,qh,qi,qj,qk,ql,qm,qn,qp,qq,qr,qs,qt,qu,qv,qw,qx,qy,qz,r0,r1,r2,r3,r4,r5,r6,r7,r8,r9,ra,rb,rc,rd,re,rf,rg,rh,ri,rj,rk,rl,rm,rn,ro,rp,rq,rr,rt,ru,rv,rx,ry,rz,t5,t6,t7,t8,t9,ta,tb,tc,td,te,tf,tg,.bool false,.bool (!false),.pointer (some ⟨gv + 1 + 1, 4, none⟩),kA,.string (str kk),.slice (some ⟨g168, 0, none⟩) 1 1,.slice a182 (KA.length + 1) c183,.pointer (some ⟨gv + 1 + 1, 5, none⟩),lA,.agg (List.toArray ys),.slice (some ⟨g155, 0, none⟩) 1 1,.slice a198 (VA.length + 1) c199,.pointer (some ⟨gv + 1 + 1, 4, none⟩),o,o,o,o,o,o,o,o,o,o,o,o,o,o,o,o,o,o,o,o,o,o,o,o,o,o,o,o,o,o],[]⟩) rfl rfl (run_append hrun200 rfl rfl rfl) rfl ?_
            have hT196 := hT190.gL hM194 hG195
            have hE197 := hE191.trans (hT190.a.growL hG195)
            have hS202 := s36 hT196.a.c4 hT196.a.c5 hE197 11 13
            refine ⟨(hS202 _), ?_⟩
            refine wpAnyU_all (rs := [11]) (by kernel_rfl) (by decide) ?_
            intro w203 hm204 i hi
            obtain rfl : i = 11 := by simpa using hi
            have hT205 := hT196.below hm204
            have hE206 := hE197.trans (hm204.mono hE197.size)
            have hz207 := hT205.a.c4.cell
            have hf208 := hT205.a.blk.free 4
            refine wpOp_skip (w' := w203.setCell ⟨gv + 1 + 1, 4, none⟩ (.slice a182 (KA.length + 1) c183)) (a' := ⟨#[B,.string (str kk),D,.int .i64 nn,q3,o,.pointer (some ⟨W.heap.size + 1, 0, none⟩),o,u8,.pointer (some ⟨gv, 0, none⟩),.int .i64 (m : Int),.pointer (some ⟨gv + 1, 0, none⟩),.pointer (some ⟨gv + 1 + 1, 0, none⟩),.bool false,.int .i64 (ks.length : Int),o,o,o,o,o,o,B,C,D,E,F,.string (str kk),C,G,.pointer (some ⟨gv, 0, none⟩),.int .i64 7,.bool false,o,U,q1,O,Z,q2,O,.bool false,.bool false,Z,q2,O,.bool false,.bool false,.int .i64 nn,Z,q2,O,J,.int .i64 (m : Int),.pointer (some ⟨gv + 1, 0, none⟩),.pointer (some ⟨gv + 1 + 1, 0, none⟩),.int .i64 (ks.length : Int),.pointer (some ⟨gv, 4, none⟩),.slice ak ks.length ck,.int .i64 (ks.length : Int),.bool false,q4,q5,q6,q8,q9,qa,qb,qc,qd,qe,qf,qg,qh,qi,qj,qk,ql,qm,qn,qp,qq,qr,qs,qt,qu,qv,qw,qx,qy,qz,r0,r1,r2,r3,r4,r5,r6,r7,r8,r9,ra,rb,rc,rd,re,rf,rg,rh,ri,rj,rk,rl,rm,rn,ro,rp,rq,rr,rt,ru,rv,rx,ry,rz,t5,t6,t7,t8,t9,ta,tb,tc,td,te,tf,tg,.bool false,.bool (!false),.pointer (some ⟨gv + 1 + 1, 4, none⟩),kA,.string (str kk),.slice (some ⟨g168, 0, none⟩) 1 1,.slice a182 (KA.length + 1) c183,.pointer (some ⟨gv + 1 + 1, 5, none⟩),lA,.agg (List.toArray ys),.slice (some ⟨g155, 0, none⟩) 1 1,.slice a198 (VA.length + 1) c199,.pointer (some ⟨gv + 1 + 1, 4, none⟩),o,o,o,o,o,o,o,o,o,o,o,o,o,o,o,o,o,o,o,o,o,o,o,o,o,o,o,o,o,o],[]⟩) rfl rfl (by go_simp) rfl ?_
            have hT209 := hT205.sK
            have hE210 := hE206.trans (set_below21 (i := 4) (u := (.slice a182 (KA.length + 1) c183)) hT205.a.hq)
            generalize w203.setCell ⟨gv + 1 + 1, 4, none⟩ (.slice a182 (KA.length + 1) c183) = w211 at *
            refine ⟨⟨fun e => absurd e (by decide), fun _ => hT209.a.c5, hE210⟩, ?_⟩
            refine tk0 12 (.pointer (some ⟨gv + 1 + 1, 5, none⟩)) (⟨#[B,.string (str kk),D,.int .i64 nn,q3,o,.pointer (some ⟨W.heap.size + 1, 0, none⟩),o,u8,.pointer (some ⟨gv, 0, none⟩),.int .i64 (m : Int),.pointer (some ⟨gv + 1, 0, none⟩),.pointer (some ⟨gv + 1 + 1, 0, none⟩),.bool false,.int .i64 (ks.length : Int),o,o,o,o,o,o,B,C,D,E,F,.string (str kk),C,G,.pointer (some ⟨gv, 0, none⟩),.int .i64 7,.bool false,o,U,q1,O,Z,q2,O,.bool false,.bool false,Z,q2,O,.bool false,.bool false,.int .i64 nn,Z,q2,O,J,.int .i64 (m : Int),.pointer (some ⟨gv + 1, 0, none⟩),.pointer (some ⟨gv + 1 + 1, 0, none⟩),.int .i64 (ks.length : Int),.pointer (some ⟨gv, 4, none⟩),.slice ak ks.length ck,.int .i64 (ks.length : Int),.bool false,q4,q5,q6,q8,q9,qa,qb,qc,qd,qe,qf,qg,qh,qi,qj,qk,ql,qm,qn,qp,qq,qr,qs,qt,qu,qv,qw,qx,qy,qz,r0,r1,r2,r3,r4,r5,r6,r7,r8,r9,ra,rb,rc,rd,re,rf,rg,rh,ri,rj,rk,rl,rm,rn,ro,rp,rq,rr,rt,ru,rv,rx,ry,rz,t5,t6,t7,t8,t9,ta,tb,tc,td,te,tf,tg,.bool false,.bool (!false),.pointer (some ⟨gv + 1 + 1, 4, none⟩),kA,.string (str kk),.slice (some ⟨g168, 0, none⟩) 1 1,.slice a182 (KA.length + 1) c183,.pointer (some ⟨gv + 1 + 1, 5, none⟩),lA,.agg (List.toArray ys),.slice (some ⟨g155, 0, none⟩) 1 1,.slice a198 (VA.length + 1) c199,.pointer (some ⟨gv + 1 + 1, 4, none⟩),.pointer (some ⟨gv + 1 + 1, 5, none⟩),o,o,o,o,o,o,o,o,o,o,o,o,o,o,o,o,o,o,o,o,o,o,o,o,o,o,o,o,o],[]⟩) hSm (hSi 12 rfl) rfl (by kernel_rfl) (fun _ _ _ h => h) ⟨fun e => absurd e (by decide), fun _ => hT209.a.c5, hE210⟩ (Tame.val rfl fun _ _ => by go_simp) rfl ?_
            refine wpAnyU_all (rs := [13]) (by kernel_rfl) (by decide) ?_
            intro w214 hm215 i hi
            obtain rfl : i = 13 := by simpa using hi
            have hT216 := hT209.below hm215
            have hE217 := hE210.trans (hm215.mono hE210.size)
            have hz218 := hT216.a.c5.cell
            have hf219 := hT216.a.blk.free 5
            refine wpOp_skip (w' := w214.setCell ⟨gv + 1 + 1, 5, none⟩ (.slice a198 (VA.length + 1) c199)) (a' := ⟨#[B,.string (str kk),D,.int .i64 nn,q3,o,.pointer (some ⟨W.heap.size + 1, 0, none⟩),o,u8,.pointer (some ⟨gv, 0, none⟩),.int .i64 (m : Int),.pointer (some ⟨gv + 1, 0, none⟩),.pointer (some ⟨gv + 1 + 1, 0, none⟩),.bool false,.int .i64 (ks.length : Int),o,o,o,o,o,o,B,C,D,E,F,.string (str kk),C,G,.pointer (some ⟨gv, 0, none⟩),.int .i64 7,.bool false,o,U,q1,O,Z,q2,O,.bool false,.bool false,Z,q2,O,.bool false,.bool false,.int .i64 nn,Z,q2,O,J,.int .i64 (m : Int),.pointer (some ⟨gv + 1, 0, none⟩),.pointer (some ⟨gv + 1 + 1, 0, none⟩),.int .i64 (ks.length : Int),.pointer (some ⟨gv, 4, none⟩),.slice ak ks.length ck,.int .i64 (ks.length : Int),.bool false,q4,q5,q6,q8,q9,qa,qb,qc,qd,qe,qf,qg,qh,qi,qj,qk,ql,qm,qn,qp,qq,qr,qs,qt,qu,qv,qw,qx,qy,qz,r0,r1,r2,r3,r4,r5,r6,r7,r8,r9,ra,rb,rc,rd,re,rf,rg,rh,ri,rj,rk,rl,rm,rn,ro,rp,rq,rr,rt,ru,rv,rx,ry,rz,t5,t6,t7,t8,t9,ta,tb,tc,td,te,tf,tg,.bool false,.bool (!false),.pointer (some ⟨gv + 1 + 1, 4, none⟩),kA,.string (str kk),.slice (some ⟨g168, 0, none⟩) 1 1,.slice a182 (KA.length + 1) c183,.pointer (some ⟨gv + 1 + 1, 5, none⟩),lA,.agg (List.toArray ys),.slice (some ⟨g155, 0, none⟩) 1 1,.slice a198 (VA.length + 1) c199,.pointer (some ⟨gv + 1 + 1, 4, none⟩),.pointer (some ⟨gv + 1 + 1, 5, none⟩),o,o,o,o,o,o,o,o,o,o,o,o,o,o,o,o,o,o,o,o,o,o,o,o,o,o,o,o,o],[]⟩) rfl rfl (by go_simp) rfl ?_
            have hT220 := hT216.sL
            have hE221 := hE217.trans (set_below21 (i := 5) (u := (.slice a198 (VA.length + 1) c199)) hT216.a.hq)
            generalize w214.setCell ⟨gv + 1 + 1, 5, none⟩ (.slice a198 (VA.length + 1) c199) = w222 at *
            refine ⟨⟨fun e => absurd e (by decide), fun e => absurd e (by decide), hE221⟩, ?_⟩
            refine wpAnyU_done (by kernel_rfl) ?_ _
            intro w224 hm225
            have hTF := hT220.below hm225
            have hEF := hE221.trans (hm225.mono hE221.size)
            have hF := Lib.hid (hfin _ _ _ hTF hEF)
            clear hTF hEF
            go_wp2
            go_meet
            exact hF.out
          --END23
      case rest =>
        obtain ⟨kA, lA, kB, lB, KA, KB, VA, VB, hT, n1, n2, n3, n4, hkA, hkB, sA, sB, hbe⟩ := hcut
        have hsA : Sm (.mk 7 0 [] [] KA VA) := .mk (by simp) (by have := HKL.out; omega) (by have := HKL.out; omega) sA (by simp)
        have hsB : Sm (.mk 7 0 [] [] KB VB) := .mk (by simp) (by have := HKL.out; omega) (by have := HKL.out; omega) sB (by simp)
        have hoA := of_kk hkA (by have := HKL.out; omega)
        have hoB := of_kk hkB (by have := HKL.out; omega)
        have l1 := ldOp_all (P := Tryd.prog) (ty := 30) hT.a.blk Tryd.underlying30 rfl (by exact sizeV)
        have hc1 := iof_any hT.a.done hsA wc (Below.refl _ _)
        unfold OfP at hc1
        rw [hoA] at hc1
        simp only at hc1
        have hbeW := HBW.out.trans (hbe.mono HBW.out.size)
        clear hI hkA hkB sA sB n1 n2 n3 n4 hoA hsA hbe hbel c4
        go_wp2_with fail
        refine hc1.mono ?_
        rintro e w2 ⟨e1, rfl, hD1, hb2⟩
        have f7 : (List.toArray e1).size = 7 := by simpa using hD1.at.len
        have fo : OneC (List.toArray e1) := all_oneCell_toArray hD1.at.one
        have hbA : Below w2.heap.size w2 (w2.alloc (.cells (List.toArray e1) 24)) := (Below.refl _ _).alloc (Nat.le_refl _) _
        have hb3 := Gr.trans hb2 hbA
        have hT3 := hT.below hb3
        have hbW3 := hbeW.trans (hb3.mono hbeW.size)
        clear hc1 hD1 hb2 hbA hb3 hT l1 hbeW
        go_upto_region 25 with (fail)
        generalize w2.alloc (.cells (List.toArray e1) 24) = w3 at *
        have l2 := ldOp_all (P := Tryd.prog) (ty := 30) hT3.b.blk Tryd.underlying30 rfl (by exact sizeV)
        have hc2 := iof_any hT3.b.done hsB w3 (Below.refl _ _)
        unfold OfP at hc2
        rw [hoB] at hc2
        simp only at hc2
        clear hoB hsB
        go_wp2_with fail
        refine hc2.mono ?_
        rintro e w4 ⟨e2, rfl, hD2, hb4⟩
        have g7 : (List.toArray e2).size = 7 := by simpa using hD2.at.len
        have go : OneC (List.toArray e2) := all_oneCell_toArray hD2.at.one
        have hbA : Below w4.heap.size w4 (w4.alloc (.cells (List.toArray e2) 24)) := (Below.refl _ _).alloc (Nat.le_refl _) _
        have hb5 := Gr.trans hb4 hbA
        have hbW5 := hbW3.trans (hb5.mono hbW3.size)
        clear hc2 hD2 hb4 hbA hb5 hT3 l2 hbW3
        go_upto_region 26 with (fail)
        generalize w4.alloc (.cells (List.toArray e2) 24) = w5 at *
        go_wp2_with fail
        refine (of_any nn w5).mono ?_
        rintro e w6 ⟨rfl, hb6⟩
        have hbW6 := hbW5.trans (hb6.mono hbW5.size)
        have hoN : ofF (pNum nn) = (itZ, 4) := by
          unfold ofF
          rw [if_neg]
          rintro ⟨h7, _⟩
          exact absurd h7 (by show ¬ (3 : Int) = 7; decide)
        have hc3 := iof_any (VAt.numV (w := w6) hnn) (sm_plain 3 nn [] (by simp)) w6 (Below.refl _ _)
        unfold OfP at hc3
        rw [hoN] at hc3
        simp only at hc3
        clear hoN hb6 hbW5
        go_wp2_with fail
        refine hc3.mono ?_
        rintro e w7 ⟨e3, rfl, hD3, hb7⟩
        have q7 : (List.toArray e3).size = 7 := by simpa using hD3.at.len
        have qo : OneC (List.toArray e3) := all_oneCell_toArray hD3.at.one
        have hbA : Below w7.heap.size w7 (w7.alloc (.cells (List.toArray e3) 24)) := (Below.refl _ _).alloc (Nat.le_refl _) _
        have hb8 := Gr.trans hb7 hbA
        have hbW8 := hbW6.trans (hb8.mono hbW6.size)
        clear hc3 hD3 hb7 hbA hb8 hbW6
        go_upto_region 27 with (fail)
        generalize w7.alloc (.cells (List.toArray e3) 24) = w8 at *
        go_wp2_with fail
        refine (hlv _).mono ?_
        rintro e w9 ⟨rfl, hb9⟩
        go_wp2
        go_ret
        exact ⟨rfl, hbW8.trans (hb9.mono hbW8.size)⟩
    case pos =>
      have j1 : (j : Int) < (ks.length : Int) := by omega
      go_upto_if 63 with (fail)
      go_cut [] (fun wx => SJ W11 wx W11.heap.size (gv + 1) (gv + 1 + 1) K ks kk m (j + 1) j d)
      case first =>
        by_cases hm2 : j = m
        case pos =>
          have t3 : ((j : Int) != (m : Int)) = false := by rw [hm2]; simp
          have hF : Hid (SJ W11 wr W11.heap.size (gv + 1) (gv + 1 + 1) K ks kk m (j + 1) j d) := by
            obtain ⟨kA, lA, kB, lB, KA, KB, VA, VB, h⟩ := hI.out
            refine ⟨kA, lA, kB, lB, KA, KB, VA, VB, h.tm, ⟨h.la.1, ?_⟩, h.lb, h.ka, h.kb, h.ne, h.sa, h.sb, h.bel⟩
            have h1 := h.la.2
            rw [if_neg (by omega)] at h1
            rw [if_pos (by omega)]; omega
          clear hm2 hI
          go_wp2
          go_meet
          exact hF.out
        case neg =>
          have t3 : ((j : Int) != (m : Int)) = true := by rw [bne_iff_ne]; omega
          obtain ⟨kA, lA, kB, lB, KA, KB, VA, VB, hSI⟩ := hI.out
          have hT0 := hSI.tm.below (Below.drewN (Below.refl wr.heap.size wr) 1)
          have hE0 := Below.drewN hbel 1
          have hvj : j < vs.length := by have := HVK.out; omega
          have hcj : j < css.length := by have := HCS.out.1; omega
          have hxat := HSUB.out j css[j] vs[j] (by simp [hcj]) (by simp [hvj])
          have hxP := VAt.inP hxat
          have cx6 : (List.toArray css[j]).size = 6 := by simpa using hxat.len
          have hkl0 : ks[j].length ≤ maxLen := HKT.out _ (List.getElem_mem hlt)
          have hVc : ∀ w', Below W11.heap.size W11 w' → w'.cell? ⟨gv, 4, none⟩ = some (.slice ak ks.length ck) ∧ w'.cell? ⟨gv, 5, none⟩ = some (.slice al ks.length cl) ∧ w'.cell? ((hd ak).add j) = some (.string (str ks[j])) ∧ (ldOp 30 (.pointer (some ((hd al).add (j * 6))))).run Tryd.prog w' = .ok (.agg (List.toArray css[j])) w' := fun w' hb => by
            refine ⟨(HV.out.below hb).cell rfl, (HV.out.below hb).cell rfl, ?_, ?_⟩
            · exact (HKS.out.below hb).cell (i := j) (u := strV ks[j]) (by simp [hlt])
            · exact ldOp_at (P := Tryd.prog) (ty := 30) ((HLS.out.below hb).elem (s := 6) HCS.out.2 (i := j) (c := css[j]) (by simp [hcj])) Tryd.underlying30 rfl (by rw [hxat.len]; exact sizeV)
          have s5 := HKS.out.isSome (i := j) (by simpa using hlt)
          have s6 := HLS.out.elemSome (s := 6) HCS.out.2 (by decide) (i := j) hcj
          have hnK : KA.length ≤ 1000 := by have := hSI.la.2; have := HKL.out; omega
          have hnV : VA.length ≤ 1000 := by have := hSI.la.1; omega
          have hfin : ∀ (wx : World) (kA' lA' : Value), TM W11.heap.size (gv + 1) (gv + 1 + 1) wx kA' lA' kA' lA' (KA ++ [ks[j]]) (VA ++ [vs[j]]) kB lB kB lB KB VB → Below W11.heap.size W11 wx → SJ W11 wx W11.heap.size (gv + 1) (gv + 1 + 1) K ks kk m (j + 1) j d := fun wx kA' lA' hT hE => by
            have hkj : ks[j]? = some ks[j] := List.getElem?_eq_getElem hlt
            refine ⟨kA', lA', kB, lB, _, KB, _, VB, hT, ⟨by simp [hSI.la.1], ?_⟩, hSI.lb, hSI.ka.snoc hSI.la.1 (fun e => HKk.out j vs[j] (by rw [hkj, e]) (List.getElem?_eq_getElem hvj)), hSI.kb, hSI.ne, fun v hv => ?_, hSI.sb, hE⟩
            · have h1 := hSI.la.2
              rw [List.length_append, List.length_singleton]
              by_cases h2 : m < j
              · rw [if_pos h2] at h1; rw [if_pos (by omega)]; omega
              · rw [if_neg h2] at h1; rw [if_neg (by omega)]; omega
            · rcases List.mem_append.1 hv with hv | hv
              · exact hSI.sa v hv
              · simp at hv; subst hv; exact hSv.out _ (List.getElem_mem hvj)
          generalize ks[j] = k at *
          generalize vs[j] = xv at *
          generalize css[j] = cx at *
          clear hI hSI hxat hvj hcj hbel
          go_upto_region 15 with (fail)
          --REGION15
          generalize u59 = q4, u60 = q5, u64 = q6, u65 = q8, u66 = q9, u67 = qa, u68 = qb, u69 = qc, u70 = qd, u71 = qe, u72 = qf, u73 = qg, u74 = qh, u75 = qi, u76 = qj, u77 = qk, u78 = ql, u79 = qm, u80 = qn, u81 = qp, u82 = qq, u83 = qr, u84 = qs, u85 = qt, u86 = qu, u87 = qv, u88 = qw, u89 = qx, u90 = qy, u91 = qz, u92 = r0, u93 = r1, u94 = r2, u95 = r3, u96 = r4, u97 = r5, u98 = r6, u99 = r7, u100 = r8, u101 = r9, u102 = ra, u103 = rb, u104 = rc, u105 = rd, u106 = re, u107 = rf, u108 = rg, u109 = rh, u110 = ri, u111 = rj, u112 = rk, u113 = rl, u114 = rm, u115 = rn, u116 = ro, u117 = rp, u118 = rq, u119 = rr, u120 = rt, u121 = ru, u122 = rv, u123 = rx, u124 = ry, u125 = rz, u126 = t5, u127 = t6, u128 = t7, u129 = t8, u130 = t9, u131 = ta, u132 = tb, u133 = tc, u134 = td
          have hSm : ∀ (L : Array Bool) (w1 w2 : World), SS36 W11 (gv + 1) kA lA 19 21 L w1 → Mo w1 w2 → SS36 W11 (gv + 1) kA lA 19 21 L w2 := fun _ w1 w2 h hm => ⟨fun e => (h.1 e).below hm, fun e => (h.2.1 e).below hm, h.2.2.trans (hm.mono h.2.2.size)⟩
          have hSi : ∀ i, (i != 19 && i != 21) = true → ∀ (L : Array Bool) (w1 : World), SS36 W11 (gv + 1) kA lA 19 21 (L.setIfInBounds i true) w1 ↔ SS36 W11 (gv + 1) kA lA 19 21 L w1 := fun i h L w1 => by have h := (Bool.and_eq_true _ _).mp h; unfold SS36; rw [getD_set_ne false (by simpa using h.1), getD_set_ne false (by simpa using h.2)]
          have hS0 := s36 hT0.a.c4 hT0.a.c5 hE0 19 21
          refine wp_region_upN (S := fun L w1 => SS36 W11 (gv + 1) kA lA 19 21 L w1) 22 rfl (by kernel_rfl) ?_
          refine tk0 0 (.pointer (some ⟨gv + 1, 4, none⟩)) (⟨#[B,.string (str kk),D,.int .i64 nn,q3,o,.pointer (some ⟨W.heap.size + 1, 0, none⟩),o,u8,.pointer (some ⟨gv, 0, none⟩),.int .i64 (m : Int),.pointer (some ⟨gv + 1, 0, none⟩),.pointer (some ⟨gv + 1 + 1, 0, none⟩),.bool d,.int .i64 (j : Int),o,o,o,o,o,o,B,C,D,E,F,.string (str kk),C,G,.pointer (some ⟨gv, 0, none⟩),.int .i64 7,.bool false,o,U,q1,O,Z,q2,O,.bool false,.bool false,Z,q2,O,.bool false,.bool false,.int .i64 nn,Z,q2,O,J,.int .i64 (m : Int),.pointer (some ⟨gv + 1, 0, none⟩),.pointer (some ⟨gv + 1 + 1, 0, none⟩),.int .i64 (j : Int),.pointer (some ⟨gv, 4, none⟩),.slice ak ks.length ck,.int .i64 (ks.length : Int),.bool true,q4,q5,.int .i64 (j : Int),.int .i64 (m : Int),.bool ((j : Int) != (m : Int)),.pointer (some ⟨gv + 1, 4, none⟩),q8,q9,qa,qb,qc,qd,qe,qf,qg,qh,qi,qj,qk,ql,qm,qn,qp,qq,qr,qs,qt,qu,qv,qw,qx,qy,qz,r0,r1,r2,r3,r4,r5,r6,r7,r8,r9,ra,rb,rc,rd,re,rf,rg,rh,ri,rj,rk,rl,rm,rn,ro,rp,rq,rr,rt,ru,rv,rx,ry,rz,t5,t6,t7,t8,t9,ta,tb,tc,td,o,o,o,o,o,o,o,o,o,o,o,o,o,o,o,o,o,o,o,o,o,o,o,o,o,o,o,o,o,o,o,o,o,o,o,o,o,o,o,o,o,o,o],[]⟩) hSm (hSi 0 rfl) rfl (by kernel_rfl) (fun _ _ _ h => h) (hS0 _) (Tame.val rfl fun _ _ => by go_simp) rfl ?_
          refine tk2 1 19 (fun w1 => CL w1 (gv + 1) 4 kA) (kA) (⟨#[B,.string (str kk),D,.int .i64 nn,q3,o,.pointer (some ⟨W.heap.size + 1, 0, none⟩),o,u8,.pointer (some ⟨gv, 0, none⟩),.int .i64 (m : Int),.pointer (some ⟨gv + 1, 0, none⟩),.pointer (some ⟨gv + 1 + 1, 0, none⟩),.bool d,.int .i64 (j : Int),o,o,o,o,o,o,B,C,D,E,F,.string (str kk),C,G,.pointer (some ⟨gv, 0, none⟩),.int .i64 7,.bool false,o,U,q1,O,Z,q2,O,.bool false,.bool false,Z,q2,O,.bool false,.bool false,.int .i64 nn,Z,q2,O,J,.int .i64 (m : Int),.pointer (some ⟨gv + 1, 0, none⟩),.pointer (some ⟨gv + 1 + 1, 0, none⟩),.int .i64 (j : Int),.pointer (some ⟨gv, 4, none⟩),.slice ak ks.length ck,.int .i64 (ks.length : Int),.bool true,q4,q5,.int .i64 (j : Int),.int .i64 (m : Int),.bool ((j : Int) != (m : Int)),.pointer (some ⟨gv + 1, 4, none⟩),kA,q9,qa,qb,qc,qd,qe,qf,qg,qh,qi,qj,qk,ql,qm,qn,qp,qq,qr,qs,qt,qu,qv,qw,qx,qy,qz,r0,r1,r2,r3,r4,r5,r6,r7,r8,r9,ra,rb,rc,rd,re,rf,rg,rh,ri,rj,rk,rl,rm,rn,ro,rp,rq,rr,rt,ru,rv,rx,ry,rz,t5,t6,t7,t8,t9,ta,tb,tc,td,o,o,o,o,o,o,o,o,o,o,o,o,o,o,o,o,o,o,o,o,o,o,o,o,o,o,o,o,o,o,o,o,o,o,o,o,o,o,o,o,o,o,o],[]⟩) hSm (hSi 1 rfl) (fun _ _ h h2 => h.1 h2) rfl rfl (by kernel_rfl) (fun _ _ _ h => h) (hS0 _) (Tame.val rfl (fun w' hA => by have h1 := hA.cell; go_simp)) rfl ?_
          refine tk0 2 (.pointer (some ⟨gv, 4, none⟩)) (⟨#[B,.string (str kk),D,.int .i64 nn,q3,o,.pointer (some ⟨W.heap.size + 1, 0, none⟩),o,u8,.pointer (some ⟨gv, 0, none⟩),.int .i64 (m : Int),.pointer (some ⟨gv + 1, 0, none⟩),.pointer (some ⟨gv + 1 + 1, 0, none⟩),.bool d,.int .i64 (j : Int),o,o,o,o,o,o,B,C,D,E,F,.string (str kk),C,G,.pointer (some ⟨gv, 0, none⟩),.int .i64 7,.bool false,o,U,q1,O,Z,q2,O,.bool false,.bool false,Z,q2,O,.bool false,.bool false,.int .i64 nn,Z,q2,O,J,.int .i64 (m : Int),.pointer (some ⟨gv + 1, 0, none⟩),.pointer (some ⟨gv + 1 + 1, 0, none⟩),.int .i64 (j : Int),.pointer (some ⟨gv, 4, none⟩),.slice ak ks.length ck,.int .i64 (ks.length : Int),.bool true,q4,q5,.int .i64 (j : Int),.int .i64 (m : Int),.bool ((j : Int) != (m : Int)),.pointer (some ⟨gv + 1, 4, none⟩),kA,.pointer (some ⟨gv, 4, none⟩),qa,qb,qc,qd,qe,qf,qg,qh,qi,qj,qk,ql,qm,qn,qp,qq,qr,qs,qt,qu,qv,qw,qx,qy,qz,r0,r1,r2,r3,r4,r5,r6,r7,r8,r9,ra,rb,rc,rd,re,rf,rg,rh,ri,rj,rk,rl,rm,rn,ro,rp,rq,rr,rt,ru,rv,rx,ry,rz,t5,t6,t7,t8,t9,ta,tb,tc,td,o,o,o,o,o,o,o,o,o,o,o,o,o,o,o,o,o,o,o,o,o,o,o,o,o,o,o,o,o,o,o,o,o,o,o,o,o,o,o,o,o,o,o],[]⟩) hSm (hSi 2 rfl) rfl (by kernel_rfl) (fun _ _ _ h => h) (hS0 _) (Tame.val rfl fun _ _ => by go_simp) rfl ?_
          refine tk1 3 (fun w1 => Below W11.heap.size W11 w1) (.slice ak ks.length ck) (⟨#[B,.string (str kk),D,.int .i64 nn,q3,o,.pointer (some ⟨W.heap.size + 1, 0, none⟩),o,u8,.pointer (some ⟨gv, 0, none⟩),.int .i64 (m : Int),.pointer (some ⟨gv + 1, 0, none⟩),.pointer (some ⟨gv + 1 + 1, 0, none⟩),.bool d,.int .i64 (j : Int),o,o,o,o,o,o,B,C,D,E,F,.string (str kk),C,G,.pointer (some ⟨gv, 0, none⟩),.int .i64 7,.bool false,o,U,q1,O,Z,q2,O,.bool false,.bool false,Z,q2,O,.bool false,.bool false,.int .i64 nn,Z,q2,O,J,.int .i64 (m : Int),.pointer (some ⟨gv + 1, 0, none⟩),.pointer (some ⟨gv + 1 + 1, 0, none⟩),.int .i64 (j : Int),.pointer (some ⟨gv, 4, none⟩),.slice ak ks.length ck,.int .i64 (ks.length : Int),.bool true,q4,q5,.int .i64 (j : Int),.int .i64 (m : Int),.bool ((j : Int) != (m : Int)),.pointer (some ⟨gv + 1, 4, none⟩),kA,.pointer (some ⟨gv, 4, none⟩),.slice ak ks.length ck,qb,qc,qd,qe,qf,qg,qh,qi,qj,qk,ql,qm,qn,qp,qq,qr,qs,qt,qu,qv,qw,qx,qy,qz,r0,r1,r2,r3,r4,r5,r6,r7,r8,r9,ra,rb,rc,rd,re,rf,rg,rh,ri,rj,rk,rl,rm,rn,ro,rp,rq,rr,rt,ru,rv,rx,ry,rz,t5,t6,t7,t8,t9,ta,tb,tc,td,o,o,o,o,o,o,o,o,o,o,o,o,o,o,o,o,o,o,o,o,o,o,o,o,o,o,o,o,o,o,o,o,o,o,o,o,o,o,o,o,o,o,o],[]⟩) hSm (hSi 3 rfl) (fun _ _ h => h.2.2) rfl (by kernel_rfl) (fun _ _ _ h => h) (hS0 _) (Tame.val rfl (fun w' hA => by have h1 := (hVc w' hA).1; have h2 := (hVc w' hA).2.1; go_simp)) rfl ?_
          refine tk0 4 (.int .i64 (j : Int)) (⟨#[B,.string (str kk),D,.int .i64 nn,q3,o,.pointer (some ⟨W.heap.size + 1, 0, none⟩),o,u8,.pointer (some ⟨gv, 0, none⟩),.int .i64 (m : Int),.pointer (some ⟨gv + 1, 0, none⟩),.pointer (some ⟨gv + 1 + 1, 0, none⟩),.bool d,.int .i64 (j : Int),o,o,o,o,o,o,B,C,D,E,F,.string (str kk),C,G,.pointer (some ⟨gv, 0, none⟩),.int .i64 7,.bool false,o,U,q1,O,Z,q2,O,.bool false,.bool false,Z,q2,O,.bool false,.bool false,.int .i64 nn,Z,q2,O,J,.int .i64 (m : Int),.pointer (some ⟨gv + 1, 0, none⟩),.pointer (some ⟨gv + 1 + 1, 0, none⟩),.int .i64 (j : Int),.pointer (some ⟨gv, 4, none⟩),.slice ak ks.length ck,.int .i64 (ks.length : Int),.bool true,q4,q5,.int .i64 (j : Int),.int .i64 (m : Int),.bool ((j : Int) != (m : Int)),.pointer (some ⟨gv + 1, 4, none⟩),kA,.pointer (some ⟨gv, 4, none⟩),.slice ak ks.length ck,.int .i64 (j : Int),qc,qd,qe,qf,qg,qh,qi,qj,qk,ql,qm,qn,qp,qq,qr,qs,qt,qu,qv,qw,qx,qy,qz,r0,r1,r2,r3,r4,r5,r6,r7,r8,r9,ra,rb,rc,rd,re,rf,rg,rh,ri,rj,rk,rl,rm,rn,ro,rp,rq,rr,rt,ru,rv,rx,ry,rz,t5,t6,t7,t8,t9,ta,tb,tc,td,o,o,o,o,o,o,o,o,o,o,o,o,o,o,o,o,o,o,o,o,o,o,o,o,o,o,o,o,o,o,o,o,o,o,o,o,o,o,o,o,o,o,o],[]⟩) hSm (hSi 4 rfl) rfl (by kernel_rfl) (fun _ _ _ h => h) (hS0 _) (Tame.val rfl fun _ _ => by go_simp) rfl ?_
          refine tk0 5 (.pointer (some ((hd ak).add j))) (⟨#[B,.string (str kk),D,.int .i64 nn,q3,o,.pointer (some ⟨W.heap.size + 1, 0, none⟩),o,u8,.pointer (some ⟨gv, 0, none⟩),.int .i64 (m : Int),.pointer (some ⟨gv + 1, 0, none⟩),.pointer (some ⟨gv + 1 + 1, 0, none⟩),.bool d,.int .i64 (j : Int),o,o,o,o,o,o,B,C,D,E,F,.string (str kk),C,G,.pointer (some ⟨gv, 0, none⟩),.int .i64 7,.bool false,o,U,q1,O,Z,q2,O,.bool false,.bool false,Z,q2,O,.bool false,.bool false,.int .i64 nn,Z,q2,O,J,.int .i64 (m : Int),.pointer (some ⟨gv + 1, 0, none⟩),.pointer (some ⟨gv + 1 + 1, 0, none⟩),.int .i64 (j : Int),.pointer (some ⟨gv, 4, none⟩),.slice ak ks.length ck,.int .i64 (ks.length : Int),.bool true,q4,q5,.int .i64 (j : Int),.int .i64 (m : Int),.bool ((j : Int) != (m : Int)),.pointer (some ⟨gv + 1, 4, none⟩),kA,.pointer (some ⟨gv, 4, none⟩),.slice ak ks.length ck,.int .i64 (j : Int),.pointer (some ((hd ak).add j)),qd,qe,qf,qg,qh,qi,qj,qk,ql,qm,qn,qp,qq,qr,qs,qt,qu,qv,qw,qx,qy,qz,r0,r1,r2,r3,r4,r5,r6,r7,r8,r9,ra,rb,rc,rd,re,rf,rg,rh,ri,rj,rk,rl,rm,rn,ro,rp,rq,rr,rt,ru,rv,rx,ry,rz,t5,t6,t7,t8,t9,ta,tb,tc,td,o,o,o,o,o,o,o,o,o,o,o,o,o,o,o,o,o,o,o,o,o,o,o,o,o,o,o,o,o,o,o,o,o,o,o,o,o,o,o,o,o,o,o],[]⟩) hSm (hSi 5 rfl) rfl (by kernel_rfl) (fun _ _ _ h => h) (hS0 _) (Tame.val rfl fun _ _ => by go_simp) rfl ?_
          refine tk1 6 (fun w1 => Below W11.heap.size W11 w1) (.string (str k)) (⟨#[B,.string (str kk),D,.int .i64 nn,q3,o,.pointer (some ⟨W.heap.size + 1, 0, none⟩),o,u8,.pointer (some ⟨gv, 0, none⟩),.int .i64 (m : Int),.pointer (some ⟨gv + 1, 0, none⟩),.pointer (some ⟨gv + 1 + 1, 0, none⟩),.bool d,.int .i64 (j : Int),o,o,o,o,o,o,B,C,D,E,F,.string (str kk),C,G,.pointer (some ⟨gv, 0, none⟩),.int .i64 7,.bool false,o,U,q1,O,Z,q2,O,.bool false,.bool false,Z,q2,O,.bool false,.bool false,.int .i64 nn,Z,q2,O,J,.int .i64 (m : Int),.pointer (some ⟨gv + 1, 0, none⟩),.pointer (some ⟨gv + 1 + 1, 0, none⟩),.int .i64 (j : Int),.pointer (some ⟨gv, 4, none⟩),.slice ak ks.length ck,.int .i64 (ks.length : Int),.bool true,q4,q5,.int .i64 (j : Int),.int .i64 (m : Int),.bool ((j : Int) != (m : Int)),.pointer (some ⟨gv + 1, 4, none⟩),kA,.pointer (some ⟨gv, 4, none⟩),.slice ak ks.length ck,.int .i64 (j : Int),.pointer (some ((hd ak).add j)),.string (str k),qe,qf,qg,qh,qi,qj,qk,ql,qm,qn,qp,qq,qr,qs,qt,qu,qv,qw,qx,qy,qz,r0,r1,r2,r3,r4,r5,r6,r7,r8,r9,ra,rb,rc,rd,re,rf,rg,rh,ri,rj,rk,rl,rm,rn,ro,rp,rq,rr,rt,ru,rv,rx,ry,rz,t5,t6,t7,t8,t9,ta,tb,tc,td,o,o,o,o,o,o,o,o,o,o,o,o,o,o,o,o,o,o,o,o,o,o,o,o,o,o,o,o,o,o,o,o,o,o,o,o,o,o,o,o,o,o,o],[]⟩) hSm (hSi 6 rfl) (fun _ _ h => h.2.2) rfl (by kernel_rfl) (fun _ _ _ h => h) (hS0 _) (Tame.val rfl (fun w' hA => by have h1 := (hVc w' hA).2.2.1; go_simp)) rfl ?_
          refine tk0 9 (.pointer (some ⟨gv + 1, 5, none⟩)) (⟨#[B,.string (str kk),D,.int .i64 nn,q3,o,.pointer (some ⟨W.heap.size + 1, 0, none⟩),o,u8,.pointer (some ⟨gv, 0, none⟩),.int .i64 (m : Int),.pointer (some ⟨gv + 1, 0, none⟩),.pointer (some ⟨gv + 1 + 1, 0, none⟩),.bool d,.int .i64 (j : Int),o,o,o,o,o,o,B,C,D,E,F,.string (str kk),C,G,.pointer (some ⟨gv, 0, none⟩),.int .i64 7,.bool false,o,U,q1,O,Z,q2,O,.bool false,.bool false,Z,q2,O,.bool false,.bool false,.int .i64 nn,Z,q2,O,J,.int .i64 (m : Int),.pointer (some ⟨gv + 1, 0, none⟩),.pointer (some ⟨gv + 1 + 1, 0, none⟩),.int .i64 (j : Int),.pointer (some ⟨gv, 4, none⟩),.slice ak ks.length ck,.int .i64 (ks.length : Int),.bool true,q4,q5,.int .i64 (j : Int),.int .i64 (m : Int),.bool ((j : Int) != (m : Int)),.pointer (some ⟨gv + 1, 4, none⟩),kA,.pointer (some ⟨gv, 4, none⟩),.slice ak ks.length ck,.int .i64 (j : Int),.pointer (some ((hd ak).add j)),.string (str k),qe,qf,.pointer (some ⟨gv + 1, 5, none⟩),qh,qi,qj,qk,ql,qm,qn,qp,qq,qr,qs,qt,qu,qv,qw,qx,qy,qz,r0,r1,r2,r3,r4,r5,r6,r7,r8,r9,ra,rb,rc,rd,re,rf,rg,rh,ri,rj,rk,rl,rm,rn,ro,rp,rq,rr,rt,ru,rv,rx,ry,rz,t5,t6,t7,t8,t9,ta,tb,tc,td,o,o,o,o,o,o,o,o,o,o,o,o,o,o,o,o,o,o,o,o,o,o,o,o,o,o,o,o,o,o,o,o,o,o,o,o,o,o,o,o,o,o,o],[]⟩) hSm (hSi 9 rfl) rfl (by kernel_rfl) (fun _ _ _ h => h) (hS0 _) (Tame.val rfl fun _ _ => by go_simp) rfl ?_
          refine tk2 10 21 (fun w1 => CL w1 (gv + 1) 5 lA) (lA) (⟨#[B,.string (str kk),D,.int .i64 nn,q3,o,.pointer (some ⟨W.heap.size + 1, 0, none⟩),o,u8,.pointer (some ⟨gv, 0, none⟩),.int .i64 (m : Int),.pointer (some ⟨gv + 1, 0, none⟩),.pointer (some ⟨gv + 1 + 1, 0, none⟩),.bool d,.int .i64 (j : Int),o,o,o,o,o,o,B,C,D,E,F,.string (str kk),C,G,.pointer (some ⟨gv, 0, none⟩),.int .i64 7,.bool false,o,U,q1,O,Z,q2,O,.bool false,.bool false,Z,q2,O,.bool false,.bool false,.int .i64 nn,Z,q2,O,J,.int .i64 (m : Int),.pointer (some ⟨gv + 1, 0, none⟩),.pointer (some ⟨gv + 1 + 1, 0, none⟩),.int .i64 (j : Int),.pointer (some ⟨gv, 4, none⟩),.slice ak ks.length ck,.int .i64 (ks.length : Int),.bool true,q4,q5,.int .i64 (j : Int),.int .i64 (m : Int),.bool ((j : Int) != (m : Int)),.pointer (some ⟨gv + 1, 4, none⟩),kA,.pointer (some ⟨gv, 4, none⟩),.slice ak ks.length ck,.int .i64 (j : Int),.pointer (some ((hd ak).add j)),.string (str k),qe,qf,.pointer (some ⟨gv + 1, 5, none⟩),lA,qi,qj,qk,ql,qm,qn,qp,qq,qr,qs,qt,qu,qv,qw,qx,qy,qz,r0,r1,r2,r3,r4,r5,r6,r7,r8,r9,ra,rb,rc,rd,re,rf,rg,rh,ri,rj,rk,rl,rm,rn,ro,rp,rq,rr,rt,ru,rv,rx,ry,rz,t5,t6,t7,t8,t9,ta,tb,tc,td,o,o,o,o,o,o,o,o,o,o,o,o,o,o,o,o,o,o,o,o,o,o,o,o,o,o,o,o,o,o,o,o,o,o,o,o,o,o,o,o,o,o,o],[]⟩) hSm (hSi 10 rfl) (fun _ _ h h2 => h.2.1 h2) rfl rfl (by kernel_rfl) (fun _ _ _ h => h) (hS0 _) (Tame.val rfl (fun w' hA => by have h1 := hA.cell; go_simp)) rfl ?_
          refine tk0 11 (.pointer (some ⟨gv, 5, none⟩)) (⟨#[B,.string (str kk),D,.int .i64 nn,q3,o,.pointer (some ⟨W.heap.size + 1, 0, none⟩),o,u8,.pointer (some ⟨gv, 0, none⟩),.int .i64 (m : Int),.pointer (some ⟨gv + 1, 0, none⟩),.pointer (some ⟨gv + 1 + 1, 0, none⟩),.bool d,.int .i64 (j : Int),o,o,o,o,o,o,B,C,D,E,F,.string (str kk),C,G,.pointer (some ⟨gv, 0, none⟩),.int .i64 7,.bool false,o,U,q1,O,Z,q2,O,.bool false,.bool false,Z,q2,O,.bool false,.bool false,.int .i64 nn,Z,q2,O,J,.int .i64 (m : Int),.pointer (some ⟨gv + 1, 0, none⟩),.pointer (some ⟨gv + 1 + 1, 0, none⟩),.int .i64 (j : Int),.pointer (some ⟨gv, 4, none⟩),.slice ak ks.length ck,.int .i64 (ks.length : Int),.bool true,q4,q5,.int .i64 (j : Int),.int .i64 (m : Int),.bool ((j : Int) != (m : Int)),.pointer (some ⟨gv + 1, 4, none⟩),kA,.pointer (some ⟨gv, 4, none⟩),.slice ak ks.length ck,.int .i64 (j : Int),.pointer (some ((hd ak).add j)),.string (str k),qe,qf,.pointer (some ⟨gv + 1, 5, none⟩),lA,.pointer (some ⟨gv, 5, none⟩),qj,qk,ql,qm,qn,qp,qq,qr,qs,qt,qu,qv,qw,qx,qy,qz,r0,r1,r2,r3,r4,r5,r6,r7,r8,r9,ra,rb,rc,rd,re,rf,rg,rh,ri,rj,rk,rl,rm,rn,ro,rp,rq,rr,rt,ru,rv,rx,ry,rz,t5,t6,t7,t8,t9,ta,tb,tc,td,o,o,o,o,o,o,o,o,o,o,o,o,o,o,o,o,o,o,o,o,o,o,o,o,o,o,o,o,o,o,o,o,o,o,o,o,o,o,o,o,o,o,o],[]⟩) hSm (hSi 11 rfl) rfl (by kernel_rfl) (fun _ _ _ h => h) (hS0 _) (Tame.val rfl fun _ _ => by go_simp) rfl ?_
          refine tk1 12 (fun w1 => Below W11.heap.size W11 w1) (.slice al ks.length cl) (⟨#[B,.string (str kk),D,.int .i64 nn,q3,o,.pointer (some ⟨W.heap.size + 1, 0, none⟩),o,u8,.pointer (some ⟨gv, 0, none⟩),.int .i64 (m : Int),.pointer (some ⟨gv + 1, 0, none⟩),.pointer (some ⟨gv + 1 + 1, 0, none⟩),.bool d,.int .i64 (j : Int),o,o,o,o,o,o,B,C,D,E,F,.string (str kk),C,G,.pointer (some ⟨gv, 0, none⟩),.int .i64 7,.bool false,o,U,q1,O,Z,q2,O,.bool false,.bool false,Z,q2,O,.bool false,.bool false,.int .i64 nn,Z,q2,O,J,.int .i64 (m : Int),.pointer (some ⟨gv + 1, 0, none⟩),.pointer (some ⟨gv + 1 + 1, 0, none⟩),.int .i64 (j : Int),.pointer (some ⟨gv, 4, none⟩),.slice ak ks.length ck,.int .i64 (ks.length : Int),.bool true,q4,q5,.int .i64 (j : Int),.int .i64 (m : Int),.bool ((j : Int) != (m : Int)),.pointer (some ⟨gv + 1, 4, none⟩),kA,.pointer (some ⟨gv, 4, none⟩),.slice ak ks.length ck,.int .i64 (j : Int),.pointer (some ((hd ak).add j)),.string (str k),qe,qf,.pointer (some ⟨gv + 1, 5, none⟩),lA,.pointer (some ⟨gv, 5, none⟩),.slice al ks.length cl,qk,ql,qm,qn,qp,qq,qr,qs,qt,qu,qv,qw,qx,qy,qz,r0,r1,r2,r3,r4,r5,r6,r7,r8,r9,ra,rb,rc,rd,re,rf,rg,rh,ri,rj,rk,rl,rm,rn,ro,rp,rq,rr,rt,ru,rv,rx,ry,rz,t5,t6,t7,t8,t9,ta,tb,tc,td,o,o,o,o,o,o,o,o,o,o,o,o,o,o,o,o,o,o,o,o,o,o,o,o,o,o,o,o,o,o,o,o,o,o,o,o,o,o,o,o,o,o,o],[]⟩) hSm (hSi 12 rfl) (fun _ _ h => h.2.2) rfl (by kernel_rfl) (fun _ _ _ h => h) (hS0 _) (Tame.val rfl (fun w' hA => by have h1 := (hVc w' hA).1; have h2 := (hVc w' hA).2.1; go_simp)) rfl ?_
          refine tk0 13 (.int .i64 (j : Int)) (⟨#[B,.string (str kk),D,.int .i64 nn,q3,o,.pointer (some ⟨W.heap.size + 1, 0, none⟩),o,u8,.pointer (some ⟨gv, 0, none⟩),.int .i64 (m : Int),.pointer (some ⟨gv + 1, 0, none⟩),.pointer (some ⟨gv + 1 + 1, 0, none⟩),.bool d,.int .i64 (j : Int),o,o,o,o,o,o,B,C,D,E,F,.string (str kk),C,G,.pointer (some ⟨gv, 0, none⟩),.int .i64 7,.bool false,o,U,q1,O,Z,q2,O,.bool false,.bool false,Z,q2,O,.bool false,.bool false,.int .i64 nn,Z,q2,O,J,.int .i64 (m : Int),.pointer (some ⟨gv + 1, 0, none⟩),.pointer (some ⟨gv + 1 + 1, 0, none⟩),.int .i64 (j : Int),.pointer (some ⟨gv, 4, none⟩),.slice ak ks.length ck,.int .i64 (ks.length : Int),.bool true,q4,q5,.int .i64 (j : Int),.int .i64 (m : Int),.bool ((j : Int) != (m : Int)),.pointer (some ⟨gv + 1, 4, none⟩),kA,.pointer (some ⟨gv, 4, none⟩),.slice ak ks.length ck,.int .i64 (j : Int),.pointer (some ((hd ak).add j)),.string (str k),qe,qf,.pointer (some ⟨gv + 1, 5, none⟩),lA,.pointer (some ⟨gv, 5, none⟩),.slice al ks.length cl,.int .i64 (j : Int),ql,qm,qn,qp,qq,qr,qs,qt,qu,qv,qw,qx,qy,qz,r0,r1,r2,r3,r4,r5,r6,r7,r8,r9,ra,rb,rc,rd,re,rf,rg,rh,ri,rj,rk,rl,rm,rn,ro,rp,rq,rr,rt,ru,rv,rx,ry,rz,t5,t6,t7,t8,t9,ta,tb,tc,td,o,o,o,o,o,o,o,o,o,o,o,o,o,o,o,o,o,o,o,o,o,o,o,o,o,o,o,o,o,o,o,o,o,o,o,o,o,o,o,o,o,o,o],[]⟩) hSm (hSi 13 rfl) rfl (by kernel_rfl) (fun _ _ _ h => h) (hS0 _) (Tame.val rfl fun _ _ => by go_simp) rfl ?_
          refine tk0 14 (.pointer (some ((hd al).add (j * 6)))) (⟨#[B,.string (str kk),D,.int .i64 nn,q3,o,.pointer (some ⟨W.heap.size + 1, 0, none⟩),o,u8,.pointer (some ⟨gv, 0, none⟩),.int .i64 (m : Int),.pointer (some ⟨gv + 1, 0, none⟩),.pointer (some ⟨gv + 1 + 1, 0, none⟩),.bool d,.int .i64 (j : Int),o,o,o,o,o,o,B,C,D,E,F,.string (str kk),C,G,.pointer (some ⟨gv, 0, none⟩),.int .i64 7,.bool false,o,U,q1,O,Z,q2,O,.bool false,.bool false,Z,q2,O,.bool false,.bool false,.int .i64 nn,Z,q2,O,J,.int .i64 (m : Int),.pointer (some ⟨gv + 1, 0, none⟩),.pointer (some ⟨gv + 1 + 1, 0, none⟩),.int .i64 (j : Int),.pointer (some ⟨gv, 4, none⟩),.slice ak ks.length ck,.int .i64 (ks.length : Int),.bool true,q4,q5,.int .i64 (j : Int),.int .i64 (m : Int),.bool ((j : Int) != (m : Int)),.pointer (some ⟨gv + 1, 4, none⟩),kA,.pointer (some ⟨gv, 4, none⟩),.slice ak ks.length ck,.int .i64 (j : Int),.pointer (some ((hd ak).add j)),.string (str k),qe,qf,.pointer (some ⟨gv + 1, 5, none⟩),lA,.pointer (some ⟨gv, 5, none⟩),.slice al ks.length cl,.int .i64 (j : Int),.pointer (some ((hd al).add (j * 6))),qm,qn,qp,qq,qr,qs,qt,qu,qv,qw,qx,qy,qz,r0,r1,r2,r3,r4,r5,r6,r7,r8,r9,ra,rb,rc,rd,re,rf,rg,rh,ri,rj,rk,rl,rm,rn,ro,rp,rq,rr,rt,ru,rv,rx,ry,rz,t5,t6,t7,t8,t9,ta,tb,tc,td,o,o,o,o,o,o,o,o,o,o,o,o,o,o,o,o,o,o,o,o,o,o,o,o,o,o,o,o,o,o,o,o,o,o,o,o,o,o,o,o,o,o,o],[]⟩) hSm (hSi 14 rfl) rfl (by kernel_rfl) (fun _ _ _ h => h) (hS0 _) (Tame.val rfl fun _ _ => by go_simp) rfl ?_
          refine tk1 15 (fun w1 => Below W11.heap.size W11 w1) (.agg (List.toArray cx)) (⟨#[B,.string (str kk),D,.int .i64 nn,q3,o,.pointer (some ⟨W.heap.size + 1, 0, none⟩),o,u8,.pointer (some ⟨gv, 0, none⟩),.int .i64 (m : Int),.pointer (some ⟨gv + 1, 0, none⟩),.pointer (some ⟨gv + 1 + 1, 0, none⟩),.bool d,.int .i64 (j : Int),o,o,o,o,o,o,B,C,D,E,F,.string (str kk),C,G,.pointer (some ⟨gv, 0, none⟩),.int .i64 7,.bool false,o,U,q1,O,Z,q2,O,.bool false,.bool false,Z,q2,O,.bool false,.bool false,.int .i64 nn,Z,q2,O,J,.int .i64 (m : Int),.pointer (some ⟨gv + 1, 0, none⟩),.pointer (some ⟨gv + 1 + 1, 0, none⟩),.int .i64 (j : Int),.pointer (some ⟨gv, 4, none⟩),.slice ak ks.length ck,.int .i64 (ks.length : Int),.bool true,q4,q5,.int .i64 (j : Int),.int .i64 (m : Int),.bool ((j : Int) != (m : Int)),.pointer (some ⟨gv + 1, 4, none⟩),kA,.pointer (some ⟨gv, 4, none⟩),.slice ak ks.length ck,.int .i64 (j : Int),.pointer (some ((hd ak).add j)),.string (str k),qe,qf,.pointer (some ⟨gv + 1, 5, none⟩),lA,.pointer (some ⟨gv, 5, none⟩),.slice al ks.length cl,.int .i64 (j : Int),.pointer (some ((hd al).add (j * 6))),.agg (List.toArray cx),qn,qp,qq,qr,qs,qt,qu,qv,qw,qx,qy,qz,r0,r1,r2,r3,r4,r5,r6,r7,r8,r9,ra,rb,rc,rd,re,rf,rg,rh,ri,rj,rk,rl,rm,rn,ro,rp,rq,rr,rt,ru,rv,rx,ry,rz,t5,t6,t7,t8,t9,ta,tb,tc,td,o,o,o,o,o,o,o,o,o,o,o,o,o,o,o,o,o,o,o,o,o,o,o,o,o,o,o,o,o,o,o,o,o,o,o,o,o,o,o,o,o,o,o],[]⟩) hSm (hSi 15 rfl) (fun _ _ h => h.2.2) rfl (by kernel_rfl) (fun _ _ _ h => h) (hS0 _) (Tame.val rfl (fun w' hA => run_ldOp (hVc w' hA).2.2.2)) rfl ?_
          refine wpAnyU_all (rs := [7, 16]) (by kernel_rfl) (by decide) ?_
          intro w1 hm2 i hi3
          have hi3 : i = 7 ∨ i = 16 := by simpa using hi3
          rcases hi3 with rfl | rfl
          · have hT4 := hT0.below hm2
            have hE5 := hE0.trans (hm2.mono hE0.size)
            refine wpOp_val (v := .slice (some ⟨w1.heap.size, 0, none⟩) 1 1) (w' := w1.alloc (.cells #[.string (str k)] 9)) (a' := ⟨#[B,.string (str kk),D,.int .i64 nn,q3,o,.pointer (some ⟨W.heap.size + 1, 0, none⟩),o,u8,.pointer (some ⟨gv, 0, none⟩),.int .i64 (m : Int),.pointer (some ⟨gv + 1, 0, none⟩),.pointer (some ⟨gv + 1 + 1, 0, none⟩),.bool d,.int .i64 (j : Int),o,o,o,o,o,o,B,C,D,E,F,.string (str kk),C,G,.pointer (some ⟨gv, 0, none⟩),.int .i64 7,.bool false,o,U,q1,O,Z,q2,O,.bool false,.bool false,Z,q2,O,.bool false,.bool false,.int .i64 nn,Z,q2,O,J,.int .i64 (m : Int),.pointer (some ⟨gv + 1, 0, none⟩),.pointer (some ⟨gv + 1 + 1, 0, none⟩),.int .i64 (j : Int),.pointer (some ⟨gv, 4, none⟩),.slice ak ks.length ck,.int .i64 (ks.length : Int),.bool true,q4,q5,.int .i64 (j : Int),.int .i64 (m : Int),.bool ((j : Int) != (m : Int)),.pointer (some ⟨gv + 1, 4, none⟩),kA,.pointer (some ⟨gv, 4, none⟩),.slice ak ks.length ck,.int .i64 (j : Int),.pointer (some ((hd ak).add j)),.string (str k),.slice (some ⟨w1.heap.size, 0, none⟩) 1 1,qf,.pointer (some ⟨gv + 1, 5, none⟩),lA,.pointer (some ⟨gv, 5, none⟩),.slice al ks.length cl,.int .i64 (j : Int),.pointer (some ((hd al).add (j * 6))),.agg (List.toArray cx),qn,qp,qq,qr,qs,qt,qu,qv,qw,qx,qy,qz,r0,r1,r2,r3,r4,r5,r6,r7,r8,r9,ra,rb,rc,rd,re,rf,rg,rh,ri,rj,rk,rl,rm,rn,ro,rp,rq,rr,rt,ru,rv,rx,ry,rz,t5,t6,t7,t8,t9,ta,tb,tc,td,o,o,o,o,o,o,o,o,o,o,o,o,o,o,o,o,o,o,o,o,o,o,o,o,o,o,o,o,o,o,o,o,o,o,o,o,o,o,o,o,o,o,o],[]⟩) rfl rfl (run_bsOp (vals := #[(0, .string (str k))]) (by first | rfl | go_simp | simp [Act.eval]) (bsOp_text Tryd.underlying27 infoStr2 (by decide))) rfl ?_
            have hm6 : Mo w1 (w1.alloc (.cells #[.string (str k)] 9)) := (Below.refl _ _).alloc (Nat.le_refl _) _
            have hB7 : Blk (w1.alloc (.cells #[.string (str k)] 9)) w1.heap.size 9 [strV k] := Blk.new _ _ _
            have hT8 := hT4.below hm6
            have hE9 := hE5.trans (hm6.mono hE5.size)
            have hN10 : ∀ b, Ob (gv + 1) kA lA b → b < w1.heap.size := fun b hb => (hT4.a.olt b hb).2
            generalize w1.alloc (.cells #[.string (str k)] 9) = w11 at *
            generalize w1.heap.size = g12 at *
            have hS13 := s36 hT8.a.c4 hT8.a.c5 hE9 19 21
            refine ⟨(hS13 _), ?_⟩
            refine wpAnyU_all (rs := [8, 16]) (by kernel_rfl) (by decide) ?_
            intro w14 hm15 i hi16
            have hi16 : i = 8 ∨ i = 16 := by simpa using hi16
            rcases hi16 with rfl | rfl
            · have hT17 := hT8.below hm15
              have hE18 := hE9.trans (hm15.mono hE9.size)
              have hB19 := hB7.below hm15
              obtain ⟨a25, c26, w20, hrun27, hM21, hG22⟩ := hT17.a.appK (ty := 27) hkl0 hB19 hnK
              refine wpOp_val (v := .slice a25 (KA.length + 1) c26) (w' := w20) (a' := ⟨#[B,.string (str kk),D,.int .i64 nn,q3,o,.pointer (some ⟨W.heap.size + 1, 0, none⟩),o,u8,.pointer (some ⟨gv, 0, none⟩),.int .i64 (m : Int),.pointer (some ⟨gv + 1, 0, none⟩),.pointer (some ⟨gv + 1 + 1, 0, none⟩),.bool d,.int .i64 (j : Int),o,o,o,o,o,o,B,C,D,E,F,.string (str kk),C,G,.pointer (some ⟨gv, 0, none⟩),.int .i64 7,.bool false,o,U,q1,O,Z,q2,O,.bool false,.bool false,Z,q2,O,.bool false,.bool false,.int .i64 nn,Z,q2,O,J,.int .i64 (m : Int),.pointer (some ⟨gv + 1, 0, none⟩),.pointer (some ⟨gv + 1 + 1, 0, none⟩),.int .i64 (j : Int),.pointer (some ⟨gv, 4, none⟩),.slice ak ks.length ck,.int .i64 (ks.length : Int),.bool true,q4,q5,.int .i64 (j : Int),.int .i64 (m : Int),.bool ((j : Int) != (m : Int)),.pointer (some ⟨gv + 1, 4, none⟩),kA,.pointer (some ⟨gv, 4, none⟩),.slice ak ks.length ck,.int .i64 (j : Int),.pointer (some ((hd ak).add j)),.string (str k),.slice (some ⟨g12, 0, none⟩) 1 1,.slice a25 (KA.length + 1) c26,.pointer (some ⟨gv + 1, 5, none⟩),lA,.pointer (some ⟨gv, 5, none⟩),.slice al ks.length cl,.int .i64 (j : Int),.pointer (some ((hd al).add (j * 6))),.agg (List.toArray cx),qn,qp,qq,qr,qs,qt,qu,qv,qw,qx,qy,qz,r0,r1,r2,r3,r4,r5,r6,r7,r8,r9,ra,rb,rc,rd,re,rf,rg,rh,ri,rj,rk,rl,rm,rn,ro,rp,rq,rr,rt,ru,rv,rx,ry,rz,t5,t6,t7,t8,t9,ta,tb,tc,td,o,o,o,o,o,o,o,o,o,o,o,o,o,o,o,o,o,o,o,o,o,o,o,o,o,o,o,o,o,o,o,o,o,o,o,o,o,o,o,o,o,o,o],[]⟩) rfl rfl (run_append hrun27 rfl rfl rfl) rfl ?_
              have hT23 := hT17.gK hM21 hG22
              have hE24 := hE18.trans (hT17.a.growK hG22)
              have hS28 := s36 hT23.a.c4 hT23.a.c5 hE24 19 21
              refine ⟨(hS28 _), ?_⟩
              have hS29 := s36 hT23.a.c4 hT23.a.c5 hE24 19 21
              refine tk0 18 (.pointer (some ⟨gv + 1, 4, none⟩)) (⟨#[B,.string (str kk),D,.int .i64 nn,q3,o,.pointer (some ⟨W.heap.size + 1, 0, none⟩),o,u8,.pointer (some ⟨gv, 0, none⟩),.int .i64 (m : Int),.pointer (some ⟨gv + 1, 0, none⟩),.pointer (some ⟨gv + 1 + 1, 0, none⟩),.bool d,.int .i64 (j : Int),o,o,o,o,o,o,B,C,D,E,F,.string (str kk),C,G,.pointer (some ⟨gv, 0, none⟩),.int .i64 7,.bool false,o,U,q1,O,Z,q2,O,.bool false,.bool false,Z,q2,O,.bool false,.bool false,.int .i64 nn,Z,q2,O,J,.int .i64 (m : Int),.pointer (some ⟨gv + 1, 0, none⟩),.pointer (some ⟨gv + 1 + 1, 0, none⟩),.int .i64 (j : Int),.pointer (some ⟨gv, 4, none⟩),.slice ak ks.length ck,.int .i64 (ks.length : Int),.bool true,q4,q5,.int .i64 (j : Int),.int .i64 (m : Int),.bool ((j : Int) != (m : Int)),.pointer (some ⟨gv + 1, 4, none⟩),kA,.pointer (some ⟨gv, 4, none⟩),.slice ak ks.length ck,.int .i64 (j : Int),.pointer (some ((hd ak).add j)),.string (str k),.slice (some ⟨g12, 0, none⟩) 1 1,.slice a25 (KA.length + 1) c26,.pointer (some ⟨gv + 1, 5, none⟩),lA,.pointer (some ⟨gv, 5, none⟩),.slice al ks.length cl,.int .i64 (j : Int),.pointer (some ((hd al).add (j * 6))),.agg (List.toArray cx),qn,qp,.pointer (some ⟨gv + 1, 4, none⟩),qr,qs,qt,qu,qv,qw,qx,qy,qz,r0,r1,r2,r3,r4,r5,r6,r7,r8,r9,ra,rb,rc,rd,re,rf,rg,rh,ri,rj,rk,rl,rm,rn,ro,rp,rq,rr,rt,ru,rv,rx,ry,rz,t5,t6,t7,t8,t9,ta,tb,tc,td,o,o,o,o,o,o,o,o,o,o,o,o,o,o,o,o,o,o,o,o,o,o,o,o,o,o,o,o,o,o,o,o,o,o,o,o,o,o,o,o,o,o,o],[]⟩) hSm (hSi 18 rfl) rfl (by kernel_rfl) (fun _ _ _ h => h) (hS29 _) (Tame.val rfl fun _ _ => by go_simp) rfl ?_
              refine wpAnyU_all (rs := [16]) (by kernel_rfl) (by decide) ?_
              intro w30 hm31 i hi
              obtain rfl : i = 16 := by simpa using hi
              have hT32 := hT23.below hm31
              have hE33 := hE24.trans (hm31.mono hE24.size)
              refine wpOp_val (v := .slice (some ⟨w30.heap.size, 0, none⟩) 1 1) (w' := w30.alloc (.cells (List.toArray cx) 30)) (a' := ⟨#[B,.string (str kk),D,.int .i64 nn,q3,o,.pointer (some ⟨W.heap.size + 1, 0, none⟩),o,u8,.pointer (some ⟨gv, 0, none⟩),.int .i64 (m : Int),.pointer (some ⟨gv + 1, 0, none⟩),.pointer (some ⟨gv + 1 + 1, 0, none⟩),.bool d,.int .i64 (j : Int),o,o,o,o,o,o,B,C,D,E,F,.string (str kk),C,G,.pointer (some ⟨gv, 0, none⟩),.int .i64 7,.bool false,o,U,q1,O,Z,q2,O,.bool false,.bool false,Z,q2,O,.bool false,.bool false,.int .i64 nn,Z,q2,O,J,.int .i64 (m : Int),.pointer (some ⟨gv + 1, 0, none⟩),.pointer (some ⟨gv + 1 + 1, 0, none⟩),.int .i64 (j : Int),.pointer (some ⟨gv, 4, none⟩),.slice ak ks.length ck,.int .i64 (ks.length : Int),.bool true,q4,q5,.int .i64 (j : Int),.int .i64 (m : Int),.bool ((j : Int) != (m : Int)),.pointer (some ⟨gv + 1, 4, none⟩),kA,.pointer (some ⟨gv, 4, none⟩),.slice ak ks.length ck,.int .i64 (j : Int),.pointer (some ((hd ak).add j)),.string (str k),.slice (some ⟨g12, 0, none⟩) 1 1,.slice a25 (KA.length + 1) c26,.pointer (some ⟨gv + 1, 5, none⟩),lA,.pointer (some ⟨gv, 5, none⟩),.slice al ks.length cl,.int .i64 (j : Int),.pointer (some ((hd al).add (j * 6))),.agg (List.toArray cx),.slice (some ⟨w30.heap.size, 0, none⟩) 1 1,qp,.pointer (some ⟨gv + 1, 4, none⟩),qr,qs,qt,qu,qv,qw,qx,qy,qz,r0,r1,r2,r3,r4,r5,r6,r7,r8,r9,ra,rb,rc,rd,re,rf,rg,rh,ri,rj,rk,rl,rm,rn,ro,rp,rq,rr,rt,ru,rv,rx,ry,rz,t5,t6,t7,t8,t9,ta,tb,tc,td,o,o,o,o,o,o,o,o,o,o,o,o,o,o,o,o,o,o,o,o,o,o,o,o,o,o,o,o,o,o,o,o,o,o,o,o,o,o,o,o,o,o,o],[]⟩) rfl rfl (run_bsOp (vals := #[(0, .agg (List.toArray cx))]) (by first | rfl | go_simp | simp [Act.eval]) (bsOp_one (cs := List.toArray cx) Tryd.underlying28 infoV (by decide) (by decide) (by exact zV_size) cx6)) rfl ?_
              have hm34 : Mo w30 (w30.alloc (.cells (List.toArray cx) 30)) := (Below.refl _ _).alloc (Nat.le_refl _) _
              have hB35 : Blk (w30.alloc (.cells (List.toArray cx) 30)) w30.heap.size 30 cx := Blk.new _ _ _
              have hT36 := hT32.below hm34
              have hE37 := hE33.trans (hm34.mono hE33.size)
              have hN38 : ∀ b, Ob (gv + 1) (.slice a25 (KA.length + 1) c26) lA b → b < w30.heap.size := fun b hb => (hT32.a.olt b hb).2
              generalize w30.alloc (.cells (List.toArray cx) 30) = w39 at *
              generalize w30.heap.size = g40 at *
              have hS41 := s36 hT36.a.c4 hT36.a.c5 hE37 19 21
              refine ⟨(hS41 _), ?_⟩
              refine wpAnyU_all (rs := [17]) (by kernel_rfl) (by decide) ?_
              intro w42 hm43 i hi
              obtain rfl : i = 17 := by simpa using hi
              have hT44 := hT36.below hm43
              have hE45 := hE37.trans (hm43.mono hE37.size)
              have hB46 := hB35.below hm43
              have hX55 := hxP.same (w' := w42) (fun b hb _ => hE45.block b hb)
              obtain ⟨a52, c53, w47, hrun54, hM48, hG49⟩ := hT44.a.appL (ty := 28) hX55 hB46 hnV
              refine wpOp_val (v := .slice a52 (VA.length + 1) c53) (w' := w47) (a' := ⟨#[B,.string (str kk),D,.int .i64 nn,q3,o,.pointer (some ⟨W.heap.size + 1, 0, none⟩),o,u8,.pointer (some ⟨gv, 0, none⟩),.int .i64 (m : Int),.pointer (some ⟨gv + 1, 0, none⟩),.pointer (some ⟨gv + 1 + 1, 0, none⟩),.bool d,.int .i64 (j : Int),o,o,o,o,o,o,B,C,D,E,F,.string (str kk),C,G,.pointer (some ⟨gv, 0, none⟩),.int .i64 7,.bool false,o,U,q1,O,Z,q2,O,.bool false,.bool false,Z,q2,O,.bool false,.bool false,.int .i64 nn,Z,q2,O,J,.int .i64 (m : Int),.pointer (some ⟨gv + 1, 0, none⟩),.pointer (some ⟨gv + 1 + 1, 0, none⟩),.int .i64 (j : Int),.pointer (some ⟨gv, 4, none⟩),.slice ak ks.length ck,.int .i64 (ks.length : Int),.bool true,q4,q5,.int .i64 (j : Int),.int .i64 (m : Int),.bool ((j : Int) != (m : Int)),.pointer (some ⟨gv + 1, 4, none⟩),kA,.pointer (some ⟨gv, 4, none⟩),.slice ak ks.length ck,.int .i64 (j : Int),.pointer (some ((hd ak).add j)),.string (str k),.slice (some ⟨g12, 0, none⟩) 1 1,.slice a25 (KA.length + 1) c26,.pointer (some ⟨gv + 1, 5, none⟩),lA,.pointer (some ⟨gv, 5, none⟩),.slice al ks.length cl,.int .i64 (j : Int),.pointer (some ((hd al).add (j * 6))),.agg (List.toArray cx),.slice (some ⟨g40, 0, none⟩) 1 1,.slice a52 (VA.length + 1) c53,.pointer (some ⟨gv + 1, 4, none⟩),qr,qs,qt,qu,qv,qw,qx,qy,qz,r0,r1,r2,r3,r4,r5,r6,r7,r8,r9,ra,rb,rc,rd,re,rf,rg,rh,ri,rj,rk,rl,rm,rn,ro,rp,rq,rr,rt,ru,rv,rx,ry,rz,t5,t6,t7,t8,t9,ta,tb,tc,td,o,o,o,o,o,o,o,o,o,o,o,o,o,o,o,o,o,o,o,o,o,o,o,o,o,o,o,o,o,o,o,o,o,o,o,o,o,o,o,o,o,o,o],[]⟩) rfl rfl (run_append hrun54 rfl rfl rfl) rfl ?_
              have hT50 := hT44.gL hM48 hG49
              have hE51 := hE45.trans (hT44.a.growL hG49)
              have hS56 := s36 hT50.a.c4 hT50.a.c5 hE51 19 21
              refine ⟨(hS56 _), ?_⟩
              refine wpAnyU_all (rs := [19]) (by kernel_rfl) (by decide) ?_
              intro w57 hm58 i hi
              obtain rfl : i = 19 := by simpa using hi
              have hT59 := hT50.below hm58
              have hE60 := hE51.trans (hm58.mono hE51.size)
              have hz61 := hT59.a.c4.cell
              have hf62 := hT59.a.blk.free 4
              refine wpOp_skip (w' := w57.setCell ⟨gv + 1, 4, none⟩ (.slice a25 (KA.length + 1) c26)) (a' := ⟨#[B,.string (str kk),D,.int .i64 nn,q3,o,.pointer (some ⟨W.heap.size + 1, 0, none⟩),o,u8,.pointer (some ⟨gv, 0, none⟩),.int .i64 (m : Int),.pointer (some ⟨gv + 1, 0, none⟩),.pointer (some ⟨gv + 1 + 1, 0, none⟩),.bool d,.int .i64 (j : Int),o,o,o,o,o,o,B,C,D,E,F,.string (str kk),C,G,.pointer (some ⟨gv, 0, none⟩),.int .i64 7,.bool false,o,U,q1,O,Z,q2,O,.bool false,.bool false,Z,q2,O,.bool false,.bool false,.int .i64 nn,Z,q2,O,J,.int .i64 (m : Int),.pointer (some ⟨gv + 1, 0, none⟩),.pointer (some ⟨gv + 1 + 1, 0, none⟩),.int .i64 (j : Int),.pointer (some ⟨gv, 4, none⟩),.slice ak ks.length ck,.int .i64 (ks.length : Int),.bool true,q4,q5,.int .i64 (j : Int),.int .i64 (m : Int),.bool ((j : Int) != (m : Int)),.pointer (some ⟨gv + 1, 4, none⟩),kA,.pointer (some ⟨gv, 4, none⟩),.slice ak ks.length ck,.int .i64 (j : Int),.pointer (some ((hd ak).add j)),.string (str k),.slice (some ⟨g12, 0, none⟩) 1 1,.slice a25 (KA.length + 1) c26,.pointer (some ⟨gv + 1, 5, none⟩),lA,.pointer (some ⟨gv, 5, none⟩),.slice al ks.length cl,.int .i64 (j : Int),.pointer (some ((hd al).add (j * 6))),.agg (List.toArray cx),.slice (some ⟨g40, 0, none⟩) 1 1,.slice a52 (VA.length + 1) c53,.pointer (some ⟨gv + 1, 4, none⟩),qr,qs,qt,qu,qv,qw,qx,qy,qz,r0,r1,r2,r3,r4,r5,r6,r7,r8,r9,ra,rb,rc,rd,re,rf,rg,rh,ri,rj,rk,rl,rm,rn,ro,rp,rq,rr,rt,ru,rv,rx,ry,rz,t5,t6,t7,t8,t9,ta,tb,tc,td,o,o,o,o,o,o,o,o,o,o,o,o,o,o,o,o,o,o,o,o,o,o,o,o,o,o,o,o,o,o,o,o,o,o,o,o,o,o,o,o,o,o,o],[]⟩) rfl rfl (by go_simp) rfl ?_
              have hT63 := hT59.sK
              have hE64 := hE60.trans (set_below21 (i := 4) (u := (.slice a25 (KA.length + 1) c26)) hT59.a.hq)
              generalize w57.setCell ⟨gv + 1, 4, none⟩ (.slice a25 (KA.length + 1) c26) = w65 at *
              refine ⟨⟨fun e => absurd e (by decide), fun _ => hT63.a.c5, hE64⟩, ?_⟩
              refine tk0 20 (.pointer (some ⟨gv + 1, 5, none⟩)) (⟨#[B,.string (str kk),D,.int .i64 nn,q3,o,.pointer (some ⟨W.heap.size + 1, 0, none⟩),o,u8,.pointer (some ⟨gv, 0, none⟩),.int .i64 (m : Int),.pointer (some ⟨gv + 1, 0, none⟩),.pointer (some ⟨gv + 1 + 1, 0, none⟩),.bool d,.int .i64 (j : Int),o,o,o,o,o,o,B,C,D,E,F,.string (str kk),C,G,.pointer (some ⟨gv, 0, none⟩),.int .i64 7,.bool false,o,U,q1,O,Z,q2,O,.bool false,.bool false,Z,q2,O,.bool false,.bool false,.int .i64 nn,Z,q2,O,J,.int .i64 (m : Int),.pointer (some ⟨gv + 1, 0, none⟩),.pointer (some ⟨gv + 1 + 1, 0, none⟩),.int .i64 (j : Int),.pointer (some ⟨gv, 4, none⟩),.slice ak ks.length ck,.int .i64 (ks.length : Int),.bool true,q4,q5,.int .i64 (j : Int),.int .i64 (m : Int),.bool ((j : Int) != (m : Int)),.pointer (some ⟨gv + 1, 4, none⟩),kA,.pointer (some ⟨gv, 4, none⟩),.slice ak ks.length ck,.int .i64 (j : Int),.pointer (some ((hd ak).add j)),.string (str k),.slice (some ⟨g12, 0, none⟩) 1 1,.slice a25 (KA.length + 1) c26,.pointer (some ⟨gv + 1, 5, none⟩),lA,.pointer (some ⟨gv, 5, none⟩),.slice al ks.length cl,.int .i64 (j : Int),.pointer (some ((hd al).add (j * 6))),.agg (List.toArray cx),.slice (some ⟨g40, 0, none⟩) 1 1,.slice a52 (VA.length + 1) c53,.pointer (some ⟨gv + 1, 4, none⟩),.pointer (some ⟨gv + 1, 5, none⟩),qs,qt,qu,qv,qw,qx,qy,qz,r0,r1,r2,r3,r4,r5,r6,r7,r8,r9,ra,rb,rc,rd,re,rf,rg,rh,ri,rj,rk,rl,rm,rn,ro,rp,rq,rr,rt,ru,rv,rx,ry,rz,t5,t6,t7,t8,t9,ta,tb,tc,td,o,o,o,o,o,o,o,o,o,o,o,o,o,o,o,o,o,o,o,o,o,o,o,o,o,o,o,o,o,o,o,o,o,o,o,o,o,o,o,o,o,o,o],[]⟩) hSm (hSi 20 rfl) rfl (by kernel_rfl) (fun _ _ _ h => h) ⟨fun e => absurd e (by decide), fun _ => hT63.a.c5, hE64⟩ (Tame.val rfl fun _ _ => by go_simp) rfl ?_
              refine wpAnyU_all (rs := [21]) (by kernel_rfl) (by decide) ?_
              intro w68 hm69 i hi
              obtain rfl : i = 21 := by simpa using hi
              have hT70 := hT63.below hm69
              have hE71 := hE64.trans (hm69.mono hE64.size)
              have hz72 := hT70.a.c5.cell
              have hf73 := hT70.a.blk.free 5
              refine wpOp_skip (w' := w68.setCell ⟨gv + 1, 5, none⟩ (.slice a52 (VA.length + 1) c53)) (a' := ⟨#[B,.string (str kk),D,.int .i64 nn,q3,o,.pointer (some ⟨W.heap.size + 1, 0, none⟩),o,u8,.pointer (some ⟨gv, 0, none⟩),.int .i64 (m : Int),.pointer (some ⟨gv + 1, 0, none⟩),.pointer (some ⟨gv + 1 + 1, 0, none⟩),.bool d,.int .i64 (j : Int),o,o,o,o,o,o,B,C,D,E,F,.string (str kk),C,G,.pointer (some ⟨gv, 0, none⟩),.int .i64 7,.bool false,o,U,q1,O,Z,q2,O,.bool false,.bool false,Z,q2,O,.bool false,.bool false,.int .i64 nn,Z,q2,O,J,.int .i64 (m : Int),.pointer (some ⟨gv + 1, 0, none⟩),.pointer (some ⟨gv + 1 + 1, 0, none⟩),.int .i64 (j : Int),.pointer (some ⟨gv, 4, none⟩),.slice ak ks.length ck,.int .i64 (ks.length : Int),.bool true,q4,q5,.int .i64 (j : Int),.int .i64 (m : Int),.bool ((j : Int) != (m : Int)),.pointer (some ⟨gv + 1, 4, none⟩),kA,.pointer (some ⟨gv, 4, none⟩),.slice ak ks.length ck,.int .i64 (j : Int),.pointer (some ((hd ak).add j)),.string (str k),.slice (some ⟨g12, 0, none⟩) 1 1,.slice a25 (KA.length + 1) c26,.pointer (some ⟨gv + 1, 5, none⟩),lA,.pointer (some ⟨gv, 5, none⟩),.slice al ks.length cl,.int .i64 (j : Int),.pointer (some ((hd al).add (j * 6))),.agg (List.toArray cx),.slice (some ⟨g40, 0, none⟩) 1 1,.slice a52 (VA.length + 1) c53,.pointer (some ⟨gv + 1, 4, none⟩),.pointer (some ⟨gv + 1, 5, none⟩),qs,qt,qu,qv,qw,qx,qy,qz,r0,r1,r2,r3,r4,r5,r6,r7,r8,r9,ra,rb,rc,rd,re,rf,rg,rh,ri,rj,rk,rl,rm,rn,ro,rp,rq,rr,rt,ru,rv,rx,ry,rz,t5,t6,t7,t8,t9,ta,tb,tc,td,o,o,o,o,o,o,o,o,o,o,o,o,o,o,o,o,o,o,o,o,o,o,o,o,o,o,o,o,o,o,o,o,o,o,o,o,o,o,o,o,o,o,o],[]⟩) rfl rfl (by go_simp) rfl ?_
              have hT74 := hT70.sL
              have hE75 := hE71.trans (set_below21 (i := 5) (u := (.slice a52 (VA.length + 1) c53)) hT70.a.hq)
              generalize w68.setCell ⟨gv + 1, 5, none⟩ (.slice a52 (VA.length + 1) c53) = w76 at *
              refine ⟨⟨fun e => absurd e (by decide), fun e => absurd e (by decide), hE75⟩, ?_⟩
              refine wpAnyU_done (by kernel_rfl) ?_ _
              intro w78 hm79
              have hTF := hT74.below hm79
              have hEF := hE75.trans (hm79.mono hE75.size)
              have hF := Lib.hid (hfin _ _ _ hTF hEF)
              clear hTF hEF
              go_wp2
              go_meet
              exact hF.out
            · have hT80 := hT8.below hm15
              have hE81 := hE9.trans (hm15.mono hE9.size)
              have hB82 := hB7.below hm15
              refine wpOp_val (v := .slice (some ⟨w14.heap.size, 0, none⟩) 1 1) (w' := w14.alloc (.cells (List.toArray cx) 30)) (a' := ⟨#[B,.string (str kk),D,.int .i64 nn,q3,o,.pointer (some ⟨W.heap.size + 1, 0, none⟩),o,u8,.pointer (some ⟨gv, 0, none⟩),.int .i64 (m : Int),.pointer (some ⟨gv + 1, 0, none⟩),.pointer (some ⟨gv + 1 + 1, 0, none⟩),.bool d,.int .i64 (j : Int),o,o,o,o,o,o,B,C,D,E,F,.string (str kk),C,G,.pointer (some ⟨gv, 0, none⟩),.int .i64 7,.bool false,o,U,q1,O,Z,q2,O,.bool false,.bool false,Z,q2,O,.bool false,.bool false,.int .i64 nn,Z,q2,O,J,.int .i64 (m : Int),.pointer (some ⟨gv + 1, 0, none⟩),.pointer (some ⟨gv + 1 + 1, 0, none⟩),.int .i64 (j : Int),.pointer (some ⟨gv, 4, none⟩),.slice ak ks.length ck,.int .i64 (ks.length : Int),.bool true,q4,q5,.int .i64 (j : Int),.int .i64 (m : Int),.bool ((j : Int) != (m : Int)),.pointer (some ⟨gv + 1, 4, none⟩),kA,.pointer (some ⟨gv, 4, none⟩),.slice ak ks.length ck,.int .i64 (j : Int),.pointer (some ((hd ak).add j)),.string (str k),.slice (some ⟨g12, 0, none⟩) 1 1,qf,.pointer (some ⟨gv + 1, 5, none⟩),lA,.pointer (some ⟨gv, 5, none⟩),.slice al ks.length cl,.int .i64 (j : Int),.pointer (some ((hd al).add (j * 6))),.agg (List.toArray cx),.slice (some ⟨w14.heap.size, 0, none⟩) 1 1,qp,qq,qr,qs,qt,qu,qv,qw,qx,qy,qz,r0,r1,r2,r3,r4,r5,r6,r7,r8,r9,ra,rb,rc,rd,re,rf,rg,rh,ri,rj,rk,rl,rm,rn,ro,rp,rq,rr,rt,ru,rv,rx,ry,rz,t5,t6,t7,t8,t9,ta,tb,tc,td,o,o,o,o,o,o,o,o,o,o,o,o,o,o,o,o,o,o,o,o,o,o,o,o,o,o,o,o,o,o,o,o,o,o,o,o,o,o,o,o,o,o,o],[]⟩) rfl rfl (run_bsOp (vals := #[(0, .agg (List.toArray cx))]) (by first | rfl | go_simp | simp [Act.eval]) (bsOp_one (cs := List.toArray cx) Tryd.underlying28 infoV (by decide) (by decide) (by exact zV_size) cx6)) rfl ?_
              have hm83 : Mo w14 (w14.alloc (.cells (List.toArray cx) 30)) := (Below.refl _ _).alloc (Nat.le_refl _) _
              have hB84 : Blk (w14.alloc (.cells (List.toArray cx) 30)) w14.heap.size 30 cx := Blk.new _ _ _
              have hT85 := hT80.below hm83
              have hE86 := hE81.trans (hm83.mono hE81.size)
              have hN87 : ∀ b, Ob (gv + 1) kA lA b → b < w14.heap.size := fun b hb => (hT80.a.olt b hb).2
              have hB90 := hB82.below hm83
              generalize w14.alloc (.cells (List.toArray cx) 30) = w88 at *
              generalize w14.heap.size = g89 at *
              have hS91 := s36 hT85.a.c4 hT85.a.c5 hE86 19 21
              refine ⟨(hS91 _), ?_⟩
              refine wpAnyU_all (rs := [8]) (by kernel_rfl) (by decide) ?_
              intro w92 hm93 i hi
              obtain rfl : i = 8 := by simpa using hi
              have hT94 := hT85.below hm93
              have hE95 := hE86.trans (hm93.mono hE86.size)
              have hB96 := hB90.below hm93
              have hB97 := hB84.below hm93
              obtain ⟨a103, c104, w98, hrun105, hM99, hG100⟩ := hT94.a.appK (ty := 27) hkl0 hB96 hnK
              refine wpOp_val (v := .slice a103 (KA.length + 1) c104) (w' := w98) (a' := ⟨#[B,.string (str kk),D,.int .i64 nn,q3,o,.pointer (some ⟨W.heap.size + 1, 0, none⟩),o,u8,.pointer (some ⟨gv, 0, none⟩),.int .i64 (m : Int),.pointer (some ⟨gv + 1, 0, none⟩),.pointer (some ⟨gv + 1 + 1, 0, none⟩),.bool d,.int .i64 (j : Int),o,o,o,o,o,o,B,C,D,E,F,.string (str kk),C,G,.pointer (some ⟨gv, 0, none⟩),.int .i64 7,.bool false,o,U,q1,O,Z,q2,O,.bool false,.bool false,Z,q2,O,.bool false,.bool false,.int .i64 nn,Z,q2,O,J,.int .i64 (m : Int),.pointer (some ⟨gv + 1, 0, none⟩),.pointer (some ⟨gv + 1 + 1, 0, none⟩),.int .i64 (j : Int),.pointer (some ⟨gv, 4, none⟩),.slice ak ks.length ck,.int .i64 (ks.length : Int),.bool true,q4,q5,.int .i64 (j : Int),.int .i64 (m : Int),.bool ((j : Int) != (m : Int)),.pointer (some ⟨gv + 1, 4, none⟩),kA,.pointer (some ⟨gv, 4, none⟩),.slice ak ks.length ck,.int .i64 (j : Int),.pointer (some ((hd ak).add j)),.string (str k),.slice (some ⟨g12, 0, none⟩) 1 1,.slice a103 (KA.length + 1) c104,.pointer (some ⟨gv + 1, 5, none⟩),lA,.pointer (some ⟨gv, 5, none⟩),.slice al ks.length cl,.int .i64 (j : Int),.pointer (some ((hd al).add (j * 6))),.agg (List.toArray cx),.slice (some ⟨g89, 0, none⟩) 1 1,qp,qq,qr,qs,qt,qu,qv,qw,qx,qy,qz,r0,r1,r2,r3,r4,r5,r6,r7,r8,r9,ra,rb,rc,rd,re,rf,rg,rh,ri,rj,rk,rl,rm,rn,ro,rp,rq,rr,rt,ru,rv,rx,ry,rz,t5,t6,t7,t8,t9,ta,tb,tc,td,o,o,o,o,o,o,o,o,o,o,o,o,o,o,o,o,o,o,o,o,o,o,o,o,o,o,o,o,o,o,o,o,o,o,o,o,o,o,o,o,o,o,o],[]⟩) rfl rfl (run_append hrun105 rfl rfl rfl) rfl ?_
              have hT101 := hT94.gK hM99 hG100
              have hE102 := hE95.trans (hT94.a.growK hG100)
              have hB106 := (hG100.blk hB97 (fun e => Nat.lt_irrefl _ (hN87 _ (.inr (.inl e))))).1
              have hS107 := s36 hT101.a.c4 hT101.a.c5 hE102 19 21
              refine ⟨(hS107 _), ?_⟩
              have hS108 := s36 hT101.a.c4 hT101.a.c5 hE102 19 21
              refine tk0 18 (.pointer (some ⟨gv + 1, 4, none⟩)) (⟨#[B,.string (str kk),D,.int .i64 nn,q3,o,.pointer (some ⟨W.heap.size + 1, 0, none⟩),o,u8,.pointer (some ⟨gv, 0, none⟩),.int .i64 (m : Int),.pointer (some ⟨gv + 1, 0, none⟩),.pointer (some ⟨gv + 1 + 1, 0, none⟩),.bool d,.int .i64 (j : Int),o,o,o,o,o,o,B,C,D,E,F,.string (str kk),C,G,.pointer (some ⟨gv, 0, none⟩),.int .i64 7,.bool false,o,U,q1,O,Z,q2,O,.bool false,.bool false,Z,q2,O,.bool false,.bool false,.int .i64 nn,Z,q2,O,J,.int .i64 (m : Int),.pointer (some ⟨gv + 1, 0, none⟩),.pointer (some ⟨gv + 1 + 1, 0, none⟩),.int .i64 (j : Int),.pointer (some ⟨gv, 4, none⟩),.slice ak ks.length ck,.int .i64 (ks.length : Int),.bool true,q4,q5,.int .i64 (j : Int),.int .i64 (m : Int),.bool ((j : Int) != (m : Int)),.pointer (some ⟨gv + 1, 4, none⟩),kA,.pointer (some ⟨gv, 4, none⟩),.slice ak ks.length ck,.int .i64 (j : Int),.pointer (some ((hd ak).add j)),.string (str k),.slice (some ⟨g12, 0, none⟩) 1 1,.slice a103 (KA.length + 1) c104,.pointer (some ⟨gv + 1, 5, none⟩),lA,.pointer (some ⟨gv, 5, none⟩),.slice al ks.length cl,.int .i64 (j : Int),.pointer (some ((hd al).add (j * 6))),.agg (List.toArray cx),.slice (some ⟨g89, 0, none⟩) 1 1,qp,.pointer (some ⟨gv + 1, 4, none⟩),qr,qs,qt,qu,qv,qw,qx,qy,qz,r0,r1,r2,r3,r4,r5,r6,r7,r8,r9,ra,rb,rc,rd,re,rf,rg,rh,ri,rj,rk,rl,rm,rn,ro,rp,rq,rr,rt,ru,rv,rx,ry,rz,t5,t6,t7,t8,t9,ta,tb,tc,td,o,o,o,o,o,o,o,o,o,o,o,o,o,o,o,o,o,o,o,o,o,o,o,o,o,o,o,o,o,o,o,o,o,o,o,o,o,o,o,o,o,o,o],[]⟩) hSm (hSi 18 rfl) rfl (by kernel_rfl) (fun _ _ _ h => h) (hS108 _) (Tame.val rfl fun _ _ => by go_simp) rfl ?_
              refine wpAnyU_all (rs := [17]) (by kernel_rfl) (by decide) ?_
              intro w109 hm110 i hi
              obtain rfl : i = 17 := by simpa using hi
              have hT111 := hT101.below hm110
              have hE112 := hE102.trans (hm110.mono hE102.size)
              have hB113 := hB106.below hm110
              have hX122 := hxP.same (w' := w109) (fun b hb _ => hE112.block b hb)
              obtain ⟨a119, c120, w114, hrun121, hM115, hG116⟩ := hT111.a.appL (ty := 28) hX122 hB113 hnV
              refine wpOp_val (v := .slice a119 (VA.length + 1) c120) (w' := w114) (a' := ⟨#[B,.string (str kk),D,.int .i64 nn,q3,o,.pointer (some ⟨W.heap.size + 1, 0, none⟩),o,u8,.pointer (some ⟨gv, 0, none⟩),.int .i64 (m : Int),.pointer (some ⟨gv + 1, 0, none⟩),.pointer (some ⟨gv + 1 + 1, 0, none⟩),.bool d,.int .i64 (j : Int),o,o,o,o,o,o,B,C,D,E,F,.string (str kk),C,G,.pointer (some ⟨gv, 0, none⟩),.int .i64 7,.bool false,o,U,q1,O,Z,q2,O,.bool false,.bool false,Z,q2,O,.bool false,.bool false,.int .i64 nn,Z,q2,O,J,.int .i64 (m : Int),.pointer (some ⟨gv + 1, 0, none⟩),.pointer (some ⟨gv + 1 + 1, 0, none⟩),.int .i64 (j : Int),.pointer (some ⟨gv, 4, none⟩),.slice ak ks.length ck,.int .i64 (ks.length : Int),.bool true,q4,q5,.int .i64 (j : Int),.int .i64 (m : Int),.bool ((j : Int) != (m : Int)),.pointer (some ⟨gv + 1, 4, none⟩),kA,.pointer (some ⟨gv, 4, none⟩),.slice ak ks.length ck,.int .i64 (j : Int),.pointer (some ((hd ak).add j)),.string (str k),.slice (some ⟨g12, 0, none⟩) 1 1,.slice a103 (KA.length + 1) c104,.pointer (some ⟨gv + 1, 5, none⟩),lA,.pointer (some ⟨gv, 5, none⟩),.slice al ks.length cl,.int .i64 (j : Int),.pointer (some ((hd al).add (j * 6))),.agg (List.toArray cx),.slice (some ⟨g89, 0, none⟩) 1 1,.slice a119 (VA.length + 1) c120,.pointer (some ⟨gv + 1, 4, none⟩),qr,qs,qt,qu,qv,qw,qx,qy,qz,r0,r1,r2,r3,r4,r5,r6,r7,r8,r9,ra,rb,rc,rd,re,rf,rg,rh,ri,rj,rk,rl,rm,rn,ro,rp,rq,rr,rt,ru,rv,rx,ry,rz,t5,t6,t7,t8,t9,ta,tb,tc,td,o,o,o,o,o,o,o,o,o,o,o,o,o,o,o,o,o,o,o,o,o,o,o,o,o,o,o,o,o,o,o,o,o,o,o,o,o,o,o,o,o,o,o],[]⟩) rfl rfl (run_append hrun121 rfl rfl rfl) rfl ?_
              have hT117 := hT111.gL hM115 hG116
              have hE118 := hE112.trans (hT111.a.growL hG116)
              have hS123 := s36 hT117.a.c4 hT117.a.c5 hE118 19 21
              refine ⟨(hS123 _), ?_⟩
              refine wpAnyU_all (rs := [19]) (by kernel_rfl) (by decide) ?_
              intro w124 hm125 i hi
              obtain rfl : i = 19 := by simpa using hi
              have hT126 := hT117.below hm125
              have hE127 := hE118.trans (hm125.mono hE118.size)
              have hz128 := hT126.a.c4.cell
              have hf129 := hT126.a.blk.free 4
              refine wpOp_skip (w' := w124.setCell ⟨gv + 1, 4, none⟩ (.slice a103 (KA.length + 1) c104)) (a' := ⟨#[B,.string (str kk),D,.int .i64 nn,q3,o,.pointer (some ⟨W.heap.size + 1, 0, none⟩),o,u8,.pointer (some ⟨gv, 0, none⟩),.int .i64 (m : Int),.pointer (some ⟨gv + 1, 0, none⟩),.pointer (some ⟨gv + 1 + 1, 0, none⟩),.bool d,.int .i64 (j : Int),o,o,o,o,o,o,B,C,D,E,F,.string (str kk),C,G,.pointer (some ⟨gv, 0, none⟩),.int .i64 7,.bool false,o,U,q1,O,Z,q2,O,.bool false,.bool false,Z,q2,O,.bool false,.bool false,.int .i64 nn,Z,q2,O,J,.int .i64 (m : Int),.pointer (some ⟨gv + 1, 0, none⟩),.pointer (some ⟨gv + 1 + 1, 0, none⟩),.int .i64 (j : Int),.pointer (some ⟨gv, 4, none⟩),.slice ak ks.length ck,.int .i64 (ks.length : Int),.bool true,q4,q5,.int .i64 (j : Int),.int .i64 (m : Int),.bool ((j : Int) != (m : Int)),.pointer (some ⟨gv + 1, 4, none⟩),kA,.pointer (some ⟨gv, 4, none⟩),.slice ak ks.length ck,.int .i64 (j : Int),.pointer (some ((hd ak).add j)),.string (str k),.slice (some ⟨g12, 0, none⟩) 1 1,.slice a103 (KA.length + 1) c104,.pointer (some ⟨gv + 1, 5, none⟩),lA,.pointer (some ⟨gv, 5, none⟩),.slice al ks.length cl,.int .i64 (j : Int),.pointer (some ((hd al).add (j * 6))),.agg (List.toArray cx),.slice (some ⟨g89, 0, none⟩) 1 1,.slice a119 (VA.length + 1) c120,.pointer (some ⟨gv + 1, 4, none⟩),qr,qs,qt,qu,qv,qw,qx,qy,qz,r0,r1,r2,r3,r4,r5,r6,r7,r8,r9,ra,rb,rc,rd,re,rf,rg,rh,ri,rj,rk,rl,rm,rn,ro,rp,rq,rr,rt,ru,rv,rx,ry,rz,t5,t6,t7,t8,t9,ta,tb,tc,td,o,o,o,o,o,o,o,o,o,o,o,o,o,o,o,o,o,o,o,o,o,o,o,o,o,o,o,o,o,o,o,o,o,o,o,o,o,o,o,o,o,o,o],[]⟩) rfl rfl (by go_simp) rfl ?_
              have hT130 := hT126.sK
              have hE131 := hE127.trans (set_below21 (i := 4) (u := (.slice a103 (KA.length + 1) c104)) hT126.a.hq)
              generalize w124.setCell ⟨gv + 1, 4, none⟩ (.slice a103 (KA.length + 1) c104) = w132 at *
              refine ⟨⟨fun e => absurd e (by decide), fun _ => hT130.a.c5, hE131⟩, ?_⟩
              refine tk0 20 (.pointer (some ⟨gv + 1, 5, none⟩)) (⟨#[B,.string (str kk),D,.int .i64 nn,q3,o,.pointer (some ⟨W.heap.size + 1, 0, none⟩),o,u8,.pointer (some ⟨gv, 0, none⟩),.int .i64 (m : Int),.pointer (some ⟨gv + 1, 0, none⟩),.pointer (some ⟨gv + 1 + 1, 0, none⟩),.bool d,.int .i64 (j : Int),o,o,o,o,o,o,B,C,D,E,F,.string (str kk),C,G,.pointer (some ⟨gv, 0, none⟩),.int .i64 7,.bool false,o,U,q1,O,Z,q2,O,.bool false,.bool false,Z,q2,O,.bool false,.bool false,.int .i64 nn,Z,q2,O,J,.int .i64 (m : Int),.pointer (some ⟨gv + 1, 0, none⟩),.pointer (some ⟨gv + 1 + 1, 0, none⟩),.int .i64 (j : Int),.pointer (some ⟨gv, 4, none⟩),.slice ak ks.length ck,.int .i64 (ks.length : Int),.bool true,q4,q5,.int .i64 (j : Int),.int .i64 (m : Int),.bool ((j : Int) != (m : Int)),.pointer (some ⟨gv + 1, 4, none⟩),kA,.pointer (some ⟨gv, 4, none⟩),.slice ak ks.length ck,.int .i64 (j : Int),.pointer (some ((hd ak).add j)),.string (str k),.slice (some ⟨g12, 0, none⟩) 1 1,.slice a103 (KA.length + 1) c104,.pointer (some ⟨gv + 1, 5, none⟩),lA,.pointer (some ⟨gv, 5, none⟩),.slice al ks.length cl,.int .i64 (j : Int),.pointer (some ((hd al).add (j * 6))),.agg (List.toArray cx),.slice (some ⟨g89, 0, none⟩) 1 1,.slice a119 (VA.length + 1) c120,.pointer (some ⟨gv + 1, 4, none⟩),.pointer (some ⟨gv + 1, 5, none⟩),qs,qt,qu,qv,qw,qx,qy,qz,r0,r1,r2,r3,r4,r5,r6,r7,r8,r9,ra,rb,rc,rd,re,rf,rg,rh,ri,rj,rk,rl,rm,rn,ro,rp,rq,rr,rt,ru,rv,rx,ry,rz,t5,t6,t7,t8,t9,ta,tb,tc,td,o,o,o,o,o,o,o,o,o,o,o,o,o,o,o,o,o,o,o,o,o,o,o,o,o,o,o,o,o,o,o,o,o,o,o,o,o,o,o,o,o,o,o],[]⟩) hSm (hSi 20 rfl) rfl (by kernel_rfl) (fun _ _ _ h => h) ⟨fun e => absurd e (by decide), fun _ => hT130.a.c5, hE131⟩ (Tame.val rfl fun _ _ => by go_simp) rfl ?_
              refine wpAnyU_all (rs := [21]) (by kernel_rfl) (by decide) ?_
              intro w135 hm136 i hi
              obtain rfl : i = 21 := by simpa using hi
              have hT137 := hT130.below hm136
              have hE138 := hE131.trans (hm136.mono hE131.size)
              have hz139 := hT137.a.c5.cell
              have hf140 := hT137.a.blk.free 5
              refine wpOp_skip (w' := w135.setCell ⟨gv + 1, 5, none⟩ (.slice a119 (VA.length + 1) c120)) (a' := ⟨#[B,.string (str kk),D,.int .i64 nn,q3,o,.pointer (some ⟨W.heap.size + 1, 0, none⟩),o,u8,.pointer (some ⟨gv, 0, none⟩),.int .i64 (m : Int),.pointer (some ⟨gv + 1, 0, none⟩),.pointer (some ⟨gv + 1 + 1, 0, none⟩),.bool d,.int .i64 (j : Int),o,o,o,o,o,o,B,C,D,E,F,.string (str kk),C,G,.pointer (some ⟨gv, 0, none⟩),.int .i64 7,.bool false,o,U,q1,O,Z,q2,O,.bool false,.bool false,Z,q2,O,.bool false,.bool false,.int .i64 nn,Z,q2,O,J,.int .i64 (m : Int),.pointer (some ⟨gv + 1, 0, none⟩),.pointer (some ⟨gv + 1 + 1, 0, none⟩),.int .i64 (j : Int),.pointer (some ⟨gv, 4, none⟩),.slice ak ks.length ck,.int .i64 (ks.length : Int),.bool true,q4,q5,.int .i64 (j : Int),.int .i64 (m : Int),.bool ((j : Int) != (m : Int)),.pointer (some ⟨gv + 1, 4, none⟩),kA,.pointer (some ⟨gv, 4, none⟩),.slice ak ks.length ck,.int .i64 (j : Int),.pointer (some ((hd ak).add j)),.string (str k),.slice (some ⟨g12, 0, none⟩) 1 1,.slice a103 (KA.length + 1) c104,.pointer (some ⟨gv + 1, 5, none⟩),lA,.pointer (some ⟨gv, 5, none⟩),.slice al ks.length cl,.int .i64 (j : Int),.pointer (some ((hd al).add (j * 6))),.agg (List.toArray cx),.slice (some ⟨g89, 0, none⟩) 1 1,.slice a119 (VA.length + 1) c120,.pointer (some ⟨gv + 1, 4, none⟩),.pointer (some ⟨gv + 1, 5, none⟩),qs,qt,qu,qv,qw,qx,qy,qz,r0,r1,r2,r3,r4,r5,r6,r7,r8,r9,ra,rb,rc,rd,re,rf,rg,rh,ri,rj,rk,rl,rm,rn,ro,rp,rq,rr,rt,ru,rv,rx,ry,rz,t5,t6,t7,t8,t9,ta,tb,tc,td,o,o,o,o,o,o,o,o,o,o,o,o,o,o,o,o,o,o,o,o,o,o,o,o,o,o,o,o,o,o,o,o,o,o,o,o,o,o,o,o,o,o,o],[]⟩) rfl rfl (by go_simp) rfl ?_
              have hT141 := hT137.sL
              have hE142 := hE138.trans (set_below21 (i := 5) (u := (.slice a119 (VA.length + 1) c120)) hT137.a.hq)
              generalize w135.setCell ⟨gv + 1, 5, none⟩ (.slice a119 (VA.length + 1) c120) = w143 at *
              refine ⟨⟨fun e => absurd e (by decide), fun e => absurd e (by decide), hE142⟩, ?_⟩
              refine wpAnyU_done (by kernel_rfl) ?_ _
              intro w145 hm146
              have hTF := hT141.below hm146
              have hEF := hE142.trans (hm146.mono hE142.size)
              have hF := Lib.hid (hfin _ _ _ hTF hEF)
              clear hTF hEF
              go_wp2
              go_meet
              exact hF.out
          · have hT147 := hT0.below hm2
            have hE148 := hE0.trans (hm2.mono hE0.size)
            refine wpOp_val (v := .slice (some ⟨w1.heap.size, 0, none⟩) 1 1) (w' := w1.alloc (.cells (List.toArray cx) 30)) (a' := ⟨#[B,.string (str kk),D,.int .i64 nn,q3,o,.pointer (some ⟨W.heap.size + 1, 0, none⟩),o,u8,.pointer (some ⟨gv, 0, none⟩),.int .i64 (m : Int),.pointer (some ⟨gv + 1, 0, none⟩),.pointer (some ⟨gv + 1 + 1, 0, none⟩),.bool d,.int .i64 (j : Int),o,o,o,o,o,o,B,C,D,E,F,.string (str kk),C,G,.pointer (some ⟨gv, 0, none⟩),.int .i64 7,.bool false,o,U,q1,O,Z,q2,O,.bool false,.bool false,Z,q2,O,.bool false,.bool false,.int .i64 nn,Z,q2,O,J,.int .i64 (m : Int),.pointer (some ⟨gv + 1, 0, none⟩),.pointer (some ⟨gv + 1 + 1, 0, none⟩),.int .i64 (j : Int),.pointer (some ⟨gv, 4, none⟩),.slice ak ks.length ck,.int .i64 (ks.length : Int),.bool true,q4,q5,.int .i64 (j : Int),.int .i64 (m : Int),.bool ((j : Int) != (m : Int)),.pointer (some ⟨gv + 1, 4, none⟩),kA,.pointer (some ⟨gv, 4, none⟩),.slice ak ks.length ck,.int .i64 (j : Int),.pointer (some ((hd ak).add j)),.string (str k),qe,qf,.pointer (some ⟨gv + 1, 5, none⟩),lA,.pointer (some ⟨gv, 5, none⟩),.slice al ks.length cl,.int .i64 (j : Int),.pointer (some ((hd al).add (j * 6))),.agg (List.toArray cx),.slice (some ⟨w1.heap.size, 0, none⟩) 1 1,qp,qq,qr,qs,qt,qu,qv,qw,qx,qy,qz,r0,r1,r2,r3,r4,r5,r6,r7,r8,r9,ra,rb,rc,rd,re,rf,rg,rh,ri,rj,rk,rl,rm,rn,ro,rp,rq,rr,rt,ru,rv,rx,ry,rz,t5,t6,t7,t8,t9,ta,tb,tc,td,o,o,o,o,o,o,o,o,o,o,o,o,o,o,o,o,o,o,o,o,o,o,o,o,o,o,o,o,o,o,o,o,o,o,o,o,o,o,o,o,o,o,o],[]⟩) rfl rfl (run_bsOp (vals := #[(0, .agg (List.toArray cx))]) (by first | rfl | go_simp | simp [Act.eval]) (bsOp_one (cs := List.toArray cx) Tryd.underlying28 infoV (by decide) (by decide) (by exact zV_size) cx6)) rfl ?_
            have hm149 : Mo w1 (w1.alloc (.cells (List.toArray cx) 30)) := (Below.refl _ _).alloc (Nat.le_refl _) _
            have hB150 : Blk (w1.alloc (.cells (List.toArray cx) 30)) w1.heap.size 30 cx := Blk.new _ _ _
            have hT151 := hT147.below hm149
            have hE152 := hE148.trans (hm149.mono hE148.size)
            have hN153 : ∀ b, Ob (gv + 1) kA lA b → b < w1.heap.size := fun b hb => (hT147.a.olt b hb).2
            generalize w1.alloc (.cells (List.toArray cx) 30) = w154 at *
            generalize w1.heap.size = g155 at *
            have hS156 := s36 hT151.a.c4 hT151.a.c5 hE152 19 21
            refine ⟨(hS156 _), ?_⟩
            refine wpAnyU_all (rs := [7]) (by kernel_rfl) (by decide) ?_
            intro w157 hm158 i hi
            obtain rfl : i = 7 := by simpa using hi
            have hT159 := hT151.below hm158
            have hE160 := hE152.trans (hm158.mono hE152.size)
            have hB161 := hB150.below hm158
            refine wpOp_val (v := .slice (some ⟨w157.heap.size, 0, none⟩) 1 1) (w' := w157.alloc (.cells #[.string (str k)] 9)) (a' := ⟨#[B,.string (str kk),D,.int .i64 nn,q3,o,.pointer (some ⟨W.heap.size + 1, 0, none⟩),o,u8,.pointer (some ⟨gv, 0, none⟩),.int .i64 (m : Int),.pointer (some ⟨gv + 1, 0, none⟩),.pointer (some ⟨gv + 1 + 1, 0, none⟩),.bool d,.int .i64 (j : Int),o,o,o,o,o,o,B,C,D,E,F,.string (str kk),C,G,.pointer (some ⟨gv, 0, none⟩),.int .i64 7,.bool false,o,U,q1,O,Z,q2,O,.bool false,.bool false,Z,q2,O,.bool false,.bool false,.int .i64 nn,Z,q2,O,J,.int .i64 (m : Int),.pointer (some ⟨gv + 1, 0, none⟩),.pointer (some ⟨gv + 1 + 1, 0, none⟩),.int .i64 (j : Int),.pointer (some ⟨gv, 4, none⟩),.slice ak ks.length ck,.int .i64 (ks.length : Int),.bool true,q4,q5,.int .i64 (j : Int),.int .i64 (m : Int),.bool ((j : Int) != (m : Int)),.pointer (some ⟨gv + 1, 4, none⟩),kA,.pointer (some ⟨gv, 4, none⟩),.slice ak ks.length ck,.int .i64 (j : Int),.pointer (some ((hd ak).add j)),.string (str k),.slice (some ⟨w157.heap.size, 0, none⟩) 1 1,qf,.pointer (some ⟨gv + 1, 5, none⟩),lA,.pointer (some ⟨gv, 5, none⟩),.slice al ks.length cl,.int .i64 (j : Int),.pointer (some ((hd al).add (j * 6))),.agg (List.toArray cx),.slice (some ⟨g155, 0, none⟩) 1 1,qp,qq,qr,qs,qt,qu,qv,qw,qx,qy,qz,r0,r1,r2,r3,r4,r5,r6,r7,r8,r9,ra,rb,rc,rd,re,rf,rg,rh,ri,rj,rk,rl,rm,rn,ro,rp,rq,rr,rt,ru,rv,rx,ry,rz,t5,t6,t7,t8,t9,ta,tb,tc,td,o,o,o,o,o,o,o,o,o,o,o,o,o,o,o,o,o,o,o,o,o,o,o,o,o,o,o,o,o,o,o,o,o,o,o,o,o,o,o,o,o,o,o],[]⟩) rfl rfl (run_bsOp (vals := #[(0, .string (str k))]) (by first | rfl | go_simp | simp [Act.eval]) (bsOp_text Tryd.underlying27 infoStr2 (by decide))) rfl ?_
            have hm162 : Mo w157 (w157.alloc (.cells #[.string (str k)] 9)) := (Below.refl _ _).alloc (Nat.le_refl _) _
            have hB163 : Blk (w157.alloc (.cells #[.string (str k)] 9)) w157.heap.size 9 [strV k] := Blk.new _ _ _
            have hT164 := hT159.below hm162
            have hE165 := hE160.trans (hm162.mono hE160.size)
            have hN166 : ∀ b, Ob (gv + 1) kA lA b → b < w157.heap.size := fun b hb => (hT159.a.olt b hb).2
            have hB169 := hB161.below hm162
            generalize w157.alloc (.cells #[.string (str k)] 9) = w167 at *
            generalize w157.heap.size = g168 at *
            have hS170 := s36 hT164.a.c4 hT164.a.c5 hE165 19 21
            refine ⟨(hS170 _), ?_⟩
            refine wpAnyU_all (rs := [8]) (by kernel_rfl) (by decide) ?_
            intro w171 hm172 i hi
            obtain rfl : i = 8 := by simpa using hi
            have hT173 := hT164.below hm172
            have hE174 := hE165.trans (hm172.mono hE165.size)
            have hB175 := hB163.below hm172
            have hB176 := hB169.below hm172
            obtain ⟨a182, c183, w177, hrun184, hM178, hG179⟩ := hT173.a.appK (ty := 27) hkl0 hB175 hnK
            refine wpOp_val (v := .slice a182 (KA.length + 1) c183) (w' := w177) (a' := ⟨#[B,.string (str kk),D,.int .i64 nn,q3,o,.pointer (some ⟨W.heap.size + 1, 0, none⟩),o,u8,.pointer (some ⟨gv, 0, none⟩),.int .i64 (m : Int),.pointer (some ⟨gv + 1, 0, none⟩),.pointer (some ⟨gv + 1 + 1, 0, none⟩),.bool d,.int .i64 (j : Int),o,o,o,o,o,o,B,C,D,E,F,.string (str kk),C,G,.pointer (some ⟨gv, 0, none⟩),.int .i64 7,.bool false,o,U,q1,O,Z,q2,O,.bool false,.bool false,Z,q2,O,.bool false,.bool false,.int .i64 nn,Z,q2,O,J,.int .i64 (m : Int),.pointer (some ⟨gv + 1, 0, none⟩),.pointer (some ⟨gv + 1 + 1, 0, none⟩),.int .i64 (j : Int),.pointer (some ⟨gv, 4, none⟩),.slice ak ks.length ck,.int .i64 (ks.length : Int),.bool true,q4,q5,.int .i64 (j : Int),.int .i64 (m : Int),.bool ((j : Int) != (m : Int)),.pointer (some ⟨gv + 1, 4, none⟩),kA,.pointer (some ⟨gv, 4, none⟩),.slice ak ks.length ck,.int .i64 (j : Int),.pointer (some ((hd ak).add j)),.string (str k),.slice (some ⟨g168, 0, none⟩) 1 1,.slice a182 (KA.length + 1) c183,.pointer (some ⟨gv + 1, 5, none⟩),lA,.pointer (some ⟨gv, 5, none⟩),.slice al ks.length cl,.int .i64 (j : Int),.pointer (some ((hd al).add (j * 6))),.agg (List.toArray cx),.slice (some ⟨g155, 0, none⟩) 1 1,qp,qq,qr,qs,qt,qu,qv,qw,qx,qy,qz,r0,r1,r2,r3,r4,r5,r6,r7,r8,r9,ra,rb,rc,rd,re,rf,rg,rh,ri,rj,rk,rl,rm,rn,ro,rp,rq,rr,rt,ru,rv,rx,ry,rz,t5,t6,t7,t8,t9,ta,tb,tc,td,o,o,o,o,o,o,o,o,o,o,o,o,o,o,o,o,o,o,o,o,o,o,o,o,o,o,o,o,o,o,o,o,o,o,o,o,o,o,o,o,o,o,o],[]⟩) rfl rfl (run_append hrun184 rfl rfl rfl) rfl ?_
            have hT180 := hT173.gK hM178 hG179
            have hE181 := hE174.trans (hT173.a.growK hG179)
            have hB185 := (hG179.blk hB176 (fun e => Nat.lt_irrefl _ (hN153 _ (.inr (.inl e))))).1
            have hS186 := s36 hT180.a.c4 hT180.a.c5 hE181 19 21
            refine ⟨(hS186 _), ?_⟩
            have hS187 := s36 hT180.a.c4 hT180.a.c5 hE181 19 21
            refine tk0 18 (.pointer (some ⟨gv + 1, 4, none⟩)) (⟨#[B,.string (str kk),D,.int .i64 nn,q3,o,.pointer (some ⟨W.heap.size + 1, 0, none⟩),o,u8,.pointer (some ⟨gv, 0, none⟩),.int .i64 (m : Int),.pointer (some ⟨gv + 1, 0, none⟩),.pointer (some ⟨gv + 1 + 1, 0, none⟩),.bool d,.int .i64 (j : Int),o,o,o,o,o,o,B,C,D,E,F,.string (str kk),C,G,.pointer (some ⟨gv, 0, none⟩),.int .i64 7,.bool false,o,U,q1,O,Z,q2,O,.bool false,.bool false,Z,q2,O,.bool false,.bool false,.int .i64 nn,Z,q2,O,J,.int .i64 (m : Int),.pointer (some ⟨gv + 1, 0, none⟩),.pointer (some ⟨gv + 1 + 1, 0, none⟩),.int .i64 (j : Int),.pointer (some ⟨gv, 4, none⟩),.slice ak ks.length ck,.int .i64 (ks.length : Int),.bool true,q4,q5,.int .i64 (j : Int),.int .i64 (m : Int),.bool ((j : Int) != (m : Int)),.pointer (some ⟨gv + 1, 4, none⟩),kA,.pointer (some ⟨gv, 4, none⟩),.slice ak ks.length ck,.int .i64 (j : Int),.pointer (some ((hd ak).add j)),.string (str k),.slice (some ⟨g168, 0, none⟩) 1 1,.slice a182 (KA.length + 1) c183,.pointer (some ⟨gv + 1, 5, none⟩),lA,.pointer (some ⟨gv, 5, none⟩),.slice al ks.length cl,.int .i64 (j : Int),.pointer (some ((hd al).add (j * 6))),.agg (List.toArray cx),.slice (some ⟨g155, 0, none⟩) 1 1,qp,.pointer (some ⟨gv + 1, 4, none⟩),qr,qs,qt,qu,qv,qw,qx,qy,qz,r0,r1,r2,r3,r4,r5,r6,r7,r8,r9,ra,rb,rc,rd,re,rf,rg,rh,ri,rj,rk,rl,rm,rn,ro,rp,rq,rr,rt,ru,rv,rx,ry,rz,t5,t6,t7,t8,t9,ta,tb,tc,td,o,o,o,o,o,o,o,o,o,o,o,o,o,o,o,o,o,o,o,o,o,o,o,o,o,o,o,o,o,o,o,o,o,o,o,o,o,o,o,o,o,o,o],[]⟩) hSm (hSi 18 rfl) rfl (by kernel_rfl) (fun _ _ _ h => h) (hS187 _) (Tame.val rfl fun _ _ => by go_simp) rfl ?_
            refine wpAnyU_all (rs := [17]) (by kernel_rfl) (by decide) ?_
            intro w188 hm189 i hi
            obtain rfl : i = 17 := by simpa using hi
            have hT190 := hT180.below hm189
            have hE191 := hE181.trans (hm189.mono hE181.size)
            have hB192 := hB185.below hm189
            have hX201 := hxP.same (w' := w188) (fun b hb _ => hE191.block b hb)
            obtain ⟨a198, c199, w193, hrun200, hM194, hG195⟩ := hT190.a.appL (ty := 28) hX201 hB192 hnV
            refine wpOp_val (v := .slice a198 (VA.length + 1) c199) (w' := w193) (a' := ⟨#[B,.string (str kk),D,.int .i64 nn,q3,o,.pointer (some ⟨W.heap.size + 1, 0, none⟩),o,u8,.pointer (some ⟨gv, 0, none⟩),.int .i64 (m : Int),.pointer (some ⟨gv + 1, 0, none⟩),.pointer (some ⟨gv + 1 + 1, 0, none⟩),.bool d,.int .i64 (j : Int),o,o,o,o,o,o,B,C,D,E,F,.string (str kk),C,G,.pointer (some ⟨gv, 0, none⟩),.int .i64 7,.bool false,o,U,q1,O,Z,q2,O,.bool false,.bool false,Z,q2,O,.bool false,.bool false,.int .i64 nn,Z,q2,O,J,.int .i64 (m : Int),.pointer (some ⟨gv + 1, 0, none⟩),.pointer (some ⟨gv + 1 + 1, 0, none⟩),.int .i64 (j : Int),.pointer (some ⟨gv, 4, none⟩),.slice ak ks.length ck,.int .i64 (ks.length : Int),.bool true,q4,q5,.int .i64 (j : Int),.int .i64 (m : Int),.bool ((j : Int) != (m : Int)),.pointer (some ⟨gv + 1, 4, none⟩),kA,.pointer (some ⟨gv, 4, none⟩),.slice ak ks.length ck,.int .i64 (j : Int),.pointer (some ((hd ak).add j)),.string (str k),.slice (some ⟨g168, 0, none⟩) 1 1,.slice a182 (KA.length + 1) c183,.pointer (some ⟨gv + 1, 5, none⟩),lA,.pointer (some ⟨gv, 5, none⟩),.slice al ks.length cl,.int .i64 (j : Int),.pointer (some ((hd al).add (j * 6))),.agg (List.toArray cx),.slice (some ⟨g155, 0, none⟩) 1 1,.slice a198 (VA.length + 1) c199,.pointer (some ⟨gv + 1, 4, none⟩),qr,qs,qt,qu,qv,qw,qx,qy,qz,r0,r1,r2,r3,r4,r5,r6,r7,r8,r9,ra,rb,rc,rd,re,rf,rg,rh,ri,rj,rk,rl,rm,rn,ro,rp,rq,rr,rt,ru,rv,rx,ry,rz,t5,t6,t7,t8,t9,ta,tb,tc,td,o,o,o,o,o,o,o,o,o,o,o,o,o,o,o,o,o,o,o,o,o,o,o,o,o,o,o,o,o,o,o,o,o,o,o,o,o,o,o,o,o,o,o],[]⟩) rfl rfl (run_append hrun200 rfl rfl rfl) rfl ?_
            have hT196 := hT190.gL hM194 hG195
            have hE197 := hE191.trans (hT190.a.growL hG195)
            have hS202 := s36 hT196.a.c4 hT196.a.c5 hE197 19 21
            refine ⟨(hS202 _), ?_⟩
            refine wpAnyU_all (rs := [19]) (by kernel_rfl) (by decide) ?_
            intro w203 hm204 i hi
            obtain rfl : i = 19 := by simpa using hi
            have hT205 := hT196.below hm204
            have hE206 := hE197.trans (hm204.mono hE197.size)
            have hz207 := hT205.a.c4.cell
            have hf208 := hT205.a.blk.free 4
            refine wpOp_skip (w' := w203.setCell ⟨gv + 1, 4, none⟩ (.slice a182 (KA.length + 1) c183)) (a' := ⟨#[B,.string (str kk),D,.int .i64 nn,q3,o,.pointer (some ⟨W.heap.size + 1, 0, none⟩),o,u8,.pointer (some ⟨gv, 0, none⟩),.int .i64 (m : Int),.pointer (some ⟨gv + 1, 0, none⟩),.pointer (some ⟨gv + 1 + 1, 0, none⟩),.bool d,.int .i64 (j : Int),o,o,o,o,o,o,B,C,D,E,F,.string (str kk),C,G,.pointer (some ⟨gv, 0, none⟩),.int .i64 7,.bool false,o,U,q1,O,Z,q2,O,.bool false,.bool false,Z,q2,O,.bool false,.bool false,.int .i64 nn,Z,q2,O,J,.int .i64 (m : Int),.pointer (some ⟨gv + 1, 0, none⟩),.pointer (some ⟨gv + 1 + 1, 0, none⟩),.int .i64 (j : Int),.pointer (some ⟨gv, 4, none⟩),.slice ak ks.length ck,.int .i64 (ks.length : Int),.bool true,q4,q5,.int .i64 (j : Int),.int .i64 (m : Int),.bool ((j : Int) != (m : Int)),.pointer (some ⟨gv + 1, 4, none⟩),kA,.pointer (some ⟨gv, 4, none⟩),.slice ak ks.length ck,.int .i64 (j : Int),.pointer (some ((hd ak).add j)),.string (str k),.slice (some ⟨g168, 0, none⟩) 1 1,.slice a182 (KA.length + 1) c183,.pointer (some ⟨gv + 1, 5, none⟩),lA,.pointer (some ⟨gv, 5, none⟩),.slice al ks.length cl,.int .i64 (j : Int),.pointer (some ((hd al).add (j * 6))),.agg (List.toArray cx),.slice (some ⟨g155, 0, none⟩) 1 1,.slice a198 (VA.length + 1) c199,.pointer (some ⟨gv + 1, 4, none⟩),qr,qs,qt,qu,qv,qw,qx,qy,qz,r0,r1,r2,r3,r4,r5,r6,r7,r8,r9,ra,rb,rc,rd,re,rf,rg,rh,ri,rj,rk,rl,rm,rn,ro,rp,rq,rr,rt,ru,rv,rx,ry,rz,t5,t6,t7,t8,t9,ta,tb,tc,td,o,o,o,o,o,o,o,o,o,o,o,o,o,o,o,o,o,o,o,o,o,o,o,o,o,o,o,o,o,o,o,o,o,o,o,o,o,o,o,o,o,o,o],[]⟩) rfl rfl (by go_simp) rfl ?_
            have hT209 := hT205.sK
            have hE210 := hE206.trans (set_below21 (i := 4) (u := (.slice a182 (KA.length + 1) c183)) hT205.a.hq)
            generalize w203.setCell ⟨gv + 1, 4, none⟩ (.slice a182 (KA.length + 1) c183) = w211 at *
            refine ⟨⟨fun e => absurd e (by decide), fun _ => hT209.a.c5, hE210⟩, ?_⟩
            refine tk0 20 (.pointer (some ⟨gv + 1, 5, none⟩)) (⟨#[B,.string (str kk),D,.int .i64 nn,q3,o,.pointer (some ⟨W.heap.size + 1, 0, none⟩),o,u8,.pointer (some ⟨gv, 0, none⟩),.int .i64 (m : Int),.pointer (some ⟨gv + 1, 0, none⟩),.pointer (some ⟨gv + 1 + 1, 0, none⟩),.bool d,.int .i64 (j : Int),o,o,o,o,o,o,B,C,D,E,F,.string (str kk),C,G,.pointer (some ⟨gv, 0, none⟩),.int .i64 7,.bool false,o,U,q1,O,Z,q2,O,.bool false,.bool false,Z,q2,O,.bool false,.bool false,.int .i64 nn,Z,q2,O,J,.int .i64 (m : Int),.pointer (some ⟨gv + 1, 0, none⟩),.pointer (some ⟨gv + 1 + 1, 0, none⟩),.int .i64 (j : Int),.pointer (some ⟨gv, 4, none⟩),.slice ak ks.length ck,.int .i64 (ks.length : Int),.bool true,q4,q5,.int .i64 (j : Int),.int .i64 (m : Int),.bool ((j : Int) != (m : Int)),.pointer (some ⟨gv + 1, 4, none⟩),kA,.pointer (some ⟨gv, 4, none⟩),.slice ak ks.length ck,.int .i64 (j : Int),.pointer (some ((hd ak).add j)),.string (str k),.slice (some ⟨g168, 0, none⟩) 1 1,.slice a182 (KA.length + 1) c183,.pointer (some ⟨gv + 1, 5, none⟩),lA,.pointer (some ⟨gv, 5, none⟩),.slice al ks.length cl,.int .i64 (j : Int),.pointer (some ((hd al).add (j * 6))),.agg (List.toArray cx),.slice (some ⟨g155, 0, none⟩) 1 1,.slice a198 (VA.length + 1) c199,.pointer (some ⟨gv + 1, 4, none⟩),.pointer (some ⟨gv + 1, 5, none⟩),qs,qt,qu,qv,qw,qx,qy,qz,r0,r1,r2,r3,r4,r5,r6,r7,r8,r9,ra,rb,rc,rd,re,rf,rg,rh,ri,rj,rk,rl,rm,rn,ro,rp,rq,rr,rt,ru,rv,rx,ry,rz,t5,t6,t7,t8,t9,ta,tb,tc,td,o,o,o,o,o,o,o,o,o,o,o,o,o,o,o,o,o,o,o,o,o,o,o,o,o,o,o,o,o,o,o,o,o,o,o,o,o,o,o,o,o,o,o],[]⟩) hSm (hSi 20 rfl) rfl (by kernel_rfl) (fun _ _ _ h => h) ⟨fun e => absurd e (by decide), fun _ => hT209.a.c5, hE210⟩ (Tame.val rfl fun _ _ => by go_simp) rfl ?_
            refine wpAnyU_all (rs := [21]) (by kernel_rfl) (by decide) ?_
            intro w214 hm215 i hi
            obtain rfl : i = 21 := by simpa using hi
            have hT216 := hT209.below hm215
            have hE217 := hE210.trans (hm215.mono hE210.size)
            have hz218 := hT216.a.c5.cell
            have hf219 := hT216.a.blk.free 5
            refine wpOp_skip (w' := w214.setCell ⟨gv + 1, 5, none⟩ (.slice a198 (VA.length + 1) c199)) (a' := ⟨#[B,.string (str kk),D,.int .i64 nn,q3,o,.pointer (some ⟨W.heap.size + 1, 0, none⟩),o,u8,.pointer (some ⟨gv, 0, none⟩),.int .i64 (m : Int),.pointer (some ⟨gv + 1, 0, none⟩),.pointer (some ⟨gv + 1 + 1, 0, none⟩),.bool d,.int .i64 (j : Int),o,o,o,o,o,o,B,C,D,E,F,.string (str kk),C,G,.pointer (some ⟨gv, 0, none⟩),.int .i64 7,.bool false,o,U,q1,O,Z,q2,O,.bool false,.bool false,Z,q2,O,.bool false,.bool false,.int .i64 nn,Z,q2,O,J,.int .i64 (m : Int),.pointer (some ⟨gv + 1, 0, none⟩),.pointer (some ⟨gv + 1 + 1, 0, none⟩),.int .i64 (j : Int),.pointer (some ⟨gv, 4, none⟩),.slice ak ks.length ck,.int .i64 (ks.length : Int),.bool true,q4,q5,.int .i64 (j : Int),.int .i64 (m : Int),.bool ((j : Int) != (m : Int)),.pointer (some ⟨gv + 1, 4, none⟩),kA,.pointer (some ⟨gv, 4, none⟩),.slice ak ks.length ck,.int .i64 (j : Int),.pointer (some ((hd ak).add j)),.string (str k),.slice (some ⟨g168, 0, none⟩) 1 1,.slice a182 (KA.length + 1) c183,.pointer (some ⟨gv + 1, 5, none⟩),lA,.pointer (some ⟨gv, 5, none⟩),.slice al ks.length cl,.int .i64 (j : Int),.pointer (some ((hd al).add (j * 6))),.agg (List.toArray cx),.slice (some ⟨g155, 0, none⟩) 1 1,.slice a198 (VA.length + 1) c199,.pointer (some ⟨gv + 1, 4, none⟩),.pointer (some ⟨gv + 1, 5, none⟩),qs,qt,qu,qv,qw,qx,qy,qz,r0,r1,r2,r3,r4,r5,r6,r7,r8,r9,ra,rb,rc,rd,re,rf,rg,rh,ri,rj,rk,rl,rm,rn,ro,rp,rq,rr,rt,ru,rv,rx,ry,rz,t5,t6,t7,t8,t9,ta,tb,tc,td,o,o,o,o,o,o,o,o,o,o,o,o,o,o,o,o,o,o,o,o,o,o,o,o,o,o,o,o,o,o,o,o,o,o,o,o,o,o,o,o,o,o,o],[]⟩) rfl rfl (by go_simp) rfl ?_
            have hT220 := hT216.sL
            have hE221 := hE217.trans (set_below21 (i := 5) (u := (.slice a198 (VA.length + 1) c199)) hT216.a.hq)
            generalize w214.setCell ⟨gv + 1, 5, none⟩ (.slice a198 (VA.length + 1) c199) = w222 at *
            refine ⟨⟨fun e => absurd e (by decide), fun e => absurd e (by decide), hE221⟩, ?_⟩
            refine wpAnyU_done (by kernel_rfl) ?_ _
            intro w224 hm225
            have hTF := hT220.below hm225
            have hEF := hE221.trans (hm225.mono hE221.size)
            have hF := Lib.hid (hfin _ _ _ hTF hEF)
            clear hTF hEF
            go_wp2
            go_meet
            exact hF.out
          --END15
      case rest =>
        have hI2 := Lib.hid hcut
        have hbel : Below W11.heap.size W11 wc := by
          obtain ⟨_, _, _, _, _, _, _, _, h⟩ := hcut
          exact h.bel
        clear hcut hI c4
        have c4 : wc.cell? ⟨gv, 4, none⟩ = some (.slice ak ks.length ck) := (HV.out.below hbel).cell rfl
        have s5 := HKS.out.isSome (i := j) (by simpa using hlt)
        have ck4 : wc.cell? ((hd ak).add j) = some (.string (str ks[j])) := (HKS.out.below hbel).cell (i := j) (u := strV ks[j]) (by simp [hlt])
        have hsb := str_beq ks[j] kk
        by_cases hek : ks[j] = kk
        case pos =>
          have t4 : ((str ks[j]).toList == (str kk).toList) = true := by rw [hsb]; simpa using hek
          have hbF := Lib.hid (HBW.out.trans (hbel.mono HBW.out.size))
          clear hI2 hsb hek hbel
          generalize ks[j] = k at *
          go_wp2_with fail
          refine (hlv _).mono ?_
          rintro e w5 ⟨rfl, hb5⟩
          go_wp2
          go_ret
          exact ⟨rfl, hbF.out.trans (hb5.mono hbF.out.size)⟩
        case neg =>
        have t4 : ((str ks[j]).toList == (str kk).toList) = false := by rw [hsb]; simpa using hek
        have HNE := Lib.hid hek
        clear hsb hek
        have hLT := Lib.hid hlt
        have hJ2 : Hid (ks[j]? = some ks[j]) := List.getElem?_eq_getElem hlt
        generalize hkj : ks[j] = k at *
        go_upto_region 18 with (fail)
        go_cut [102] (fun u wx => ∃ g : Bool, u = .bool g ∧ (d = true → g = false) ∧ Hid (wx = wc))
        case first =>
          cases d with
          | true =>
            go_wp2
            go_meet
            exact ⟨false, rfl, fun _ => rfl, by first | exact Lib.hid rfl | exact Lib.hid trivial⟩
          | false =>
            go_wp2
            go_meet
            exact ⟨_, rfl, fun h => (by cases h), by first | exact Lib.hid rfl | exact Lib.hid trivial⟩
        case rest =>
          obtain ⟨g, rfl, hdg, hwx⟩ := hcut
          obtain rfl := hwx.out
          clear hwx
          go_upto_if 102 with (fail)
          go_cut [13] (fun u wx => ∃ d2 : Bool, u = .bool d2 ∧ SJ W11 wx W11.heap.size (gv + 1) (gv + 1 + 1) K ks kk m (j + 1) j d2)
          case first =>
            cases g with
            | false =>
              go_wp2
              go_meet
              exact ⟨d, rfl, hI2.out⟩
            | true =>
              have hd0 : d = false := by
                cases d with
                | true => exact absurd (hdg rfl) (by simp)
                | false => rfl
              subst hd0
              obtain ⟨kB, lB, kA, lA, KB, KA, VB, VA, hSI⟩ := hI2.out
              have hT0 := hSI.tm.swap.below (Below.drewN (Below.refl wc.heap.size wc) 1)
              have hE0 := Below.drewN hbel 1
              have hxP := VAt.inP HY.out
              have cx6 : (List.toArray ys).size = 6 := by simpa using HY.out.len
              have hkl0 : kk.length ≤ maxLen := by have := hkk.out; unfold maxLen; omega
              have hVc : ∀ w', Below W11.heap.size W11 w' → (ldOp 30 (.pointer (some ⟨W.heap.size + 1, 0, none⟩))).run Tryd.prog w' = .ok (.agg (List.toArray ys)) w' := fun w' hb => ldOp_all (P := Tryd.prog) (ty := 30) (HC.out.below hb) Tryd.underlying30 rfl (by rw [v6]; exact sizeV)
              have hnK : KA.length ≤ 1000 := by have h1 := hSI.lb.2; have := HKL.out; have := hLT.out; rw [if_neg (by simp)] at h1; omega
              have hnV : VA.length ≤ 1000 := by have := hSI.lb.1; omega
              have hfin : ∀ (wx : World) (kA' lA' : Value), TM W11.heap.size (gv + 1 + 1) (gv + 1) wx kA' lA' kA' lA' (KA ++ [kk]) (VA ++ [Y]) kB lB kB lB KB VB → Below W11.heap.size W11 wx → SJ W11 wx W11.heap.size (gv + 1) (gv + 1 + 1) K ks kk m (j + 1) j true := fun wx kA' lA' hT hE =>
                ⟨kB, lB, kA', lA', KB, _, VB, _, hT.swap, hSI.la, ⟨by simp [hSI.lb.1], by have := hSI.lb.2; simp at this ⊢; omega⟩, hSI.ka, fun hne => (hSI.kb hne).snoc hSI.lb.1 (fun e => absurd e hne), hSI.ne, hSI.sa, (fun v hv => by
                  rcases List.mem_append.1 hv with hv | hv
                  · exact hSI.sb v hv
                  · simp at hv; subst hv; exact hYs.out), hE⟩
              clear hI2 hSI hdg hbel
              go_upto_region 19 with (fail)
              --REGION19
              generalize u54 = q4, u55 = q5, u56 = q6, u57 = q8, u58 = q9, u59 = qa, u60 = qb, u61 = qc, u62 = qd, u63 = qe, u64 = qf, u65 = qg, u66 = qh, u67 = qi, u68 = qj, u69 = qk, u70 = ql, u71 = qm, u72 = qn, u73 = qp, u74 = qq, u75 = qr, u76 = qs, u77 = qt, u78 = qu, u79 = qv, u80 = qw, u81 = qx, u82 = qy, u83 = qz, u84 = r0, u85 = r1, u86 = r2, u87 = r3, u88 = r4, u89 = r5, u90 = r6, u91 = r7, u92 = r8, u93 = r9, u94 = ra, u95 = rb, u96 = rc, u97 = rd, u98 = re, u99 = rf, u100 = rg, u101 = rh, u103 = ri, u104 = rj, u105 = rk, u106 = rl, u107 = rm, u108 = rn, u109 = ro, u110 = rp, u111 = rq, u112 = rr, u113 = rt, u114 = ru, u115 = rv, u116 = rx, u117 = ry, u118 = rz, u119 = t5, u120 = t6, u121 = t7, u122 = t8, u123 = t9, u124 = ta, u125 = tb, u126 = tc, u127 = td, u128 = te, u129 = tf, u130 = tg, u131 = th, u132 = ti, u133 = tj, u134 = tk
              have hSm : ∀ (L : Array Bool) (w1 w2 : World), SS36 W11 (gv + 1 + 1) kA lA 11 13 L w1 → Mo w1 w2 → SS36 W11 (gv + 1 + 1) kA lA 11 13 L w2 := fun _ w1 w2 h hm => ⟨fun e => (h.1 e).below hm, fun e => (h.2.1 e).below hm, h.2.2.trans (hm.mono h.2.2.size)⟩
              have hSi : ∀ i, (i != 11 && i != 13) = true → ∀ (L : Array Bool) (w1 : World), SS36 W11 (gv + 1 + 1) kA lA 11 13 (L.setIfInBounds i true) w1 ↔ SS36 W11 (gv + 1 + 1) kA lA 11 13 L w1 := fun i h L w1 => by have h := (Bool.and_eq_true _ _).mp h; unfold SS36; rw [getD_set_ne false (by simpa using h.1), getD_set_ne false (by simpa using h.2)]
              have hS0 := s36 hT0.a.c4 hT0.a.c5 hE0 11 13
              refine wp_region_upN (S := fun L w1 => SS36 W11 (gv + 1 + 1) kA lA 11 13 L w1) 14 rfl (by kernel_rfl) ?_
              refine tk0 0 (.pointer (some ⟨gv + 1 + 1, 4, none⟩)) (⟨#[B,.string (str kk),D,.int .i64 nn,q3,o,.pointer (some ⟨W.heap.size + 1, 0, none⟩),o,u8,.pointer (some ⟨gv, 0, none⟩),.int .i64 (m : Int),.pointer (some ⟨gv + 1, 0, none⟩),.pointer (some ⟨gv + 1 + 1, 0, none⟩),.bool false,.int .i64 (j : Int),o,o,o,o,o,o,B,C,D,E,F,.string (str kk),C,G,.pointer (some ⟨gv, 0, none⟩),.int .i64 7,.bool false,o,U,q1,O,Z,q2,O,.bool false,.bool false,Z,q2,O,.bool false,.bool false,.int .i64 nn,Z,q2,O,J,.int .i64 (m : Int),.pointer (some ⟨gv + 1, 0, none⟩),.pointer (some ⟨gv + 1 + 1, 0, none⟩),q4,q5,q6,q8,q9,qa,qb,qc,qd,qe,qf,qg,qh,qi,qj,qk,ql,qm,qn,qp,qq,qr,qs,qt,qu,qv,qw,qx,qy,qz,r0,r1,r2,r3,r4,r5,r6,r7,r8,r9,ra,rb,rc,rd,re,rf,rg,rh,.bool true,.pointer (some ⟨gv + 1 + 1, 4, none⟩),rj,rk,rl,rm,rn,ro,rp,rq,rr,rt,ru,rv,rx,ry,rz,t5,t6,t7,t8,t9,ta,tb,tc,td,te,tf,tg,th,ti,tj,tk,o,o,o,o,o,o,o,o,o,o,o,o,o,o,o,o,o,o,o,o,o,o,o,o,o,o,o,o,o,o,o,o,o,o,o,o,o,o,o,o,o,o,o],[]⟩) hSm (hSi 0 rfl) rfl (by kernel_rfl) (fun _ _ _ h => h) (hS0 _) (Tame.val rfl fun _ _ => by go_simp) rfl ?_
              refine tk2 1 11 (fun w1 => CL w1 (gv + 1 + 1) 4 kA) (kA) (⟨#[B,.string (str kk),D,.int .i64 nn,q3,o,.pointer (some ⟨W.heap.size + 1, 0, none⟩),o,u8,.pointer (some ⟨gv, 0, none⟩),.int .i64 (m : Int),.pointer (some ⟨gv + 1, 0, none⟩),.pointer (some ⟨gv + 1 + 1, 0, none⟩),.bool false,.int .i64 (j : Int),o,o,o,o,o,o,B,C,D,E,F,.string (str kk),C,G,.pointer (some ⟨gv, 0, none⟩),.int .i64 7,.bool false,o,U,q1,O,Z,q2,O,.bool false,.bool false,Z,q2,O,.bool false,.bool false,.int .i64 nn,Z,q2,O,J,.int .i64 (m : Int),.pointer (some ⟨gv + 1, 0, none⟩),.pointer (some ⟨gv + 1 + 1, 0, none⟩),q4,q5,q6,q8,q9,qa,qb,qc,qd,qe,qf,qg,qh,qi,qj,qk,ql,qm,qn,qp,qq,qr,qs,qt,qu,qv,qw,qx,qy,qz,r0,r1,r2,r3,r4,r5,r6,r7,r8,r9,ra,rb,rc,rd,re,rf,rg,rh,.bool true,.pointer (some ⟨gv + 1 + 1, 4, none⟩),kA,rk,rl,rm,rn,ro,rp,rq,rr,rt,ru,rv,rx,ry,rz,t5,t6,t7,t8,t9,ta,tb,tc,td,te,tf,tg,th,ti,tj,tk,o,o,o,o,o,o,o,o,o,o,o,o,o,o,o,o,o,o,o,o,o,o,o,o,o,o,o,o,o,o,o,o,o,o,o,o,o,o,o,o,o,o,o],[]⟩) hSm (hSi 1 rfl) (fun _ _ h h2 => h.1 h2) rfl rfl (by kernel_rfl) (fun _ _ _ h => h) (hS0 _) (Tame.val rfl (fun w' hA => by have h1 := hA.cell; go_simp)) rfl ?_
              refine tk0 2 (.string (str kk)) (⟨#[B,.string (str kk),D,.int .i64 nn,q3,o,.pointer (some ⟨W.heap.size + 1, 0, none⟩),o,u8,.pointer (some ⟨gv, 0, none⟩),.int .i64 (m : Int),.pointer (some ⟨gv + 1, 0, none⟩),.pointer (some ⟨gv + 1 + 1, 0, none⟩),.bool false,.int .i64 (j : Int),o,o,o,o,o,o,B,C,D,E,F,.string (str kk),C,G,.pointer (some ⟨gv, 0, none⟩),.int .i64 7,.bool false,o,U,q1,O,Z,q2,O,.bool false,.bool false,Z,q2,O,.bool false,.bool false,.int .i64 nn,Z,q2,O,J,.int .i64 (m : Int),.pointer (some ⟨gv + 1, 0, none⟩),.pointer (some ⟨gv + 1 + 1, 0, none⟩),q4,q5,q6,q8,q9,qa,qb,qc,qd,qe,qf,qg,qh,qi,qj,qk,ql,qm,qn,qp,qq,qr,qs,qt,qu,qv,qw,qx,qy,qz,r0,r1,r2,r3,r4,r5,r6,r7,r8,r9,ra,rb,rc,rd,re,rf,rg,rh,.bool true,.pointer (some ⟨gv + 1 + 1, 4, none⟩),kA,.string (str kk),rl,rm,rn,ro,rp,rq,rr,rt,ru,rv,rx,ry,rz,t5,t6,t7,t8,t9,ta,tb,tc,td,te,tf,tg,th,ti,tj,tk,o,o,o,o,o,o,o,o,o,o,o,o,o,o,o,o,o,o,o,o,o,o,o,o,o,o,o,o,o,o,o,o,o,o,o,o,o,o,o,o,o,o,o],[]⟩) hSm (hSi 2 rfl) rfl (by kernel_rfl) (fun _ _ _ h => h) (hS0 _) (Tame.val rfl fun _ _ => by go_simp) rfl ?_
              refine tk0 5 (.pointer (some ⟨gv + 1 + 1, 5, none⟩)) (⟨#[B,.string (str kk),D,.int .i64 nn,q3,o,.pointer (some ⟨W.heap.size + 1, 0, none⟩),o,u8,.pointer (some ⟨gv, 0, none⟩),.int .i64 (m : Int),.pointer (some ⟨gv + 1, 0, none⟩),.pointer (some ⟨gv + 1 + 1, 0, none⟩),.bool false,.int .i64 (j : Int),o,o,o,o,o,o,B,C,D,E,F,.string (str kk),C,G,.pointer (some ⟨gv, 0, none⟩),.int .i64 7,.bool false,o,U,q1,O,Z,q2,O,.bool false,.bool false,Z,q2,O,.bool false,.bool false,.int .i64 nn,Z,q2,O,J,.int .i64 (m : Int),.pointer (some ⟨gv + 1, 0, none⟩),.pointer (some ⟨gv + 1 + 1, 0, none⟩),q4,q5,q6,q8,q9,qa,qb,qc,qd,qe,qf,qg,qh,qi,qj,qk,ql,qm,qn,qp,qq,qr,qs,qt,qu,qv,qw,qx,qy,qz,r0,r1,r2,r3,r4,r5,r6,r7,r8,r9,ra,rb,rc,rd,re,rf,rg,rh,.bool true,.pointer (some ⟨gv + 1 + 1, 4, none⟩),kA,.string (str kk),rl,rm,.pointer (some ⟨gv + 1 + 1, 5, none⟩),ro,rp,rq,rr,rt,ru,rv,rx,ry,rz,t5,t6,t7,t8,t9,ta,tb,tc,td,te,tf,tg,th,ti,tj,tk,o,o,o,o,o,o,o,o,o,o,o,o,o,o,o,o,o,o,o,o,o,o,o,o,o,o,o,o,o,o,o,o,o,o,o,o,o,o,o,o,o,o,o],[]⟩) hSm (hSi 5 rfl) rfl (by kernel_rfl) (fun _ _ _ h => h) (hS0 _) (Tame.val rfl fun _ _ => by go_simp) rfl ?_
              refine tk2 6 13 (fun w1 => CL w1 (gv + 1 + 1) 5 lA) (lA) (⟨#[B,.string (str kk),D,.int .i64 nn,q3,o,.pointer (some ⟨W.heap.size + 1, 0, none⟩),o,u8,.pointer (some ⟨gv, 0, none⟩),.int .i64 (m : Int),.pointer (some ⟨gv + 1, 0, none⟩),.pointer (some ⟨gv + 1 + 1, 0, none⟩),.bool false,.int .i64 (j : Int),o,o,o,o,o,o,B,C,D,E,F,.string (str kk),C,G,.pointer (some ⟨gv, 0, none⟩),.int .i64 7,.bool false,o,U,q1,O,Z,q2,O,.bool false,.bool false,Z,q2,O,.bool false,.bool false,.int .i64 nn,Z,q2,O,J,.int .i64 (m : Int),.pointer (some ⟨gv + 1, 0, none⟩),.pointer (some ⟨gv + 1 + 1, 0, none⟩),q4,q5,q6,q8,q9,qa,qb,qc,qd,qe,qf,qg,qh,qi,qj,qk,ql,qm,qn,qp,qq,qr,qs,qt,qu,qv,qw,qx,qy,qz,r0,r1,r2,r3,r4,r5,r6,r7,r8,r9,ra,rb,rc,rd,re,rf,rg,rh,.bool true,.pointer (some ⟨gv + 1 + 1, 4, none⟩),kA,.string (str kk),rl,rm,.pointer (some ⟨gv + 1 + 1, 5, none⟩),lA,rp,rq,rr,rt,ru,rv,rx,ry,rz,t5,t6,t7,t8,t9,ta,tb,tc,td,te,tf,tg,th,ti,tj,tk,o,o,o,o,o,o,o,o,o,o,o,o,o,o,o,o,o,o,o,o,o,o,o,o,o,o,o,o,o,o,o,o,o,o,o,o,o,o,o,o,o,o,o],[]⟩) hSm (hSi 6 rfl) (fun _ _ h h2 => h.2.1 h2) rfl rfl (by kernel_rfl) (fun _ _ _ h => h) (hS0 _) (Tame.val rfl (fun w' hA => by have h1 := hA.cell; go_simp)) rfl ?_
              refine tk1 7 (fun w1 => Below W11.heap.size W11 w1) (.agg (List.toArray ys)) (⟨#[B,.string (str kk),D,.int .i64 nn,q3,o,.pointer (some ⟨W.heap.size + 1, 0, none⟩),o,u8,.pointer (some ⟨gv, 0, none⟩),.int .i64 (m : Int),.pointer (some ⟨gv + 1, 0, none⟩),.pointer (some ⟨gv + 1 + 1, 0, none⟩),.bool false,.int .i64 (j : Int),o,o,o,o,o,o,B,C,D,E,F,.string (str kk),C,G,.pointer (some ⟨gv, 0, none⟩),.int .i64 7,.bool false,o,U,q1,O,Z,q2,O,.bool false,.bool false,Z,q2,O,.bool false,.bool false,.int .i64 nn,Z,q2,O,J,.int .i64 (m : Int),.pointer (some ⟨gv + 1, 0, none⟩),.pointer (some ⟨gv + 1 + 1, 0, none⟩),q4,q5,q6,q8,q9,qa,qb,qc,qd,qe,qf,qg,qh,qi,qj,qk,ql,qm,qn,qp,qq,qr,qs,qt,qu,qv,qw,qx,qy,qz,r0,r1,r2,r3,r4,r5,r6,r7,r8,r9,ra,rb,rc,rd,re,rf,rg,rh,.bool true,.pointer (some ⟨gv + 1 + 1, 4, none⟩),kA,.string (str kk),rl,rm,.pointer (some ⟨gv + 1 + 1, 5, none⟩),lA,.agg (List.toArray ys),rq,rr,rt,ru,rv,rx,ry,rz,t5,t6,t7,t8,t9,ta,tb,tc,td,te,tf,tg,th,ti,tj,tk,o,o,o,o,o,o,o,o,o,o,o,o,o,o,o,o,o,o,o,o,o,o,o,o,o,o,o,o,o,o,o,o,o,o,o,o,o,o,o,o,o,o,o],[]⟩) hSm (hSi 7 rfl) (fun _ _ h => h.2.2) rfl (by kernel_rfl) (fun _ _ _ h => h) (hS0 _) (Tame.val rfl (fun w' hA => run_ldOp (hVc w' hA))) rfl ?_
              refine wpAnyU_all (rs := [3, 8]) (by kernel_rfl) (by decide) ?_
              intro w1 hm2 i hi3
              have hi3 : i = 3 ∨ i = 8 := by simpa using hi3
              rcases hi3 with rfl | rfl
              · have hT4 := hT0.below hm2
                have hE5 := hE0.trans (hm2.mono hE0.size)
                refine wpOp_val (v := .slice (some ⟨w1.heap.size, 0, none⟩) 1 1) (w' := w1.alloc (.cells #[.string (str kk)] 9)) (a' := ⟨#[B,.string (str kk),D,.int .i64 nn,q3,o,.pointer (some ⟨W.heap.size + 1, 0, none⟩),o,u8,.pointer (some ⟨gv, 0, none⟩),.int .i64 (m : Int),.pointer (some ⟨gv + 1, 0, none⟩),.pointer (some ⟨gv + 1 + 1, 0, none⟩),.bool false,.int .i64 (j : Int),o,o,o,o,o,o,B,C,D,E,F,.string (str kk),C,G,.pointer (some ⟨gv, 0, none⟩),.int .i64 7,.bool false,o,U,q1,O,Z,q2,O,.bool false,.bool false,Z,q2,O,.bool false,.bool false,.int .i64 nn,Z,q2,O,J,.int .i64 (m : Int),.pointer (some ⟨gv + 1, 0, none⟩),.pointer (some ⟨gv + 1 + 1, 0, none⟩),q4,q5,q6,q8,q9,qa,qb,qc,qd,qe,qf,qg,qh,qi,qj,qk,ql,qm,qn,qp,qq,qr,qs,qt,qu,qv,qw,qx,qy,qz,r0,r1,r2,r3,r4,r5,r6,r7,r8,r9,ra,rb,rc,rd,re,rf,rg,rh,.bool true,.pointer (some ⟨gv + 1 + 1, 4, none⟩),kA,.string (str kk),.slice (some ⟨w1.heap.size, 0, none⟩) 1 1,rm,.pointer (some ⟨gv + 1 + 1, 5, none⟩),lA,.agg (List.toArray ys),rq,rr,rt,ru,rv,rx,ry,rz,t5,t6,t7,t8,t9,ta,tb,tc,td,te,tf,tg,th,ti,tj,tk,o,o,o,o,o,o,o,o,o,o,o,o,o,o,o,o,o,o,o,o,o,o,o,o,o,o,o,o,o,o,o,o,o,o,o,o,o,o,o,o,o,o,o],[]⟩) rfl rfl (run_bsOp (vals := #[(0, .string (str kk))]) (by first | rfl | go_simp | simp [Act.eval]) (bsOp_text Tryd.underlying27 infoStr2 (by decide))) rfl ?_
                have hm6 : Mo w1 (w1.alloc (.cells #[.string (str kk)] 9)) := (Below.refl _ _).alloc (Nat.le_refl _) _
                have hB7 : Blk (w1.alloc (.cells #[.string (str kk)] 9)) w1.heap.size 9 [strV kk] := Blk.new _ _ _
                have hT8 := hT4.below hm6
                have hE9 := hE5.trans (hm6.mono hE5.size)
                have hN10 : ∀ b, Ob (gv + 1 + 1) kA lA b → b < w1.heap.size := fun b hb => (hT4.a.olt b hb).2
                generalize w1.alloc (.cells #[.string (str kk)] 9) = w11 at *
                generalize w1.heap.size = g12 at *
                have hS13 := s36 hT8.a.c4 hT8.a.c5 hE9 11 13
                refine ⟨(hS13 _), ?_⟩
                refine wpAnyU_all (rs := [4, 8]) (by kernel_rfl) (by decide) ?_
                intro w14 hm15 i hi16
                have hi16 : i = 4 ∨ i = 8 := by simpa using hi16
                rcases hi16 with rfl | rfl
                · have hT17 := hT8.below hm15
                  have hE18 := hE9.trans (hm15.mono hE9.size)
                  have hB19 := hB7.below hm15
                  obtain ⟨a25, c26, w20, hrun27, hM21, hG22⟩ := hT17.a.appK (ty := 27) hkl0 hB19 hnK
                  refine wpOp_val (v := .slice a25 (KA.length + 1) c26) (w' := w20) (a' := ⟨#[B,.string (str kk),D,.int .i64 nn,q3,o,.pointer (some ⟨W.heap.size + 1, 0, none⟩),o,u8,.pointer (some ⟨gv, 0, none⟩),.int .i64 (m : Int),.pointer (some ⟨gv + 1, 0, none⟩),.pointer (some ⟨gv + 1 + 1, 0, none⟩),.bool false,.int .i64 (j : Int),o,o,o,o,o,o,B,C,D,E,F,.string (str kk),C,G,.pointer (some ⟨gv, 0, none⟩),.int .i64 7,.bool false,o,U,q1,O,Z,q2,O,.bool false,.bool false,Z,q2,O,.bool false,.bool false,.int .i64 nn,Z,q2,O,J,.int .i64 (m : Int),.pointer (some ⟨gv + 1, 0, none⟩),.pointer (some ⟨gv + 1 + 1, 0, none⟩),q4,q5,q6,q8,q9,qa,qb,qc,qd,qe,qf,qg,qh,qi,qj,qk,ql,qm,qn,qp,qq,qr,qs,qt,qu,qv,qw,qx,qy,qz,r0,r1,r2,r3,r4,r5,r6,r7,r8,r9,ra,rb,rc,rd,re,rf,rg,rh,.bool true,.pointer (some ⟨gv + 1 + 1, 4, none⟩),kA,.string (str kk),.slice (some ⟨g12, 0, none⟩) 1 1,.slice a25 (KA.length + 1) c26,.pointer (some ⟨gv + 1 + 1, 5, none⟩),lA,.agg (List.toArray ys),rq,rr,rt,ru,rv,rx,ry,rz,t5,t6,t7,t8,t9,ta,tb,tc,td,te,tf,tg,th,ti,tj,tk,o,o,o,o,o,o,o,o,o,o,o,o,o,o,o,o,o,o,o,o,o,o,o,o,o,o,o,o,o,o,o,o,o,o,o,o,o,o,o,o,o,o,o],[]⟩) rfl rfl (run_append hrun27 rfl rfl rfl) rfl ?_
                  have hT23 := hT17.gK hM21 hG22
                  have hE24 := hE18.trans (hT17.a.growK hG22)
                  have hS28 := s36 hT23.a.c4 hT23.a.c5 hE24 11 13
                  refine ⟨(hS28 _), ?_⟩
                  have hS29 := s36 hT23.a.c4 hT23.a.c5 hE24 11 13
                  refine tk0 10 (.pointer (some ⟨gv + 1 + 1, 4, none⟩)) (⟨#[B,.string (str kk),D,.int .i64 nn,q3,o,.pointer (some ⟨W.heap.size + 1, 0, none⟩),o,u8,.pointer (some ⟨gv, 0, none⟩),.int .i64 (m : Int),.pointer (some ⟨gv + 1, 0, none⟩),.pointer (some ⟨gv + 1 + 1, 0, none⟩),.bool false,.int .i64 (j : Int),o,o,o,o,o,o,B,C,D,E,F,.string (str kk),C,G,.pointer (some ⟨gv, 0, none⟩),.int .i64 7,.bool false,o,U,q1,O,Z,q2,O,.bool false,.bool false,Z,q2,O,.bool false,.bool false,.int .i64 nn,Z,q2,O,J,.int .i64 (m : Int),.pointer (some ⟨gv + 1, 0, none⟩),.pointer (some ⟨gv + 1 + 1, 0, none⟩),q4,q5,q6,q8,q9,qa,qb,qc,qd,qe,qf,qg,qh,qi,qj,qk,ql,qm,qn,qp,qq,qr,qs,qt,qu,qv,qw,qx,qy,qz,r0,r1,r2,r3,r4,r5,r6,r7,r8,r9,ra,rb,rc,rd,re,rf,rg,rh,.bool true,.pointer (some ⟨gv + 1 + 1, 4, none⟩),kA,.string (str kk),.slice (some ⟨g12, 0, none⟩) 1 1,.slice a25 (KA.length + 1) c26,.pointer (some ⟨gv + 1 + 1, 5, none⟩),lA,.agg (List.toArray ys),rq,rr,.pointer (some ⟨gv + 1 + 1, 4, none⟩),ru,rv,rx,ry,rz,t5,t6,t7,t8,t9,ta,tb,tc,td,te,tf,tg,th,ti,tj,tk,o,o,o,o,o,o,o,o,o,o,o,o,o,o,o,o,o,o,o,o,o,o,o,o,o,o,o,o,o,o,o,o,o,o,o,o,o,o,o,o,o,o,o],[]⟩) hSm (hSi 10 rfl) rfl (by kernel_rfl) (fun _ _ _ h => h) (hS29 _) (Tame.val rfl fun _ _ => by go_simp) rfl ?_
                  refine wpAnyU_all (rs := [8]) (by kernel_rfl) (by decide) ?_
                  intro w30 hm31 i hi
                  obtain rfl : i = 8 := by simpa using hi
                  have hT32 := hT23.below hm31
                  have hE33 := hE24.trans (hm31.mono hE24.size)
                  refine wpOp_val (v := .slice (some ⟨w30.heap.size, 0, none⟩) 1 1) (w' := w30.alloc (.cells (List.toArray ys) 30)) (a' := ⟨#[B,.string (str kk),D,.int .i64 nn,q3,o,.pointer (some ⟨W.heap.size + 1, 0, none⟩),o,u8,.pointer (some ⟨gv, 0, none⟩),.int .i64 (m : Int),.pointer (some ⟨gv + 1, 0, none⟩),.pointer (some ⟨gv + 1 + 1, 0, none⟩),.bool false,.int .i64 (j : Int),o,o,o,o,o,o,B,C,D,E,F,.string (str kk),C,G,.pointer (some ⟨gv, 0, none⟩),.int .i64 7,.bool false,o,U,q1,O,Z,q2,O,.bool false,.bool false,Z,q2,O,.bool false,.bool false,.int .i64 nn,Z,q2,O,J,.int .i64 (m : Int),.pointer (some ⟨gv + 1, 0, none⟩),.pointer (some ⟨gv + 1 + 1, 0, none⟩),q4,q5,q6,q8,q9,qa,qb,qc,qd,qe,qf,qg,qh,qi,qj,qk,ql,qm,qn,qp,qq,qr,qs,qt,qu,qv,qw,qx,qy,qz,r0,r1,r2,r3,r4,r5,r6,r7,r8,r9,ra,rb,rc,rd,re,rf,rg,rh,.bool true,.pointer (some ⟨gv + 1 + 1, 4, none⟩),kA,.string (str kk),.slice (some ⟨g12, 0, none⟩) 1 1,.slice a25 (KA.length + 1) c26,.pointer (some ⟨gv + 1 + 1, 5, none⟩),lA,.agg (List.toArray ys),.slice (some ⟨w30.heap.size, 0, none⟩) 1 1,rr,.pointer (some ⟨gv + 1 + 1, 4, none⟩),ru,rv,rx,ry,rz,t5,t6,t7,t8,t9,ta,tb,tc,td,te,tf,tg,th,ti,tj,tk,o,o,o,o,o,o,o,o,o,o,o,o,o,o,o,o,o,o,o,o,o,o,o,o,o,o,o,o,o,o,o,o,o,o,o,o,o,o,o,o,o,o,o],[]⟩) rfl rfl (run_bsOp (vals := #[(0, .agg (List.toArray ys))]) (by first | rfl | go_simp | simp [Act.eval]) (bsOp_one (cs := List.toArray ys) Tryd.underlying28 infoV (by decide) (by decide) (by exact zV_size) cx6)) rfl ?_
                  have hm34 : Mo w30 (w30.alloc (.cells (List.toArray ys) 30)) := (Below.refl _ _).alloc (Nat.le_refl _) _
                  have hB35 : Blk (w30.alloc (.cells (List.toArray ys) 30)) w30.heap.size 30 ys := Blk.new _ _ _
                  have hT36 := hT32.below hm34
                  have hE37 := hE33.trans (hm34.mono hE33.size)
                  have hN38 : ∀ b, Ob (gv + 1 + 1) (.slice a25 (KA.length + 1) c26) lA b → b < w30.heap.size := fun b hb => (hT32.a.olt b hb).2
                  generalize w30.alloc (.cells (List.toArray ys) 30) = w39 at *
                  generalize w30.heap.size = g40 at *
                  have hS41 := s36 hT36.a.c4 hT36.a.c5 hE37 11 13
                  refine ⟨(hS41 _), ?_⟩
                  refine wpAnyU_all (rs := [9]) (by kernel_rfl) (by decide) ?_
                  intro w42 hm43 i hi
                  obtain rfl : i = 9 := by simpa using hi
                  have hT44 := hT36.below hm43
                  have hE45 := hE37.trans (hm43.mono hE37.size)
                  have hB46 := hB35.below hm43
                  have hX55 := hxP.same (w' := w42) (fun b hb _ => hE45.block b hb)
                  obtain ⟨a52, c53, w47, hrun54, hM48, hG49⟩ := hT44.a.appL (ty := 28) hX55 hB46 hnV
                  refine wpOp_val (v := .slice a52 (VA.length + 1) c53) (w' := w47) (a' := ⟨#[B,.string (str kk),D,.int .i64 nn,q3,o,.pointer (some ⟨W.heap.size + 1, 0, none⟩),o,u8,.pointer (some ⟨gv, 0, none⟩),.int .i64 (m : Int),.pointer (some ⟨gv + 1, 0, none⟩),.pointer (some ⟨gv + 1 + 1, 0, none⟩),.bool false,.int .i64 (j : Int),o,o,o,o,o,o,B,C,D,E,F,.string (str kk),C,G,.pointer (some ⟨gv, 0, none⟩),.int .i64 7,.bool false,o,U,q1,O,Z,q2,O,.bool false,.bool false,Z,q2,O,.bool false,.bool false,.int .i64 nn,Z,q2,O,J,.int .i64 (m : Int),.pointer (some ⟨gv + 1, 0, none⟩),.pointer (some ⟨gv + 1 + 1, 0, none⟩),q4,q5,q6,q8,q9,qa,qb,qc,qd,qe,qf,qg,qh,qi,qj,qk,ql,qm,qn,qp,qq,qr,qs,qt,qu,qv,qw,qx,qy,qz,r0,r1,r2,r3,r4,r5,r6,r7,r8,r9,ra,rb,rc,rd,re,rf,rg,rh,.bool true,.pointer (some ⟨gv + 1 + 1, 4, none⟩),kA,.string (str kk),.slice (some ⟨g12, 0, none⟩) 1 1,.slice a25 (KA.length + 1) c26,.pointer (some ⟨gv + 1 + 1, 5, none⟩),lA,.agg (List.toArray ys),.slice (some ⟨g40, 0, none⟩) 1 1,.slice a52 (VA.length + 1) c53,.pointer (some ⟨gv + 1 + 1, 4, none⟩),ru,rv,rx,ry,rz,t5,t6,t7,t8,t9,ta,tb,tc,td,te,tf,tg,th,ti,tj,tk,o,o,o,o,o,o,o,o,o,o,o,o,o,o,o,o,o,o,o,o,o,o,o,o,o,o,o,o,o,o,o,o,o,o,o,o,o,o,o,o,o,o,o],[]⟩) rfl rfl (run_append hrun54 rfl rfl rfl) rfl ?_
                  have hT50 := hT44.gL hM48 hG49
                  have hE51 := hE45.trans (hT44.a.growL hG49)
                  have hS56 := s36 hT50.a.c4 hT50.a.c5 hE51 11 13
                  refine ⟨(hS56 _), ?_⟩
                  refine wpAnyU_all (rs := [11]) (by kernel_rfl) (by decide) ?_
                  intro w57 hm58 i hi
                  obtain rfl : i = 11 := by simpa using hi
                  have hT59 := hT50.below hm58
                  have hE60 := hE51.trans (hm58.mono hE51.size)
                  have hz61 := hT59.a.c4.cell
                  have hf62 := hT59.a.blk.free 4
                  refine wpOp_skip (w' := w57.setCell ⟨gv + 1 + 1, 4, none⟩ (.slice a25 (KA.length + 1) c26)) (a' := ⟨#[B,.string (str kk),D,.int .i64 nn,q3,o,.pointer (some ⟨W.heap.size + 1, 0, none⟩),o,u8,.pointer (some ⟨gv, 0, none⟩),.int .i64 (m : Int),.pointer (some ⟨gv + 1, 0, none⟩),.pointer (some ⟨gv + 1 + 1, 0, none⟩),.bool false,.int .i64 (j : Int),o,o,o,o,o,o,B,C,D,E,F,.string (str kk),C,G,.pointer (some ⟨gv, 0, none⟩),.int .i64 7,.bool false,o,U,q1,O,Z,q2,O,.bool false,.bool false,Z,q2,O,.bool false,.bool false,.int .i64 nn,Z,q2,O,J,.int .i64 (m : Int),.pointer (some ⟨gv + 1, 0, none⟩),.pointer (some ⟨gv + 1 + 1, 0, none⟩),q4,q5,q6,q8,q9,qa,qb,qc,qd,qe,qf,qg,qh,qi,qj,qk,ql,qm,qn,qp,qq,qr,qs,qt,qu,qv,qw,qx,qy,qz,r0,r1,r2,r3,r4,r5,r6,r7,r8,r9,ra,rb,rc,rd,re,rf,rg,rh,.bool true,.pointer (some ⟨gv + 1 + 1, 4, none⟩),kA,.string (str kk),.slice (some ⟨g12, 0, none⟩) 1 1,.slice a25 (KA.length + 1) c26,.pointer (some ⟨gv + 1 + 1, 5, none⟩),lA,.agg (List.toArray ys),.slice (some ⟨g40, 0, none⟩) 1 1,.slice a52 (VA.length + 1) c53,.pointer (some ⟨gv + 1 + 1, 4, none⟩),ru,rv,rx,ry,rz,t5,t6,t7,t8,t9,ta,tb,tc,td,te,tf,tg,th,ti,tj,tk,o,o,o,o,o,o,o,o,o,o,o,o,o,o,o,o,o,o,o,o,o,o,o,o,o,o,o,o,o,o,o,o,o,o,o,o,o,o,o,o,o,o,o],[]⟩) rfl rfl (by go_simp) rfl ?_
                  have hT63 := hT59.sK
                  have hE64 := hE60.trans (set_below21 (i := 4) (u := (.slice a25 (KA.length + 1) c26)) hT59.a.hq)
                  generalize w57.setCell ⟨gv + 1 + 1, 4, none⟩ (.slice a25 (KA.length + 1) c26) = w65 at *
                  refine ⟨⟨fun e => absurd e (by decide), fun _ => hT63.a.c5, hE64⟩, ?_⟩
                  refine tk0 12 (.pointer (some ⟨gv + 1 + 1, 5, none⟩)) (⟨#[B,.string (str kk),D,.int .i64 nn,q3,o,.pointer (some ⟨W.heap.size + 1, 0, none⟩),o,u8,.pointer (some ⟨gv, 0, none⟩),.int .i64 (m : Int),.pointer (some ⟨gv + 1, 0, none⟩),.pointer (some ⟨gv + 1 + 1, 0, none⟩),.bool false,.int .i64 (j : Int),o,o,o,o,o,o,B,C,D,E,F,.string (str kk),C,G,.pointer (some ⟨gv, 0, none⟩),.int .i64 7,.bool false,o,U,q1,O,Z,q2,O,.bool false,.bool false,Z,q2,O,.bool false,.bool false,.int .i64 nn,Z,q2,O,J,.int .i64 (m : Int),.pointer (some ⟨gv + 1, 0, none⟩),.pointer (some ⟨gv + 1 + 1, 0, none⟩),q4,q5,q6,q8,q9,qa,qb,qc,qd,qe,qf,qg,qh,qi,qj,qk,ql,qm,qn,qp,qq,qr,qs,qt,qu,qv,qw,qx,qy,qz,r0,r1,r2,r3,r4,r5,r6,r7,r8,r9,ra,rb,rc,rd,re,rf,rg,rh,.bool true,.pointer (some ⟨gv + 1 + 1, 4, none⟩),kA,.string (str kk),.slice (some ⟨g12, 0, none⟩) 1 1,.slice a25 (KA.length + 1) c26,.pointer (some ⟨gv + 1 + 1, 5, none⟩),lA,.agg (List.toArray ys),.slice (some ⟨g40, 0, none⟩) 1 1,.slice a52 (VA.length + 1) c53,.pointer (some ⟨gv + 1 + 1, 4, none⟩),.pointer (some ⟨gv + 1 + 1, 5, none⟩),rv,rx,ry,rz,t5,t6,t7,t8,t9,ta,tb,tc,td,te,tf,tg,th,ti,tj,tk,o,o,o,o,o,o,o,o,o,o,o,o,o,o,o,o,o,o,o,o,o,o,o,o,o,o,o,o,o,o,o,o,o,o,o,o,o,o,o,o,o,o,o],[]⟩) hSm (hSi 12 rfl) rfl (by kernel_rfl) (fun _ _ _ h => h) ⟨fun e => absurd e (by decide), fun _ => hT63.a.c5, hE64⟩ (Tame.val rfl fun _ _ => by go_simp) rfl ?_
                  refine wpAnyU_all (rs := [13]) (by kernel_rfl) (by decide) ?_
                  intro w68 hm69 i hi
                  obtain rfl : i = 13 := by simpa using hi
                  have hT70 := hT63.below hm69
                  have hE71 := hE64.trans (hm69.mono hE64.size)
                  have hz72 := hT70.a.c5.cell
                  have hf73 := hT70.a.blk.free 5
                  refine wpOp_skip (w' := w68.setCell ⟨gv + 1 + 1, 5, none⟩ (.slice a52 (VA.length + 1) c53)) (a' := ⟨#[B,.string (str kk),D,.int .i64 nn,q3,o,.pointer (some ⟨W.heap.size + 1, 0, none⟩),o,u8,.pointer (some ⟨gv, 0, none⟩),.int .i64 (m : Int),.pointer (some ⟨gv + 1, 0, none⟩),.pointer (some ⟨gv + 1 + 1, 0, none⟩),.bool false,.int .i64 (j : Int),o,o,o,o,o,o,B,C,D,E,F,.string (str kk),C,G,.pointer (some ⟨gv, 0, none⟩),.int .i64 7,.bool false,o,U,q1,O,Z,q2,O,.bool false,.bool false,Z,q2,O,.bool false,.bool false,.int .i64 nn,Z,q2,O,J,.int .i64 (m : Int),.pointer (some ⟨gv + 1, 0, none⟩),.pointer (some ⟨gv + 1 + 1, 0, none⟩),q4,q5,q6,q8,q9,qa,qb,qc,qd,qe,qf,qg,qh,qi,qj,qk,ql,qm,qn,qp,qq,qr,qs,qt,qu,qv,qw,qx,qy,qz,r0,r1,r2,r3,r4,r5,r6,r7,r8,r9,ra,rb,rc,rd,re,rf,rg,rh,.bool true,.pointer (some ⟨gv + 1 + 1, 4, none⟩),kA,.string (str kk),.slice (some ⟨g12, 0, none⟩) 1 1,.slice a25 (KA.length + 1) c26,.pointer (some ⟨gv + 1 + 1, 5, none⟩),lA,.agg (List.toArray ys),.slice (some ⟨g40, 0, none⟩) 1 1,.slice a52 (VA.length + 1) c53,.pointer (some ⟨gv + 1 + 1, 4, none⟩),.pointer (some ⟨gv + 1 + 1, 5, none⟩),rv,rx,ry,rz,t5,t6,t7,t8,t9,ta,tb,tc,td,te,tf,tg,th,ti,tj,tk,o,o,o,o,o,o,o,o,o,o,o,o,o,o,o,o,o,o,o,o,o,o,o,o,o,o,o,o,o,o,o,o,o,o,o,o,o,o,o,o,o,o,o],[]⟩) rfl rfl (by go_simp) rfl ?_
                  have hT74 := hT70.sL
                  have hE75 := hE71.trans (set_below21 (i := 5) (u := (.slice a52 (VA.length + 1) c53)) hT70.a.hq)
                  generalize w68.setCell ⟨gv + 1 + 1, 5, none⟩ (.slice a52 (VA.length + 1) c53) = w76 at *
                  refine ⟨⟨fun e => absurd e (by decide), fun e => absurd e (by decide), hE75⟩, ?_⟩
                  refine wpAnyU_done (by kernel_rfl) ?_ _
                  intro w78 hm79
                  have hTF := hT74.below hm79
                  have hEF := hE75.trans (hm79.mono hE75.size)
                  have hF := Lib.hid (hfin _ _ _ hTF hEF)
                  clear hTF hEF
                  go_wp2
                  go_meet
                  exact ⟨true, rfl, hF.out⟩
                · have hT80 := hT8.below hm15
                  have hE81 := hE9.trans (hm15.mono hE9.size)
                  have hB82 := hB7.below hm15
                  refine wpOp_val (v := .slice (some ⟨w14.heap.size, 0, none⟩) 1 1) (w' := w14.alloc (.cells (List.toArray ys) 30)) (a' := ⟨#[B,.string (str kk),D,.int .i64 nn,q3,o,.pointer (some ⟨W.heap.size + 1, 0, none⟩),o,u8,.pointer (some ⟨gv, 0, none⟩),.int .i64 (m : Int),.pointer (some ⟨gv + 1, 0, none⟩),.pointer (some ⟨gv + 1 + 1, 0, none⟩),.bool false,.int .i64 (j : Int),o,o,o,o,o,o,B,C,D,E,F,.string (str kk),C,G,.pointer (some ⟨gv, 0, none⟩),.int .i64 7,.bool false,o,U,q1,O,Z,q2,O,.bool false,.bool false,Z,q2,O,.bool false,.bool false,.int .i64 nn,Z,q2,O,J,.int .i64 (m : Int),.pointer (some ⟨gv + 1, 0, none⟩),.pointer (some ⟨gv + 1 + 1, 0, none⟩),q4,q5,q6,q8,q9,qa,qb,qc,qd,qe,qf,qg,qh,qi,qj,qk,ql,qm,qn,qp,qq,qr,qs,qt,qu,qv,qw,qx,qy,qz,r0,r1,r2,r3,r4,r5,r6,r7,r8,r9,ra,rb,rc,rd,re,rf,rg,rh,.bool true,.pointer (some ⟨gv + 1 + 1, 4, none⟩),kA,.string (str kk),.slice (some ⟨g12, 0, none⟩) 1 1,rm,.pointer (some ⟨gv + 1 + 1, 5, none⟩),lA,.agg (List.toArray ys),.slice (some ⟨w14.heap.size, 0, none⟩) 1 1,rr,rt,ru,rv,rx,ry,rz,t5,t6,t7,t8,t9,ta,tb,tc,td,te,tf,tg,th,ti,tj,tk,o,o,o,o,o,o,o,o,o,o,o,o,o,o,o,o,o,o,o,o,o,o,o,o,o,o,o,o,o,o,o,o,o,o,o,o,o,o,o,o,o,o,o],[]⟩) rfl rfl (run_bsOp (vals := #[(0, .agg (List.toArray ys))]) (by first | rfl | go_simp | simp [Act.eval]) (bsOp_one (cs := List.toArray ys) Tryd.underlying28 infoV (by decide) (by decide) (by exact zV_size) cx6)) rfl ?_
                  have hm83 : Mo w14 (w14.alloc (.cells (List.toArray ys) 30)) := (Below.refl _ _).alloc (Nat.le_refl _) _
                  have hB84 : Blk (w14.alloc (.cells (List.toArray ys) 30)) w14.heap.size 30 ys := Blk.new _ _ _
                  have hT85 := hT80.below hm83
                  have hE86 := hE81.trans (hm83.mono hE81.size)
                  have hN87 : ∀ b, Ob (gv + 1 + 1) kA lA b → b < w14.heap.size := fun b hb => (hT80.a.olt b hb).2
                  have hB90 := hB82.below hm83
                  generalize w14.alloc (.cells (List.toArray ys) 30) = w88 at *
                  generalize w14.heap.size = g89 at *
                  have hS91 := s36 hT85.a.c4 hT85.a.c5 hE86 11 13
                  refine ⟨(hS91 _), ?_⟩
                  refine wpAnyU_all (rs := [4]) (by kernel_rfl) (by decide) ?_
                  intro w92 hm93 i hi
                  obtain rfl : i = 4 := by simpa using hi
                  have hT94 := hT85.below hm93
                  have hE95 := hE86.trans (hm93.mono hE86.size)
                  have hB96 := hB90.below hm93
                  have hB97 := hB84.below hm93
                  obtain ⟨a103, c104, w98, hrun105, hM99, hG100⟩ := hT94.a.appK (ty := 27) hkl0 hB96 hnK
                  refine wpOp_val (v := .slice a103 (KA.length + 1) c104) (w' := w98) (a' := ⟨#[B,.string (str kk),D,.int .i64 nn,q3,o,.pointer (some ⟨W.heap.size + 1, 0, none⟩),o,u8,.pointer (some ⟨gv, 0, none⟩),.int .i64 (m : Int),.pointer (some ⟨gv + 1, 0, none⟩),.pointer (some ⟨gv + 1 + 1, 0, none⟩),.bool false,.int .i64 (j : Int),o,o,o,o,o,o,B,C,D,E,F,.string (str kk),C,G,.pointer (some ⟨gv, 0, none⟩),.int .i64 7,.bool false,o,U,q1,O,Z,q2,O,.bool false,.bool false,Z,q2,O,.bool false,.bool false,.int .i64 nn,Z,q2,O,J,.int .i64 (m : Int),.pointer (some ⟨gv + 1, 0, none⟩),.pointer (some ⟨gv + 1 + 1, 0, none⟩),q4,q5,q6,q8,q9,qa,qb,qc,qd,qe,qf,qg,qh,qi,qj,qk,ql,qm,qn,qp,qq,qr,qs,qt,qu,qv,qw,qx,qy,qz,r0,r1,r2,r3,r4,r5,r6,r7,r8,r9,ra,rb,rc,rd,re,rf,rg,rh,.bool true,.pointer (some ⟨gv + 1 + 1, 4, none⟩),kA,.string (str kk),.slice (some ⟨g12, 0, none⟩) 1 1,.slice a103 (KA.length + 1) c104,.pointer (some ⟨gv + 1 + 1, 5, none⟩),lA,.agg (List.toArray ys),.slice (some ⟨g89, 0, none⟩) 1 1,rr,rt,ru,rv,rx,ry,rz,t5,t6,t7,t8,t9,ta,tb,tc,td,te,tf,tg,th,ti,tj,tk,o,o,o,o,o,o,o,o,o,o,o,o,o,o,o,o,o,o,o,o,o,o,o,o,o,o,o,o,o,o,o,o,o,o,o,o,o,o,o,o,o,o,o],[]⟩) rfl rfl (run_append hrun105 rfl rfl rfl) rfl ?_
                  have hT101 := hT94.gK hM99 hG100
                  have hE102 := hE95.trans (hT94.a.growK hG100)
                  have hB106 := (hG100.blk hB97 (fun e => Nat.lt_irrefl _ (hN87 _ (.inr (.inl e))))).1
                  have hS107 := s36 hT101.a.c4 hT101.a.c5 hE102 11 13
                  refine ⟨(hS107 _), ?_⟩
                  have hS108 := s36 hT101.a.c4 hT101.a.c5 hE102 11 13
                  refine tk0 10 (.pointer (some ⟨gv + 1 + 1, 4, none⟩)) (⟨#[B,.string (str kk),D,.int .i64 nn,q3,o,.pointer (some ⟨W.heap.size + 1, 0, none⟩),o,u8,.pointer (some ⟨gv, 0, none⟩),.int .i64 (m : Int),.pointer (some ⟨gv + 1, 0, none⟩),.pointer (some ⟨gv + 1 + 1, 0, none⟩),.bool false,.int .i64 (j : Int),o,o,o,o,o,o,B,C,D,E,F,.string (str kk),C,G,.pointer (some ⟨gv, 0, none⟩),.int .i64 7,.bool false,o,U,q1,O,Z,q2,O,.bool false,.bool false,Z,q2,O,.bool false,.bool false,.int .i64 nn,Z,q2,O,J,.int .i64 (m : Int),.pointer (some ⟨gv + 1, 0, none⟩),.pointer (some ⟨gv + 1 + 1, 0, none⟩),q4,q5,q6,q8,q9,qa,qb,qc,qd,qe,qf,qg,qh,qi,qj,qk,ql,qm,qn,qp,qq,qr,qs,qt,qu,qv,qw,qx,qy,qz,r0,r1,r2,r3,r4,r5,r6,r7,r8,r9,ra,rb,rc,rd,re,rf,rg,rh,.bool true,.pointer (some ⟨gv + 1 + 1, 4, none⟩),kA,.string (str kk),.slice (some ⟨g12, 0, none⟩) 1 1,.slice a103 (KA.length + 1) c104,.pointer (some ⟨gv + 1 + 1, 5, none⟩),lA,.agg (List.toArray ys),.slice (some ⟨g89, 0, none⟩) 1 1,rr,.pointer (some ⟨gv + 1 + 1, 4, none⟩),ru,rv,rx,ry,rz,t5,t6,t7,t8,t9,ta,tb,tc,td,te,tf,tg,th,ti,tj,tk,o,o,o,o,o,o,o,o,o,o,o,o,o,o,o,o,o,o,o,o,o,o,o,o,o,o,o,o,o,o,o,o,o,o,o,o,o,o,o,o,o,o,o],[]⟩) hSm (hSi 10 rfl) rfl (by kernel_rfl) (fun _ _ _ h => h) (hS108 _) (Tame.val rfl fun _ _ => by go_simp) rfl ?_
                  refine wpAnyU_all (rs := [9]) (by kernel_rfl) (by decide) ?_
                  intro w109 hm110 i hi
                  obtain rfl : i = 9 := by simpa using hi
                  have hT111 := hT101.below hm110
                  have hE112 := hE102.trans (hm110.mono hE102.size)
                  have hB113 := hB106.below hm110
                  have hX122 := hxP.same (w' := w109) (fun b hb _ => hE112.block b hb)
                  obtain ⟨a119, c120, w114, hrun121, hM115, hG116⟩ := hT111.a.appL (ty := 28) hX122 hB113 hnV
                  refine wpOp_val (v := .slice a119 (VA.length + 1) c120) (w' := w114) (a' := ⟨#[B,.string (str kk),D,.int .i64 nn,q3,o,.pointer (some ⟨W.heap.size + 1, 0, none⟩),o,u8,.pointer (some ⟨gv, 0, none⟩),.int .i64 (m : Int),.pointer (some ⟨gv + 1, 0, none⟩),.pointer (some ⟨gv + 1 + 1, 0, none⟩),.bool false,.int .i64 (j : Int),o,o,o,o,o,o,B,C,D,E,F,.string (str kk),C,G,.pointer (some ⟨gv, 0, none⟩),.int .i64 7,.bool false,o,U,q1,O,Z,q2,O,.bool false,.bool false,Z,q2,O,.bool false,.bool false,.int .i64 nn,Z,q2,O,J,.int .i64 (m : Int),.pointer (some ⟨gv + 1, 0, none⟩),.pointer (some ⟨gv + 1 + 1, 0, none⟩),q4,q5,q6,q8,q9,qa,qb,qc,qd,qe,qf,qg,qh,qi,qj,qk,ql,qm,qn,qp,qq,qr,qs,qt,qu,qv,qw,qx,qy,qz,r0,r1,r2,r3,r4,r5,r6,r7,r8,r9,ra,rb,rc,rd,re,rf,rg,rh,.bool true,.pointer (some ⟨gv + 1 + 1, 4, none⟩),kA,.string (str kk),.slice (some ⟨g12, 0, none⟩) 1 1,.slice a103 (KA.length + 1) c104,.pointer (some ⟨gv + 1 + 1, 5, none⟩),lA,.agg (List.toArray ys),.slice (some ⟨g89, 0, none⟩) 1 1,.slice a119 (VA.length + 1) c120,.pointer (some ⟨gv + 1 + 1, 4, none⟩),ru,rv,rx,ry,rz,t5,t6,t7,t8,t9,ta,tb,tc,td,te,tf,tg,th,ti,tj,tk,o,o,o,o,o,o,o,o,o,o,o,o,o,o,o,o,o,o,o,o,o,o,o,o,o,o,o,o,o,o,o,o,o,o,o,o,o,o,o,o,o,o,o],[]⟩) rfl rfl (run_append hrun121 rfl rfl rfl) rfl ?_
                  have hT117 := hT111.gL hM115 hG116
                  have hE118 := hE112.trans (hT111.a.growL hG116)
                  have hS123 := s36 hT117.a.c4 hT117.a.c5 hE118 11 13
                  refine ⟨(hS123 _), ?_⟩
                  refine wpAnyU_all (rs := [11]) (by kernel_rfl) (by decide) ?_
                  intro w124 hm125 i hi
                  obtain rfl : i = 11 := by simpa using hi
                  have hT126 := hT117.below hm125
                  have hE127 := hE118.trans (hm125.mono hE118.size)
                  have hz128 := hT126.a.c4.cell
                  have hf129 := hT126.a.blk.free 4
                  refine wpOp_skip (w' := w124.setCell ⟨gv + 1 + 1, 4, none⟩ (.slice a103 (KA.length + 1) c104)) (a' := ⟨#[B,.string (str kk),D,.int .i64 nn,q3,o,.pointer (some ⟨W.heap.size + 1, 0, none⟩),o,u8,.pointer (some ⟨gv, 0, none⟩),.int .i64 (m : Int),.pointer (some ⟨gv + 1, 0, none⟩),.pointer (some ⟨gv + 1 + 1, 0, none⟩),.bool false,.int .i64 (j : Int),o,o,o,o,o,o,B,C,D,E,F,.string (str kk),C,G,.pointer (some ⟨gv, 0, none⟩),.int .i64 7,.bool false,o,U,q1,O,Z,q2,O,.bool false,.bool false,Z,q2,O,.bool false,.bool false,.int .i64 nn,Z,q2,O,J,.int .i64 (m : Int),.pointer (some ⟨gv + 1, 0, none⟩),.pointer (some ⟨gv + 1 + 1, 0, none⟩),q4,q5,q6,q8,q9,qa,qb,qc,qd,qe,qf,qg,qh,qi,qj,qk,ql,qm,qn,qp,qq,qr,qs,qt,qu,qv,qw,qx,qy,qz,r0,r1,r2,r3,r4,r5,r6,r7,r8,r9,ra,rb,rc,rd,re,rf,rg,rh,.bool true,.pointer (some ⟨gv + 1 + 1, 4, none⟩),kA,.string (str kk),.slice (some ⟨g12, 0, none⟩) 1 1,.slice a103 (KA.length + 1) c104,.pointer (some ⟨gv + 1 + 1, 5, none⟩),lA,.agg (List.toArray ys),.slice (some ⟨g89, 0, none⟩) 1 1,.slice a119 (VA.length + 1) c120,.pointer (some ⟨gv + 1 + 1, 4, none⟩),ru,rv,rx,ry,rz,t5,t6,t7,t8,t9,ta,tb,tc,td,te,tf,tg,th,ti,tj,tk,o,o,o,o,o,o,o,o,o,o,o,o,o,o,o,o,o,o,o,o,o,o,o,o,o,o,o,o,o,o,o,o,o,o,o,o,o,o,o,o,o,o,o],[]⟩) rfl rfl (by go_simp) rfl ?_
                  have hT130 := hT126.sK
                  have hE131 := hE127.trans (set_below21 (i := 4) (u := (.slice a103 (KA.length + 1) c104)) hT126.a.hq)
                  generalize w124.setCell ⟨gv + 1 + 1, 4, none⟩ (.slice a103 (KA.length + 1) c104) = w132 at *
                  refine ⟨⟨fun e => absurd e (by decide), fun _ => hT130.a.c5, hE131⟩, ?_⟩
                  refine tk0 12 (.pointer (some ⟨gv + 1 + 1, 5, none⟩)) (⟨#[B,.string (str kk),D,.int .i64 nn,q3,o,.pointer (some ⟨W.heap.size + 1, 0, none⟩),o,u8,.pointer (some ⟨gv, 0, none⟩),.int .i64 (m : Int),.pointer (some ⟨gv + 1, 0, none⟩),.pointer (some ⟨gv + 1 + 1, 0, none⟩),.bool false,.int .i64 (j : Int),o,o,o,o,o,o,B,C,D,E,F,.string (str kk),C,G,.pointer (some ⟨gv, 0, none⟩),.int .i64 7,.bool false,o,U,q1,O,Z,q2,O,.bool false,.bool false,Z,q2,O,.bool false,.bool false,.int .i64 nn,Z,q2,O,J,.int .i64 (m : Int),.pointer (some ⟨gv + 1, 0, none⟩),.pointer (some ⟨gv + 1 + 1, 0, none⟩),q4,q5,q6,q8,q9,qa,qb,qc,qd,qe,qf,qg,qh,qi,qj,qk,ql,qm,qn,qp,qq,qr,qs,qt,qu,qv,qw,qx,qy,qz,r0,r1,r2,r3,r4,r5,r6,r7,r8,r9,ra,rb,rc,rd,re,rf,rg,rh,.bool true,.pointer (some ⟨gv + 1 + 1, 4, none⟩),kA,.string (str kk),.slice (some ⟨g12, 0, none⟩) 1 1,.slice a103 (KA.length + 1) c104,.pointer (some ⟨gv + 1 + 1, 5, none⟩),lA,.agg (List.toArray ys),.slice (some ⟨g89, 0, none⟩) 1 1,.slice a119 (VA.length + 1) c120,.pointer (some ⟨gv + 1 + 1, 4, none⟩),.pointer (some ⟨gv + 1 + 1, 5, none⟩),rv,rx,ry,rz,t5,t6,t7,t8,t9,ta,tb,tc,td,te,tf,tg,th,ti,tj,tk,o,o,o,o,o,o,o,o,o,o,o,o,o,o,o,o,o,o,o,o,o,o,o,o,o,o,o,o,o,o,o,o,o,o,o,o,o,o,o,o,o,o,o],[]⟩) hSm (hSi 12 rfl) rfl (by kernel_rfl) (fun _ _ _ h => h) ⟨fun e => absurd e (by decide), fun _ => hT130.a.c5, hE131⟩ (Tame.val rfl fun _ _ => by go_simp) rfl ?_
                  refine wpAnyU_all (rs := [13]) (by kernel_rfl) (by decide) ?_
                  intro w135 hm136 i hi
                  obtain rfl : i = 13 := by simpa using hi
                  have hT137 := hT130.below hm136
                  have hE138 := hE131.trans (hm136.mono hE131.size)
                  have hz139 := hT137.a.c5.cell
                  have hf140 := hT137.a.blk.free 5
                  refine wpOp_skip (w' := w135.setCell ⟨gv + 1 + 1, 5, none⟩ (.slice a119 (VA.length + 1) c120)) (a' := ⟨#[B,.string (str kk),D,.int .i64 nn,q3,o,.pointer (some ⟨W.heap.size + 1, 0, none⟩),o,u8,.pointer (some ⟨gv, 0, none⟩),.int .i64 (m : Int),.pointer (some ⟨gv + 1, 0, none⟩),.pointer (some ⟨gv + 1 + 1, 0, none⟩),.bool false,.int .i64 (j : Int),o,o,o,o,o,o,B,C,D,E,F,.string (str kk),C,G,.pointer (some ⟨gv, 0, none⟩),.int .i64 7,.bool false,o,U,q1,O,Z,q2,O,.bool false,.bool false,Z,q2,O,.bool false,.bool false,.int .i64 nn,Z,q2,O,J,.int .i64 (m : Int),.pointer (some ⟨gv + 1, 0, none⟩),.pointer (some ⟨gv + 1 + 1, 0, none⟩),q4,q5,q6,q8,q9,qa,qb,qc,qd,qe,qf,qg,qh,qi,qj,qk,ql,qm,qn,qp,qq,qr,qs,qt,qu,qv,qw,qx,qy,qz,r0,r1,r2,r3,r4,r5,r6,r7,r8,r9,ra,rb,rc,rd,re,rf,rg,rh,.bool true,.pointer (some ⟨gv + 1 + 1, 4, none⟩),kA,.string (str kk),.slice (some ⟨g12, 0, none⟩) 1 1,.slice a103 (KA.length + 1) c104,.pointer (some ⟨gv + 1 + 1, 5, none⟩),lA,.agg (List.toArray ys),.slice (some ⟨g89, 0, none⟩) 1 1,.slice a119 (VA.length + 1) c120,.pointer (some ⟨gv + 1 + 1, 4, none⟩),.pointer (some ⟨gv + 1 + 1, 5, none⟩),rv,rx,ry,rz,t5,t6,t7,t8,t9,ta,tb,tc,td,te,tf,tg,th,ti,tj,tk,o,o,o,o,o,o,o,o,o,o,o,o,o,o,o,o,o,o,o,o,o,o,o,o,o,o,o,o,o,o,o,o,o,o,o,o,o,o,o,o,o,o,o],[]⟩) rfl rfl (by go_simp) rfl ?_
                  have hT141 := hT137.sL
                  have hE142 := hE138.trans (set_below21 (i := 5) (u := (.slice a119 (VA.length + 1) c120)) hT137.a.hq)
                  generalize w135.setCell ⟨gv + 1 + 1, 5, none⟩ (.slice a119 (VA.length + 1) c120) = w143 at *
                  refine ⟨⟨fun e => absurd e (by decide), fun e => absurd e (by decide), hE142⟩, ?_⟩
                  refine wpAnyU_done (by kernel_rfl) ?_ _
                  intro w145 hm146
                  have hTF := hT141.below hm146
                  have hEF := hE142.trans (hm146.mono hE142.size)
                  have hF := Lib.hid (hfin _ _ _ hTF hEF)
                  clear hTF hEF
                  go_wp2
                  go_meet
                  exact ⟨true, rfl, hF.out⟩
              · have hT147 := hT0.below hm2
                have hE148 := hE0.trans (hm2.mono hE0.size)
                refine wpOp_val (v := .slice (some ⟨w1.heap.size, 0, none⟩) 1 1) (w' := w1.alloc (.cells (List.toArray ys) 30)) (a' := ⟨#[B,.string (str kk),D,.int .i64 nn,q3,o,.pointer (some ⟨W.heap.size + 1, 0, none⟩),o,u8,.pointer (some ⟨gv, 0, none⟩),.int .i64 (m : Int),.pointer (some ⟨gv + 1, 0, none⟩),.pointer (some ⟨gv + 1 + 1, 0, none⟩),.bool false,.int .i64 (j : Int),o,o,o,o,o,o,B,C,D,E,F,.string (str kk),C,G,.pointer (some ⟨gv, 0, none⟩),.int .i64 7,.bool false,o,U,q1,O,Z,q2,O,.bool false,.bool false,Z,q2,O,.bool false,.bool false,.int .i64 nn,Z,q2,O,J,.int .i64 (m : Int),.pointer (some ⟨gv + 1, 0, none⟩),.pointer (some ⟨gv + 1 + 1, 0, none⟩),q4,q5,q6,q8,q9,qa,qb,qc,qd,qe,qf,qg,qh,qi,qj,qk,ql,qm,qn,qp,qq,qr,qs,qt,qu,qv,qw,qx,qy,qz,r0,r1,r2,r3,r4,r5,r6,r7,r8,r9,ra,rb,rc,rd,re,rf,rg,rh,.bool true,.pointer (some ⟨gv + 1 + 1, 4, none⟩),kA,.string (str kk),rl,rm,.pointer (some ⟨gv + 1 + 1, 5, none⟩),lA,.agg (List.toArray ys),.slice (some ⟨w1.heap.size, 0, none⟩) 1 1,rr,rt,ru,rv,rx,ry,rz,t5,t6,t7,t8,t9,ta,tb,tc,td,te,tf,tg,th,ti,tj,tk,o,o,o,o,o,o,o,o,o,o,o,o,o,o,o,o,o,o,o,o,o,o,o,o,o,o,o,o,o,o,o,o,o,o,o,o,o,o,o,o,o,o,o],[]⟩) rfl rfl (run_bsOp (vals := #[(0, .agg (List.toArray ys))]) (by first | rfl | go_simp | simp [Act.eval]) (bsOp_one (cs := List.toArray ys) Tryd.underlying28 infoV (by decide) (by decide) (by exact zV_size) cx6)) rfl ?_
                have hm149 : Mo w1 (w1.alloc (.cells (List.toArray ys) 30)) := (Below.refl _ _).alloc (Nat.le_refl _) _
                have hB150 : Blk (w1.alloc (.cells (List.toArray ys) 30)) w1.heap.size 30 ys := Blk.new _ _ _
                have hT151 := hT147.below hm149
                have hE152 := hE148.trans (hm149.mono hE148.size)
                have hN153 : ∀ b, Ob (gv + 1 + 1) kA lA b → b < w1.heap.size := fun b hb => (hT147.a.olt b hb).2
                generalize w1.alloc (.cells (List.toArray ys) 30) = w154 at *
                generalize w1.heap.size = g155 at *
                have hS156 := s36 hT151.a.c4 hT151.a.c5 hE152 11 13
                refine ⟨(hS156 _), ?_⟩
                refine wpAnyU_all (rs := [3]) (by kernel_rfl) (by decide) ?_
                intro w157 hm158 i hi
                obtain rfl : i = 3 := by simpa using hi
                have hT159 := hT151.below hm158
                have hE160 := hE152.trans (hm158.mono hE152.size)
                have hB161 := hB150.below hm158
                refine wpOp_val (v := .slice (some ⟨w157.heap.size, 0, none⟩) 1 1) (w' := w157.alloc (.cells #[.string (str kk)] 9)) (a' := ⟨#[B,.string (str kk),D,.int .i64 nn,q3,o,.pointer (some ⟨W.heap.size + 1, 0, none⟩),o,u8,.pointer (some ⟨gv, 0, none⟩),.int .i64 (m : Int),.pointer (some ⟨gv + 1, 0, none⟩),.pointer (some ⟨gv + 1 + 1, 0, none⟩),.bool false,.int .i64 (j : Int),o,o,o,o,o,o,B,C,D,E,F,.string (str kk),C,G,.pointer (some ⟨gv, 0, none⟩),.int .i64 7,.bool false,o,U,q1,O,Z,q2,O,.bool false,.bool false,Z,q2,O,.bool false,.bool false,.int .i64 nn,Z,q2,O,J,.int .i64 (m : Int),.pointer (some ⟨gv + 1, 0, none⟩),.pointer (some ⟨gv + 1 + 1, 0, none⟩),q4,q5,q6,q8,q9,qa,qb,qc,qd,qe,qf,qg,qh,qi,qj,qk,ql,qm,qn,qp,qq,qr,qs,qt,qu,qv,qw,qx,qy,qz,r0,r1,r2,r3,r4,r5,r6,r7,r8,r9,ra,rb,rc,rd,re,rf,rg,rh,.bool true,.pointer (some ⟨gv + 1 + 1, 4, none⟩),kA,.string (str kk),.slice (some ⟨w157.heap.size, 0, none⟩) 1 1,rm,.pointer (some ⟨gv + 1 + 1, 5, none⟩),lA,.agg (List.toArray ys),.slice (some ⟨g155, 0, none⟩) 1 1,rr,rt,ru,rv,rx,ry,rz,t5,t6,t7,t8,t9,ta,tb,tc,td,te,tf,tg,th,ti,tj,tk,o,o,o,o,o,o,o,o,o,o,o,o,o,o,o,o,o,o,o,o,o,o,o,o,o,o,o,o,o,o,o,o,o,o,o,o,o,o,o,o,o,o,o],[]⟩) rfl rfl (run_bsOp (vals := #[(0, .string (str kk))]) (by first | rfl | go_simp | simp [Act.eval]) (bsOp_text Tryd.underlying27 infoStr2 (by decide))) rfl ?_
                have hm162 : Mo w157 (w157.alloc (.cells #[.string (str kk)] 9)) := (Below.refl _ _).alloc (Nat.le_refl _) _
                have hB163 : Blk (w157.alloc (.cells #[.string (str kk)] 9)) w157.heap.size 9 [strV kk] := Blk.new _ _ _
                have hT164 := hT159.below hm162
                have hE165 := hE160.trans (hm162.mono hE160.size)
                have hN166 : ∀ b, Ob (gv + 1 + 1) kA lA b → b < w157.heap.size := fun b hb => (hT159.a.olt b hb).2
                have hB169 := hB161.below hm162
                generalize w157.alloc (.cells #[.string (str kk)] 9) = w167 at *
                generalize w157.heap.size = g168 at *
                have hS170 := s36 hT164.a.c4 hT164.a.c5 hE165 11 13
                refine ⟨(hS170 _), ?_⟩
                refine wpAnyU_all (rs := [4]) (by kernel_rfl) (by decide) ?_
                intro w171 hm172 i hi
                obtain rfl : i = 4 := by simpa using hi
                have hT173 := hT164.below hm172
                have hE174 := hE165.trans (hm172.mono hE165.size)
                have hB175 := hB163.below hm172
                have hB176 := hB169.below hm172
                obtain ⟨a182, c183, w177, hrun184, hM178, hG179⟩ := hT173.a.appK (ty := 27) hkl0 hB175 hnK
                refine wpOp_val (v := .slice a182 (KA.length + 1) c183) (w' := w177) (a' := ⟨#[B,.string (str kk),D,.int .i64 nn,q3,o,.pointer (some ⟨W.heap.size + 1, 0, none⟩),o,u8,.pointer (some ⟨gv, 0, none⟩),.int .i64 (m : Int),.pointer (some ⟨gv + 1, 0, none⟩),.pointer (some ⟨gv + 1 + 1, 0, none⟩),.bool false,.int .i64 (j : Int),o,o,o,o,o,o,B,C,D,E,F,.string (str kk),C,G,.pointer (some ⟨gv, 0, none⟩),.int .i64 7,.bool false,o,U,q1,O,Z,q2,O,.bool false,.bool false,Z,q2,O,.bool false,.bool false,.int .i64 nn,Z,q2,O,J,.int .i64 (m : Int),.pointer (some ⟨gv + 1, 0, none⟩),.pointer (some ⟨gv + 1 + 1, 0, none⟩),q4,q5,q6,q8,q9,qa,qb,qc,qd,qe,qf,qg,qh,qi,qj,qk,ql,qm,qn,qp,qq,qr,qs,qt,qu,qv,qw,qx,qy,qz,r0,r1,r2,r3,r4,r5,r6,r7,r8,r9,ra,rb,rc,rd,re,rf,rg,rh,.bool true,.pointer (some ⟨gv + 1 + 1, 4, none⟩),kA,.string (str kk),.slice (some ⟨g168, 0, none⟩) 1 1,.slice a182 (KA.length + 1) c183,.pointer (some ⟨gv + 1 + 1, 5, none⟩),lA,.agg (List.toArray ys),.slice (some ⟨g155, 0, none⟩) 1 1,rr,rt,ru,rv,rx,ry,rz,t5,t6,t7,t8,t9,ta,tb,tc,td,te,tf,tg,th,ti,tj,tk,o,o,o,o,o,o,o,o,o,o,o,o,o,o,o,o,o,o,o,o,o,o,o,o,o,o,o,o,o,o,o,o,o,o,o,o,o,o,o,o,o,o,o],[]⟩) rfl rfl (run_append hrun184 rfl rfl rfl) rfl ?_
                have hT180 := hT173.gK hM178 hG179
                have hE181 := hE174.trans (hT173.a.growK hG179)
                have hB185 := (hG179.blk hB176 (fun e => Nat.lt_irrefl _ (hN153 _ (.inr (.inl e))))).1
                have hS186 := s36 hT180.a.c4 hT180.a.c5 hE181 11 13
                refine ⟨(hS186 _), ?_⟩
                have hS187 := s36 hT180.a.c4 hT180.a.c5 hE181 11 13
                refine tk0 10 (.pointer (some ⟨gv + 1 + 1, 4, none⟩)) (⟨#[B,.string (str kk),D,.int .i64 nn,q3,o,.pointer (some ⟨W.heap.size + 1, 0, none⟩),o,u8,.pointer (some ⟨gv, 0, none⟩),.int .i64 (m : Int),.pointer (some ⟨gv + 1, 0, none⟩),.pointer (some ⟨gv + 1 + 1, 0, none⟩),.bool false,.int .i64 (j : Int),o,o,o,o,o,o,B,C,D,E,F,.string (str kk),C,G,.pointer (some ⟨gv, 0, none⟩),.int .i64 7,.bool false,o,U,q1,O,Z,q2,O,.bool false,.bool false,Z,q2,O,.bool false,.bool false,.int .i64 nn,Z,q2,O,J,.int .i64 (m : Int),.pointer (some ⟨gv + 1, 0, none⟩),.pointer (some ⟨gv + 1 + 1, 0, none⟩),q4,q5,q6,q8,q9,qa,qb,qc,qd,qe,qf,qg,qh,qi,qj,qk,ql,qm,qn,qp,qq,qr,qs,qt,qu,qv,qw,qx,qy,qz,r0,r1,r2,r3,r4,r5,r6,r7,r8,r9,ra,rb,rc,rd,re,rf,rg,rh,.bool true,.pointer (some ⟨gv + 1 + 1, 4, none⟩),kA,.string (str kk),.slice (some ⟨g168, 0, none⟩) 1 1,.slice a182 (KA.length + 1) c183,.pointer (some ⟨gv + 1 + 1, 5, none⟩),lA,.agg (List.toArray ys),.slice (some ⟨g155, 0, none⟩) 1 1,rr,.pointer (some ⟨gv + 1 + 1, 4, none⟩),ru,rv,rx,ry,rz,t5,t6,t7,t8,t9,ta,tb,tc,td,te,tf,tg,th,ti,tj,tk,o,o,o,o,o,o,o,o,o,o,o,o,o,o,o,o,o,o,o,o,o,o,o,o,o,o,o,o,o,o,o,o,o,o,o,o,o,o,o,o,o,o,o],[]⟩) hSm (hSi 10 rfl) rfl (by kernel_rfl) (fun _ _ _ h => h) (hS187 _) (Tame.val rfl fun _ _ => by go_simp) rfl ?_
                refine wpAnyU_all (rs := [9]) (by kernel_rfl) (by decide) ?_
                intro w188 hm189 i hi
                obtain rfl : i = 9 := by simpa using hi
                have hT190 := hT180.below hm189
                have hE191 := hE181.trans (hm189.mono hE181.size)
                have hB192 := hB185.below hm189
                have hX201 := hxP.same (w' := w188) (fun b hb _ => hE191.block b hb)
                obtain ⟨a198, c199, w193, hrun200, hM194, hG195⟩ := hT190.a.appL (ty := 28) hX201 hB192 hnV
                refine wpOp_val (v := .slice a198 (VA.length + 1) c199) (w' := w193) (a' := ⟨#[B,.string (str kk),D,.int .i64 nn,q3,o,.pointer (some ⟨W.heap.size + 1, 0, none⟩),o,u8,.pointer (some ⟨gv, 0, none⟩),.int .i64 (m : Int),.pointer (some ⟨gv + 1, 0, none⟩),.pointer (some ⟨gv + 1 + 1, 0, none⟩),.bool false,.int .i64 (j : Int),o,o,o,o,o,o,B,C,D,E,F,.string (str kk),C,G,.pointer (some ⟨gv, 0, none⟩),.int .i64 7,.bool false,o,U,q1,O,Z,q2,O,.bool false,.bool false,Z,q2,O,.bool false,.bool false,.int .i64 nn,Z,q2,O,J,.int .i64 (m : Int),.pointer (some ⟨gv + 1, 0, none⟩),.pointer (some ⟨gv + 1 + 1, 0, none⟩),q4,q5,q6,q8,q9,qa,qb,qc,qd,qe,qf,qg,qh,qi,qj,qk,ql,qm,qn,qp,qq,qr,qs,qt,qu,qv,qw,qx,qy,qz,r0,r1,r2,r3,r4,r5,r6,r7,r8,r9,ra,rb,rc,rd,re,rf,rg,rh,.bool true,.pointer (some ⟨gv + 1 + 1, 4, none⟩),kA,.string (str kk),.slice (some ⟨g168, 0, none⟩) 1 1,.slice a182 (KA.length + 1) c183,.pointer (some ⟨gv + 1 + 1, 5, none⟩),lA,.agg (List.toArray ys),.slice (some ⟨g155, 0, none⟩) 1 1,.slice a198 (VA.length + 1) c199,.pointer (some ⟨gv + 1 + 1, 4, none⟩),ru,rv,rx,ry,rz,t5,t6,t7,t8,t9,ta,tb,tc,td,te,tf,tg,th,ti,tj,tk,o,o,o,o,o,o,o,o,o,o,o,o,o,o,o,o,o,o,o,o,o,o,o,o,o,o,o,o,o,o,o,o,o,o,o,o,o,o,o,o,o,o,o],[]⟩) rfl rfl (run_append hrun200 rfl rfl rfl) rfl ?_
                have hT196 := hT190.gL hM194 hG195
                have hE197 := hE191.trans (hT190.a.growL hG195)
                have hS202 := s36 hT196.a.c4 hT196.a.c5 hE197 11 13
                refine ⟨(hS202 _), ?_⟩
                refine wpAnyU_all (rs := [11]) (by kernel_rfl) (by decide) ?_
                intro w203 hm204 i hi
                obtain rfl : i = 11 := by simpa using hi
                have hT205 := hT196.below hm204
                have hE206 := hE197.trans (hm204.mono hE197.size)
                have hz207 := hT205.a.c4.cell
                have hf208 := hT205.a.blk.free 4
                refine wpOp_skip (w' := w203.setCell ⟨gv + 1 + 1, 4, none⟩ (.slice a182 (KA.length + 1) c183)) (a' := ⟨#[B,.string (str kk),D,.int .i64 nn,q3,o,.pointer (some ⟨W.heap.size + 1, 0, none⟩),o,u8,.pointer (some ⟨gv, 0, none⟩),.int .i64 (m : Int),.pointer (some ⟨gv + 1, 0, none⟩),.pointer (some ⟨gv + 1 + 1, 0, none⟩),.bool false,.int .i64 (j : Int),o,o,o,o,o,o,B,C,D,E,F,.string (str kk),C,G,.pointer (some ⟨gv, 0, none⟩),.int .i64 7,.bool false,o,U,q1,O,Z,q2,O,.bool false,.bool false,Z,q2,O,.bool false,.bool false,.int .i64 nn,Z,q2,O,J,.int .i64 (m : Int),.pointer (some ⟨gv + 1, 0, none⟩),.pointer (some ⟨gv + 1 + 1, 0, none⟩),q4,q5,q6,q8,q9,qa,qb,qc,qd,qe,qf,qg,qh,qi,qj,qk,ql,qm,qn,qp,qq,qr,qs,qt,qu,qv,qw,qx,qy,qz,r0,r1,r2,r3,r4,r5,r6,r7,r8,r9,ra,rb,rc,rd,re,rf,rg,rh,.bool true,.pointer (some ⟨gv + 1 + 1, 4, none⟩),kA,.string (str kk),.slice (some ⟨g168, 0, none⟩) 1 1,.slice a182 (KA.length + 1) c183,.pointer (some ⟨gv + 1 + 1, 5, none⟩),lA,.agg (List.toArray ys),.slice (some ⟨g155, 0, none⟩) 1 1,.slice a198 (VA.length + 1) c199,.pointer (some ⟨gv + 1 + 1, 4, none⟩),ru,rv,rx,ry,rz,t5,t6,t7,t8,t9,ta,tb,tc,td,te,tf,tg,th,ti,tj,tk,o,o,o,o,o,o,o,o,o,o,o,o,o,o,o,o,o,o,o,o,o,o,o,o,o,o,o,o,o,o,o,o,o,o,o,o,o,o,o,o,o,o,o],[]⟩) rfl rfl (by go_simp) rfl ?_
                have hT209 := hT205.sK
                have hE210 := hE206.trans (set_below21 (i := 4) (u := (.slice a182 (KA.length + 1) c183)) hT205.a.hq)
                generalize w203.setCell ⟨gv + 1 + 1, 4, none⟩ (.slice a182 (KA.length + 1) c183) = w211 at *
                refine ⟨⟨fun e => absurd e (by decide), fun _ => hT209.a.c5, hE210⟩, ?_⟩
                refine tk0 12 (.pointer (some ⟨gv + 1 + 1, 5, none⟩)) (⟨#[B,.string (str kk),D,.int .i64 nn,q3,o,.pointer (some ⟨W.heap.size + 1, 0, none⟩),o,u8,.pointer (some ⟨gv, 0, none⟩),.int .i64 (m : Int),.pointer (some ⟨gv + 1, 0, none⟩),.pointer (some ⟨gv + 1 + 1, 0, none⟩),.bool false,.int .i64 (j : Int),o,o,o,o,o,o,B,C,D,E,F,.string (str kk),C,G,.pointer (some ⟨gv, 0, none⟩),.int .i64 7,.bool false,o,U,q1,O,Z,q2,O,.bool false,.bool false,Z,q2,O,.bool false,.bool false,.int .i64 nn,Z,q2,O,J,.int .i64 (m : Int),.pointer (some ⟨gv + 1, 0, none⟩),.pointer (some ⟨gv + 1 + 1, 0, none⟩),q4,q5,q6,q8,q9,qa,qb,qc,qd,qe,qf,qg,qh,qi,qj,qk,ql,qm,qn,qp,qq,qr,qs,qt,qu,qv,qw,qx,qy,qz,r0,r1,r2,r3,r4,r5,r6,r7,r8,r9,ra,rb,rc,rd,re,rf,rg,rh,.bool true,.pointer (some ⟨gv + 1 + 1, 4, none⟩),kA,.string (str kk),.slice (some ⟨g168, 0, none⟩) 1 1,.slice a182 (KA.length + 1) c183,.pointer (some ⟨gv + 1 + 1, 5, none⟩),lA,.agg (List.toArray ys),.slice (some ⟨g155, 0, none⟩) 1 1,.slice a198 (VA.length + 1) c199,.pointer (some ⟨gv + 1 + 1, 4, none⟩),.pointer (some ⟨gv + 1 + 1, 5, none⟩),rv,rx,ry,rz,t5,t6,t7,t8,t9,ta,tb,tc,td,te,tf,tg,th,ti,tj,tk,o,o,o,o,o,o,o,o,o,o,o,o,o,o,o,o,o,o,o,o,o,o,o,o,o,o,o,o,o,o,o,o,o,o,o,o,o,o,o,o,o,o,o],[]⟩) hSm (hSi 12 rfl) rfl (by kernel_rfl) (fun _ _ _ h => h) ⟨fun e => absurd e (by decide), fun _ => hT209.a.c5, hE210⟩ (Tame.val rfl fun _ _ => by go_simp) rfl ?_
                refine wpAnyU_all (rs := [13]) (by kernel_rfl) (by decide) ?_
                intro w214 hm215 i hi
                obtain rfl : i = 13 := by simpa using hi
                have hT216 := hT209.below hm215
                have hE217 := hE210.trans (hm215.mono hE210.size)
                have hz218 := hT216.a.c5.cell
                have hf219 := hT216.a.blk.free 5
                refine wpOp_skip (w' := w214.setCell ⟨gv + 1 + 1, 5, none⟩ (.slice a198 (VA.length + 1) c199)) (a' := ⟨#[B,.string (str kk),D,.int .i64 nn,q3,o,.pointer (some ⟨W.heap.size + 1, 0, none⟩),o,u8,.pointer (some ⟨gv, 0, none⟩),.int .i64 (m : Int),.pointer (some ⟨gv + 1, 0, none⟩),.pointer (some ⟨gv + 1 + 1, 0, none⟩),.bool false,.int .i64 (j : Int),o,o,o,o,o,o,B,C,D,E,F,.string (str kk),C,G,.pointer (some ⟨gv, 0, none⟩),.int .i64 7,.bool false,o,U,q1,O,Z,q2,O,.bool false,.bool false,Z,q2,O,.bool false,.bool false,.int .i64 nn,Z,q2,O,J,.int .i64 (m : Int),.pointer (some ⟨gv + 1, 0, none⟩),.pointer (some ⟨gv + 1 + 1, 0, none⟩),q4,q5,q6,q8,q9,qa,qb,qc,qd,qe,qf,qg,qh,qi,qj,qk,ql,qm,qn,qp,qq,qr,qs,qt,qu,qv,qw,qx,qy,qz,r0,r1,r2,r3,r4,r5,r6,r7,r8,r9,ra,rb,rc,rd,re,rf,rg,rh,.bool true,.pointer (some ⟨gv + 1 + 1, 4, none⟩),kA,.string (str kk),.slice (some ⟨g168, 0, none⟩) 1 1,.slice a182 (KA.length + 1) c183,.pointer (some ⟨gv + 1 + 1, 5, none⟩),lA,.agg (List.toArray ys),.slice (some ⟨g155, 0, none⟩) 1 1,.slice a198 (VA.length + 1) c199,.pointer (some ⟨gv + 1 + 1, 4, none⟩),.pointer (some ⟨gv + 1 + 1, 5, none⟩),rv,rx,ry,rz,t5,t6,t7,t8,t9,ta,tb,tc,td,te,tf,tg,th,ti,tj,tk,o,o,o,o,o,o,o,o,o,o,o,o,o,o,o,o,o,o,o,o,o,o,o,o,o,o,o,o,o,o,o,o,o,o,o,o,o,o,o,o,o,o,o],[]⟩) rfl rfl (by go_simp) rfl ?_
                have hT220 := hT216.sL
                have hE221 := hE217.trans (set_below21 (i := 5) (u := (.slice a198 (VA.length + 1) c199)) hT216.a.hq)
                generalize w214.setCell ⟨gv + 1 + 1, 5, none⟩ (.slice a198 (VA.length + 1) c199) = w222 at *
                refine ⟨⟨fun e => absurd e (by decide), fun e => absurd e (by decide), hE221⟩, ?_⟩
                refine wpAnyU_done (by kernel_rfl) ?_ _
                intro w224 hm225
                have hTF := hT220.below hm225
                have hEF := hE221.trans (hm225.mono hE221.size)
                have hF := Lib.hid (hfin _ _ _ hTF hEF)
                clear hTF hEF
                go_wp2
                go_meet
                exact ⟨true, rfl, hF.out⟩
              --END19
          case rest =>
            obtain ⟨d2, rfl, hJ⟩ := hcut
            clear hI2 hbel c4 ck4 hdg
            obtain ⟨kB, lB, kA, lA, KB, KA, VB, VA, hSI⟩ := hJ
            have hT0 := hSI.tm.swap.below (Below.drewN (Below.refl wc.heap.size wc) 1)
            have hE0 := Below.drewN hSI.bel 1
            have hvj : j < vs.length := by have := HVK.out; have := hLT.out; omega
            have hcj : j < css.length := by have := HCS.out.1; omega
            have hxat := HSUB.out j css[j] vs[j] (by simp [hcj]) (by simp [hvj])
            have hxP := VAt.inP hxat
            have cx6 : (List.toArray css[j]).size = 6 := by simpa using hxat.len
            have hkl0 : k.length ≤ maxLen := HKT.out _ (List.mem_of_getElem? hJ2.out)
            have hVc : ∀ w', Below W11.heap.size W11 w' → w'.cell? ⟨gv, 4, none⟩ = some (.slice ak ks.length ck) ∧ w'.cell? ⟨gv, 5, none⟩ = some (.slice al ks.length cl) ∧ w'.cell? ((hd ak).add j) = some (.string (str k)) ∧ (ldOp 30 (.pointer (some ((hd al).add (j * 6))))).run Tryd.prog w' = .ok (.agg (List.toArray css[j])) w' := fun w' hb => by
              refine ⟨(HV.out.below hb).cell rfl, (HV.out.below hb).cell rfl, ?_, ?_⟩
              · exact (HKS.out.below hb).cell (i := j) (u := strV k) (by rw [List.getElem?_map, hJ2.out]; rfl)
              · exact ldOp_at (P := Tryd.prog) (ty := 30) ((HLS.out.below hb).elem (s := 6) HCS.out.2 (i := j) (c := css[j]) (by simp [hcj])) Tryd.underlying30 rfl (by rw [hxat.len]; exact sizeV)
            have s6 := HLS.out.elemSome (s := 6) HCS.out.2 (by decide) (i := j) hcj
            have hnK : KA.length ≤ 1000 := by
              have h1 := hSI.lb.2; have := HKL.out; have := hLT.out
              split at h1 <;> omega
            have hnV : VA.length ≤ 1000 := by have := hSI.lb.1; omega
            have hfin : ∀ (wx : World) (kA' lA' : Value), TM W11.heap.size (gv + 1 + 1) (gv + 1) wx kA' lA' kA' lA' (KA ++ [k]) (VA ++ [vs[j]]) kB lB kB lB KB VB → Below W11.heap.size W11 wx → SJ W11 wx W11.heap.size (gv + 1) (gv + 1 + 1) K ks kk m (j + 1) (j + 1) d2 := fun wx kA' lA' hT hE =>
              ⟨kB, lB, kA', lA', KB, _, VB, _, hT.swap, hSI.la, ⟨by simp [hSI.lb.1], by have := hSI.lb.2; rw [List.length_append, List.length_singleton]; omega⟩, hSI.ka, fun hne => (hSI.kb hne).snoc hSI.lb.1 (fun e => HKk.out j vs[j] (by rw [hJ2.out, e]) (List.getElem?_eq_getElem hvj)), (fun i hi => by
                by_cases h2 : i < j
                · exact hSI.ne i h2
                · obtain rfl : i = j := by omega
                  rw [hJ2.out]; intro e; exact HNE.out (Option.some.inj e)), hSI.sa, (fun v hv => by
                rcases List.mem_append.1 hv with hv | hv
                · exact hSI.sb v hv
                · simp at hv; subst hv; exact hSv.out _ (List.getElem_mem hvj)), hE⟩
            generalize vs[j] = xv at *
            generalize css[j] = cx at *
            clear hSI hxat hvj hcj
            go_upto_region 21 with (fail)
            --REGION21
            generalize u54 = q4, u55 = q5, u56 = q6, u57 = q8, u58 = q9, u59 = qa, u60 = qb, u61 = qc, u62 = qd, u63 = qe, u64 = qf, u65 = qg, u66 = qh, u67 = qi, u68 = qj, u69 = qk, u70 = ql, u71 = qm, u72 = qn, u73 = qp, u74 = qq, u75 = qr, u76 = qs, u77 = qt, u78 = qu, u79 = qv, u80 = qw, u81 = qx, u82 = qy, u83 = qz, u84 = r0, u85 = r1, u86 = r2, u87 = r3, u88 = r4, u89 = r5, u90 = r6, u91 = r7, u92 = r8, u93 = r9, u94 = ra, u95 = rb, u96 = rc, u97 = rd, u98 = re, u99 = rf, u100 = rg, u101 = rh, u102 = ri, u103 = rj, u104 = rk, u105 = rl, u106 = rm, u107 = rn, u108 = ro, u109 = rp, u110 = rq, u111 = rr, u112 = rt, u113 = ru, u114 = rv, u115 = rx, u116 = ry, u117 = rz, u118 = t5, u119 = t6, u120 = t7, u121 = t8, u122 = t9, u123 = ta, u124 = tb, u125 = tc, u126 = td, u127 = te, u128 = tf, u129 = tg, u130 = th, u131 = ti, u132 = tj, u133 = tk, u134 = tl
            have hSm : ∀ (L : Array Bool) (w1 w2 : World), SS36 W11 (gv + 1 + 1) kA lA 19 21 L w1 → Mo w1 w2 → SS36 W11 (gv + 1 + 1) kA lA 19 21 L w2 := fun _ w1 w2 h hm => ⟨fun e => (h.1 e).below hm, fun e => (h.2.1 e).below hm, h.2.2.trans (hm.mono h.2.2.size)⟩
            have hSi : ∀ i, (i != 19 && i != 21) = true → ∀ (L : Array Bool) (w1 : World), SS36 W11 (gv + 1 + 1) kA lA 19 21 (L.setIfInBounds i true) w1 ↔ SS36 W11 (gv + 1 + 1) kA lA 19 21 L w1 := fun i h L w1 => by have h := (Bool.and_eq_true _ _).mp h; unfold SS36; rw [getD_set_ne false (by simpa using h.1), getD_set_ne false (by simpa using h.2)]
            have hS0 := s36 hT0.a.c4 hT0.a.c5 hE0 19 21
            refine wp_region_upN (S := fun L w1 => SS36 W11 (gv + 1 + 1) kA lA 19 21 L w1) 22 rfl (by kernel_rfl) ?_
            refine tk0 0 (.pointer (some ⟨gv + 1 + 1, 4, none⟩)) (⟨#[B,.string (str kk),D,.int .i64 nn,q3,o,.pointer (some ⟨W.heap.size + 1, 0, none⟩),o,u8,.pointer (some ⟨gv, 0, none⟩),.int .i64 (m : Int),.pointer (some ⟨gv + 1, 0, none⟩),.pointer (some ⟨gv + 1 + 1, 0, none⟩),.bool d2,.int .i64 (j : Int),o,o,o,o,o,o,B,C,D,E,F,.string (str kk),C,G,.pointer (some ⟨gv, 0, none⟩),.int .i64 7,.bool false,o,U,q1,O,Z,q2,O,.bool false,.bool false,Z,q2,O,.bool false,.bool false,.int .i64 nn,Z,q2,O,J,.int .i64 (m : Int),.pointer (some ⟨gv + 1, 0, none⟩),.pointer (some ⟨gv + 1 + 1, 0, none⟩),q4,q5,q6,q8,q9,qa,qb,qc,qd,qe,qf,qg,qh,qi,qj,qk,ql,qm,qn,qp,qq,qr,qs,qt,qu,qv,qw,qx,qy,qz,r0,r1,r2,r3,r4,r5,r6,r7,r8,r9,ra,rb,rc,rd,re,rf,rg,rh,ri,rj,rk,rl,rm,rn,ro,rp,rq,rr,rt,ru,rv,.pointer (some ⟨gv + 1 + 1, 4, none⟩),ry,rz,t5,t6,t7,t8,t9,ta,tb,tc,td,te,tf,tg,th,ti,tj,tk,tl,o,o,o,o,o,o,o,o,o,o,o,o,o,o,o,o,o,o,o,o,o,o,o,o,o,o,o,o,o,o,o,o,o,o,o,o,o,o,o,o,o,o,o],[]⟩) hSm (hSi 0 rfl) rfl (by kernel_rfl) (fun _ _ _ h => h) (hS0 _) (Tame.val rfl fun _ _ => by go_simp) rfl ?_
            refine tk2 1 19 (fun w1 => CL w1 (gv + 1 + 1) 4 kA) (kA) (⟨#[B,.string (str kk),D,.int .i64 nn,q3,o,.pointer (some ⟨W.heap.size + 1, 0, none⟩),o,u8,.pointer (some ⟨gv, 0, none⟩),.int .i64 (m : Int),.pointer (some ⟨gv + 1, 0, none⟩),.pointer (some ⟨gv + 1 + 1, 0, none⟩),.bool d2,.int .i64 (j : Int),o,o,o,o,o,o,B,C,D,E,F,.string (str kk),C,G,.pointer (some ⟨gv, 0, none⟩),.int .i64 7,.bool false,o,U,q1,O,Z,q2,O,.bool false,.bool false,Z,q2,O,.bool false,.bool false,.int .i64 nn,Z,q2,O,J,.int .i64 (m : Int),.pointer (some ⟨gv + 1, 0, none⟩),.pointer (some ⟨gv + 1 + 1, 0, none⟩),q4,q5,q6,q8,q9,qa,qb,qc,qd,qe,qf,qg,qh,qi,qj,qk,ql,qm,qn,qp,qq,qr,qs,qt,qu,qv,qw,qx,qy,qz,r0,r1,r2,r3,r4,r5,r6,r7,r8,r9,ra,rb,rc,rd,re,rf,rg,rh,ri,rj,rk,rl,rm,rn,ro,rp,rq,rr,rt,ru,rv,.pointer (some ⟨gv + 1 + 1, 4, none⟩),kA,rz,t5,t6,t7,t8,t9,ta,tb,tc,td,te,tf,tg,th,ti,tj,tk,tl,o,o,o,o,o,o,o,o,o,o,o,o,o,o,o,o,o,o,o,o,o,o,o,o,o,o,o,o,o,o,o,o,o,o,o,o,o,o,o,o,o,o,o],[]⟩) hSm (hSi 1 rfl) (fun _ _ h h2 => h.1 h2) rfl rfl (by kernel_rfl) (fun _ _ _ h => h) (hS0 _) (Tame.val rfl (fun w' hA => by have h1 := hA.cell; go_simp)) rfl ?_
            refine tk0 2 (.pointer (some ⟨gv, 4, none⟩)) (⟨#[B,.string (str kk),D,.int .i64 nn,q3,o,.pointer (some ⟨W.heap.size + 1, 0, none⟩),o,u8,.pointer (some ⟨gv, 0, none⟩),.int .i64 (m : Int),.pointer (some ⟨gv + 1, 0, none⟩),.pointer (some ⟨gv + 1 + 1, 0, none⟩),.bool d2,.int .i64 (j : Int),o,o,o,o,o,o,B,C,D,E,F,.string (str kk),C,G,.pointer (some ⟨gv, 0, none⟩),.int .i64 7,.bool false,o,U,q1,O,Z,q2,O,.bool false,.bool false,Z,q2,O,.bool false,.bool false,.int .i64 nn,Z,q2,O,J,.int .i64 (m : Int),.pointer (some ⟨gv + 1, 0, none⟩),.pointer (some ⟨gv + 1 + 1, 0, none⟩),q4,q5,q6,q8,q9,qa,qb,qc,qd,qe,qf,qg,qh,qi,qj,qk,ql,qm,qn,qp,qq,qr,qs,qt,qu,qv,qw,qx,qy,qz,r0,r1,r2,r3,r4,r5,r6,r7,r8,r9,ra,rb,rc,rd,re,rf,rg,rh,ri,rj,rk,rl,rm,rn,ro,rp,rq,rr,rt,ru,rv,.pointer (some ⟨gv + 1 + 1, 4, none⟩),kA,.pointer (some ⟨gv, 4, none⟩),t5,t6,t7,t8,t9,ta,tb,tc,td,te,tf,tg,th,ti,tj,tk,tl,o,o,o,o,o,o,o,o,o,o,o,o,o,o,o,o,o,o,o,o,o,o,o,o,o,o,o,o,o,o,o,o,o,o,o,o,o,o,o,o,o,o,o],[]⟩) hSm (hSi 2 rfl) rfl (by kernel_rfl) (fun _ _ _ h => h) (hS0 _) (Tame.val rfl fun _ _ => by go_simp) rfl ?_
            refine tk1 3 (fun w1 => Below W11.heap.size W11 w1) (.slice ak ks.length ck) (⟨#[B,.string (str kk),D,.int .i64 nn,q3,o,.pointer (some ⟨W.heap.size + 1, 0, none⟩),o,u8,.pointer (some ⟨gv, 0, none⟩),.int .i64 (m : Int),.pointer (some ⟨gv + 1, 0, none⟩),.pointer (some ⟨gv + 1 + 1, 0, none⟩),.bool d2,.int .i64 (j : Int),o,o,o,o,o,o,B,C,D,E,F,.string (str kk),C,G,.pointer (some ⟨gv, 0, none⟩),.int .i64 7,.bool false,o,U,q1,O,Z,q2,O,.bool false,.bool false,Z,q2,O,.bool false,.bool false,.int .i64 nn,Z,q2,O,J,.int .i64 (m : Int),.pointer (some ⟨gv + 1, 0, none⟩),.pointer (some ⟨gv + 1 + 1, 0, none⟩),q4,q5,q6,q8,q9,qa,qb,qc,qd,qe,qf,qg,qh,qi,qj,qk,ql,qm,qn,qp,qq,qr,qs,qt,qu,qv,qw,qx,qy,qz,r0,r1,r2,r3,r4,r5,r6,r7,r8,r9,ra,rb,rc,rd,re,rf,rg,rh,ri,rj,rk,rl,rm,rn,ro,rp,rq,rr,rt,ru,rv,.pointer (some ⟨gv + 1 + 1, 4, none⟩),kA,.pointer (some ⟨gv, 4, none⟩),.slice ak ks.length ck,t6,t7,t8,t9,ta,tb,tc,td,te,tf,tg,th,ti,tj,tk,tl,o,o,o,o,o,o,o,o,o,o,o,o,o,o,o,o,o,o,o,o,o,o,o,o,o,o,o,o,o,o,o,o,o,o,o,o,o,o,o,o,o,o,o],[]⟩) hSm (hSi 3 rfl) (fun _ _ h => h.2.2) rfl (by kernel_rfl) (fun _ _ _ h => h) (hS0 _) (Tame.val rfl (fun w' hA => by have h1 := (hVc w' hA).1; have h2 := (hVc w' hA).2.1; go_simp)) rfl ?_
            refine tk0 4 (.int .i64 (j : Int)) (⟨#[B,.string (str kk),D,.int .i64 nn,q3,o,.pointer (some ⟨W.heap.size + 1, 0, none⟩),o,u8,.pointer (some ⟨gv, 0, none⟩),.int .i64 (m : Int),.pointer (some ⟨gv + 1, 0, none⟩),.pointer (some ⟨gv + 1 + 1, 0, none⟩),.bool d2,.int .i64 (j : Int),o,o,o,o,o,o,B,C,D,E,F,.string (str kk),C,G,.pointer (some ⟨gv, 0, none⟩),.int .i64 7,.bool false,o,U,q1,O,Z,q2,O,.bool false,.bool false,Z,q2,O,.bool false,.bool false,.int .i64 nn,Z,q2,O,J,.int .i64 (m : Int),.pointer (some ⟨gv + 1, 0, none⟩),.pointer (some ⟨gv + 1 + 1, 0, none⟩),q4,q5,q6,q8,q9,qa,qb,qc,qd,qe,qf,qg,qh,qi,qj,qk,ql,qm,qn,qp,qq,qr,qs,qt,qu,qv,qw,qx,qy,qz,r0,r1,r2,r3,r4,r5,r6,r7,r8,r9,ra,rb,rc,rd,re,rf,rg,rh,ri,rj,rk,rl,rm,rn,ro,rp,rq,rr,rt,ru,rv,.pointer (some ⟨gv + 1 + 1, 4, none⟩),kA,.pointer (some ⟨gv, 4, none⟩),.slice ak ks.length ck,.int .i64 (j : Int),t7,t8,t9,ta,tb,tc,td,te,tf,tg,th,ti,tj,tk,tl,o,o,o,o,o,o,o,o,o,o,o,o,o,o,o,o,o,o,o,o,o,o,o,o,o,o,o,o,o,o,o,o,o,o,o,o,o,o,o,o,o,o,o],[]⟩) hSm (hSi 4 rfl) rfl (by kernel_rfl) (fun _ _ _ h => h) (hS0 _) (Tame.val rfl fun _ _ => by go_simp) rfl ?_
            refine tk0 5 (.pointer (some ((hd ak).add j))) (⟨#[B,.string (str kk),D,.int .i64 nn,q3,o,.pointer (some ⟨W.heap.size + 1, 0, none⟩),o,u8,.pointer (some ⟨gv, 0, none⟩),.int .i64 (m : Int),.pointer (some ⟨gv + 1, 0, none⟩),.pointer (some ⟨gv + 1 + 1, 0, none⟩),.bool d2,.int .i64 (j : Int),o,o,o,o,o,o,B,C,D,E,F,.string (str kk),C,G,.pointer (some ⟨gv, 0, none⟩),.int .i64 7,.bool false,o,U,q1,O,Z,q2,O,.bool false,.bool false,Z,q2,O,.bool false,.bool false,.int .i64 nn,Z,q2,O,J,.int .i64 (m : Int),.pointer (some ⟨gv + 1, 0, none⟩),.pointer (some ⟨gv + 1 + 1, 0, none⟩),q4,q5,q6,q8,q9,qa,qb,qc,qd,qe,qf,qg,qh,qi,qj,qk,ql,qm,qn,qp,qq,qr,qs,qt,qu,qv,qw,qx,qy,qz,r0,r1,r2,r3,r4,r5,r6,r7,r8,r9,ra,rb,rc,rd,re,rf,rg,rh,ri,rj,rk,rl,rm,rn,ro,rp,rq,rr,rt,ru,rv,.pointer (some ⟨gv + 1 + 1, 4, none⟩),kA,.pointer (some ⟨gv, 4, none⟩),.slice ak ks.length ck,.int .i64 (j : Int),.pointer (some ((hd ak).add j)),t8,t9,ta,tb,tc,td,te,tf,tg,th,ti,tj,tk,tl,o,o,o,o,o,o,o,o,o,o,o,o,o,o,o,o,o,o,o,o,o,o,o,o,o,o,o,o,o,o,o,o,o,o,o,o,o,o,o,o,o,o,o],[]⟩) hSm (hSi 5 rfl) rfl (by kernel_rfl) (fun _ _ _ h => h) (hS0 _) (Tame.val rfl fun _ _ => by go_simp) rfl ?_
            refine tk1 6 (fun w1 => Below W11.heap.size W11 w1) (.string (str k)) (⟨#[B,.string (str kk),D,.int .i64 nn,q3,o,.pointer (some ⟨W.heap.size + 1, 0, none⟩),o,u8,.pointer (some ⟨gv, 0, none⟩),.int .i64 (m : Int),.pointer (some ⟨gv + 1, 0, none⟩),.pointer (some ⟨gv + 1 + 1, 0, none⟩),.bool d2,.int .i64 (j : Int),o,o,o,o,o,o,B,C,D,E,F,.string (str kk),C,G,.pointer (some ⟨gv, 0, none⟩),.int .i64 7,.bool false,o,U,q1,O,Z,q2,O,.bool false,.bool false,Z,q2,O,.bool false,.bool false,.int .i64 nn,Z,q2,O,J,.int .i64 (m : Int),.pointer (some ⟨gv + 1, 0, none⟩),.pointer (some ⟨gv + 1 + 1, 0, none⟩),q4,q5,q6,q8,q9,qa,qb,qc,qd,qe,qf,qg,qh,qi,qj,qk,ql,qm,qn,qp,qq,qr,qs,qt,qu,qv,qw,qx,qy,qz,r0,r1,r2,r3,r4,r5,r6,r7,r8,r9,ra,rb,rc,rd,re,rf,rg,rh,ri,rj,rk,rl,rm,rn,ro,rp,rq,rr,rt,ru,rv,.pointer (some ⟨gv + 1 + 1, 4, none⟩),kA,.pointer (some ⟨gv, 4, none⟩),.slice ak ks.length ck,.int .i64 (j : Int),.pointer (some ((hd ak).add j)),.string (str k),t9,ta,tb,tc,td,te,tf,tg,th,ti,tj,tk,tl,o,o,o,o,o,o,o,o,o,o,o,o,o,o,o,o,o,o,o,o,o,o,o,o,o,o,o,o,o,o,o,o,o,o,o,o,o,o,o,o,o,o,o],[]⟩) hSm (hSi 6 rfl) (fun _ _ h => h.2.2) rfl (by kernel_rfl) (fun _ _ _ h => h) (hS0 _) (Tame.val rfl (fun w' hA => by have h1 := (hVc w' hA).2.2.1; go_simp)) rfl ?_
            refine tk0 9 (.pointer (some ⟨gv + 1 + 1, 5, none⟩)) (⟨#[B,.string (str kk),D,.int .i64 nn,q3,o,.pointer (some ⟨W.heap.size + 1, 0, none⟩),o,u8,.pointer (some ⟨gv, 0, none⟩),.int .i64 (m : Int),.pointer (some ⟨gv + 1, 0, none⟩),.pointer (some ⟨gv + 1 + 1, 0, none⟩),.bool d2,.int .i64 (j : Int),o,o,o,o,o,o,B,C,D,E,F,.string (str kk),C,G,.pointer (some ⟨gv, 0, none⟩),.int .i64 7,.bool false,o,U,q1,O,Z,q2,O,.bool false,.bool false,Z,q2,O,.bool false,.bool false,.int .i64 nn,Z,q2,O,J,.int .i64 (m : Int),.pointer (some ⟨gv + 1, 0, none⟩),.pointer (some ⟨gv + 1 + 1, 0, none⟩),q4,q5,q6,q8,q9,qa,qb,qc,qd,qe,qf,qg,qh,qi,qj,qk,ql,qm,qn,qp,qq,qr,qs,qt,qu,qv,qw,qx,qy,qz,r0,r1,r2,r3,r4,r5,r6,r7,r8,r9,ra,rb,rc,rd,re,rf,rg,rh,ri,rj,rk,rl,rm,rn,ro,rp,rq,rr,rt,ru,rv,.pointer (some ⟨gv + 1 + 1, 4, none⟩),kA,.pointer (some ⟨gv, 4, none⟩),.slice ak ks.length ck,.int .i64 (j : Int),.pointer (some ((hd ak).add j)),.string (str k),t9,ta,.pointer (some ⟨gv + 1 + 1, 5, none⟩),tc,td,te,tf,tg,th,ti,tj,tk,tl,o,o,o,o,o,o,o,o,o,o,o,o,o,o,o,o,o,o,o,o,o,o,o,o,o,o,o,o,o,o,o,o,o,o,o,o,o,o,o,o,o,o,o],[]⟩) hSm (hSi 9 rfl) rfl (by kernel_rfl) (fun _ _ _ h => h) (hS0 _) (Tame.val rfl fun _ _ => by go_simp) rfl ?_
            refine tk2 10 21 (fun w1 => CL w1 (gv + 1 + 1) 5 lA) (lA) (⟨#[B,.string (str kk),D,.int .i64 nn,q3,o,.pointer (some ⟨W.heap.size + 1, 0, none⟩),o,u8,.pointer (some ⟨gv, 0, none⟩),.int .i64 (m : Int),.pointer (some ⟨gv + 1, 0, none⟩),.pointer (some ⟨gv + 1 + 1, 0, none⟩),.bool d2,.int .i64 (j : Int),o,o,o,o,o,o,B,C,D,E,F,.string (str kk),C,G,.pointer (some ⟨gv, 0, none⟩),.int .i64 7,.bool false,o,U,q1,O,Z,q2,O,.bool false,.bool false,Z,q2,O,.bool false,.bool false,.int .i64 nn,Z,q2,O,J,.int .i64 (m : Int),.pointer (some ⟨gv + 1, 0, none⟩),.pointer (some ⟨gv + 1 + 1, 0, none⟩),q4,q5,q6,q8,q9,qa,qb,qc,qd,qe,qf,qg,qh,qi,qj,qk,ql,qm,qn,qp,qq,qr,qs,qt,qu,qv,qw,qx,qy,qz,r0,r1,r2,r3,r4,r5,r6,r7,r8,r9,ra,rb,rc,rd,re,rf,rg,rh,ri,rj,rk,rl,rm,rn,ro,rp,rq,rr,rt,ru,rv,.pointer (some ⟨gv + 1 + 1, 4, none⟩),kA,.pointer (some ⟨gv, 4, none⟩),.slice ak ks.length ck,.int .i64 (j : Int),.pointer (some ((hd ak).add j)),.string (str k),t9,ta,.pointer (some ⟨gv + 1 + 1, 5, none⟩),lA,td,te,tf,tg,th,ti,tj,tk,tl,o,o,o,o,o,o,o,o,o,o,o,o,o,o,o,o,o,o,o,o,o,o,o,o,o,o,o,o,o,o,o,o,o,o,o,o,o,o,o,o,o,o,o],[]⟩) hSm (hSi 10 rfl) (fun _ _ h h2 => h.2.1 h2) rfl rfl (by kernel_rfl) (fun _ _ _ h => h) (hS0 _) (Tame.val rfl (fun w' hA => by have h1 := hA.cell; go_simp)) rfl ?_
            refine tk0 11 (.pointer (some ⟨gv, 5, none⟩)) (⟨#[B,.string (str kk),D,.int .i64 nn,q3,o,.pointer (some ⟨W.heap.size + 1, 0, none⟩),o,u8,.pointer (some ⟨gv, 0, none⟩),.int .i64 (m : Int),.pointer (some ⟨gv + 1, 0, none⟩),.pointer (some ⟨gv + 1 + 1, 0, none⟩),.bool d2,.int .i64 (j : Int),o,o,o,o,o,o,B,C,D,E,F,.string (str kk),C,G,.pointer (some ⟨gv, 0, none⟩),.int .i64 7,.bool false,o,U,q1,O,Z,q2,O,.bool false,.bool false,Z,q2,O,.bool false,.bool false,.int .i64 nn,Z,q2,O,J,.int .i64 (m : Int),.pointer (some ⟨gv + 1, 0, none⟩),.pointer (some ⟨gv + 1 + 1, 0, none⟩),q4,q5,q6,q8,q9,qa,qb,qc,qd,qe,qf,qg,qh,qi,qj,qk,ql,qm,qn,qp,qq,qr,qs,qt,qu,qv,qw,qx,qy,qz,r0,r1,r2,r3,r4,r5,r6,r7,r8,r9,ra,rb,rc,rd,re,rf,rg,rh,ri,rj,rk,rl,rm,rn,ro,rp,rq,rr,rt,ru,rv,.pointer (some ⟨gv + 1 + 1, 4, none⟩),kA,.pointer (some ⟨gv, 4, none⟩),.slice ak ks.length ck,.int .i64 (j : Int),.pointer (some ((hd ak).add j)),.string (str k),t9,ta,.pointer (some ⟨gv + 1 + 1, 5, none⟩),lA,.pointer (some ⟨gv, 5, none⟩),te,tf,tg,th,ti,tj,tk,tl,o,o,o,o,o,o,o,o,o,o,o,o,o,o,o,o,o,o,o,o,o,o,o,o,o,o,o,o,o,o,o,o,o,o,o,o,o,o,o,o,o,o,o],[]⟩) hSm (hSi 11 rfl) rfl (by kernel_rfl) (fun _ _ _ h => h) (hS0 _) (Tame.val rfl fun _ _ => by go_simp) rfl ?_
            refine tk1 12 (fun w1 => Below W11.heap.size W11 w1) (.slice al ks.length cl) (⟨#[B,.string (str kk),D,.int .i64 nn,q3,o,.pointer (some ⟨W.heap.size + 1, 0, none⟩),o,u8,.pointer (some ⟨gv, 0, none⟩),.int .i64 (m : Int),.pointer (some ⟨gv + 1, 0, none⟩),.pointer (some ⟨gv + 1 + 1, 0, none⟩),.bool d2,.int .i64 (j : Int),o,o,o,o,o,o,B,C,D,E,F,.string (str kk),C,G,.pointer (some ⟨gv, 0, none⟩),.int .i64 7,.bool false,o,U,q1,O,Z,q2,O,.bool false,.bool false,Z,q2,O,.bool false,.bool false,.int .i64 nn,Z,q2,O,J,.int .i64 (m : Int),.pointer (some ⟨gv + 1, 0, none⟩),.pointer (some ⟨gv + 1 + 1, 0, none⟩),q4,q5,q6,q8,q9,qa,qb,qc,qd,qe,qf,qg,qh,qi,qj,qk,ql,qm,qn,qp,qq,qr,qs,qt,qu,qv,qw,qx,qy,qz,r0,r1,r2,r3,r4,r5,r6,r7,r8,r9,ra,rb,rc,rd,re,rf,rg,rh,ri,rj,rk,rl,rm,rn,ro,rp,rq,rr,rt,ru,rv,.pointer (some ⟨gv + 1 + 1, 4, none⟩),kA,.pointer (some ⟨gv, 4, none⟩),.slice ak ks.length ck,.int .i64 (j : Int),.pointer (some ((hd ak).add j)),.string (str k),t9,ta,.pointer (some ⟨gv + 1 + 1, 5, none⟩),lA,.pointer (some ⟨gv, 5, none⟩),.slice al ks.length cl,tf,tg,th,ti,tj,tk,tl,o,o,o,o,o,o,o,o,o,o,o,o,o,o,o,o,o,o,o,o,o,o,o,o,o,o,o,o,o,o,o,o,o,o,o,o,o,o,o,o,o,o,o],[]⟩) hSm (hSi 12 rfl) (fun _ _ h => h.2.2) rfl (by kernel_rfl) (fun _ _ _ h => h) (hS0 _) (Tame.val rfl (fun w' hA => by have h1 := (hVc w' hA).1; have h2 := (hVc w' hA).2.1; go_simp)) rfl ?_
            refine tk0 13 (.int .i64 (j : Int)) (⟨#[B,.string (str kk),D,.int .i64 nn,q3,o,.pointer (some ⟨W.heap.size + 1, 0, none⟩),o,u8,.pointer (some ⟨gv, 0, none⟩),.int .i64 (m : Int),.pointer (some ⟨gv + 1, 0, none⟩),.pointer (some ⟨gv + 1 + 1, 0, none⟩),.bool d2,.int .i64 (j : Int),o,o,o,o,o,o,B,C,D,E,F,.string (str kk),C,G,.pointer (some ⟨gv, 0, none⟩),.int .i64 7,.bool false,o,U,q1,O,Z,q2,O,.bool false,.bool false,Z,q2,O,.bool false,.bool false,.int .i64 nn,Z,q2,O,J,.int .i64 (m : Int),.pointer (some ⟨gv + 1, 0, none⟩),.pointer (some ⟨gv + 1 + 1, 0, none⟩),q4,q5,q6,q8,q9,qa,qb,qc,qd,qe,qf,qg,qh,qi,qj,qk,ql,qm,qn,qp,qq,qr,qs,qt,qu,qv,qw,qx,qy,qz,r0,r1,r2,r3,r4,r5,r6,r7,r8,r9,ra,rb,rc,rd,re,rf,rg,rh,ri,rj,rk,rl,rm,rn,ro,rp,rq,rr,rt,ru,rv,.pointer (some ⟨gv + 1 + 1, 4, none⟩),kA,.pointer (some ⟨gv, 4, none⟩),.slice ak ks.length ck,.int .i64 (j : Int),.pointer (some ((hd ak).add j)),.string (str k),t9,ta,.pointer (some ⟨gv + 1 + 1, 5, none⟩),lA,.pointer (some ⟨gv, 5, none⟩),.slice al ks.length cl,.int .i64 (j : Int),tg,th,ti,tj,tk,tl,o,o,o,o,o,o,o,o,o,o,o,o,o,o,o,o,o,o,o,o,o,o,o,o,o,o,o,o,o,o,o,o,o,o,o,o,o,o,o,o,o,o,o],[]⟩) hSm (hSi 13 rfl) rfl (by kernel_rfl) (fun _ _ _ h => h) (hS0 _) (Tame.val rfl fun _ _ => by go_simp) rfl ?_
            refine tk0 14 (.pointer (some ((hd al).add (j * 6)))) (⟨#[B,.string (str kk),D,.int .i64 nn,q3,o,.pointer (some ⟨W.heap.size + 1, 0, none⟩),o,u8,.pointer (some ⟨gv, 0, none⟩),.int .i64 (m : Int),.pointer (some ⟨gv + 1, 0, none⟩),.pointer (some ⟨gv + 1 + 1, 0, none⟩),.bool d2,.int .i64 (j : Int),o,o,o,o,o,o,B,C,D,E,F,.string (str kk),C,G,.pointer (some ⟨gv, 0, none⟩),.int .i64 7,.bool false,o,U,q1,O,Z,q2,O,.bool false,.bool false,Z,q2,O,.bool false,.bool false,.int .i64 nn,Z,q2,O,J,.int .i64 (m : Int),.pointer (some ⟨gv + 1, 0, none⟩),.pointer (some ⟨gv + 1 + 1, 0, none⟩),q4,q5,q6,q8,q9,qa,qb,qc,qd,qe,qf,qg,qh,qi,qj,qk,ql,qm,qn,qp,qq,qr,qs,qt,qu,qv,qw,qx,qy,qz,r0,r1,r2,r3,r4,r5,r6,r7,r8,r9,ra,rb,rc,rd,re,rf,rg,rh,ri,rj,rk,rl,rm,rn,ro,rp,rq,rr,rt,ru,rv,.pointer (some ⟨gv + 1 + 1, 4, none⟩),kA,.pointer (some ⟨gv, 4, none⟩),.slice ak ks.length ck,.int .i64 (j : Int),.pointer (some ((hd ak).add j)),.string (str k),t9,ta,.pointer (some ⟨gv + 1 + 1, 5, none⟩),lA,.pointer (some ⟨gv, 5, none⟩),.slice al ks.length cl,.int .i64 (j : Int),.pointer (some ((hd al).add (j * 6))),th,ti,tj,tk,tl,o,o,o,o,o,o,o,o,o,o,o,o,o,o,o,o,o,o,o,o,o,o,o,o,o,o,o,o,o,o,o,o,o,o,o,o,o,o,o,o,o,o,o],[]⟩) hSm (hSi 14 rfl) rfl (by kernel_rfl) (fun _ _ _ h => h) (hS0 _) (Tame.val rfl fun _ _ => by go_simp) rfl ?_
            refine tk1 15 (fun w1 => Below W11.heap.size W11 w1) (.agg (List.toArray cx)) (⟨#[B,.string (str kk),D,.int .i64 nn,q3,o,.pointer (some ⟨W.heap.size + 1, 0, none⟩),o,u8,.pointer (some ⟨gv, 0, none⟩),.int .i64 (m : Int),.pointer (some ⟨gv + 1, 0, none⟩),.pointer (some ⟨gv + 1 + 1, 0, none⟩),.bool d2,.int .i64 (j : Int),o,o,o,o,o,o,B,C,D,E,F,.string (str kk),C,G,.pointer (some ⟨gv, 0, none⟩),.int .i64 7,.bool false,o,U,q1,O,Z,q2,O,.bool false,.bool false,Z,q2,O,.bool false,.bool false,.int .i64 nn,Z,q2,O,J,.int .i64 (m : Int),.pointer (some ⟨gv + 1, 0, none⟩),.pointer (some ⟨gv + 1 + 1, 0, none⟩),q4,q5,q6,q8,q9,qa,qb,qc,qd,qe,qf,qg,qh,qi,qj,qk,ql,qm,qn,qp,qq,qr,qs,qt,qu,qv,qw,qx,qy,qz,r0,r1,r2,r3,r4,r5,r6,r7,r8,r9,ra,rb,rc,rd,re,rf,rg,rh,ri,rj,rk,rl,rm,rn,ro,rp,rq,rr,rt,ru,rv,.pointer (some ⟨gv + 1 + 1, 4, none⟩),kA,.pointer (some ⟨gv, 4, none⟩),.slice ak ks.length ck,.int .i64 (j : Int),.pointer (some ((hd ak).add j)),.string (str k),t9,ta,.pointer (some ⟨gv + 1 + 1, 5, none⟩),lA,.pointer (some ⟨gv, 5, none⟩),.slice al ks.length cl,.int .i64 (j : Int),.pointer (some ((hd al).add (j * 6))),.agg (List.toArray cx),ti,tj,tk,tl,o,o,o,o,o,o,o,o,o,o,o,o,o,o,o,o,o,o,o,o,o,o,o,o,o,o,o,o,o,o,o,o,o,o,o,o,o,o,o,o,o,o,o],[]⟩) hSm (hSi 15 rfl) (fun _ _ h => h.2.2) rfl (by kernel_rfl) (fun _ _ _ h => h) (hS0 _) (Tame.val rfl (fun w' hA => run_ldOp (hVc w' hA).2.2.2)) rfl ?_
            refine wpAnyU_all (rs := [7, 16]) (by kernel_rfl) (by decide) ?_
            intro w1 hm2 i hi3
            have hi3 : i = 7 ∨ i = 16 := by simpa using hi3
            rcases hi3 with rfl | rfl
            · have hT4 := hT0.below hm2
              have hE5 := hE0.trans (hm2.mono hE0.size)
              refine wpOp_val (v := .slice (some ⟨w1.heap.size, 0, none⟩) 1 1) (w' := w1.alloc (.cells #[.string (str k)] 9)) (a' := ⟨#[B,.string (str kk),D,.int .i64 nn,q3,o,.pointer (some ⟨W.heap.size + 1, 0, none⟩),o,u8,.pointer (some ⟨gv, 0, none⟩),.int .i64 (m : Int),.pointer (some ⟨gv + 1, 0, none⟩),.pointer (some ⟨gv + 1 + 1, 0, none⟩),.bool d2,.int .i64 (j : Int),o,o,o,o,o,o,B,C,D,E,F,.string (str kk),C,G,.pointer (some ⟨gv, 0, none⟩),.int .i64 7,.bool false,o,U,q1,O,Z,q2,O,.bool false,.bool false,Z,q2,O,.bool false,.bool false,.int .i64 nn,Z,q2,O,J,.int .i64 (m : Int),.pointer (some ⟨gv + 1, 0, none⟩),.pointer (some ⟨gv + 1 + 1, 0, none⟩),q4,q5,q6,q8,q9,qa,qb,qc,qd,qe,qf,qg,qh,qi,qj,qk,ql,qm,qn,qp,qq,qr,qs,qt,qu,qv,qw,qx,qy,qz,r0,r1,r2,r3,r4,r5,r6,r7,r8,r9,ra,rb,rc,rd,re,rf,rg,rh,ri,rj,rk,rl,rm,rn,ro,rp,rq,rr,rt,ru,rv,.pointer (some ⟨gv + 1 + 1, 4, none⟩),kA,.pointer (some ⟨gv, 4, none⟩),.slice ak ks.length ck,.int .i64 (j : Int),.pointer (some ((hd ak).add j)),.string (str k),.slice (some ⟨w1.heap.size, 0, none⟩) 1 1,ta,.pointer (some ⟨gv + 1 + 1, 5, none⟩),lA,.pointer (some ⟨gv, 5, none⟩),.slice al ks.length cl,.int .i64 (j : Int),.pointer (some ((hd al).add (j * 6))),.agg (List.toArray cx),ti,tj,tk,tl,o,o,o,o,o,o,o,o,o,o,o,o,o,o,o,o,o,o,o,o,o,o,o,o,o,o,o,o,o,o,o,o,o,o,o,o,o,o,o,o,o,o,o],[]⟩) rfl rfl (run_bsOp (vals := #[(0, .string (str k))]) (by first | rfl | go_simp | simp [Act.eval]) (bsOp_text Tryd.underlying27 infoStr2 (by decide))) rfl ?_
              have hm6 : Mo w1 (w1.alloc (.cells #[.string (str k)] 9)) := (Below.refl _ _).alloc (Nat.le_refl _) _
              have hB7 : Blk (w1.alloc (.cells #[.string (str k)] 9)) w1.heap.size 9 [strV k] := Blk.new _ _ _
              have hT8 := hT4.below hm6
              have hE9 := hE5.trans (hm6.mono hE5.size)
              have hN10 : ∀ b, Ob (gv + 1 + 1) kA lA b → b < w1.heap.size := fun b hb => (hT4.a.olt b hb).2
              generalize w1.alloc (.cells #[.string (str k)] 9) = w11 at *
              generalize w1.heap.size = g12 at *
              have hS13 := s36 hT8.a.c4 hT8.a.c5 hE9 19 21
              refine ⟨(hS13 _), ?_⟩
              refine wpAnyU_all (rs := [8, 16]) (by kernel_rfl) (by decide) ?_
              intro w14 hm15 i hi16
              have hi16 : i = 8 ∨ i = 16 := by simpa using hi16
              rcases hi16 with rfl | rfl
              · have hT17 := hT8.below hm15
                have hE18 := hE9.trans (hm15.mono hE9.size)
                have hB19 := hB7.below hm15
                obtain ⟨a25, c26, w20, hrun27, hM21, hG22⟩ := hT17.a.appK (ty := 27) hkl0 hB19 hnK
                refine wpOp_val (v := .slice a25 (KA.length + 1) c26) (w' := w20) (a' := ⟨#[B,.string (str kk),D,.int .i64 nn,q3,o,.pointer (some ⟨W.heap.size + 1, 0, none⟩),o,u8,.pointer (some ⟨gv, 0, none⟩),.int .i64 (m : Int),.pointer (some ⟨gv + 1, 0, none⟩),.pointer (some ⟨gv + 1 + 1, 0, none⟩),.bool d2,.int .i64 (j : Int),o,o,o,o,o,o,B,C,D,E,F,.string (str kk),C,G,.pointer (some ⟨gv, 0, none⟩),.int .i64 7,.bool false,o,U,q1,O,Z,q2,O,.bool false,.bool false,Z,q2,O,.bool false,.bool false,.int .i64 nn,Z,q2,O,J,.int .i64 (m : Int),.pointer (some ⟨gv + 1, 0, none⟩),.pointer (some ⟨gv + 1 + 1, 0, none⟩),q4,q5,q6,q8,q9,qa,qb,qc,qd,qe,qf,qg,qh,qi,qj,qk,ql,qm,qn,qp,qq,qr,qs,qt,qu,qv,qw,qx,qy,qz,r0,r1,r2,r3,r4,r5,r6,r7,r8,r9,ra,rb,rc,rd,re,rf,rg,rh,ri,rj,rk,rl,rm,rn,ro,rp,rq,rr,rt,ru,rv,.pointer (some ⟨gv + 1 + 1, 4, none⟩),kA,.pointer (some ⟨gv, 4, none⟩),.slice ak ks.length ck,.int .i64 (j : Int),.pointer (some ((hd ak).add j)),.string (str k),.slice (some ⟨g12, 0, none⟩) 1 1,.slice a25 (KA.length + 1) c26,.pointer (some ⟨gv + 1 + 1, 5, none⟩),lA,.pointer (some ⟨gv, 5, none⟩),.slice al ks.length cl,.int .i64 (j : Int),.pointer (some ((hd al).add (j * 6))),.agg (List.toArray cx),ti,tj,tk,tl,o,o,o,o,o,o,o,o,o,o,o,o,o,o,o,o,o,o,o,o,o,o,o,o,o,o,o,o,o,o,o,o,o,o,o,o,o,o,o,o,o,o,o],[]⟩) rfl rfl (run_append hrun27 rfl rfl rfl) rfl ?_
                have hT23 := hT17.gK hM21 hG22
                have hE24 := hE18.trans (hT17.a.growK hG22)
                have hS28 := s36 hT23.a.c4 hT23.a.c5 hE24 19 21
                refine ⟨(hS28 _), ?_⟩
                have hS29 := s36 hT23.a.c4 hT23.a.c5 hE24 19 21
                refine tk0 18 (.pointer (some ⟨gv + 1 + 1, 4, none⟩)) (⟨#[B,.string (str kk),D,.int .i64 nn,q3,o,.pointer (some ⟨W.heap.size + 1, 0, none⟩),o,u8,.pointer (some ⟨gv, 0, none⟩),.int .i64 (m : Int),.pointer (some ⟨gv + 1, 0, none⟩),.pointer (some ⟨gv + 1 + 1, 0, none⟩),.bool d2,.int .i64 (j : Int),o,o,o,o,o,o,B,C,D,E,F,.string (str kk),C,G,.pointer (some ⟨gv, 0, none⟩),.int .i64 7,.bool false,o,U,q1,O,Z,q2,O,.bool false,.bool false,Z,q2,O,.bool false,.bool false,.int .i64 nn,Z,q2,O,J,.int .i64 (m : Int),.pointer (some ⟨gv + 1, 0, none⟩),.pointer (some ⟨gv + 1 + 1, 0, none⟩),q4,q5,q6,q8,q9,qa,qb,qc,qd,qe,qf,qg,qh,qi,qj,qk,ql,qm,qn,qp,qq,qr,qs,qt,qu,qv,qw,qx,qy,qz,r0,r1,r2,r3,r4,r5,r6,r7,r8,r9,ra,rb,rc,rd,re,rf,rg,rh,ri,rj,rk,rl,rm,rn,ro,rp,rq,rr,rt,ru,rv,.pointer (some ⟨gv + 1 + 1, 4, none⟩),kA,.pointer (some ⟨gv, 4, none⟩),.slice ak ks.length ck,.int .i64 (j : Int),.pointer (some ((hd ak).add j)),.string (str k),.slice (some ⟨g12, 0, none⟩) 1 1,.slice a25 (KA.length + 1) c26,.pointer (some ⟨gv + 1 + 1, 5, none⟩),lA,.pointer (some ⟨gv, 5, none⟩),.slice al ks.length cl,.int .i64 (j : Int),.pointer (some ((hd al).add (j * 6))),.agg (List.toArray cx),ti,tj,.pointer (some ⟨gv + 1 + 1, 4, none⟩),tl,o,o,o,o,o,o,o,o,o,o,o,o,o,o,o,o,o,o,o,o,o,o,o,o,o,o,o,o,o,o,o,o,o,o,o,o,o,o,o,o,o,o,o],[]⟩) hSm (hSi 18 rfl) rfl (by kernel_rfl) (fun _ _ _ h => h) (hS29 _) (Tame.val rfl fun _ _ => by go_simp) rfl ?_
                refine wpAnyU_all (rs := [16]) (by kernel_rfl) (by decide) ?_
                intro w30 hm31 i hi
                obtain rfl : i = 16 := by simpa using hi
                have hT32 := hT23.below hm31
                have hE33 := hE24.trans (hm31.mono hE24.size)
                refine wpOp_val (v := .slice (some ⟨w30.heap.size, 0, none⟩) 1 1) (w' := w30.alloc (.cells (List.toArray cx) 30)) (a' := ⟨#[B,.string (str kk),D,.int .i64 nn,q3,o,.pointer (some ⟨W.heap.size + 1, 0, none⟩),o,u8,.pointer (some ⟨gv, 0, none⟩),.int .i64 (m : Int),.pointer (some ⟨gv + 1, 0, none⟩),.pointer (some ⟨gv + 1 + 1, 0, none⟩),.bool d2,.int .i64 (j : Int),o,o,o,o,o,o,B,C,D,E,F,.string (str kk),C,G,.pointer (some ⟨gv, 0, none⟩),.int .i64 7,.bool false,o,U,q1,O,Z,q2,O,.bool false,.bool false,Z,q2,O,.bool false,.bool false,.int .i64 nn,Z,q2,O,J,.int .i64 (m : Int),.pointer (some ⟨gv + 1, 0, none⟩),.pointer (some ⟨gv + 1 + 1, 0, none⟩),q4,q5,q6,q8,q9,qa,qb,qc,qd,qe,qf,qg,qh,qi,qj,qk,ql,qm,qn,qp,qq,qr,qs,qt,qu,qv,qw,qx,qy,qz,r0,r1,r2,r3,r4,r5,r6,r7,r8,r9,ra,rb,rc,rd,re,rf,rg,rh,ri,rj,rk,rl,rm,rn,ro,rp,rq,rr,rt,ru,rv,.pointer (some ⟨gv + 1 + 1, 4, none⟩),kA,.pointer (some ⟨gv, 4, none⟩),.slice ak ks.length ck,.int .i64 (j : Int),.pointer (some ((hd ak).add j)),.string (str k),.slice (some ⟨g12, 0, none⟩) 1 1,.slice a25 (KA.length + 1) c26,.pointer (some ⟨gv + 1 + 1, 5, none⟩),lA,.pointer (some ⟨gv, 5, none⟩),.slice al ks.length cl,.int .i64 (j : Int),.pointer (some ((hd al).add (j * 6))),.agg (List.toArray cx),.slice (some ⟨w30.heap.size, 0, none⟩) 1 1,tj,.pointer (some ⟨gv + 1 + 1, 4, none⟩),tl,o,o,o,o,o,o,o,o,o,o,o,o,o,o,o,o,o,o,o,o,o,o,o,o,o,o,o,o,o,o,o,o,o,o,o,o,o,o,o,o,o,o,o],[]⟩) rfl rfl (run_bsOp (vals := #[(0, .agg (List.toArray cx))]) (by first | rfl | go_simp | simp [Act.eval]) (bsOp_one (cs := List.toArray cx) Tryd.underlying28 infoV (by decide) (by decide) (by exact zV_size) cx6)) rfl ?_
                have hm34 : Mo w30 (w30.alloc (.cells (List.toArray cx) 30)) := (Below.refl _ _).alloc (Nat.le_refl _) _
                have hB35 : Blk (w30.alloc (.cells (List.toArray cx) 30)) w30.heap.size 30 cx := Blk.new _ _ _
                have hT36 := hT32.below hm34
                have hE37 := hE33.trans (hm34.mono hE33.size)
                have hN38 : ∀ b, Ob (gv + 1 + 1) (.slice a25 (KA.length + 1) c26) lA b → b < w30.heap.size := fun b hb => (hT32.a.olt b hb).2
                generalize w30.alloc (.cells (List.toArray cx) 30) = w39 at *
                generalize w30.heap.size = g40 at *
                have hS41 := s36 hT36.a.c4 hT36.a.c5 hE37 19 21
                refine ⟨(hS41 _), ?_⟩
                refine wpAnyU_all (rs := [17]) (by kernel_rfl) (by decide) ?_
                intro w42 hm43 i hi
                obtain rfl : i = 17 := by simpa using hi
                have hT44 := hT36.below hm43
                have hE45 := hE37.trans (hm43.mono hE37.size)
                have hB46 := hB35.below hm43
                have hX55 := hxP.same (w' := w42) (fun b hb _ => hE45.block b hb)
                obtain ⟨a52, c53, w47, hrun54, hM48, hG49⟩ := hT44.a.appL (ty := 28) hX55 hB46 hnV
                refine wpOp_val (v := .slice a52 (VA.length + 1) c53) (w' := w47) (a' := ⟨#[B,.string (str kk),D,.int .i64 nn,q3,o,.pointer (some ⟨W.heap.size + 1, 0, none⟩),o,u8,.pointer (some ⟨gv, 0, none⟩),.int .i64 (m : Int),.pointer (some ⟨gv + 1, 0, none⟩),.pointer (some ⟨gv + 1 + 1, 0, none⟩),.bool d2,.int .i64 (j : Int),o,o,o,o,o,o,B,C,D,E,F,.string (str kk),C,G,.pointer (some ⟨gv, 0, none⟩),.int .i64 7,.bool false,o,U,q1,O,Z,q2,O,.bool false,.bool false,Z,q2,O,.bool false,.bool false,.int .i64 nn,Z,q2,O,J,.int .i64 (m : Int),.pointer (some ⟨gv + 1, 0, none⟩),.pointer (some ⟨gv + 1 + 1, 0, none⟩),q4,q5,q6,q8,q9,qa,qb,qc,qd,qe,qf,qg,qh,qi,qj,qk,ql,qm,qn,qp,qq,qr,qs,qt,qu,qv,qw,qx,qy,qz,r0,r1,r2,r3,r4,r5,r6,r7,r8,r9,ra,rb,rc,rd,re,rf,rg,rh,ri,rj,rk,rl,rm,rn,ro,rp,rq,rr,rt,ru,rv,.pointer (some ⟨gv + 1 + 1, 4, none⟩),kA,.pointer (some ⟨gv, 4, none⟩),.slice ak ks.length ck,.int .i64 (j : Int),.pointer (some ((hd ak).add j)),.string (str k),.slice (some ⟨g12, 0, none⟩) 1 1,.slice a25 (KA.length + 1) c26,.pointer (some ⟨gv + 1 + 1, 5, none⟩),lA,.pointer (some ⟨gv, 5, none⟩),.slice al ks.length cl,.int .i64 (j : Int),.pointer (some ((hd al).add (j * 6))),.agg (List.toArray cx),.slice (some ⟨g40, 0, none⟩) 1 1,.slice a52 (VA.length + 1) c53,.pointer (some ⟨gv + 1 + 1, 4, none⟩),tl,o,o,o,o,o,o,o,o,o,o,o,o,o,o,o,o,o,o,o,o,o,o,o,o,o,o,o,o,o,o,o,o,o,o,o,o,o,o,o,o,o,o,o],[]⟩) rfl rfl (run_append hrun54 rfl rfl rfl) rfl ?_
                have hT50 := hT44.gL hM48 hG49
                have hE51 := hE45.trans (hT44.a.growL hG49)
                have hS56 := s36 hT50.a.c4 hT50.a.c5 hE51 19 21
                refine ⟨(hS56 _), ?_⟩
                refine wpAnyU_all (rs := [19]) (by kernel_rfl) (by decide) ?_
                intro w57 hm58 i hi
                obtain rfl : i = 19 := by simpa using hi
                have hT59 := hT50.below hm58
                have hE60 := hE51.trans (hm58.mono hE51.size)
                have hz61 := hT59.a.c4.cell
                have hf62 := hT59.a.blk.free 4
                refine wpOp_skip (w' := w57.setCell ⟨gv + 1 + 1, 4, none⟩ (.slice a25 (KA.length + 1) c26)) (a' := ⟨#[B,.string (str kk),D,.int .i64 nn,q3,o,.pointer (some ⟨W.heap.size + 1, 0, none⟩),o,u8,.pointer (some ⟨gv, 0, none⟩),.int .i64 (m : Int),.pointer (some ⟨gv + 1, 0, none⟩),.pointer (some ⟨gv + 1 + 1, 0, none⟩),.bool d2,.int .i64 (j : Int),o,o,o,o,o,o,B,C,D,E,F,.string (str kk),C,G,.pointer (some ⟨gv, 0, none⟩),.int .i64 7,.bool false,o,U,q1,O,Z,q2,O,.bool false,.bool false,Z,q2,O,.bool false,.bool false,.int .i64 nn,Z,q2,O,J,.int .i64 (m : Int),.pointer (some ⟨gv + 1, 0, none⟩),.pointer (some ⟨gv + 1 + 1, 0, none⟩),q4,q5,q6,q8,q9,qa,qb,qc,qd,qe,qf,qg,qh,qi,qj,qk,ql,qm,qn,qp,qq,qr,qs,qt,qu,qv,qw,qx,qy,qz,r0,r1,r2,r3,r4,r5,r6,r7,r8,r9,ra,rb,rc,rd,re,rf,rg,rh,ri,rj,rk,rl,rm,rn,ro,rp,rq,rr,rt,ru,rv,.pointer (some ⟨gv + 1 + 1, 4, none⟩),kA,.pointer (some ⟨gv, 4, none⟩),.slice ak ks.length ck,.int .i64 (j : Int),.pointer (some ((hd ak).add j)),.string (str k),.slice (some ⟨g12, 0, none⟩) 1 1,.slice a25 (KA.length + 1) c26,.pointer (some ⟨gv + 1 + 1, 5, none⟩),lA,.pointer (some ⟨gv, 5, none⟩),.slice al ks.length cl,.int .i64 (j : Int),.pointer (some ((hd al).add (j * 6))),.agg (List.toArray cx),.slice (some ⟨g40, 0, none⟩) 1 1,.slice a52 (VA.length + 1) c53,.pointer (some ⟨gv + 1 + 1, 4, none⟩),tl,o,o,o,o,o,o,o,o,o,o,o,o,o,o,o,o,o,o,o,o,o,o,o,o,o,o,o,o,o,o,o,o,o,o,o,o,o,o,o,o,o,o,o],[]⟩) rfl rfl (by go_simp) rfl ?_
                have hT63 := hT59.sK
                have hE64 := hE60.trans (set_below21 (i := 4) (u := (.slice a25 (KA.length + 1) c26)) hT59.a.hq)
                generalize w57.setCell ⟨gv + 1 + 1, 4, none⟩ (.slice a25 (KA.length + 1) c26) = w65 at *
                refine ⟨⟨fun e => absurd e (by decide), fun _ => hT63.a.c5, hE64⟩, ?_⟩
                refine tk0 20 (.pointer (some ⟨gv + 1 + 1, 5, none⟩)) (⟨#[B,.string (str kk),D,.int .i64 nn,q3,o,.pointer (some ⟨W.heap.size + 1, 0, none⟩),o,u8,.pointer (some ⟨gv, 0, none⟩),.int .i64 (m : Int),.pointer (some ⟨gv + 1, 0, none⟩),.pointer (some ⟨gv + 1 + 1, 0, none⟩),.bool d2,.int .i64 (j : Int),o,o,o,o,o,o,B,C,D,E,F,.string (str kk),C,G,.pointer (some ⟨gv, 0, none⟩),.int .i64 7,.bool false,o,U,q1,O,Z,q2,O,.bool false,.bool false,Z,q2,O,.bool false,.bool false,.int .i64 nn,Z,q2,O,J,.int .i64 (m : Int),.pointer (some ⟨gv + 1, 0, none⟩),.pointer (some ⟨gv + 1 + 1, 0, none⟩),q4,q5,q6,q8,q9,qa,qb,qc,qd,qe,qf,qg,qh,qi,qj,qk,ql,qm,qn,qp,qq,qr,qs,qt,qu,qv,qw,qx,qy,qz,r0,r1,r2,r3,r4,r5,r6,r7,r8,r9,ra,rb,rc,rd,re,rf,rg,rh,ri,rj,rk,rl,rm,rn,ro,rp,rq,rr,rt,ru,rv,.pointer (some ⟨gv + 1 + 1, 4, none⟩),kA,.pointer (some ⟨gv, 4, none⟩),.slice ak ks.length ck,.int .i64 (j : Int),.pointer (some ((hd ak).add j)),.string (str k),.slice (some ⟨g12, 0, none⟩) 1 1,.slice a25 (KA.length + 1) c26,.pointer (some ⟨gv + 1 + 1, 5, none⟩),lA,.pointer (some ⟨gv, 5, none⟩),.slice al ks.length cl,.int .i64 (j : Int),.pointer (some ((hd al).add (j * 6))),.agg (List.toArray cx),.slice (some ⟨g40, 0, none⟩) 1 1,.slice a52 (VA.length + 1) c53,.pointer (some ⟨gv + 1 + 1, 4, none⟩),.pointer (some ⟨gv + 1 + 1, 5, none⟩),o,o,o,o,o,o,o,o,o,o,o,o,o,o,o,o,o,o,o,o,o,o,o,o,o,o,o,o,o,o,o,o,o,o,o,o,o,o,o,o,o,o,o],[]⟩) hSm (hSi 20 rfl) rfl (by kernel_rfl) (fun _ _ _ h => h) ⟨fun e => absurd e (by decide), fun _ => hT63.a.c5, hE64⟩ (Tame.val rfl fun _ _ => by go_simp) rfl ?_
                refine wpAnyU_all (rs := [21]) (by kernel_rfl) (by decide) ?_
                intro w68 hm69 i hi
                obtain rfl : i = 21 := by simpa using hi
                have hT70 := hT63.below hm69
                have hE71 := hE64.trans (hm69.mono hE64.size)
                have hz72 := hT70.a.c5.cell
                have hf73 := hT70.a.blk.free 5
                refine wpOp_skip (w' := w68.setCell ⟨gv + 1 + 1, 5, none⟩ (.slice a52 (VA.length + 1) c53)) (a' := ⟨#[B,.string (str kk),D,.int .i64 nn,q3,o,.pointer (some ⟨W.heap.size + 1, 0, none⟩),o,u8,.pointer (some ⟨gv, 0, none⟩),.int .i64 (m : Int),.pointer (some ⟨gv + 1, 0, none⟩),.pointer (some ⟨gv + 1 + 1, 0, none⟩),.bool d2,.int .i64 (j : Int),o,o,o,o,o,o,B,C,D,E,F,.string (str kk),C,G,.pointer (some ⟨gv, 0, none⟩),.int .i64 7,.bool false,o,U,q1,O,Z,q2,O,.bool false,.bool false,Z,q2,O,.bool false,.bool false,.int .i64 nn,Z,q2,O,J,.int .i64 (m : Int),.pointer (some ⟨gv + 1, 0, none⟩),.pointer (some ⟨gv + 1 + 1, 0, none⟩),q4,q5,q6,q8,q9,qa,qb,qc,qd,qe,qf,qg,qh,qi,qj,qk,ql,qm,qn,qp,qq,qr,qs,qt,qu,qv,qw,qx,qy,qz,r0,r1,r2,r3,r4,r5,r6,r7,r8,r9,ra,rb,rc,rd,re,rf,rg,rh,ri,rj,rk,rl,rm,rn,ro,rp,rq,rr,rt,ru,rv,.pointer (some ⟨gv + 1 + 1, 4, none⟩),kA,.pointer (some ⟨gv, 4, none⟩),.slice ak ks.length ck,.int .i64 (j : Int),.pointer (some ((hd ak).add j)),.string (str k),.slice (some ⟨g12, 0, none⟩) 1 1,.slice a25 (KA.length + 1) c26,.pointer (some ⟨gv + 1 + 1, 5, none⟩),lA,.pointer (some ⟨gv, 5, none⟩),.slice al ks.length cl,.int .i64 (j : Int),.pointer (some ((hd al).add (j * 6))),.agg (List.toArray cx),.slice (some ⟨g40, 0, none⟩) 1 1,.slice a52 (VA.length + 1) c53,.pointer (some ⟨gv + 1 + 1, 4, none⟩),.pointer (some ⟨gv + 1 + 1, 5, none⟩),o,o,o,o,o,o,o,o,o,o,o,o,o,o,o,o,o,o,o,o,o,o,o,o,o,o,o,o,o,o,o,o,o,o,o,o,o,o,o,o,o,o,o],[]⟩) rfl rfl (by go_simp) rfl ?_
                have hT74 := hT70.sL
                have hE75 := hE71.trans (set_below21 (i := 5) (u := (.slice a52 (VA.length + 1) c53)) hT70.a.hq)
                generalize w68.setCell ⟨gv + 1 + 1, 5, none⟩ (.slice a52 (VA.length + 1) c53) = w76 at *
                refine ⟨⟨fun e => absurd e (by decide), fun e => absurd e (by decide), hE75⟩, ?_⟩
                refine wpAnyU_done (by kernel_rfl) ?_ _
                intro w78 hm79
                have hTF := hT74.below hm79
                have hEF := hE75.trans (hm79.mono hE75.size)
                have hF := Lib.hid (hfin _ _ _ hTF hEF)
                clear hTF hEF
                go_wp2
                first
                  | exact ⟨⟨d2, j + 1, by omega, rfl, (by first | rfl | go_num | (congr 1; omega)), hF⟩, by simp [intOf] <;> omega⟩
                  | (refine ⟨?_, by simp [intOf] <;> omega⟩; (repeat apply Exists.intro); exact ⟨⟨d2, j + 1, by omega, rfl, (by first | rfl | go_num | (congr 1; omega)), hF⟩, rfl⟩)
              · have hT80 := hT8.below hm15
                have hE81 := hE9.trans (hm15.mono hE9.size)
                have hB82 := hB7.below hm15
                refine wpOp_val (v := .slice (some ⟨w14.heap.size, 0, none⟩) 1 1) (w' := w14.alloc (.cells (List.toArray cx) 30)) (a' := ⟨#[B,.string (str kk),D,.int .i64 nn,q3,o,.pointer (some ⟨W.heap.size + 1, 0, none⟩),o,u8,.pointer (some ⟨gv, 0, none⟩),.int .i64 (m : Int),.pointer (some ⟨gv + 1, 0, none⟩),.pointer (some ⟨gv + 1 + 1, 0, none⟩),.bool d2,.int .i64 (j : Int),o,o,o,o,o,o,B,C,D,E,F,.string (str kk),C,G,.pointer (some ⟨gv, 0, none⟩),.int .i64 7,.bool false,o,U,q1,O,Z,q2,O,.bool false,.bool false,Z,q2,O,.bool false,.bool false,.int .i64 nn,Z,q2,O,J,.int .i64 (m : Int),.pointer (some ⟨gv + 1, 0, none⟩),.pointer (some ⟨gv + 1 + 1, 0, none⟩),q4,q5,q6,q8,q9,qa,qb,qc,qd,qe,qf,qg,qh,qi,qj,qk,ql,qm,qn,qp,qq,qr,qs,qt,qu,qv,qw,qx,qy,qz,r0,r1,r2,r3,r4,r5,r6,r7,r8,r9,ra,rb,rc,rd,re,rf,rg,rh,ri,rj,rk,rl,rm,rn,ro,rp,rq,rr,rt,ru,rv,.pointer (some ⟨gv + 1 + 1, 4, none⟩),kA,.pointer (some ⟨gv, 4, none⟩),.slice ak ks.length ck,.int .i64 (j : Int),.pointer (some ((hd ak).add j)),.string (str k),.slice (some ⟨g12, 0, none⟩) 1 1,ta,.pointer (some ⟨gv + 1 + 1, 5, none⟩),lA,.pointer (some ⟨gv, 5, none⟩),.slice al ks.length cl,.int .i64 (j : Int),.pointer (some ((hd al).add (j * 6))),.agg (List.toArray cx),.slice (some ⟨w14.heap.size, 0, none⟩) 1 1,tj,tk,tl,o,o,o,o,o,o,o,o,o,o,o,o,o,o,o,o,o,o,o,o,o,o,o,o,o,o,o,o,o,o,o,o,o,o,o,o,o,o,o,o,o,o,o],[]⟩) rfl rfl (run_bsOp (vals := #[(0, .agg (List.toArray cx))]) (by first | rfl | go_simp | simp [Act.eval]) (bsOp_one (cs := List.toArray cx) Tryd.underlying28 infoV (by decide) (by decide) (by exact zV_size) cx6)) rfl ?_
                have hm83 : Mo w14 (w14.alloc (.cells (List.toArray cx) 30)) := (Below.refl _ _).alloc (Nat.le_refl _) _
                have hB84 : Blk (w14.alloc (.cells (List.toArray cx) 30)) w14.heap.size 30 cx := Blk.new _ _ _
                have hT85 := hT80.below hm83
                have hE86 := hE81.trans (hm83.mono hE81.size)
                have hN87 : ∀ b, Ob (gv + 1 + 1) kA lA b → b < w14.heap.size := fun b hb => (hT80.a.olt b hb).2
                have hB90 := hB82.below hm83
                generalize w14.alloc (.cells (List.toArray cx) 30) = w88 at *
                generalize w14.heap.size = g89 at *
                have hS91 := s36 hT85.a.c4 hT85.a.c5 hE86 19 21
                refine ⟨(hS91 _), ?_⟩
                refine wpAnyU_all (rs := [8]) (by kernel_rfl) (by decide) ?_
                intro w92 hm93 i hi
                obtain rfl : i = 8 := by simpa using hi
                have hT94 := hT85.below hm93
                have hE95 := hE86.trans (hm93.mono hE86.size)
                have hB96 := hB90.below hm93
                have hB97 := hB84.below hm93
                obtain ⟨a103, c104, w98, hrun105, hM99, hG100⟩ := hT94.a.appK (ty := 27) hkl0 hB96 hnK
                refine wpOp_val (v := .slice a103 (KA.length + 1) c104) (w' := w98) (a' := ⟨#[B,.string (str kk),D,.int .i64 nn,q3,o,.pointer (some ⟨W.heap.size + 1, 0, none⟩),o,u8,.pointer (some ⟨gv, 0, none⟩),.int .i64 (m : Int),.pointer (some ⟨gv + 1, 0, none⟩),.pointer (some ⟨gv + 1 + 1, 0, none⟩),.bool d2,.int .i64 (j : Int),o,o,o,o,o,o,B,C,D,E,F,.string (str kk),C,G,.pointer (some ⟨gv, 0, none⟩),.int .i64 7,.bool false,o,U,q1,O,Z,q2,O,.bool false,.bool false,Z,q2,O,.bool false,.bool false,.int .i64 nn,Z,q2,O,J,.int .i64 (m : Int),.pointer (some ⟨gv + 1, 0, none⟩),.pointer (some ⟨gv + 1 + 1, 0, none⟩),q4,q5,q6,q8,q9,qa,qb,qc,qd,qe,qf,qg,qh,qi,qj,qk,ql,qm,qn,qp,qq,qr,qs,qt,qu,qv,qw,qx,qy,qz,r0,r1,r2,r3,r4,r5,r6,r7,r8,r9,ra,rb,rc,rd,re,rf,rg,rh,ri,rj,rk,rl,rm,rn,ro,rp,rq,rr,rt,ru,rv,.pointer (some ⟨gv + 1 + 1, 4, none⟩),kA,.pointer (some ⟨gv, 4, none⟩),.slice ak ks.length ck,.int .i64 (j : Int),.pointer (some ((hd ak).add j)),.string (str k),.slice (some ⟨g12, 0, none⟩) 1 1,.slice a103 (KA.length + 1) c104,.pointer (some ⟨gv + 1 + 1, 5, none⟩),lA,.pointer (some ⟨gv, 5, none⟩),.slice al ks.length cl,.int .i64 (j : Int),.pointer (some ((hd al).add (j * 6))),.agg (List.toArray cx),.slice (some ⟨g89, 0, none⟩) 1 1,tj,tk,tl,o,o,o,o,o,o,o,o,o,o,o,o,o,o,o,o,o,o,o,o,o,o,o,o,o,o,o,o,o,o,o,o,o,o,o,o,o,o,o,o,o,o,o],[]⟩) rfl rfl (run_append hrun105 rfl rfl rfl) rfl ?_
                have hT101 := hT94.gK hM99 hG100
                have hE102 := hE95.trans (hT94.a.growK hG100)
                have hB106 := (hG100.blk hB97 (fun e => Nat.lt_irrefl _ (hN87 _ (.inr (.inl e))))).1
                have hS107 := s36 hT101.a.c4 hT101.a.c5 hE102 19 21
                refine ⟨(hS107 _), ?_⟩
                have hS108 := s36 hT101.a.c4 hT101.a.c5 hE102 19 21
                refine tk0 18 (.pointer (some ⟨gv + 1 + 1, 4, none⟩)) (⟨#[B,.string (str kk),D,.int .i64 nn,q3,o,.pointer (some ⟨W.heap.size + 1, 0, none⟩),o,u8,.pointer (some ⟨gv, 0, none⟩),.int .i64 (m : Int),.pointer (some ⟨gv + 1, 0, none⟩),.pointer (some ⟨gv + 1 + 1, 0, none⟩),.bool d2,.int .i64 (j : Int),o,o,o,o,o,o,B,C,D,E,F,.string (str kk),C,G,.pointer (some ⟨gv, 0, none⟩),.int .i64 7,.bool false,o,U,q1,O,Z,q2,O,.bool false,.bool false,Z,q2,O,.bool false,.bool false,.int .i64 nn,Z,q2,O,J,.int .i64 (m : Int),.pointer (some ⟨gv + 1, 0, none⟩),.pointer (some ⟨gv + 1 + 1, 0, none⟩),q4,q5,q6,q8,q9,qa,qb,qc,qd,qe,qf,qg,qh,qi,qj,qk,ql,qm,qn,qp,qq,qr,qs,qt,qu,qv,qw,qx,qy,qz,r0,r1,r2,r3,r4,r5,r6,r7,r8,r9,ra,rb,rc,rd,re,rf,rg,rh,ri,rj,rk,rl,rm,rn,ro,rp,rq,rr,rt,ru,rv,.pointer (some ⟨gv + 1 + 1, 4, none⟩),kA,.pointer (some ⟨gv, 4, none⟩),.slice ak ks.length ck,.int .i64 (j : Int),.pointer (some ((hd ak).add j)),.string (str k),.slice (some ⟨g12, 0, none⟩) 1 1,.slice a103 (KA.length + 1) c104,.pointer (some ⟨gv + 1 + 1, 5, none⟩),lA,.pointer (some ⟨gv, 5, none⟩),.slice al ks.length cl,.int .i64 (j : Int),.pointer (some ((hd al).add (j * 6))),.agg (List.toArray cx),.slice (some ⟨g89, 0, none⟩) 1 1,tj,.pointer (some ⟨gv + 1 + 1, 4, none⟩),tl,o,o,o,o,o,o,o,o,o,o,o,o,o,o,o,o,o,o,o,o,o,o,o,o,o,o,o,o,o,o,o,o,o,o,o,o,o,o,o,o,o,o,o],[]⟩) hSm (hSi 18 rfl) rfl (by kernel_rfl) (fun _ _ _ h => h) (hS108 _) (Tame.val rfl fun _ _ => by go_simp) rfl ?_
                refine wpAnyU_all (rs := [17]) (by kernel_rfl) (by decide) ?_
                intro w109 hm110 i hi
                obtain rfl : i = 17 := by simpa using hi
                have hT111 := hT101.below hm110
                have hE112 := hE102.trans (hm110.mono hE102.size)
                have hB113 := hB106.below hm110
                have hX122 := hxP.same (w' := w109) (fun b hb _ => hE112.block b hb)
                obtain ⟨a119, c120, w114, hrun121, hM115, hG116⟩ := hT111.a.appL (ty := 28) hX122 hB113 hnV
                refine wpOp_val (v := .slice a119 (VA.length + 1) c120) (w' := w114) (a' := ⟨#[B,.string (str kk),D,.int .i64 nn,q3,o,.pointer (some ⟨W.heap.size + 1, 0, none⟩),o,u8,.pointer (some ⟨gv, 0, none⟩),.int .i64 (m : Int),.pointer (some ⟨gv + 1, 0, none⟩),.pointer (some ⟨gv + 1 + 1, 0, none⟩),.bool d2,.int .i64 (j : Int),o,o,o,o,o,o,B,C,D,E,F,.string (str kk),C,G,.pointer (some ⟨gv, 0, none⟩),.int .i64 7,.bool false,o,U,q1,O,Z,q2,O,.bool false,.bool false,Z,q2,O,.bool false,.bool false,.int .i64 nn,Z,q2,O,J,.int .i64 (m : Int),.pointer (some ⟨gv + 1, 0, none⟩),.pointer (some ⟨gv + 1 + 1, 0, none⟩),q4,q5,q6,q8,q9,qa,qb,qc,qd,qe,qf,qg,qh,qi,qj,qk,ql,qm,qn,qp,qq,qr,qs,qt,qu,qv,qw,qx,qy,qz,r0,r1,r2,r3,r4,r5,r6,r7,r8,r9,ra,rb,rc,rd,re,rf,rg,rh,ri,rj,rk,rl,rm,rn,ro,rp,rq,rr,rt,ru,rv,.pointer (some ⟨gv + 1 + 1, 4, none⟩),kA,.pointer (some ⟨gv, 4, none⟩),.slice ak ks.length ck,.int .i64 (j : Int),.pointer (some ((hd ak).add j)),.string (str k),.slice (some ⟨g12, 0, none⟩) 1 1,.slice a103 (KA.length + 1) c104,.pointer (some ⟨gv + 1 + 1, 5, none⟩),lA,.pointer (some ⟨gv, 5, none⟩),.slice al ks.length cl,.int .i64 (j : Int),.pointer (some ((hd al).add (j * 6))),.agg (List.toArray cx),.slice (some ⟨g89, 0, none⟩) 1 1,.slice a119 (VA.length + 1) c120,.pointer (some ⟨gv + 1 + 1, 4, none⟩),tl,o,o,o,o,o,o,o,o,o,o,o,o,o,o,o,o,o,o,o,o,o,o,o,o,o,o,o,o,o,o,o,o,o,o,o,o,o,o,o,o,o,o,o],[]⟩) rfl rfl (run_append hrun121 rfl rfl rfl) rfl ?_
                have hT117 := hT111.gL hM115 hG116
                have hE118 := hE112.trans (hT111.a.growL hG116)
                have hS123 := s36 hT117.a.c4 hT117.a.c5 hE118 19 21
                refine ⟨(hS123 _), ?_⟩
                refine wpAnyU_all (rs := [19]) (by kernel_rfl) (by decide) ?_
                intro w124 hm125 i hi
                obtain rfl : i = 19 := by simpa using hi
                have hT126 := hT117.below hm125
                have hE127 := hE118.trans (hm125.mono hE118.size)
                have hz128 := hT126.a.c4.cell
                have hf129 := hT126.a.blk.free 4
                refine wpOp_skip (w' := w124.setCell ⟨gv + 1 + 1, 4, none⟩ (.slice a103 (KA.length + 1) c104)) (a' := ⟨#[B,.string (str kk),D,.int .i64 nn,q3,o,.pointer (some ⟨W.heap.size + 1, 0, none⟩),o,u8,.pointer (some ⟨gv, 0, none⟩),.int .i64 (m : Int),.pointer (some ⟨gv + 1, 0, none⟩),.pointer (some ⟨gv + 1 + 1, 0, none⟩),.bool d2,.int .i64 (j : Int),o,o,o,o,o,o,B,C,D,E,F,.string (str kk),C,G,.pointer (some ⟨gv, 0, none⟩),.int .i64 7,.bool false,o,U,q1,O,Z,q2,O,.bool false,.bool false,Z,q2,O,.bool false,.bool false,.int .i64 nn,Z,q2,O,J,.int .i64 (m : Int),.pointer (some ⟨gv + 1, 0, none⟩),.pointer (some ⟨gv + 1 + 1, 0, none⟩),q4,q5,q6,q8,q9,qa,qb,qc,qd,qe,qf,qg,qh,qi,qj,qk,ql,qm,qn,qp,qq,qr,qs,qt,qu,qv,qw,qx,qy,qz,r0,r1,r2,r3,r4,r5,r6,r7,r8,r9,ra,rb,rc,rd,re,rf,rg,rh,ri,rj,rk,rl,rm,rn,ro,rp,rq,rr,rt,ru,rv,.pointer (some ⟨gv + 1 + 1, 4, none⟩),kA,.pointer (some ⟨gv, 4, none⟩),.slice ak ks.length ck,.int .i64 (j : Int),.pointer (some ((hd ak).add j)),.string (str k),.slice (some ⟨g12, 0, none⟩) 1 1,.slice a103 (KA.length + 1) c104,.pointer (some ⟨gv + 1 + 1, 5, none⟩),lA,.pointer (some ⟨gv, 5, none⟩),.slice al ks.length cl,.int .i64 (j : Int),.pointer (some ((hd al).add (j * 6))),.agg (List.toArray cx),.slice (some ⟨g89, 0, none⟩) 1 1,.slice a119 (VA.length + 1) c120,.pointer (some ⟨gv + 1 + 1, 4, none⟩),tl,o,o,o,o,o,o,o,o,o,o,o,o,o,o,o,o,o,o,o,o,o,o,o,o,o,o,o,o,o,o,o,o,o,o,o,o,o,o,o,o,o,o,o],[]⟩) rfl rfl (by go_simp) rfl ?_
                have hT130 := hT126.sK
                have hE131 := hE127.trans (set_below21 (i := 4) (u := (.slice a103 (KA.length + 1) c104)) hT126.a.hq)
                generalize w124.setCell ⟨gv + 1 + 1, 4, none⟩ (.slice a103 (KA.length + 1) c104) = w132 at *
                refine ⟨⟨fun e => absurd e (by decide), fun _ => hT130.a.c5, hE131⟩, ?_⟩
                refine tk0 20 (.pointer (some ⟨gv + 1 + 1, 5, none⟩)) (⟨#[B,.string (str kk),D,.int .i64 nn,q3,o,.pointer (some ⟨W.heap.size + 1, 0, none⟩),o,u8,.pointer (some ⟨gv, 0, none⟩),.int .i64 (m : Int),.pointer (some ⟨gv + 1, 0, none⟩),.pointer (some ⟨gv + 1 + 1, 0, none⟩),.bool d2,.int .i64 (j : Int),o,o,o,o,o,o,B,C,D,E,F,.string (str kk),C,G,.pointer (some ⟨gv, 0, none⟩),.int .i64 7,.bool false,o,U,q1,O,Z,q2,O,.bool false,.bool false,Z,q2,O,.bool false,.bool false,.int .i64 nn,Z,q2,O,J,.int .i64 (m : Int),.pointer (some ⟨gv + 1, 0, none⟩),.pointer (some ⟨gv + 1 + 1, 0, none⟩),q4,q5,q6,q8,q9,qa,qb,qc,qd,qe,qf,qg,qh,qi,qj,qk,ql,qm,qn,qp,qq,qr,qs,qt,qu,qv,qw,qx,qy,qz,r0,r1,r2,r3,r4,r5,r6,r7,r8,r9,ra,rb,rc,rd,re,rf,rg,rh,ri,rj,rk,rl,rm,rn,ro,rp,rq,rr,rt,ru,rv,.pointer (some ⟨gv + 1 + 1, 4, none⟩),kA,.pointer (some ⟨gv, 4, none⟩),.slice ak ks.length ck,.int .i64 (j : Int),.pointer (some ((hd ak).add j)),.string (str k),.slice (some ⟨g12, 0, none⟩) 1 1,.slice a103 (KA.length + 1) c104,.pointer (some ⟨gv + 1 + 1, 5, none⟩),lA,.pointer (some ⟨gv, 5, none⟩),.slice al ks.length cl,.int .i64 (j : Int),.pointer (some ((hd al).add (j * 6))),.agg (List.toArray cx),.slice (some ⟨g89, 0, none⟩) 1 1,.slice a119 (VA.length + 1) c120,.pointer (some ⟨gv + 1 + 1, 4, none⟩),.pointer (some ⟨gv + 1 + 1, 5, none⟩),o,o,o,o,o,o,o,o,o,o,o,o,o,o,o,o,o,o,o,o,o,o,o,o,o,o,o,o,o,o,o,o,o,o,o,o,o,o,o,o,o,o,o],[]⟩) hSm (hSi 20 rfl) rfl (by kernel_rfl) (fun _ _ _ h => h) ⟨fun e => absurd e (by decide), fun _ => hT130.a.c5, hE131⟩ (Tame.val rfl fun _ _ => by go_simp) rfl ?_
                refine wpAnyU_all (rs := [21]) (by kernel_rfl) (by decide) ?_
                intro w135 hm136 i hi
                obtain rfl : i = 21 := by simpa using hi
                have hT137 := hT130.below hm136
                have hE138 := hE131.trans (hm136.mono hE131.size)
                have hz139 := hT137.a.c5.cell
                have hf140 := hT137.a.blk.free 5
                refine wpOp_skip (w' := w135.setCell ⟨gv + 1 + 1, 5, none⟩ (.slice a119 (VA.length + 1) c120)) (a' := ⟨#[B,.string (str kk),D,.int .i64 nn,q3,o,.pointer (some ⟨W.heap.size + 1, 0, none⟩),o,u8,.pointer (some ⟨gv, 0, none⟩),.int .i64 (m : Int),.pointer (some ⟨gv + 1, 0, none⟩),.pointer (some ⟨gv + 1 + 1, 0, none⟩),.bool d2,.int .i64 (j : Int),o,o,o,o,o,o,B,C,D,E,F,.string (str kk),C,G,.pointer (some ⟨gv, 0, none⟩),.int .i64 7,.bool false,o,U,q1,O,Z,q2,O,.bool false,.bool false,Z,q2,O,.bool false,.bool false,.int .i64 nn,Z,q2,O,J,.int .i64 (m : Int),.pointer (some ⟨gv + 1, 0, none⟩),.pointer (some ⟨gv + 1 + 1, 0, none⟩),q4,q5,q6,q8,q9,qa,qb,qc,qd,qe,qf,qg,qh,qi,qj,qk,ql,qm,qn,qp,qq,qr,qs,qt,qu,qv,qw,qx,qy,qz,r0,r1,r2,r3,r4,r5,r6,r7,r8,r9,ra,rb,rc,rd,re,rf,rg,rh,ri,rj,rk,rl,rm,rn,ro,rp,rq,rr,rt,ru,rv,.pointer (some ⟨gv + 1 + 1, 4, none⟩),kA,.pointer (some ⟨gv, 4, none⟩),.slice ak ks.length ck,.int .i64 (j : Int),.pointer (some ((hd ak).add j)),.string (str k),.slice (some ⟨g12, 0, none⟩) 1 1,.slice a103 (KA.length + 1) c104,.pointer (some ⟨gv + 1 + 1, 5, none⟩),lA,.pointer (some ⟨gv, 5, none⟩),.slice al ks.length cl,.int .i64 (j : Int),.pointer (some ((hd al).add (j * 6))),.agg (List.toArray cx),.slice (some ⟨g89, 0, none⟩) 1 1,.slice a119 (VA.length + 1) c120,.pointer (some ⟨gv + 1 + 1, 4, none⟩),.pointer (some ⟨gv + 1 + 1, 5, none⟩),o,o,o,o,o,o,o,o,o,o,o,o,o,o,o,o,o,o,o,o,o,o,o,o,o,o,o,o,o,o,o,o,o,o,o,o,o,o,o,o,o,o,o],[]⟩) rfl rfl (by go_simp) rfl ?_
                have hT141 := hT137.sL
                have hE142 := hE138.trans (set_below21 (i := 5) (u := (.slice a119 (VA.length + 1) c120)) hT137.a.hq)
                generalize w135.setCell ⟨gv + 1 + 1, 5, none⟩ (.slice a119 (VA.length + 1) c120) = w143 at *
                refine ⟨⟨fun e => absurd e (by decide), fun e => absurd e (by decide), hE142⟩, ?_⟩
                refine wpAnyU_done (by kernel_rfl) ?_ _
                intro w145 hm146
                have hTF := hT141.below hm146
                have hEF := hE142.trans (hm146.mono hE142.size)
                have hF := Lib.hid (hfin _ _ _ hTF hEF)
                clear hTF hEF
                go_wp2
                first
                  | exact ⟨⟨d2, j + 1, by omega, rfl, (by first | rfl | go_num | (congr 1; omega)), hF⟩, by simp [intOf] <;> omega⟩
                  | (refine ⟨?_, by simp [intOf] <;> omega⟩; (repeat apply Exists.intro); exact ⟨⟨d2, j + 1, by omega, rfl, (by first | rfl | go_num | (congr 1; omega)), hF⟩, rfl⟩)
            · have hT147 := hT0.below hm2
              have hE148 := hE0.trans (hm2.mono hE0.size)
              refine wpOp_val (v := .slice (some ⟨w1.heap.size, 0, none⟩) 1 1) (w' := w1.alloc (.cells (List.toArray cx) 30)) (a' := ⟨#[B,.string (str kk),D,.int .i64 nn,q3,o,.pointer (some ⟨W.heap.size + 1, 0, none⟩),o,u8,.pointer (some ⟨gv, 0, none⟩),.int .i64 (m : Int),.pointer (some ⟨gv + 1, 0, none⟩),.pointer (some ⟨gv + 1 + 1, 0, none⟩),.bool d2,.int .i64 (j : Int),o,o,o,o,o,o,B,C,D,E,F,.string (str kk),C,G,.pointer (some ⟨gv, 0, none⟩),.int .i64 7,.bool false,o,U,q1,O,Z,q2,O,.bool false,.bool false,Z,q2,O,.bool false,.bool false,.int .i64 nn,Z,q2,O,J,.int .i64 (m : Int),.pointer (some ⟨gv + 1, 0, none⟩),.pointer (some ⟨gv + 1 + 1, 0, none⟩),q4,q5,q6,q8,q9,qa,qb,qc,qd,qe,qf,qg,qh,qi,qj,qk,ql,qm,qn,qp,qq,qr,qs,qt,qu,qv,qw,qx,qy,qz,r0,r1,r2,r3,r4,r5,r6,r7,r8,r9,ra,rb,rc,rd,re,rf,rg,rh,ri,rj,rk,rl,rm,rn,ro,rp,rq,rr,rt,ru,rv,.pointer (some ⟨gv + 1 + 1, 4, none⟩),kA,.pointer (some ⟨gv, 4, none⟩),.slice ak ks.length ck,.int .i64 (j : Int),.pointer (some ((hd ak).add j)),.string (str k),t9,ta,.pointer (some ⟨gv + 1 + 1, 5, none⟩),lA,.pointer (some ⟨gv, 5, none⟩),.slice al ks.length cl,.int .i64 (j : Int),.pointer (some ((hd al).add (j * 6))),.agg (List.toArray cx),.slice (some ⟨w1.heap.size, 0, none⟩) 1 1,tj,tk,tl,o,o,o,o,o,o,o,o,o,o,o,o,o,o,o,o,o,o,o,o,o,o,o,o,o,o,o,o,o,o,o,o,o,o,o,o,o,o,o,o,o,o,o],[]⟩) rfl rfl (run_bsOp (vals := #[(0, .agg (List.toArray cx))]) (by first | rfl | go_simp | simp [Act.eval]) (bsOp_one (cs := List.toArray cx) Tryd.underlying28 infoV (by decide) (by decide) (by exact zV_size) cx6)) rfl ?_
              have hm149 : Mo w1 (w1.alloc (.cells (List.toArray cx) 30)) := (Below.refl _ _).alloc (Nat.le_refl _) _
              have hB150 : Blk (w1.alloc (.cells (List.toArray cx) 30)) w1.heap.size 30 cx := Blk.new _ _ _
              have hT151 := hT147.below hm149
              have hE152 := hE148.trans (hm149.mono hE148.size)
              have hN153 : ∀ b, Ob (gv + 1 + 1) kA lA b → b < w1.heap.size := fun b hb => (hT147.a.olt b hb).2
              generalize w1.alloc (.cells (List.toArray cx) 30) = w154 at *
              generalize w1.heap.size = g155 at *
              have hS156 := s36 hT151.a.c4 hT151.a.c5 hE152 19 21
              refine ⟨(hS156 _), ?_⟩
              refine wpAnyU_all (rs := [7]) (by kernel_rfl) (by decide) ?_
              intro w157 hm158 i hi
              obtain rfl : i = 7 := by simpa using hi
              have hT159 := hT151.below hm158
              have hE160 := hE152.trans (hm158.mono hE152.size)
              have hB161 := hB150.below hm158
              refine wpOp_val (v := .slice (some ⟨w157.heap.size, 0, none⟩) 1 1) (w' := w157.alloc (.cells #[.string (str k)] 9)) (a' := ⟨#[B,.string (str kk),D,.int .i64 nn,q3,o,.pointer (some ⟨W.heap.size + 1, 0, none⟩),o,u8,.pointer (some ⟨gv, 0, none⟩),.int .i64 (m : Int),.pointer (some ⟨gv + 1, 0, none⟩),.pointer (some ⟨gv + 1 + 1, 0, none⟩),.bool d2,.int .i64 (j : Int),o,o,o,o,o,o,B,C,D,E,F,.string (str kk),C,G,.pointer (some ⟨gv, 0, none⟩),.int .i64 7,.bool false,o,U,q1,O,Z,q2,O,.bool false,.bool false,Z,q2,O,.bool false,.bool false,.int .i64 nn,Z,q2,O,J,.int .i64 (m : Int),.pointer (some ⟨gv + 1, 0, none⟩),.pointer (some ⟨gv + 1 + 1, 0, none⟩),q4,q5,q6,q8,q9,qa,qb,qc,qd,qe,qf,qg,qh,qi,qj,qk,ql,qm,qn,qp,qq,qr,qs,qt,qu,qv,qw,qx,qy,qz,r0,r1,r2,r3,r4,r5,r6,r7,r8,r9,ra,rb,rc,rd,re,rf,rg,rh,ri,rj,rk,rl,rm,rn,ro,rp,rq,rr,rt,ru,rv,.pointer (some ⟨gv + 1 + 1, 4, none⟩),kA,.pointer (some ⟨gv, 4, none⟩),.slice ak ks.length ck,.int .i64 (j : Int),.pointer (some ((hd ak).add j)),.string (str k),.slice (some ⟨w157.heap.size, 0, none⟩) 1 1,ta,.pointer (some ⟨gv + 1 + 1, 5, none⟩),lA,.pointer (some ⟨gv, 5, none⟩),.slice al ks.length cl,.int .i64 (j : Int),.pointer (some ((hd al).add (j * 6))),.agg (List.toArray cx),.slice (some ⟨g155, 0, none⟩) 1 1,tj,tk,tl,o,o,o,o,o,o,o,o,o,o,o,o,o,o,o,o,o,o,o,o,o,o,o,o,o,o,o,o,o,o,o,o,o,o,o,o,o,o,o,o,o,o,o],[]⟩) rfl rfl (run_bsOp (vals := #[(0, .string (str k))]) (by first | rfl | go_simp | simp [Act.eval]) (bsOp_text Tryd.underlying27 infoStr2 (by decide))) rfl ?_
              have hm162 : Mo w157 (w157.alloc (.cells #[.string (str k)] 9)) := (Below.refl _ _).alloc (Nat.le_refl _) _
              have hB163 : Blk (w157.alloc (.cells #[.string (str k)] 9)) w157.heap.size 9 [strV k] := Blk.new _ _ _
              have hT164 := hT159.below hm162
              have hE165 := hE160.trans (hm162.mono hE160.size)
              have hN166 : ∀ b, Ob (gv + 1 + 1) kA lA b → b < w157.heap.size := fun b hb => (hT159.a.olt b hb).2
              have hB169 := hB161.below hm162
              generalize w157.alloc (.cells #[.string (str k)] 9) = w167 at *
              generalize w157.heap.size = g168 at *
              have hS170 := s36 hT164.a.c4 hT164.a.c5 hE165 19 21
              refine ⟨(hS170 _), ?_⟩
              refine wpAnyU_all (rs := [8]) (by kernel_rfl) (by decide) ?_
              intro w171 hm172 i hi
              obtain rfl : i = 8 := by simpa using hi
              have hT173 := hT164.below hm172
              have hE174 := hE165.trans (hm172.mono hE165.size)
              have hB175 := hB163.below hm172
              have hB176 := hB169.below hm172
              obtain ⟨a182, c183, w177, hrun184, hM178, hG179⟩ := hT173.a.appK (ty := 27) hkl0 hB175 hnK
              refine wpOp_val (v := .slice a182 (KA.length + 1) c183) (w' := w177) (a' := ⟨#[B,.string (str kk),D,.int .i64 nn,q3,o,.pointer (some ⟨W.heap.size + 1, 0, none⟩),o,u8,.pointer (some ⟨gv, 0, none⟩),.int .i64 (m : Int),.pointer (some ⟨gv + 1, 0, none⟩),.pointer (some ⟨gv + 1 + 1, 0, none⟩),.bool d2,.int .i64 (j : Int),o,o,o,o,o,o,B,C,D,E,F,.string (str kk),C,G,.pointer (some ⟨gv, 0, none⟩),.int .i64 7,.bool false,o,U,q1,O,Z,q2,O,.bool false,.bool false,Z,q2,O,.bool false,.bool false,.int .i64 nn,Z,q2,O,J,.int .i64 (m : Int),.pointer (some ⟨gv + 1, 0, none⟩),.pointer (some ⟨gv + 1 + 1, 0, none⟩),q4,q5,q6,q8,q9,qa,qb,qc,qd,qe,qf,qg,qh,qi,qj,qk,ql,qm,qn,qp,qq,qr,qs,qt,qu,qv,qw,qx,qy,qz,r0,r1,r2,r3,r4,r5,r6,r7,r8,r9,ra,rb,rc,rd,re,rf,rg,rh,ri,rj,rk,rl,rm,rn,ro,rp,rq,rr,rt,ru,rv,.pointer (some ⟨gv + 1 + 1, 4, none⟩),kA,.pointer (some ⟨gv, 4, none⟩),.slice ak ks.length ck,.int .i64 (j : Int),.pointer (some ((hd ak).add j)),.string (str k),.slice (some ⟨g168, 0, none⟩) 1 1,.slice a182 (KA.length + 1) c183,.pointer (some ⟨gv + 1 + 1, 5, none⟩),lA,.pointer (some ⟨gv, 5, none⟩),.slice al ks.length cl,.int .i64 (j : Int),.pointer (some ((hd al).add (j * 6))),.agg (List.toArray cx),.slice (some ⟨g155, 0, none⟩) 1 1,tj,tk,tl,o,o,o,o,o,o,o,o,o,o,o,o,o,o,o,o,o,o,o,o,o,o,o,o,o,o,o,o,o,o,o,o,o,o,o,o,o,o,o,o,o,o,o],[]⟩) rfl rfl (run_append hrun184 rfl rfl rfl) rfl ?_
              have hT180 := hT173.gK hM178 hG179
              have hE181 := hE174.trans (hT173.a.growK hG179)
              have hB185 := (hG179.blk hB176 (fun e => Nat.lt_irrefl _ (hN153 _ (.inr (.inl e))))).1
              have hS186 := s36 hT180.a.c4 hT180.a.c5 hE181 19 21
              refine ⟨(hS186 _), ?_⟩
              have hS187 := s36 hT180.a.c4 hT180.a.c5 hE181 19 21
              refine tk0 18 (.pointer (some ⟨gv + 1 + 1, 4, none⟩)) (⟨#[B,.string (str kk),D,.int .i64 nn,q3,o,.pointer (some ⟨W.heap.size + 1, 0, none⟩),o,u8,.pointer (some ⟨gv, 0, none⟩),.int .i64 (m : Int),.pointer (some ⟨gv + 1, 0, none⟩),.pointer (some ⟨gv + 1 + 1, 0, none⟩),.bool d2,.int .i64 (j : Int),o,o,o,o,o,o,B,C,D,E,F,.string (str kk),C,G,.pointer (some ⟨gv, 0, none⟩),.int .i64 7,.bool false,o,U,q1,O,Z,q2,O,.bool false,.bool false,Z,q2,O,.bool false,.bool false,.int .i64 nn,Z,q2,O,J,.int .i64 (m : Int),.pointer (some ⟨gv + 1, 0, none⟩),.pointer (some ⟨gv + 1 + 1, 0, none⟩),q4,q5,q6,q8,q9,qa,qb,qc,qd,qe,qf,qg,qh,qi,qj,qk,ql,qm,qn,qp,qq,qr,qs,qt,qu,qv,qw,qx,qy,qz,r0,r1,r2,r3,r4,r5,r6,r7,r8,r9,ra,rb,rc,rd,re,rf,rg,rh,ri,rj,rk,rl,rm,rn,ro,rp,rq,rr,rt,ru,rv,.pointer (some ⟨gv + 1 + 1, 4, none⟩),kA,.pointer (some ⟨gv, 4, none⟩),.slice ak ks.length ck,.int .i64 (j : Int),.pointer (some ((hd ak).add j)),.string (str k),.slice (some ⟨g168, 0, none⟩) 1 1,.slice a182 (KA.length + 1) c183,.pointer (some ⟨gv + 1 + 1, 5, none⟩),lA,.pointer (some ⟨gv, 5, none⟩),.slice al ks.length cl,.int .i64 (j : Int),.pointer (some ((hd al).add (j * 6))),.agg (List.toArray cx),.slice (some ⟨g155, 0, none⟩) 1 1,tj,.pointer (some ⟨gv + 1 + 1, 4, none⟩),tl,o,o,o,o,o,o,o,o,o,o,o,o,o,o,o,o,o,o,o,o,o,o,o,o,o,o,o,o,o,o,o,o,o,o,o,o,o,o,o,o,o,o,o],[]⟩) hSm (hSi 18 rfl) rfl (by kernel_rfl) (fun _ _ _ h => h) (hS187 _) (Tame.val rfl fun _ _ => by go_simp) rfl ?_
              refine wpAnyU_all (rs := [17]) (by kernel_rfl) (by decide) ?_
              intro w188 hm189 i hi
              obtain rfl : i = 17 := by simpa using hi
              have hT190 := hT180.below hm189
              have hE191 := hE181.trans (hm189.mono hE181.size)
              have hB192 := hB185.below hm189
              have hX201 := hxP.same (w' := w188) (fun b hb _ => hE191.block b hb)
              obtain ⟨a198, c199, w193, hrun200, hM194, hG195⟩ := hT190.a.appL (ty := 28) hX201 hB192 hnV
              refine wpOp_val (v := .slice a198 (VA.length + 1) c199) (w' := w193) (a' := ⟨#[B,.string (str kk),D,.int .i64 nn,q3,o,.pointer (some ⟨W.heap.size + 1, 0, none⟩),o,u8,.pointer (some ⟨gv, 0, none⟩),.int .i64 (m : Int),.pointer (some ⟨gv + 1, 0, none⟩),.pointer (some ⟨gv + 1 + 1, 0, none⟩),.bool d2,.int .i64 (j : Int),o,o,o,o,o,o,B,C,D,E,F,.string (str kk),C,G,.pointer (some ⟨gv, 0, none⟩),.int .i64 7,.bool false,o,U,q1,O,Z,q2,O,.bool false,.bool false,Z,q2,O,.bool false,.bool false,.int .i64 nn,Z,q2,O,J,.int .i64 (m : Int),.pointer (some ⟨gv + 1, 0, none⟩),.pointer (some ⟨gv + 1 + 1, 0, none⟩),q4,q5,q6,q8,q9,qa,qb,qc,qd,qe,qf,qg,qh,qi,qj,qk,ql,qm,qn,qp,qq,qr,qs,qt,qu,qv,qw,qx,qy,qz,r0,r1,r2,r3,r4,r5,r6,r7,r8,r9,ra,rb,rc,rd,re,rf,rg,rh,ri,rj,rk,rl,rm,rn,ro,rp,rq,rr,rt,ru,rv,.pointer (some ⟨gv + 1 + 1, 4, none⟩),kA,.pointer (some ⟨gv, 4, none⟩),.slice ak ks.length ck,.int .i64 (j : Int),.pointer (some ((hd ak).add j)),.string (str k),.slice (some ⟨g168, 0, none⟩) 1 1,.slice a182 (KA.length + 1) c183,.pointer (some ⟨gv + 1 + 1, 5, none⟩),lA,.pointer (some ⟨gv, 5, none⟩),.slice al ks.length cl,.int .i64 (j : Int),.pointer (some ((hd al).add (j * 6))),.agg (List.toArray cx),.slice (some ⟨g155, 0, none⟩) 1 1,.slice a198 (VA.length + 1) c199,.pointer (some ⟨gv + 1 + 1, 4, none⟩),tl,o,o,o,o,o,o,o,o,o,o,o,o,o,o,o,o,o,o,o,o,o,o,o,o,o,o,o,o,o,o,o,o,o,o,o,o,o,o,o,o,o,o,o],[]⟩) rfl rfl (run_append hrun200 rfl rfl rfl) rfl ?_
              have hT196 := hT190.gL hM194 hG195
              have hE197 := hE191.trans (hT190.a.growL hG195)
              have hS202 := s36 hT196.a.c4 hT196.a.c5 hE197 19 21
              refine ⟨(hS202 _), ?_⟩
              refine wpAnyU_all (rs := [19]) (by kernel_rfl) (by decide) ?_
              intro w203 hm204 i hi
              obtain rfl : i = 19 := by simpa using hi
              have hT205 := hT196.below hm204
              have hE206 := hE197.trans (hm204.mono hE197.size)
              have hz207 := hT205.a.c4.cell
              have hf208 := hT205.a.blk.free 4
              refine wpOp_skip (w' := w203.setCell ⟨gv + 1 + 1, 4, none⟩ (.slice a182 (KA.length + 1) c183)) (a' := ⟨#[B,.string (str kk),D,.int .i64 nn,q3,o,.pointer (some ⟨W.heap.size + 1, 0, none⟩),o,u8,.pointer (some ⟨gv, 0, none⟩),.int .i64 (m : Int),.pointer (some ⟨gv + 1, 0, none⟩),.pointer (some ⟨gv + 1 + 1, 0, none⟩),.bool d2,.int .i64 (j : Int),o,o,o,o,o,o,B,C,D,E,F,.string (str kk),C,G,.pointer (some ⟨gv, 0, none⟩),.int .i64 7,.bool false,o,U,q1,O,Z,q2,O,.bool false,.bool false,Z,q2,O,.bool false,.bool false,.int .i64 nn,Z,q2,O,J,.int .i64 (m : Int),.pointer (some ⟨gv + 1, 0, none⟩),.pointer (some ⟨gv + 1 + 1, 0, none⟩),q4,q5,q6,q8,q9,qa,qb,qc,qd,qe,qf,qg,qh,qi,qj,qk,ql,qm,qn,qp,qq,qr,qs,qt,qu,qv,qw,qx,qy,qz,r0,r1,r2,r3,r4,r5,r6,r7,r8,r9,ra,rb,rc,rd,re,rf,rg,rh,ri,rj,rk,rl,rm,rn,ro,rp,rq,rr,rt,ru,rv,.pointer (some ⟨gv + 1 + 1, 4, none⟩),kA,.pointer (some ⟨gv, 4, none⟩),.slice ak ks.length ck,.int .i64 (j : Int),.pointer (some ((hd ak).add j)),.string (str k),.slice (some ⟨g168, 0, none⟩) 1 1,.slice a182 (KA.length + 1) c183,.pointer (some ⟨gv + 1 + 1, 5, none⟩),lA,.pointer (some ⟨gv, 5, none⟩),.slice al ks.length cl,.int .i64 (j : Int),.pointer (some ((hd al).add (j * 6))),.agg (List.toArray cx),.slice (some ⟨g155, 0, none⟩) 1 1,.slice a198 (VA.length + 1) c199,.pointer (some ⟨gv + 1 + 1, 4, none⟩),tl,o,o,o,o,o,o,o,o,o,o,o,o,o,o,o,o,o,o,o,o,o,o,o,o,o,o,o,o,o,o,o,o,o,o,o,o,o,o,o,o,o,o,o],[]⟩) rfl rfl (by go_simp) rfl ?_
              have hT209 := hT205.sK
              have hE210 := hE206.trans (set_below21 (i := 4) (u := (.slice a182 (KA.length + 1) c183)) hT205.a.hq)
              generalize w203.setCell ⟨gv + 1 + 1, 4, none⟩ (.slice a182 (KA.length + 1) c183) = w211 at *
              refine ⟨⟨fun e => absurd e (by decide), fun _ => hT209.a.c5, hE210⟩, ?_⟩
              refine tk0 20 (.pointer (some ⟨gv + 1 + 1, 5, none⟩)) (⟨#[B,.string (str kk),D,.int .i64 nn,q3,o,.pointer (some ⟨W.heap.size + 1, 0, none⟩),o,u8,.pointer (some ⟨gv, 0, none⟩),.int .i64 (m : Int),.pointer (some ⟨gv + 1, 0, none⟩),.pointer (some ⟨gv + 1 + 1, 0, none⟩),.bool d2,.int .i64 (j : Int),o,o,o,o,o,o,B,C,D,E,F,.string (str kk),C,G,.pointer (some ⟨gv, 0, none⟩),.int .i64 7,.bool false,o,U,q1,O,Z,q2,O,.bool false,.bool false,Z,q2,O,.bool false,.bool false,.int .i64 nn,Z,q2,O,J,.int .i64 (m : Int),.pointer (some ⟨gv + 1, 0, none⟩),.pointer (some ⟨gv + 1 + 1, 0, none⟩),q4,q5,q6,q8,q9,qa,qb,qc,qd,qe,qf,qg,qh,qi,qj,qk,ql,qm,qn,qp,qq,qr,qs,qt,qu,qv,qw,qx,qy,qz,r0,r1,r2,r3,r4,r5,r6,r7,r8,r9,ra,rb,rc,rd,re,rf,rg,rh,ri,rj,rk,rl,rm,rn,ro,rp,rq,rr,rt,ru,rv,.pointer (some ⟨gv + 1 + 1, 4, none⟩),kA,.pointer (some ⟨gv, 4, none⟩),.slice ak ks.length ck,.int .i64 (j : Int),.pointer (some ((hd ak).add j)),.string (str k),.slice (some ⟨g168, 0, none⟩) 1 1,.slice a182 (KA.length + 1) c183,.pointer (some ⟨gv + 1 + 1, 5, none⟩),lA,.pointer (some ⟨gv, 5, none⟩),.slice al ks.length cl,.int .i64 (j : Int),.pointer (some ((hd al).add (j * 6))),.agg (List.toArray cx),.slice (some ⟨g155, 0, none⟩) 1 1,.slice a198 (VA.length + 1) c199,.pointer (some ⟨gv + 1 + 1, 4, none⟩),.pointer (some ⟨gv + 1 + 1, 5, none⟩),o,o,o,o,o,o,o,o,o,o,o,o,o,o,o,o,o,o,o,o,o,o,o,o,o,o,o,o,o,o,o,o,o,o,o,o,o,o,o,o,o,o,o],[]⟩) hSm (hSi 20 rfl) rfl (by kernel_rfl) (fun _ _ _ h => h) ⟨fun e => absurd e (by decide), fun _ => hT209.a.c5, hE210⟩ (Tame.val rfl fun _ _ => by go_simp) rfl ?_
              refine wpAnyU_all (rs := [21]) (by kernel_rfl) (by decide) ?_
              intro w214 hm215 i hi
              obtain rfl : i = 21 := by simpa using hi
              have hT216 := hT209.below hm215
              have hE217 := hE210.trans (hm215.mono hE210.size)
              have hz218 := hT216.a.c5.cell
              have hf219 := hT216.a.blk.free 5
              refine wpOp_skip (w' := w214.setCell ⟨gv + 1 + 1, 5, none⟩ (.slice a198 (VA.length + 1) c199)) (a' := ⟨#[B,.string (str kk),D,.int .i64 nn,q3,o,.pointer (some ⟨W.heap.size + 1, 0, none⟩),o,u8,.pointer (some ⟨gv, 0, none⟩),.int .i64 (m : Int),.pointer (some ⟨gv + 1, 0, none⟩),.pointer (some ⟨gv + 1 + 1, 0, none⟩),.bool d2,.int .i64 (j : Int),o,o,o,o,o,o,B,C,D,E,F,.string (str kk),C,G,.pointer (some ⟨gv, 0, none⟩),.int .i64 7,.bool false,o,U,q1,O,Z,q2,O,.bool false,.bool false,Z,q2,O,.bool false,.bool false,.int .i64 nn,Z,q2,O,J,.int .i64 (m : Int),.pointer (some ⟨gv + 1, 0, none⟩),.pointer (some ⟨gv + 1 + 1, 0, none⟩),q4,q5,q6,q8,q9,qa,qb,qc,qd,qe,qf,qg,qh,qi,qj,qk,ql,qm,qn,qp,qq,qr,qs,qt,qu,qv,qw,qx,qy,qz,r0,r1,r2,r3,r4,r5,r6,r7,r8,r9,ra,rb,rc,rd,re,rf,rg,rh,ri,rj,rk,rl,rm,rn,ro,rp,rq,rr,rt,ru,rv,.pointer (some ⟨gv + 1 + 1, 4, none⟩),kA,.pointer (some ⟨gv, 4, none⟩),.slice ak ks.length ck,.int .i64 (j : Int),.pointer (some ((hd ak).add j)),.string (str k),.slice (some ⟨g168, 0, none⟩) 1 1,.slice a182 (KA.length + 1) c183,.pointer (some ⟨gv + 1 + 1, 5, none⟩),lA,.pointer (some ⟨gv, 5, none⟩),.slice al ks.length cl,.int .i64 (j : Int),.pointer (some ((hd al).add (j * 6))),.agg (List.toArray cx),.slice (some ⟨g155, 0, none⟩) 1 1,.slice a198 (VA.length + 1) c199,.pointer (some ⟨gv + 1 + 1, 4, none⟩),.pointer (some ⟨gv + 1 + 1, 5, none⟩),o,o,o,o,o,o,o,o,o,o,o,o,o,o,o,o,o,o,o,o,o,o,o,o,o,o,o,o,o,o,o,o,o,o,o,o,o,o,o,o,o,o,o],[]⟩) rfl rfl (by go_simp) rfl ?_
              have hT220 := hT216.sL
              have hE221 := hE217.trans (set_below21 (i := 5) (u := (.slice a198 (VA.length + 1) c199)) hT216.a.hq)
              generalize w214.setCell ⟨gv + 1 + 1, 5, none⟩ (.slice a198 (VA.length + 1) c199) = w222 at *
              refine ⟨⟨fun e => absurd e (by decide), fun e => absurd e (by decide), hE221⟩, ?_⟩
              refine wpAnyU_done (by kernel_rfl) ?_ _
              intro w224 hm225
              have hTF := hT220.below hm225
              have hEF := hE221.trans (hm225.mono hE221.size)
              have hF := Lib.hid (hfin _ _ _ hTF hEF)
              clear hTF hEF
              go_wp2
              first
                | exact ⟨⟨d2, j + 1, by omega, rfl, (by first | rfl | go_num | (congr 1; omega)), hF⟩, by simp [intOf] <;> omega⟩
                | (refine ⟨?_, by simp [intOf] <;> omega⟩; (repeat apply Exists.intro); exact ⟨⟨d2, j + 1, by omega, rfl, (by first | rfl | go_num | (congr 1; omega)), hF⟩, rfl⟩)
            --END21
end Go.Proofs.YtpchogicdnfggaaDoor
