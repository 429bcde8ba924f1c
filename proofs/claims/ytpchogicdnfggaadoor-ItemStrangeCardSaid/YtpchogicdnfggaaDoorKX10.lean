/- Joined: what one statement of this layer stands on, part 10 of 17; nothing is assumed. -/
import Derived.Deep.DeepCutAuto
import Derived.Test.YtpchogicdnfggaaDoorKX5
import Derived.Test.YtpchogicdnfggaaDoorKX8
import Derived.Test.YtpchogicdnfggaaDoorKX9
set_option maxRecDepth 20000
namespace Go.Proofs.YtpchogicdnfggaaDoor
open Go.RowKit Go.Hd
def ptV (p : Prt) : PV := pList [pByt p.id, pNum p.size]
theorem set_blkI {W : World} {q r i : Nat} {u : Value} {T : TypeId} {xs : List Value} (h : Blk W r T xs) (hne : r ≠ q) : Blk (W.setCell ⟨q, i, none⟩ u) r T xs := by
  unfold Blk at *
  rw [Below.heap_setCell W ⟨q, i, none⟩ _ r hne]; exact h
attribute [local go_sem ↓] h_ldV h_stV h_alV h_ldID h_stID h_alID h_ldPA h_stPA h_alPA
attribute [local go_sem] r_ldV r_stV r_alV r_ldID r_stID r_alID r_ldPA r_stPA r_alPA
set_option maxHeartbeats 4000000 in
theorem iparts_any {a : Option Addr} {n c : Nat} {l : List Prt} {w : World} (hn : n = l.length) (hr : Row w a (l.map prtC).flatten) (hok : ∀ p ∈ l, PrtOk p) (hl : l.length ≤ 1000) :
    Calls Tryd.prog 32 #[.slice a n c] w fun e w' => ∃ cs, e = .returned (.agg (List.toArray cs)) ∧ VAtP (fun b => w.heap.size ≤ b) w' cs (pList (l.map ptV)) ∧ Below w.heap.size w w' := by
  subst hn
  have zs := zV_size
  have zp := zPA_size
  have hO6 := oneC6
  have hall : Hid (∀ W, W = (w.alloc (.cells zV 30)).alloc (.cells #[.int .i64 6, .int .i64 0, .slice none 0 0, .string { data := #[] }, .slice none 0 0, .slice none 0 0] 30) → VB (w.heap.size + 1) (w.heap.size + 1) W (.mk 6 0 [] [] [] ((l.take 0).map ptV)) (.slice none 0 0) (.slice none 0 0) (.slice none 0 0) ∧ Below w.heap.size w W ∧ Blk W w.heap.size 30 zV.toList) := by
    rintro W rfl
    refine ⟨?_, ((Below.refl _ _).alloc (Nat.le_refl _) _).alloc (by simp) _, (Blk.new w 30 zV).alloc _⟩
    have hB := Blk.new (w.alloc (.cells zV 30)) 30 #[.int .i64 6, .int .i64 0, .slice none 0 0, .string { data := #[] }, .slice none 0 0, .slice none 0 0]
    have e : (w.alloc (.cells zV 30)).heap.size = w.heap.size + 1 := by simp
    rw [e] at hB
    exact VB.new (b := []) (t := []) (ab := none) hB (Nat.le_refl _) (by simp) (by unfold in64; omega) (by unfold in64; omega) (Nat.zero_le _) ⟨Nat.le_refl _, Nat.zero_le _⟩ (Row.nil _ _) (by simp)
  have HL := Lib.hid hl
  have HOK := Lib.hid hok
  have HRow := Lib.hid hr
  clear hl hok hr
  go_enter Tryd.func32, Tryd.ntmps32
  go_upto_region 2 with (fail)
  generalize hW : (w.alloc (.cells zV 30)).alloc (.cells #[.int .i64 6, .int .i64 0, .slice none 0 0, .string { data := #[] }, .slice none 0 0, .slice none 0 0] 30) = W at *
  obtain ⟨g1, g2, g3⟩ := hall.out W rfl
  generalize hq : w.heap.size + 1 = q at *
  have G1 := Lib.hid g1
  have G2 := Lib.hid g2
  have G3 := Lib.hid g3
  have hqw : w.heap.size < q := by omega
  clear hall hW g1 g2 g3
  go_wp2
  go_loopw [10] (fun i wr => ∃ j : Nat, j ≤ l.length ∧ i = .int .i64 j ∧ Hid (∃ u, VB q q wr (.mk 6 0 [] [] [] ((l.take j).map ptV)) (.slice none 0 0) (.slice none 0 0) u) ∧ Hid (Below w.heap.size w wr) ∧ Hid (Blk wr w.heap.size 30 zV.toList)) (fun i _ => l.length - (intOf i).toNat)
  case atStart => exact ⟨0, Nat.zero_le _, rfl, Lib.hid ⟨_, G1.out⟩, G2, G3⟩
  case round =>
    obtain ⟨j, hj, rfl, hV, hb, hR⟩ := hrel
    have j0 : (0 : Int) ≤ (j : Int) := by omega
    have jb : IntKind.i64.wrap ((j : Int) + 1) = (j : Int) + 1 := IntWalk.i64_in _ (by have := HL.out; omega)
    clear G1 G2 G3
    by_cases hlt : j < l.length
    · have j1 : (j : Int) < (l.length : Int) := by omega
      have hr2 := HRow.out.below hb.out
      have s1 := hr2.elemSome (s := 33) (prts33I HOK.out) (by decide) (i := j) (by simpa using hlt)
      have hpo := HOK.out _ (List.getElem_mem hlt)
      have q1 := ldOp_at (P := Tryd.prog) (ty := 65) (hr2.elem (s := 33) (prts33I HOK.out) (i := j) (c := prtC l[j]) (by simp [hlt])) Tryd.underlying65 rfl (by rw [prtC_len hpo]; exact sizePA)
      have hT : Hid ((l.take (j + 1)).map ptV = (l.take j).map ptV ++ [ptV l[j]]) := by
        show _ = _
        rw [List.take_succ_eq_append_getElem hlt, List.map_append]; rfl
      generalize l[j] = p at *
      have y1 : (List.toArray (prtC p)).size = 33 := by simpa using prtC_len hpo
      have y2 : OneC (List.toArray (prtC p)) := all_oneCell_toArray (prtC_one p)
      clear hr2
      obtain ⟨u, hvb⟩ := hV.out
      obtain ⟨vs, hvs⟩ : ∃ vs, vs = (l.take j).map ptV := ⟨_, rfl⟩
      rw [← hvs] at hvb hT
      have hpB : Blk (wr.alloc (.cells (List.toArray (prtC p)) 65)) wr.heap.size 65 (prtC p) := by simpa using Blk.new wr 65 (List.toArray (prtC p))
      have hb0x : Below wr.heap.size wr (wr.alloc (.cells (List.toArray (prtC p)) 65)) := (Below.refl _ _).alloc (Nat.le_refl _) _
      have hpid : Row (wr.alloc (.cells (List.toArray (prtC p)) 65)) (some ⟨wr.heap.size, 0, none⟩) (p.id.map b8) := by
        have h1 := hpB.row.take 32
        have h2 : (prtC p).take 32 = p.id.map b8 := List.take_left' (by rw [List.length_map, hpo.id])
        rwa [h2] at h1
      have hcl := clone_any (some ⟨wr.heap.size, 0, none⟩) 32 32 p.id _ hpo.id.symm hpid (by rw [hpo.id]; decide)
      have hqW : q < wr.heap.size := hvb.blk.lt
      clear hpid
      go_upto_region 5 with (fail)
      have hvb1 : VB q q (wr.alloc (.cells (List.toArray (prtC p)) 65)) (.mk 6 0 [] [] [] vs) (.slice none 0 0) (.slice none 0 0) u := hvb.keep hb0x.size (fun b _ hlt => hb0x.block b hlt)
      have hb1 := hb.out.trans (hb0x.mono hb.out.size)
      have hR1 := hR.out.below hb0x
      have hqx : wr.heap.size < (wr.alloc (.cells (List.toArray (prtC p)) 65)).heap.size := hpB.lt
      generalize hqp : wr.heap.size = qp at *
      generalize wr.alloc (.cells (List.toArray (prtC p)) 65) = W1 at *
      go_wp2_with fail
      refine hcl.mono ?_
      rintro e w2 ⟨v, rfl, hown, hb2⟩
      obtain ⟨a1', c1, rfl, hc1, hm1, hr1, hat1⟩ := owns_at hown
      have hs1 := hr1.isSome (i := 0) (by simp [hpo.id])
      obtain ⟨a1, rfl⟩ := Option.isSome_iff_exists.1 hs1
      have hat2 : wr.heap.size ≤ (hd (some a1)).block := by have := (hat1 (by simp [hpo.id])).1; omega
      rw [hpo.id] at hc1 ⊢
      have hbt : Below w2.heap.size w2 (w2.alloc (.cells #[.int .i64 4, .int .i64 0, .slice (some a1) 32 c1, .string { data := #[] }, .slice none 0 0, .slice none 0 0] 30)) := (Below.refl _ _).alloc (Nat.le_refl _) _
      have hB6 : Blk (w2.alloc (.cells #[.int .i64 4, .int .i64 0, .slice (some a1) 32 c1, .string { data := #[] }, .slice none 0 0, .slice none 0 0] 30)) w2.heap.size 30 (bytC (.slice (some a1) 32 c1)) := by
        have := Blk.new w2 30 #[.int .i64 4, .int .i64 0, .slice (some a1) 32 c1, .string { data := #[] }, .slice none 0 0, .slice none 0 0]
        simpa [bytC, strV, str] using this
      have hb1W := Gr.trans hb2 hbt
      have hvbW : VB q q (w2.alloc (.cells #[.int .i64 4, .int .i64 0, .slice (some a1) 32 c1, .string { data := #[] }, .slice none 0 0, .slice none 0 0] 30)) (.mk 6 0 [] [] [] vs) (.slice none 0 0) (.slice none 0 0) u := hvb1.keep hb1W.size (fun b _ hlt => hb1W.block b hlt)
      have hpW := hpB.below hb1W
      have hbW := hb1.trans (hb1W.mono hb1.size)
      have hRW := hR1.below hb1W
      have hr1 := hr1.below hbt
      have hWq : qp < (w2.alloc (.cells #[.int .i64 4, .int .i64 0, .slice (some a1) 32 c1, .string { data := #[] }, .slice none 0 0, .slice none 0 0] 30)).heap.size := hpW.lt
      have h6q : qp < w2.heap.size := Nat.lt_of_lt_of_le hqx hb2.size
      clear hcl hown hbt hb1W hvb1 hb1 hR1 hb2 hs1
      go_upto_region 6 with (fail)
      generalize w2.alloc (.cells #[.int .i64 4, .int .i64 0, .slice (some a1) 32 c1, .string { data := #[] }, .slice none 0 0, .slice none 0 0] 30) = W at *
      generalize w2.heap.size = q6 at *
      --REGION6
      have hSm : ∀ (L : Array Bool) (w1 w2 : World), ((L.getD 9 false = false → Blk w1 q 30 (lstC u)) ∧ Blk w1 qp 65 (prtC p) ∧ Blk w1 q6 30 (bytC (.slice (some a1) 32 c1))) → Mo w1 w2 → ((L.getD 9 false = false → Blk w2 q 30 (lstC u)) ∧ Blk w2 qp 65 (prtC p) ∧ Blk w2 q6 30 (bytC (.slice (some a1) 32 c1))) := fun L w1 w2 h hm => ⟨fun hL => (h.1 hL).below hm, h.2.1.below hm, h.2.2.below hm⟩
      have hSi : ∀ i, i ≠ 9 → ∀ (L : Array Bool) (w1 : World), ((((L.setIfInBounds i true).getD 9 false = false → Blk w1 q 30 (lstC u)) ∧ Blk w1 qp 65 (prtC p) ∧ Blk w1 q6 30 (bytC (.slice (some a1) 32 c1))) ↔ ((L.getD 9 false = false → Blk w1 q 30 (lstC u)) ∧ Blk w1 qp 65 (prtC p) ∧ Blk w1 q6 30 (bytC (.slice (some a1) 32 c1)))) := fun i hi L w1 => by
        rw [getD_set_ne false hi]
      have hS0 : Blk (W.drewN 1) q 30 (lstC u) ∧ Blk (W.drewN 1) qp 65 (prtC p) ∧ Blk (W.drewN 1) q6 30 (bytC (.slice (some a1) 32 c1)) := ⟨hvbW.blk, hpW, hB6⟩
      have hSw : ∀ (L : Array Bool) (w' : World), Mo (W.drewN 1) w' → ((L.getD 9 false = false → Blk w' q 30 (lstC u)) ∧ Blk w' qp 65 (prtC p) ∧ Blk w' q6 30 (bytC (.slice (some a1) 32 c1))) := fun L w' hm => ⟨fun _ => hS0.1.below hm, hS0.2.1.below hm, hS0.2.2.below hm⟩
      refine wp_region_upN (S := fun L w1 => ((L.getD 9 false = false → Blk w1 q 30 (lstC u)) ∧ Blk w1 qp 65 (prtC p) ∧ Blk w1 q6 30 (bytC (.slice (some a1) 32 c1)))) 12 rfl (by kernel_rfl) ?_
      refine wpAnyU_take (i := 0) (A := fun _ => True) (v := .pointer (some ⟨q, 5, none⟩)) (a' := ⟨#[.slice a l.length c, undef, .pointer (some ⟨w.heap.size, 0, none⟩), .pointer (some ⟨q, 0, none⟩), undef, .pointer (some ⟨qp, 0, none⟩), .pointer (some ⟨q6, 0, none⟩), .agg #[.int .i64 6, .int .i64 0, .slice none 0 0, .string { data := #[] }, .slice none 0 0, .slice none 0 0], .slice a l.length c, .int .i64 (l.length : Int), .int .i64 (j : Int), .bool true, .pointer (some ((hd a).add (j * 33))), .agg (List.toArray (prtC p)), .pointer (some ⟨qp, 0, none⟩), .slice (some ⟨qp, 0, none⟩) 32 32, .slice (some a1) 32 c1, .agg #[.int .i64 4, .int .i64 0, .slice (some a1) 32 c1, .string { data := #[] }, .slice none 0 0, .slice none 0 0], .pointer (some ⟨q, 5, none⟩), u19, u20, u21, u22, u23, u24, u25, u26, u27, u28, u29, undef], []⟩) hSm (hSi 0 (by decide)) (fun _ _ _ => trivial) rfl (by kernel_rfl) (by kernel_rfl) (by kernel_rfl) (fun _ _ _ h => h) (hSw _ _ (Mo.refl _)) (Tame.val rfl (fun w' hA => by go_simp)) rfl ?_
      refine wpAnyU_takeK (i := 1) 9 (A := fun w1 => Blk w1 q 30 (lstC u)) (v := u) (a' := ⟨#[.slice a l.length c, undef, .pointer (some ⟨w.heap.size, 0, none⟩), .pointer (some ⟨q, 0, none⟩), undef, .pointer (some ⟨qp, 0, none⟩), .pointer (some ⟨q6, 0, none⟩), .agg #[.int .i64 6, .int .i64 0, .slice none 0 0, .string { data := #[] }, .slice none 0 0, .slice none 0 0], .slice a l.length c, .int .i64 (l.length : Int), .int .i64 (j : Int), .bool true, .pointer (some ((hd a).add (j * 33))), .agg (List.toArray (prtC p)), .pointer (some ⟨qp, 0, none⟩), .slice (some ⟨qp, 0, none⟩) 32 32, .slice (some a1) 32 c1, .agg #[.int .i64 4, .int .i64 0, .slice (some a1) 32 c1, .string { data := #[] }, .slice none 0 0, .slice none 0 0], .pointer (some ⟨q, 5, none⟩), u, u20, u21, u22, u23, u24, u25, u26, u27, u28, u29, undef], []⟩) hSm (hSi 1 (by decide)) (fun _ _ h h2 => h.1 h2) rfl rfl (by kernel_rfl) (by kernel_rfl) (by kernel_rfl) (by kernel_rfl) (by kernel_rfl) (fun _ _ _ h => h) (hSw _ _ (Mo.refl _)) (Tame.val rfl (fun w' hA => by have := hA.cell (i := 5) (u := u) rfl; go_simp)) rfl ?_
      refine wpAnyU_take (i := 2) (A := fun w1 => Blk w1 q6 30 (bytC (.slice (some a1) 32 c1))) (v := .agg (List.toArray (bytC (.slice (some a1) 32 c1)))) (a' := ⟨#[.slice a l.length c, undef, .pointer (some ⟨w.heap.size, 0, none⟩), .pointer (some ⟨q, 0, none⟩), undef, .pointer (some ⟨qp, 0, none⟩), .pointer (some ⟨q6, 0, none⟩), .agg #[.int .i64 6, .int .i64 0, .slice none 0 0, .string { data := #[] }, .slice none 0 0, .slice none 0 0], .slice a l.length c, .int .i64 (l.length : Int), .int .i64 (j : Int), .bool true, .pointer (some ((hd a).add (j * 33))), .agg (List.toArray (prtC p)), .pointer (some ⟨qp, 0, none⟩), .slice (some ⟨qp, 0, none⟩) 32 32, .slice (some a1) 32 c1, .agg #[.int .i64 4, .int .i64 0, .slice (some a1) 32 c1, .string { data := #[] }, .slice none 0 0, .slice none 0 0], .pointer (some ⟨q, 5, none⟩), u, .agg (List.toArray (bytC (.slice (some a1) 32 c1))), u21, u22, u23, u24, u25, u26, u27, u28, u29, undef], []⟩) hSm (hSi 2 (by decide)) (fun _ _ h => h.2.2) rfl (by kernel_rfl) (by kernel_rfl) (by kernel_rfl) (fun _ _ _ h => h) (hSw _ _ (Mo.refl _)) (Tame.val rfl (fun w' hA => run_ldOp (ldOp_all hA Tryd.underlying30 rfl (by exact sizeV)))) rfl ?_
      refine wpAnyU_take (i := 3) (A := fun _ => True) (v := .pointer (some ⟨qp, 32, none⟩)) (a' := ⟨#[.slice a l.length c, undef, .pointer (some ⟨w.heap.size, 0, none⟩), .pointer (some ⟨q, 0, none⟩), undef, .pointer (some ⟨qp, 0, none⟩), .pointer (some ⟨q6, 0, none⟩), .agg #[.int .i64 6, .int .i64 0, .slice none 0 0, .string { data := #[] }, .slice none 0 0, .slice none 0 0], .slice a l.length c, .int .i64 (l.length : Int), .int .i64 (j : Int), .bool true, .pointer (some ((hd a).add (j * 33))), .agg (List.toArray (prtC p)), .pointer (some ⟨qp, 0, none⟩), .slice (some ⟨qp, 0, none⟩) 32 32, .slice (some a1) 32 c1, .agg #[.int .i64 4, .int .i64 0, .slice (some a1) 32 c1, .string { data := #[] }, .slice none 0 0, .slice none 0 0], .pointer (some ⟨q, 5, none⟩), u, .agg (List.toArray (bytC (.slice (some a1) 32 c1))), .pointer (some ⟨qp, 32, none⟩), u22, u23, u24, u25, u26, u27, u28, u29, undef], []⟩) hSm (hSi 3 (by decide)) (fun _ _ _ => trivial) rfl (by kernel_rfl) (by kernel_rfl) (by kernel_rfl) (fun _ _ _ h => h) (hSw _ _ (Mo.refl _)) (Tame.val rfl (fun w' hA => by go_simp)) rfl ?_
      refine wpAnyU_take (i := 4) (A := fun w1 => Blk w1 qp 65 (prtC p)) (v := .int .i64 p.size) (a' := ⟨#[.slice a l.length c, undef, .pointer (some ⟨w.heap.size, 0, none⟩), .pointer (some ⟨q, 0, none⟩), undef, .pointer (some ⟨qp, 0, none⟩), .pointer (some ⟨q6, 0, none⟩), .agg #[.int .i64 6, .int .i64 0, .slice none 0 0, .string { data := #[] }, .slice none 0 0, .slice none 0 0], .slice a l.length c, .int .i64 (l.length : Int), .int .i64 (j : Int), .bool true, .pointer (some ((hd a).add (j * 33))), .agg (List.toArray (prtC p)), .pointer (some ⟨qp, 0, none⟩), .slice (some ⟨qp, 0, none⟩) 32 32, .slice (some a1) 32 c1, .agg #[.int .i64 4, .int .i64 0, .slice (some a1) 32 c1, .string { data := #[] }, .slice none 0 0, .slice none 0 0], .pointer (some ⟨q, 5, none⟩), u, .agg (List.toArray (bytC (.slice (some a1) 32 c1))), .pointer (some ⟨qp, 32, none⟩), .int .i64 p.size, u23, u24, u25, u26, u27, u28, u29, undef], []⟩) hSm (hSi 4 (by decide)) (fun _ _ h => h.2.1) rfl (by kernel_rfl) (by kernel_rfl) (by kernel_rfl) (fun _ _ _ h => h) (hSw _ _ (Mo.refl _)) (Tame.val rfl (fun w' hA => by have h1 := hA.cell (prtC_32 hpo); go_simp)) rfl ?_
      refine wpAnyU_take (i := 5) (A := fun _ => True) (v := .agg (List.toArray (numC p.size))) (a' := ⟨#[.slice a l.length c, undef, .pointer (some ⟨w.heap.size, 0, none⟩), .pointer (some ⟨q, 0, none⟩), undef, .pointer (some ⟨qp, 0, none⟩), .pointer (some ⟨q6, 0, none⟩), .agg #[.int .i64 6, .int .i64 0, .slice none 0 0, .string { data := #[] }, .slice none 0 0, .slice none 0 0], .slice a l.length c, .int .i64 (l.length : Int), .int .i64 (j : Int), .bool true, .pointer (some ((hd a).add (j * 33))), .agg (List.toArray (prtC p)), .pointer (some ⟨qp, 0, none⟩), .slice (some ⟨qp, 0, none⟩) 32 32, .slice (some a1) 32 c1, .agg #[.int .i64 4, .int .i64 0, .slice (some a1) 32 c1, .string { data := #[] }, .slice none 0 0, .slice none 0 0], .pointer (some ⟨q, 5, none⟩), u, .agg (List.toArray (bytC (.slice (some a1) 32 c1))), .pointer (some ⟨qp, 32, none⟩), .int .i64 p.size, .agg (List.toArray (numC p.size)), u24, u25, u26, u27, u28, u29, undef], []⟩) hSm (hSi 5 (by decide)) (fun _ _ _ => trivial) rfl (by kernel_rfl) (by kernel_rfl) (by kernel_rfl) (fun _ _ _ h => h) (hSw _ _ (Mo.refl _)) (Tame.enter rfl (fun w' => by go_simp) (fun w' _ => of_any p.size w')) rfl ?_
      refine wpAnyU_all (rs := [6]) (by kernel_rfl) (by decide) ?_
      intro w4 hm4 i hi
      obtain rfl : i = 6 := by simpa using hi
      refine wpOp_val (v := .slice (some ⟨w4.heap.size, 0, none⟩) 2 2) (w' := w4.alloc (.cells (List.toArray (List.flatten [bytC (.slice (some a1) 32 c1), numC p.size])) 30)) (a' := ⟨#[.slice a l.length c, undef, .pointer (some ⟨w.heap.size, 0, none⟩), .pointer (some ⟨q, 0, none⟩), undef, .pointer (some ⟨qp, 0, none⟩), .pointer (some ⟨q6, 0, none⟩), .agg #[.int .i64 6, .int .i64 0, .slice none 0 0, .string { data := #[] }, .slice none 0 0, .slice none 0 0], .slice a l.length c, .int .i64 (l.length : Int), .int .i64 (j : Int), .bool true, .pointer (some ((hd a).add (j * 33))), .agg (List.toArray (prtC p)), .pointer (some ⟨qp, 0, none⟩), .slice (some ⟨qp, 0, none⟩) 32 32, .slice (some a1) 32 c1, .agg #[.int .i64 4, .int .i64 0, .slice (some a1) 32 c1, .string { data := #[] }, .slice none 0 0, .slice none 0 0], .pointer (some ⟨q, 5, none⟩), u, .agg (List.toArray (bytC (.slice (some a1) 32 c1))), .pointer (some ⟨qp, 32, none⟩), .int .i64 p.size, .agg (List.toArray (numC p.size)), .slice (some ⟨w4.heap.size, 0, none⟩) 2 2, u25, u26, u27, u28, u29, undef], []⟩) rfl rfl (run_bsOp (vals := #[(0, .agg (List.toArray (bytC (.slice (some a1) 32 c1)))), (1, .agg (List.toArray (numC p.size)))]) (by first | rfl | go_simp | simp [Act.eval]) (bsOp_rows (vs := [bytC (.slice (some a1) 32 c1), numC p.size]) Tryd.underlying28 infoV (by decide) rfl (by decide) (by decide) (by exact zV_size) (by simp [bytC, numC]) rfl)) rfl ?_
      have hm5 : Mo w4 (w4.alloc (.cells (List.toArray (List.flatten [bytC (.slice (some a1) 32 c1), numC p.size])) 30)) := (Below.refl _ _).alloc (Nat.le_refl _) _
      have hm35 := Mo.trans hm4 hm5
      have hB5 : Blk (w4.alloc (.cells (List.toArray (List.flatten [bytC (.slice (some a1) 32 c1), numC p.size])) 30)) w4.heap.size 30 (List.flatten [bytC (.slice (some a1) 32 c1), numC p.size]) := Blk.new _ _ _
      have hg4 : W.heap.size ≤ w4.heap.size := hm4.size'
      refine ⟨hSw _ _ hm35, ?_⟩
      generalize hgg : w4.heap.size = g at *
      generalize hw5 : w4.alloc (.cells (List.toArray (List.flatten [bytC (.slice (some a1) 32 c1), numC p.size])) 30) = w5 at *
      clear hw5 hm4 hm5
      refine wpAnyU_take (i := 7) (A := fun _ => True) (v := .agg #[.int .i64 6, .int .i64 0, .slice none 0 0, .string { data := #[] }, .slice none 0 0, .slice (some ⟨g, 0, none⟩) 2 2]) (a' := ⟨#[.slice a l.length c, undef, .pointer (some ⟨w.heap.size, 0, none⟩), .pointer (some ⟨q, 0, none⟩), undef, .pointer (some ⟨qp, 0, none⟩), .pointer (some ⟨q6, 0, none⟩), .agg #[.int .i64 6, .int .i64 0, .slice none 0 0, .string { data := #[] }, .slice none 0 0, .slice none 0 0], .slice a l.length c, .int .i64 (l.length : Int), .int .i64 (j : Int), .bool true, .pointer (some ((hd a).add (j * 33))), .agg (List.toArray (prtC p)), .pointer (some ⟨qp, 0, none⟩), .slice (some ⟨qp, 0, none⟩) 32 32, .slice (some a1) 32 c1, .agg #[.int .i64 4, .int .i64 0, .slice (some a1) 32 c1, .string { data := #[] }, .slice none 0 0, .slice none 0 0], .pointer (some ⟨q, 5, none⟩), u, .agg (List.toArray (bytC (.slice (some a1) 32 c1))), .pointer (some ⟨qp, 32, none⟩), .int .i64 p.size, .agg (List.toArray (numC p.size)), .slice (some ⟨g, 0, none⟩) 2 2, .agg #[.int .i64 6, .int .i64 0, .slice none 0 0, .string { data := #[] }, .slice none 0 0, .slice (some ⟨g, 0, none⟩) 2 2], u26, u27, u28, u29, undef], []⟩) hSm (hSi 7 (by decide)) (fun _ _ _ => trivial) rfl (by kernel_rfl) (by kernel_rfl) (by kernel_rfl) (fun _ _ _ h => h) (hSw _ _ hm35) (Tame.val rfl (fun w' hA => by go_simp)) rfl ?_
      refine wpAnyU_all (rs := [8]) (by kernel_rfl) (by decide) ?_
      intro w6 hm6 i hi
      obtain rfl : i = 8 := by simpa using hi
      refine wpOp_val (v := .slice (some ⟨w6.heap.size, 0, none⟩) 1 1) (w' := w6.alloc (.cells (List.toArray (lstC (.slice (some ⟨g, 0, none⟩) 2 2))) 30)) (a' := ⟨#[.slice a l.length c, undef, .pointer (some ⟨w.heap.size, 0, none⟩), .pointer (some ⟨q, 0, none⟩), undef, .pointer (some ⟨qp, 0, none⟩), .pointer (some ⟨q6, 0, none⟩), .agg #[.int .i64 6, .int .i64 0, .slice none 0 0, .string { data := #[] }, .slice none 0 0, .slice none 0 0], .slice a l.length c, .int .i64 (l.length : Int), .int .i64 (j : Int), .bool true, .pointer (some ((hd a).add (j * 33))), .agg (List.toArray (prtC p)), .pointer (some ⟨qp, 0, none⟩), .slice (some ⟨qp, 0, none⟩) 32 32, .slice (some a1) 32 c1, .agg #[.int .i64 4, .int .i64 0, .slice (some a1) 32 c1, .string { data := #[] }, .slice none 0 0, .slice none 0 0], .pointer (some ⟨q, 5, none⟩), u, .agg (List.toArray (bytC (.slice (some a1) 32 c1))), .pointer (some ⟨qp, 32, none⟩), .int .i64 p.size, .agg (List.toArray (numC p.size)), .slice (some ⟨g, 0, none⟩) 2 2, .agg #[.int .i64 6, .int .i64 0, .slice none 0 0, .string { data := #[] }, .slice none 0 0, .slice (some ⟨g, 0, none⟩) 2 2], .slice (some ⟨w6.heap.size, 0, none⟩) 1 1, u27, u28, u29, undef], []⟩) rfl rfl (run_bsOp (vals := #[(0, .agg #[.int .i64 6, .int .i64 0, .slice none 0 0, .string { data := #[] }, .slice none 0 0, .slice (some ⟨g, 0, none⟩) 2 2])]) (by first | rfl | go_simp | simp [Act.eval]) (bsOp_one (cs := List.toArray (lstC (.slice (some ⟨g, 0, none⟩) 2 2))) Tryd.underlying28 infoV (by decide) (by decide) (by exact zV_size) rfl)) rfl ?_
      have hm7 : Mo w6 (w6.alloc (.cells (List.toArray (lstC (.slice (some ⟨g, 0, none⟩) 2 2))) 30)) := (Below.refl _ _).alloc (Nat.le_refl _) _
      have hB7 : Blk (w6.alloc (.cells (List.toArray (lstC (.slice (some ⟨g, 0, none⟩) 2 2))) 30)) w6.heap.size 30 (lstC (.slice (some ⟨g, 0, none⟩) 2 2)) := Blk.new _ _ _
      have hm37 := Mo.trans (Mo.trans hm35 hm6) hm7
      have hm57 := Mo.trans hm6 hm7
      refine ⟨hSw _ _ hm37, ?_⟩
      generalize hgg2 : w6.heap.size = g2 at *
      generalize hw7 : w6.alloc (.cells (List.toArray (lstC (.slice (some ⟨g, 0, none⟩) 2 2))) 30) = w7 at *
      clear hw7 hm6 hm7
      refine wpAnyU_all (rs := [9]) (by kernel_rfl) (by decide) ?_
      intro w8 hm8 i hi
      obtain rfl : i = 9 := by simpa using hi
      have hm38 := Mo.trans hm37 hm8
      have hvb8 : VB q q w8 (.mk 6 0 [] [] [] vs) (.slice none 0 0) (.slice none 0 0) u := hvbW.keep hm38.size' (fun b _ hlt => hm38.block b hlt)
      have huW : ∀ b, u.ownBlock = some b → b < wr.heap.size := fun b hb => (hvb.kown.2 b hb).2
      have hxV : VAtP (okB q q (.slice none 0 0) u) w8 (lstC (.slice (some ⟨g, 0, none⟩) 2 2)) (ptV p) := by
        have hB8 := hB5.below (Mo.trans hm57 hm8)
        have hrb8 : Row w8 (some a1) (p.id.map b8) := hr1.below (Below.drewN' hm38)
        have fresh : ∀ b, wr.heap.size ≤ b → okB q q (.slice none 0 0) u b := fun b hbb => ⟨by omega, by omega, by simp [Value.ownBlock], fun e => by have := huW b e; omega⟩
        refine VAtP.lst (css := [bytC (.slice (some a1) 32 c1), numC p.size]) (l := [pByt p.id, pNum p.size]) hB8.row (by simp) (by unfold maxLen; simp) rfl (by simp [bytC, numC]) (fun _ => fresh g (by omega)) ?_
        intro i c v hc hv
        match i with
        | 0 =>
          simp at hc hv; subst hc hv
          have := VAtP.bytS (ok := (okB q q (.slice none 0 0) u)) (c := c1) hrb8 (by rw [hpo.id]; exact hc1) hm1 (fun _ => fresh _ hat2)
          rwa [hpo.id] at this
        | 1 => simp at hc hv; subst hc hv; exact VAtP.numb w8 hpo.size
        | i + 2 => simp at hc
      have hr8 : Row w8 (some ⟨g2, 0, none⟩) (lstC (.slice (some ⟨g, 0, none⟩) 2 2)) := (hB7.below hm8).row
      have hvl : vs.length ≤ 1000000000 := by
        have h1 := HL.out
        have h2 : vs.length ≤ l.length := by rw [hvs, List.length_map, List.length_take]; omega
        omega
      obtain ⟨a', c', w9, hrun, hVs9, hG9⟩ := VsAt.appR (ty := 28) (c2 := 1) (ok' := fun z => okB q q (.slice none 0 0) u z ∧ z < w8.heap.size) hvb8.list (fun z hz => hz.2.2.2) hxV (fun z hz hlt => ⟨hz, hlt⟩) hvl hvb8.le hr8
      refine wpOp_val (v := .slice a' (vs.length + 1) c') (w' := w9) (a' := ⟨#[.slice a l.length c, undef, .pointer (some ⟨w.heap.size, 0, none⟩), .pointer (some ⟨q, 0, none⟩), undef, .pointer (some ⟨qp, 0, none⟩), .pointer (some ⟨q6, 0, none⟩), .agg #[.int .i64 6, .int .i64 0, .slice none 0 0, .string { data := #[] }, .slice none 0 0, .slice none 0 0], .slice a l.length c, .int .i64 (l.length : Int), .int .i64 (j : Int), .bool true, .pointer (some ((hd a).add (j * 33))), .agg (List.toArray (prtC p)), .pointer (some ⟨qp, 0, none⟩), .slice (some ⟨qp, 0, none⟩) 32 32, .slice (some a1) 32 c1, .agg #[.int .i64 4, .int .i64 0, .slice (some a1) 32 c1, .string { data := #[] }, .slice none 0 0, .slice none 0 0], .pointer (some ⟨q, 5, none⟩), u, .agg (List.toArray (bytC (.slice (some a1) 32 c1))), .pointer (some ⟨qp, 32, none⟩), .int .i64 p.size, .agg (List.toArray (numC p.size)), .slice (some ⟨g, 0, none⟩) 2 2, .agg #[.int .i64 6, .int .i64 0, .slice none 0 0, .string { data := #[] }, .slice none 0 0, .slice (some ⟨g, 0, none⟩) 2 2], .slice (some ⟨g2, 0, none⟩) 1 1, .slice a' (vs.length + 1) c', u28, u29, undef], []⟩) rfl rfl (run_append hrun rfl rfl rfl) rfl ?_
      have hp9 : Blk w9 qp 65 (prtC p) := (hG9.blk ((show Blk (W.drewN 1) qp 65 (prtC p) from hpW).below hm38) (fun e => by have := huW _ e; omega)).1
      have h69 : Blk w9 q6 30 (bytC (.slice (some a1) 32 c1)) := (hG9.blk ((show Blk (W.drewN 1) q6 30 (bytC (.slice (some a1) 32 c1)) from hB6).below hm38) (fun e => by have := huW _ e; omega)).1
      have hS9 : ∀ L : Array Bool, L.getD 9 false = true → ((L.getD 9 false = false → Blk w9 q 30 (lstC u)) ∧ Blk w9 qp 65 (prtC p) ∧ Blk w9 q6 30 (bytC (.slice (some a1) 32 c1))) := fun L hL => ⟨fun h => absurd (hL.symm.trans h) (by decide), hp9, h69⟩
      refine ⟨hS9 _ (by kernel_rfl), ?_⟩
      refine wpAnyU_take (i := 10) (A := fun _ => True) (v := .pointer (some ⟨q, 5, none⟩)) (a' := ⟨#[.slice a l.length c, undef, .pointer (some ⟨w.heap.size, 0, none⟩), .pointer (some ⟨q, 0, none⟩), undef, .pointer (some ⟨qp, 0, none⟩), .pointer (some ⟨q6, 0, none⟩), .agg #[.int .i64 6, .int .i64 0, .slice none 0 0, .string { data := #[] }, .slice none 0 0, .slice none 0 0], .slice a l.length c, .int .i64 (l.length : Int), .int .i64 (j : Int), .bool true, .pointer (some ((hd a).add (j * 33))), .agg (List.toArray (prtC p)), .pointer (some ⟨qp, 0, none⟩), .slice (some ⟨qp, 0, none⟩) 32 32, .slice (some a1) 32 c1, .agg #[.int .i64 4, .int .i64 0, .slice (some a1) 32 c1, .string { data := #[] }, .slice none 0 0, .slice none 0 0], .pointer (some ⟨q, 5, none⟩), u, .agg (List.toArray (bytC (.slice (some a1) 32 c1))), .pointer (some ⟨qp, 32, none⟩), .int .i64 p.size, .agg (List.toArray (numC p.size)), .slice (some ⟨g, 0, none⟩) 2 2, .agg #[.int .i64 6, .int .i64 0, .slice none 0 0, .string { data := #[] }, .slice none 0 0, .slice (some ⟨g, 0, none⟩) 2 2], .slice (some ⟨g2, 0, none⟩) 1 1, .slice a' (vs.length + 1) c', .pointer (some ⟨q, 5, none⟩), u29, undef], []⟩) hSm (hSi 10 (by decide)) (fun _ _ _ => trivial) rfl (by kernel_rfl) (by kernel_rfl) (by kernel_rfl) (fun _ _ _ h => h) (hS9 _ (by kernel_rfl)) (Tame.val rfl (fun w' hA => by go_simp)) rfl ?_
      refine wpAnyU_all (rs := [11]) (by kernel_rfl) (by decide) ?_
      intro w10 hm10 i hi
      obtain rfl : i = 11 := by simpa using hi
      have hq9 := hG9.blk hvb8.blk hvb8.lq
      have hq10 := hq9.1.below hm10
      have d1 : w10.cell? ⟨q, 5, none⟩ = some u := hq10.cell rfl
      have d2 : w10.frozen? ⟨q, 5, none⟩ = false := hq10.free 5
      have hVs10 : VsAt (okB q q (.slice none 0 0) (.slice a' (vs.length + 1) c')) q w10 (.slice a' (vs.length + 1) c') (vs ++ [ptV p]) :=
        hVs9.same hm10.size' (fun b hb => hm10.block b (by obtain ⟨_, _, _, hO, _⟩ := hVs9; exact (World.ownsRow.lt hO b hb).2)) (fun b hb hlt => ⟨hm10.block b hlt, hb.1.1, hb.1.2.1, hb.1.2.2.1, fun e => by
          rcases hG9.own b e with h | h
          · exact hb.1.2.2.2 h
          · omega⟩)
      have hvb11 := hvb8.addL hVs10 (hG9.trans (Gro.ofBelow hm10))
      have hp10 := hp9.below hm10
      have h610 := h69.below hm10
      refine wpOp_skip (w' := w10.setCell ⟨q, 5, none⟩ (.slice a' (vs.length + 1) c')) (a' := ⟨#[.slice a l.length c, undef, .pointer (some ⟨w.heap.size, 0, none⟩), .pointer (some ⟨q, 0, none⟩), undef, .pointer (some ⟨qp, 0, none⟩), .pointer (some ⟨q6, 0, none⟩), .agg #[.int .i64 6, .int .i64 0, .slice none 0 0, .string { data := #[] }, .slice none 0 0, .slice none 0 0], .slice a l.length c, .int .i64 (l.length : Int), .int .i64 (j : Int), .bool true, .pointer (some ((hd a).add (j * 33))), .agg (List.toArray (prtC p)), .pointer (some ⟨qp, 0, none⟩), .slice (some ⟨qp, 0, none⟩) 32 32, .slice (some a1) 32 c1, .agg #[.int .i64 4, .int .i64 0, .slice (some a1) 32 c1, .string { data := #[] }, .slice none 0 0, .slice none 0 0], .pointer (some ⟨q, 5, none⟩), u, .agg (List.toArray (bytC (.slice (some a1) 32 c1))), .pointer (some ⟨qp, 32, none⟩), .int .i64 p.size, .agg (List.toArray (numC p.size)), .slice (some ⟨g, 0, none⟩) 2 2, .agg #[.int .i64 6, .int .i64 0, .slice none 0 0, .string { data := #[] }, .slice none 0 0, .slice (some ⟨g, 0, none⟩) 2 2], .slice (some ⟨g2, 0, none⟩) 1 1, .slice a' (vs.length + 1) c', .pointer (some ⟨q, 5, none⟩), u29, undef], []⟩) rfl rfl (by go_simp) rfl ?_
      have hS11 : ∀ L : Array Bool, L.getD 9 false = true → ((L.getD 9 false = false → Blk (w10.setCell ⟨q, 5, none⟩ (.slice a' (vs.length + 1) c')) q 30 (lstC u)) ∧ Blk (w10.setCell ⟨q, 5, none⟩ (.slice a' (vs.length + 1) c')) qp 65 (prtC p) ∧ Blk (w10.setCell ⟨q, 5, none⟩ (.slice a' (vs.length + 1) c')) q6 30 (bytC (.slice (some a1) 32 c1))) := fun L hL => ⟨fun h => absurd (hL.symm.trans h) (by decide), set_blkI hp10 (by omega), set_blkI h610 (by omega)⟩
      refine ⟨hS11 _ (by kernel_rfl), ?_⟩
      refine wpAnyU_done (by kernel_rfl) ?_ _
      intro w12 hm12
      have hb8 : Below w.heap.size w w8 := hbW.trans ((Below.drewN' hm38).mono hbW.size)
      have hb9 : Below w.heap.size w w9 := hb8.trans (hG9.below (base := q) (fun k hk => (hvb8.kown.2 k hk).1) (by omega) hb8.size)
      have hb10 : Below w.heap.size w w10 := hb9.trans (hm10.mono hb9.size)
      have hb11 : Below w.heap.size w (w10.setCell ⟨q, 5, none⟩ (.slice a' (vs.length + 1) c')) := hb10.trans (set_below (by omega))
      have hb12 := Lib.hid (hb11.trans (hm12.mono hb11.size))
      have hR8 : Blk w8 w.heap.size 30 zV.toList := (show Blk (W.drewN 1) w.heap.size 30 zV.toList from hRW).below hm38
      have hR9 := (hG9.blk hR8 (fun e => by have := (hvb8.kown.2 _ e).1; omega)).1
      have hR12 := Lib.hid ((set_blkI (u := .slice a' (vs.length + 1) c') (i := 5) (q := q) (hR9.below hm10) (by omega)).below hm12)
      have hvb12 : Hid (∃ u', VB q q w12 (.mk 6 0 [] [] [] ((l.take (j + 1)).map ptV)) (.slice none 0 0) (.slice none 0 0) u') := by
        show ∃ _, _
        rw [hT.out]
        exact ⟨_, hvb11.keep hm12.size' (fun b _ hlt => hm12.block b hlt)⟩
      clear hm12 hb11 hb10 hb9 hb8 hR9 hR8 hvb11 hS11 hVs10 d1 d2 hq10 hq9 hm10 hS9 hG9 hVs9 hrun hr8 hxV hvb8 hSw hSm hSi hS0 hp10 h610 hp9 h69
      go_wp2
      first
        | exact ⟨⟨j + 1, by omega, (by first | rfl | go_num | (congr 1; omega)), hvb12, hb12, hR12⟩, by simp [intOf] <;> omega⟩
        | (refine ⟨?_, by simp [intOf] <;> omega⟩; (repeat apply Exists.intro); exact ⟨⟨j + 1, by omega, (by first | rfl | go_num | (congr 1; omega)), hvb12, hb12, hR12⟩, rfl⟩)
      --END6
    · obtain rfl : j = l.length := by omega
      have j1 : ¬ (l.length : Int) < (l.length : Int) := by omega
      obtain ⟨u, hvb⟩ := hV.out
      rw [List.take_length] at hvb
      have hl6 : (lstC u).length = 6 := rfl
      have ql := ldOp_all (P := Tryd.prog) (ty := 30) (show Blk wr q 30 (lstC u) from hvb.blk) Tryd.underlying30 rfl (by exact sizeV)
      have hvd := hvb.done
      obtain ⟨W2, y1, y2, y3, y4⟩ := res_any (w := w) (cs := lstC u) (v := pList (l.map ptV)) hR.out (by rfl) (Nat.le_refl _) (hvd.mono (fun b hb _ => ⟨by omega, by omega⟩)) hb.out
      go_wp2
      refine bodyPost_ret (results_cell_row (fn := Tryd.f32) (by rfl) _ _ w.heap.size 30 _ (0, 0) _ (by rfl) y2 Tryd.underlying30 rfl (by exact sizeV)) rfl ⟨_, rfl, y3, y4⟩
end Go.Proofs.YtpchogicdnfggaaDoor
set_option maxRecDepth 20000
namespace Go.Hd
theorem str_toL (l : List UInt8) : (str l).toList = l := by
  rw [ByteArray.toList_eq]; simp [str]
theorem less_one (a b : UInt8) : Op.bytesLess (str [a]).toList (str [b]).toList = decide (a < b) := by
  rw [str_toL, str_toL]
  by_cases h : a < b
  · simp [Op.bytesLess, h]
  · simp [Op.bytesLess, h]
end Go.Hd
namespace Go.Proofs.YtpchogicdnfggaaDoor
open Go.RowKit Go.Hd
def one8 (c : UInt8) : List UInt8 := [c]
/-- A key of one byte. -/
theorem dput1 {base q : Nat} {w : World} {L : List UInt8} {vs : List PV} {uK uL : Value} (h : DB base q w (L.map one8) vs uK uL) {k : UInt8} {cs : List Value} {x : PV} (hx : VAtP (okD base q uK uL) w cs x) (hbase : base ≤ w.heap.size) (i0 : Nat) (hlen : L.length = vs.length) (hl9 : vs.length < 100) (hi : i0 ≤ L.length)
    (h1 : (L.take i0).all (fun c => decide (c < k)) = true) (h2 : (L.drop i0).all (fun c => decide (k < c)) = true) :
    Calls Tryd.prog 30 #[.pointer (some ⟨q, 0, none⟩), .string (str (one8 k)), .agg cs.toArray] w fun e w' => ∃ uK' uL', e = .returned (.tuple #[]) ∧ DB base q w' ((insAt L i0 k).map one8) (insAt vs i0 x) uK' uL' ∧ Below base w w' := by
  have e : (insAt L i0 k).map one8 = insAt (L.map one8) i0 (one8 k) := by unfold insAt; simp
  rw [e]
  have a1 : ∀ t (ht : t < L.length), t < i0 → L[t] < k := fun t ht hlt => by
    have := List.all_eq_true.1 h1 L[t] (by rw [List.mem_take_iff_getElem]; exact ⟨t, by omega, rfl⟩)
    simpa using this
  have a2 : ∀ t (ht : t < L.length), i0 ≤ t → k < L[t] := fun t ht hlt => by
    have := List.all_eq_true.1 h2 L[t] (by rw [List.mem_drop_iff_getElem]; exact ⟨t - i0, by omega, by simp only [show i0 + (t - i0) = t by omega]⟩)
    simpa using this
  refine dput_any h hx (by simp [one8]) hbase (by simpa using hi) (by simpa using hlen) hl9 (fun t ht hlt => ?_) (fun t ht hlt => ?_) (fun t ht => ?_)
  · have ht' : t < L.length := by simpa using ht
    rw [List.getElem_map]
    show Op.bytesLess (str [L[t]]).toList (str [k]).toList = true
    rw [less_one]; simpa using a1 t ht' hlt
  · have ht' : t < L.length := by simpa using ht
    rw [List.getElem_map]
    show Op.bytesLess (str [L[t]]).toList (str [k]).toList = false
    have h3 := a2 t ht' hlt
    rw [less_one]; simp [UInt8.not_lt]; exact UInt8.le_of_lt h3
  · have ht' : t < L.length := by simpa using ht
    rw [List.getElem_map, str_beq]
    have : L[t] ≠ k := fun e => by
      rcases Nat.lt_or_ge t i0 with h3 | h3
      · have := a1 t ht' h3; rw [e] at this; exact absurd this (UInt8.lt_irrefl _)
      · have := a2 t ht' h3; rw [e] at this; exact absurd this (UInt8.lt_irrefl _)
    simp [one8, this]
/-- The value that an item has; the zero value: it cannot be. -/
def itV (x : Itm) : PV :=
  if checkI x ≠ 0 then pv0
  else if x.kind = 1 then .mk 7 0 [] [] [[99], [107], [109], [112], [115], [116]] [pList (x.parts.map ptV), pNum x.kind, pNum x.mode, pTxt x.path, pNum x.size, pNum x.time]
  else if x.kind = 2 then .mk 7 0 [] [] [[107], [109], [112], [116]] [pNum x.kind, pNum x.mode, pTxt x.path, pNum x.time]
  else .mk 7 0 [] [] [[107], [108], [109], [112], [116]] [pNum x.kind, pTxt x.target, pNum x.mode, pTxt x.path, pNum x.time]
/-- The map, made. -/
theorem DB.val {base q : Nat} {w : World} {ks : List (List UInt8)} {vs : List PV} {uK uL : Value} (h : DB base q w ks vs uK uL) : VAtP (fun b => base ≤ b ∧ b ≠ q) w [.int .i64 7, .int .i64 0, .slice none 0 0, strV [], uK, uL] (.mk 7 0 [] [] ks vs) := by
  obtain ⟨ak, ck, rfl, k2, k3, k4, k5⟩ := owns_rowN h.K (by decide)
  obtain ⟨css, c1, c2, h8, c4⟩ := h.L
  obtain ⟨a, c, rfl, l2, l3, l4, l5⟩ := owns_rowN h8 (by decide)
  refine VAtP.map k4 k2 k3 h.kt (fun h0 => ?_) l4 l2 l3 c1 c2 (fun h0 => ?_) (fun i d v hd hv => (c4 i d v hd hv).mono (fun b hb _ => ⟨hb.1, hb.2.1⟩))
  · have h1 := k5 (by simpa using h0)
    exact ⟨h1.2.1, fun e => h.kq (by rw [h1.1, e])⟩
  · have h1 := l5 (by
      have : css.length = vs.length := c1
      rw [h8.1]; omega)
    exact ⟨h1.2.1, fun e => h.lq (by rw [h1.1, e])⟩
theorem blkQ {B r : Nat} {w w' : World} {T : TypeId} {xs : List Value} (h : Blk w r T xs) (hb : Below B w w') (hr : r < B) : Blk w' r T xs := by
  unfold Blk at *
  rw [hb.block r hr]; exact h
attribute [local go_sem ↓] h_ldV h_stV h_alV h_ldIT
attribute [local go_sem] r_ldV r_stV r_alV
set_option maxHeartbeats 8000000 in
theorem ivalue_any {x : Itm} {a : Option Addr} {c : Nat} {w : World} (hr : Row w a (x.parts.map prtC).flatten) (hok : ItmOk x) (hl : x.parts.length ≤ 1000) (hp : x.path.length ≤ 1000000) :
    Calls Tryd.prog 10 #[.agg (List.toArray (itC x a c))] w fun e w' => ∃ cs, e = .returned (.agg (List.toArray cs)) ∧ VAtP (fun b => w.heap.size ≤ b) w' cs (itV x) ∧ Below w.heap.size w w' := by
  have zs := zV_size
  have hO6 := oneC6
  obtain ⟨X, hX⟩ : ∃ X, X = itC x a c := ⟨_, rfl⟩
  rw [← hX]
  have hXl : X.length = 7 := by rw [hX]; rfl
  have hall : Hid (∀ W, W = (w.alloc (.cells (List.toArray X) 24)).alloc (.cells zV 30) → Blk W w.heap.size 24 X ∧ Blk W (w.heap.size + 1) 30 zV.toList ∧ Below w.heap.size w W ∧ W.heap.size = w.heap.size + 2) := by
    rintro W rfl
    refine ⟨?_, ?_, ((Below.refl _ _).alloc (Nat.le_refl _) _).alloc (by simp) _, by simp⟩
    · simpa using (Blk.new w 24 (List.toArray X)).alloc (.cells zV 30)
    · have := Blk.new (w.alloc (.cells (List.toArray X) 24)) 30 zV
      simpa using this
  have hck := fun w' (hb : Below w.heap.size w w') => icheck_any (x := x) (c := c) (hr.below hb) hok (by omega) hp
  rw [← hX] at hck
  have hpt := fun w' (hb : Below w.heap.size w w') => iparts_any (c := c) rfl (hr.below hb) hok.parts hl
  have hE : Hid (itV x = if checkI x ≠ 0 then pv0
    else if x.kind = 1 then .mk 7 0 [] [] [[99], [107], [109], [112], [115], [116]] [pList (x.parts.map ptV), pNum x.kind, pNum x.mode, pTxt x.path, pNum x.size, pNum x.time]
    else if x.kind = 2 then .mk 7 0 [] [] [[107], [109], [112], [116]] [pNum x.kind, pNum x.mode, pTxt x.path, pNum x.time]
    else .mk 7 0 [] [] [[107], [108], [109], [112], [116]] [pNum x.kind, pTxt x.target, pNum x.mode, pTxt x.path, pNum x.time]) := rfl
  have hcell : ∀ w', Blk w' w.heap.size 24 X → w'.cell? ⟨w.heap.size, 0, none⟩ = some (.string (str x.path)) ∧ w'.cell? ⟨w.heap.size, 1, none⟩ = some (.int .i64 x.kind) ∧ w'.cell? ⟨w.heap.size, 2, none⟩ = some (.int .i64 x.mode) ∧ w'.cell? ⟨w.heap.size, 3, none⟩ = some (.int .i64 x.time) ∧ w'.cell? ⟨w.heap.size, 4, none⟩ = some (.string (str x.target)) ∧ w'.cell? ⟨w.heap.size, 5, none⟩ = some (.int .i64 x.size) ∧ w'.cell? ⟨w.heap.size, 6, none⟩ = some (.slice a x.parts.length c) := fun w' h => by
    rw [hX] at h
    exact ⟨h.cell rfl, h.cell rfl, h.cell rfl, h.cell rfl, h.cell rfl, h.cell rfl, h.cell rfl⟩
  have hpm := hok.path
  have htm := hok.target
  have hki := hok.kind
  have hmi := hok.mode
  have hti := hok.time
  have hsi := hok.size
  have hkk : checkI x = 0 → x.kind = 1 ∨ x.kind = 2 ∨ x.kind = 3 := fun h => by
    by_cases h1 : x.kind = 1
    · exact .inl h1
    · by_cases h2 : x.kind = 2
      · exact .inr (.inl h2)
      · by_cases h3 : x.kind = 3
        · exact .inr (.inr h3)
        · exfalso
          unfold checkI at h
          have hf : fitsF x = false := by unfold fitsF; rw [if_neg h1, if_neg h2, if_neg h3]
          rw [hf] at h
          by_cases h0 : checkF x.path ≠ 0
          · rw [if_pos h0] at h; exact h0 h
          · rw [if_neg h0] at h
            split at h <;> simp at h
  clear hr hok hl hp hX
  generalize itV x = FV at *
  generalize checkI x = CI at *
  go_enter Tryd.func10, Tryd.ntmps10
  go_upto_region 1 with (fail)
  generalize hW : (w.alloc (.cells (List.toArray X) 24)).alloc (.cells zV 30) = W0 at *
  obtain ⟨A0, R0, hb0, S0⟩ := hall.out W0 rfl
  clear hall hW
  have q1 := ldOp_all (P := Tryd.prog) (ty := 24) A0 Tryd.underlying24 rfl (by rw [hXl]; exact sizeIT)
  go_wp2_with fail
  refine (hck _ hb0).mono ?_
  rintro e w2 ⟨rfl, hb2⟩
  have A2 := A0.below hb2
  have R2 := R0.below hb2
  have hb02 := hb0.trans (hb2.mono hb0.size)
  have hs2 : w.heap.size + 2 ≤ w2.heap.size := by have := hb2.size; omega
  clear q1 hb0 hb2 A0 R0 hck
  by_cases h0 : CI = 0
  case neg =>
    have e0 : (CI != 0) = true := by simpa using h0
    have hT : Hid (FV = pv0) := by show _ = _; rw [hE.out, if_pos h0]
    obtain ⟨Wz, z1, z2, z3, z4⟩ := res_zero (w := w) R2 (by rfl) (by omega) hb02
    go_wp2
    refine bodyPost_ret (results_cell_row (fn := Tryd.f10) (by rfl) _ _ (w.heap.size + 1) 30 _ (0, 0) _ (by rfl) z2 Tryd.underlying30 rfl sizeV) rfl ⟨_, rfl, by rw [hT.out]; exact z3, z4⟩
  case pos =>
  subst h0
  have hkk2 := hkk rfl
  clear hkk
  have hE2 : Hid (FV = if x.kind = 1 then .mk 7 0 [] [] [[99], [107], [109], [112], [115], [116]] [pList (x.parts.map ptV), pNum x.kind, pNum x.mode, pTxt x.path, pNum x.size, pNum x.time]
    else if x.kind = 2 then .mk 7 0 [] [] [[107], [109], [112], [116]] [pNum x.kind, pNum x.mode, pTxt x.path, pNum x.time]
    else .mk 7 0 [] [] [[107], [108], [109], [112], [116]] [pNum x.kind, pTxt x.target, pNum x.mode, pTxt x.path, pNum x.time]) := by show _ = _; rw [hE.out, if_neg (by simp)]
  clear hE
  go_upto_region 4 with (fail)
  --PUTS
  have hD0 : DB w2.heap.size w2.heap.size (w2.alloc (.cells #[.int .i64 7, .int .i64 0, .slice none 0 0, .string { data := #[] }, .slice none 0 0, .slice none 0 0] 68)) (([] : List UInt8).map one8) [] (.slice none 0 0) (.slice none 0 0) := {
    B := by have := Blk.new w2 68 #[.int .i64 7, .int .i64 0, .slice none 0 0, .string { data := #[] }, .slice none 0 0, .slice none 0 0]; simpa [strV, str] using this
    hq := Nat.le_refl _
    K := World.ownsRow_nil _ _ _ _
    L := VsAt.nil _ _ _
    kq := by simp [Value.ownBlock]
    lq := by simp [Value.ownBlock]
    kl := by simp [Value.ownBlock]
    len := ⟨by simp, by simp⟩
    kt := by simp }
  have hbn : Below w2.heap.size w2 (w2.alloc (.cells #[.int .i64 7, .int .i64 0, .slice none 0 0, .string { data := #[] }, .slice none 0 0, .slice none 0 0] 68)) := (Below.refl _ _).alloc (Nat.le_refl _) _
  have hA0 := A2.below hbn
  have hR0 := R2.below hbn
  have hw0 := hb02.trans (hbn.mono hb02.size)
  have hs0 := hbn.size
  generalize w2.alloc (.cells #[.int .i64 7, .int .i64 0, .slice none 0 0, .string { data := #[] }, .slice none 0 0, .slice none 0 0] 68) = v0 at *
  generalize w2.heap.size = q at *
  clear A2 R2 hb02 hbn
  obtain ⟨d0, d1, d2, d3, d4, d5, d6⟩ := hcell _ hA0
  go_wp2_with fail
  refine (ptext_any x.path _).mono ?_
  rintro e v1 ⟨rfl, hx1⟩
  have hD1 := hD0.grow hx1
  have hA1 := hA0.below hx1
  have hR1 := hR0.below hx1
  have hw1 := hw0.trans (hx1.mono hw0.size)
  have hs1 : q ≤ v1.heap.size := Nat.le_trans hs0 hx1.size
  clear d0 d1 d2 d3 d4 d5 d6 hD0 hA0 hR0
  go_wp2_with fail
  refine (dput1 (L := []) (k := 112) hD1 (VAtP.txtS _ hpm) hs1 0 rfl (by simp) (by decide) (by decide) (by decide)).mono ?_
  rintro e v2 ⟨uK2, uL2, rfl, hD2, hy2⟩
  have hD2 : DB q q v2 (([112] : List UInt8).map one8) [pTxt x.path] uK2 uL2 := hD2
  have hA2 := blkQ hA1 hy2 (by omega)
  have hR2 := blkQ hR1 hy2 (by omega)
  have hw2 := hw1.trans (hy2.mono (by omega))
  have hs2 : q ≤ v2.heap.size := Nat.le_trans hs1 hy2.size
  clear hA1 hR1 hD1
  obtain ⟨d0, d1, d2, d3, d4, d5, d6⟩ := hcell _ hA2
  go_wp2_with fail
  refine (of_any x.kind _).mono ?_
  rintro e v3 ⟨rfl, hx3⟩
  have hD3 := hD2.grow hx3
  have hA3 := hA2.below hx3
  have hR3 := hR2.below hx3
  have hw3 := hw2.trans (hx3.mono hw2.size)
  have hs3 : q ≤ v3.heap.size := Nat.le_trans hs2 hx3.size
  clear d0 d1 d2 d3 d4 d5 d6 hD2 hA2 hR2
  go_wp2_with fail
  refine (dput1 (L := [112]) (k := 107) hD3 (VAtP.numb _ hki) hs3 0 rfl (by simp) (by decide) (by decide) (by decide)).mono ?_
  rintro e v4 ⟨uK4, uL4, rfl, hD4, hy4⟩
  have hD4 : DB q q v4 (([107, 112] : List UInt8).map one8) [pNum x.kind, pTxt x.path] uK4 uL4 := hD4
  have hA4 := blkQ hA3 hy4 (by omega)
  have hR4 := blkQ hR3 hy4 (by omega)
  have hw4 := hw3.trans (hy4.mono (by omega))
  have hs4 : q ≤ v4.heap.size := Nat.le_trans hs3 hy4.size
  clear hA3 hR3 hD3
  obtain ⟨d0, d1, d2, d3, d4, d5, d6⟩ := hcell _ hA4
  go_wp2_with fail
  refine (of_any x.mode _).mono ?_
  rintro e v5 ⟨rfl, hx5⟩
  have hD5 := hD4.grow hx5
  have hA5 := hA4.below hx5
  have hR5 := hR4.below hx5
  have hw5 := hw4.trans (hx5.mono hw4.size)
  have hs5 : q ≤ v5.heap.size := Nat.le_trans hs4 hx5.size
  clear d0 d1 d2 d3 d4 d5 d6 hD4 hA4 hR4
  go_wp2_with fail
  refine (dput1 (L := [107, 112]) (k := 109) hD5 (VAtP.numb _ hmi) hs5 1 rfl (by simp) (by decide) (by decide) (by decide)).mono ?_
  rintro e v6 ⟨uK6, uL6, rfl, hD6, hy6⟩
  have hD6 : DB q q v6 (([107, 109, 112] : List UInt8).map one8) [pNum x.kind, pNum x.mode, pTxt x.path] uK6 uL6 := hD6
  have hA6 := blkQ hA5 hy6 (by omega)
  have hR6 := blkQ hR5 hy6 (by omega)
  have hw6 := hw5.trans (hy6.mono (by omega))
  have hs6 : q ≤ v6.heap.size := Nat.le_trans hs5 hy6.size
  clear hA5 hR5 hD5
  obtain ⟨d0, d1, d2, d3, d4, d5, d6⟩ := hcell _ hA6
  go_wp2_with fail
  refine (of_any x.time _).mono ?_
  rintro e v7 ⟨rfl, hx7⟩
  have hD7 := hD6.grow hx7
  have hA7 := hA6.below hx7
  have hR7 := hR6.below hx7
  have hw7 := hw6.trans (hx7.mono hw6.size)
  have hs7 : q ≤ v7.heap.size := Nat.le_trans hs6 hx7.size
  clear d0 d1 d2 d3 d4 d5 d6 hD6 hA6 hR6
  go_wp2_with fail
  refine (dput1 (L := [107, 109, 112]) (k := 116) hD7 (VAtP.numb _ hti) hs7 3 rfl (by simp) (by decide) (by decide) (by decide)).mono ?_
  rintro e v8 ⟨uK8, uL8, rfl, hD8, hy8⟩
  have hD8 : DB q q v8 (([107, 109, 112, 116] : List UInt8).map one8) [pNum x.kind, pNum x.mode, pTxt x.path, pNum x.time] uK8 uL8 := hD8
  have hA8 := blkQ hA7 hy8 (by omega)
  have hR8 := blkQ hR7 hy8 (by omega)
  have hw8 := hw7.trans (hy8.mono (by omega))
  have hs8 : q ≤ v8.heap.size := Nat.le_trans hs7 hy8.size
  clear hA7 hR7 hD7
  obtain ⟨d0, d1, d2, d3, d4, d5, d6⟩ := hcell _ hA8
  rcases hkk2 with hk | hk | hk
  · rw [hk] at d1
    go_upto_region 10 with (fail)
    clear d0 d1 d2 d3 d4 d5 d6
    obtain ⟨d0, d1, d2, d3, d4, d5, d6⟩ := hcell _ hA8
    go_wp2_with fail
    refine (of_any x.size _).mono ?_
    rintro e v9 ⟨rfl, hx9⟩
    have hD9 := hD8.grow hx9
    have hA9 := hA8.below hx9
    have hR9 := hR8.below hx9
    have hw9 := hw8.trans (hx9.mono hw8.size)
    have hs9 : q ≤ v9.heap.size := Nat.le_trans hs8 hx9.size
    clear d0 d1 d2 d3 d4 d5 d6 hD8 hA8 hR8
    go_wp2_with fail
    refine (dput1 (L := [107, 109, 112, 116]) (k := 115) hD9 (VAtP.numb _ hsi) hs9 3 rfl (by simp) (by decide) (by decide) (by decide)).mono ?_
    rintro e v10 ⟨uK10, uL10, rfl, hD10, hy10⟩
    have hD10 : DB q q v10 (([107, 109, 112, 115, 116] : List UInt8).map one8) [pNum x.kind, pNum x.mode, pTxt x.path, pNum x.size, pNum x.time] uK10 uL10 := hD10
    have hA10 := blkQ hA9 hy10 (by omega)
    have hR10 := blkQ hR9 hy10 (by omega)
    have hw10 := hw9.trans (hy10.mono (by omega))
    have hs10 : q ≤ v10.heap.size := Nat.le_trans hs9 hy10.size
    clear hA9 hR9 hD9
    obtain ⟨d0, d1, d2, d3, d4, d5, d6⟩ := hcell _ hA10
    go_wp2_with fail
    refine (hpt _ hw10).mono ?_
    rintro e v11 ⟨cs11, rfl, hv11, hx11⟩
    have hown11 : ∀ z, (uK10.ownBlock = some z ∨ uL10.ownBlock = some z) → z < v10.heap.size := fun z hz => by
      rcases hz with hz | hz
      · exact (World.ownsRow.lt hD10.K z hz).2
      · obtain ⟨_, _, _, hO, _⟩ := hD10.L
        exact (World.ownsRow.lt hO z hz).2
    have hqlt11 := hD10.B.lt
    have hD11 := hD10.grow hx11
    have hA11 := hA10.below hx11
    have hR11 := hR10.below hx11
    have hw11 := hw10.trans (hx11.mono hw10.size)
    have hs11 : q ≤ v11.heap.size := Nat.le_trans hs10 hx11.size
    clear d0 d1 d2 d3 d4 d5 d6 hD10 hA10 hR10
    go_wp2_with fail
    refine (dput1 (L := [107, 109, 112, 115, 116]) (k := 99) hD11 (hv11.mono (fun z hz _ => ⟨by omega, by omega, fun e => by have := hown11 z (.inl e); omega, fun e => by have := hown11 z (.inr e); omega⟩)) hs11 0 rfl (by simp) (by decide) (by decide) (by decide)).mono ?_
    rintro e v12 ⟨uK12, uL12, rfl, hD12, hy12⟩
    have hD12 : DB q q v12 (([99, 107, 109, 112, 115, 116] : List UInt8).map one8) [pList (x.parts.map ptV), pNum x.kind, pNum x.mode, pTxt x.path, pNum x.size, pNum x.time] uK12 uL12 := hD12
    have hA12 := blkQ hA11 hy12 (by omega)
    have hR12 := blkQ hR11 hy12 (by omega)
    have hw12 := hw11.trans (hy12.mono (by omega))
    have hs12 : q ≤ v12.heap.size := Nat.le_trans hs11 hy12.size
    clear hA11 hR11 hD11
    have hT : Hid (FV = .mk 7 0 [] [] (([99, 107, 109, 112, 115, 116] : List UInt8).map one8) [pList (x.parts.map ptV), pNum x.kind, pNum x.mode, pTxt x.path, pNum x.size, pNum x.time]) := by show _ = _; rw [hE2.out, if_pos hk]; rfl
    obtain ⟨W2, y1, y2, y3, y4⟩ := res_any (w := w) (cs := [.int .i64 7, .int .i64 0, .slice none 0 0, strV [], uK12, uL12]) hR12 (by rfl) (by omega) (hD12.val.mono (fun b hb _ => ⟨by omega, by omega⟩)) hw12
    have ql := ldOp_all (P := Tryd.prog) (ty := 30) hD12.B Tryd.underlying30 rfl (by exact sizeV)
    go_wp2
    refine bodyPost_ret (results_cell_row (fn := Tryd.f10) (by rfl) _ _ (w.heap.size + 1) 30 _ (0, 0) _ (by rfl) y2 Tryd.underlying30 rfl (by exact sizeV)) rfl ⟨_, rfl, by rw [hT.out]; exact y3, y4⟩
  · rw [hk] at d1
    go_upto_region 14 with (fail)
    clear d0 d1 d2 d3 d4 d5 d6
    have hT : Hid (FV = .mk 7 0 [] [] (([107, 109, 112, 116] : List UInt8).map one8) [pNum x.kind, pNum x.mode, pTxt x.path, pNum x.time]) := by show _ = _; rw [hE2.out, if_neg (by omega), if_pos hk]; rfl
    obtain ⟨W2, y1, y2, y3, y4⟩ := res_any (w := w) (cs := [.int .i64 7, .int .i64 0, .slice none 0 0, strV [], uK8, uL8]) hR8 (by rfl) (by omega) (hD8.val.mono (fun b hb _ => ⟨by omega, by omega⟩)) hw8
    have ql := ldOp_all (P := Tryd.prog) (ty := 30) hD8.B Tryd.underlying30 rfl (by exact sizeV)
    go_wp2
    refine bodyPost_ret (results_cell_row (fn := Tryd.f10) (by rfl) _ _ (w.heap.size + 1) 30 _ (0, 0) _ (by rfl) y2 Tryd.underlying30 rfl (by exact sizeV)) rfl ⟨_, rfl, by rw [hT.out]; exact y3, y4⟩
  · rw [hk] at d1
    go_upto_region 13 with (fail)
    clear d0 d1 d2 d3 d4 d5 d6
    obtain ⟨d0, d1, d2, d3, d4, d5, d6⟩ := hcell _ hA8
    go_wp2_with fail
    refine (ptext_any x.target _).mono ?_
    rintro e v9 ⟨rfl, hx9⟩
    have hD9 := hD8.grow hx9
    have hA9 := hA8.below hx9
    have hR9 := hR8.below hx9
    have hw9 := hw8.trans (hx9.mono hw8.size)
    have hs9 : q ≤ v9.heap.size := Nat.le_trans hs8 hx9.size
    clear d0 d1 d2 d3 d4 d5 d6 hD8 hA8 hR8
    go_wp2_with fail
    refine (dput1 (L := [107, 109, 112, 116]) (k := 108) hD9 (VAtP.txtS _ htm) hs9 1 rfl (by simp) (by decide) (by decide) (by decide)).mono ?_
    rintro e v10 ⟨uK10, uL10, rfl, hD10, hy10⟩
    have hD10 : DB q q v10 (([107, 108, 109, 112, 116] : List UInt8).map one8) [pNum x.kind, pTxt x.target, pNum x.mode, pTxt x.path, pNum x.time] uK10 uL10 := hD10
    have hA10 := blkQ hA9 hy10 (by omega)
    have hR10 := blkQ hR9 hy10 (by omega)
    have hw10 := hw9.trans (hy10.mono (by omega))
    have hs10 : q ≤ v10.heap.size := Nat.le_trans hs9 hy10.size
    clear hA9 hR9 hD9
    have hT : Hid (FV = .mk 7 0 [] [] (([107, 108, 109, 112, 116] : List UInt8).map one8) [pNum x.kind, pTxt x.target, pNum x.mode, pTxt x.path, pNum x.time]) := by show _ = _; rw [hE2.out, if_neg (by omega), if_neg (by omega)]; rfl
    obtain ⟨W2, y1, y2, y3, y4⟩ := res_any (w := w) (cs := [.int .i64 7, .int .i64 0, .slice none 0 0, strV [], uK10, uL10]) hR10 (by rfl) (by omega) (hD10.val.mono (fun b hb _ => ⟨by omega, by omega⟩)) hw10
    have ql := ldOp_all (P := Tryd.prog) (ty := 30) hD10.B Tryd.underlying30 rfl (by exact sizeV)
    go_wp2
    refine bodyPost_ret (results_cell_row (fn := Tryd.f10) (by rfl) _ _ (w.heap.size + 1) 30 _ (0, 0) _ (by rfl) y2 Tryd.underlying30 rfl (by exact sizeV)) rfl ⟨_, rfl, by rw [hT.out]; exact y3, y4⟩
end Go.Proofs.YtpchogicdnfggaaDoor
