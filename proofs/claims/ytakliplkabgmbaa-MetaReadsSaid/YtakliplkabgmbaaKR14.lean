/- Joined: what one statement of this layer stands on, part 14 of 25; nothing is assumed. -/
import Derived.Test.YtakliplkabgmbaaKR12
import Derived.Test.YtakliplkabgmbaaKR13
set_option maxRecDepth 20000
namespace Go.Proofs.Ytakliplkabgmbaa
open Go.RowKit Go.Hd
def prtV (p : Prt) : PV := pList [pByt p.id, pNum p.size]
def archV (x : Abt) (l : List Prt) : PV := .mk 7 0 [] [] [[98], [99], [105], [110], [113], [116]] [pNum x.bytes, pTxt x.comment, pList (l.map prtV), pTxt x.name, pNum x.items, pNum x.time]
attribute [local go_sem ↓] h_ldV h_stV h_alV h_ldID h_stID h_alID h_ldPA h_stPA h_alPA
attribute [local go_sem] r_ldV r_stV r_alV r_ldID r_stID r_alID r_ldPA r_stPA r_alPA
set_option maxHeartbeats 2000000 in
theorem archiveValue_any {a : Option Addr} {n c : Nat} {x : Abt} {l : List Prt} {w : World} (hn : n = l.length) (hr : Row w a (l.map prtC).flatten) (hok : ∀ p ∈ l, PrtOk p) (hx : AbtOk x) (hl : l.length ≤ 1000) :
    Calls Try.prog 35 #[.agg (List.toArray (abtC x)), .slice a n c] w fun e w' => ∃ cs, e = .returned (.agg (List.toArray cs)) ∧ VAtP (fun b => w.heap.size ≤ b) w' cs (archV x l) ∧ Below w.heap.size w w' := by
  subst hn
  have zs := zV_size
  have zp := zPA_size
  have hO6 := oneC6
  have hls := fun w' => plist_any none 0 0 w'
  have x1 : (List.toArray (abtC x)).size = 37 := by simpa using abtC_len hx
  have x2 : OneC (List.toArray (abtC x)) := all_oneCell_toArray (abtC_one x)
  have hall0 : Hid (∀ W, W = (w.alloc (.cells (List.toArray (abtC x)) 31)).alloc (.cells zV 63) → Blk W w.heap.size 31 (abtC x) ∧ Blk W (w.heap.size + 1) 63 zV.toList ∧ Below w.heap.size w W ∧ W.heap.size = w.heap.size + 2) := by
    rintro W rfl
    refine ⟨(Blk.new w 31 _).alloc _, ?_, ((Below.refl _ _).alloc (Nat.le_refl _) _).alloc (by simp) _, by simp⟩
    have := Blk.new (w.alloc (.cells (List.toArray (abtC x)) 31)) 63 zV
    simpa using this
  have t1 : (List.toArray (lstC (.slice none 0 0))).size = 6 := by rfl
  have t2 : OneC (List.toArray (lstC (.slice none 0 0))) := by unfold OneC lstC; simp [Value.oneCell', strV]
  have HX := Lib.hid hx
  have HL := Lib.hid hl
  have HOK := Lib.hid hok
  have HRow := Lib.hid hr
  clear hx hl hok hr
  go_enter Try.func35, Try.ntmps35
  go_upto_region 1 with (fail)
  generalize hW0 : (w.alloc (.cells (List.toArray (abtC x)) 31)).alloc (.cells zV 63) = W0 at *
  obtain ⟨f1, f2, f3, f4⟩ := hall0.out W0 rfl
  clear hall0 hW0
  go_wp2_with fail
  refine (hls _).mono ?_
  rintro e w1 ⟨rfl, hb1⟩
  go_upto_region 2 with (fail)
  have hall : Hid (∀ W, W = w1.alloc (.cells (List.toArray (lstC (.slice none 0 0))) 63) → VB (w.heap.size + 2) w1.heap.size W (.mk 6 0 [] [] [] ((l.take 0).map prtV)) (.slice none 0 0) (.slice none 0 0) (.slice none 0 0) ∧ Below w.heap.size w W ∧ Blk W w.heap.size 31 (abtC x) ∧ Blk W (w.heap.size + 1) 63 zV.toList) := by
    rintro W rfl
    have hsz2 : w.heap.size + 2 ≤ w1.heap.size := by have := hb1.size; omega
    refine ⟨?_, (f3.trans (hb1.mono f3.size)).alloc (by omega) _, (f1.below hb1).alloc _, (f2.below hb1).alloc _⟩
    exact VB.new (b := []) (t := []) (ab := none) (Blk.new w1 63 _) hsz2 (by simp; omega) (by unfold in64; omega) (by unfold in64; omega) (Nat.zero_le _) ⟨Nat.le_refl _, Nat.zero_le _⟩ (Row.nil _ _) (by simp)
  generalize hW : w1.alloc (.cells (List.toArray (lstC (.slice none 0 0))) 63) = W at *
  obtain ⟨g1, g2, g3, g4⟩ := hall.out W rfl
  have G1 := Lib.hid g1
  have G2 := Lib.hid g2
  have G3 := Lib.hid g3
  have G4 := Lib.hid g4
  generalize hq : w1.heap.size = q at *
  clear hall hW g1 g2 g3 g4 hq f1 f2 f3 f4
  go_wp2
  go_loopw [11] (fun i wr => ∃ j : Nat, j ≤ l.length ∧ i = .int .i64 j ∧ Hid (∃ u, VB (w.heap.size + 2) q wr (.mk 6 0 [] [] [] ((l.take j).map prtV)) (.slice none 0 0) (.slice none 0 0) u) ∧ Hid (Below w.heap.size w wr) ∧ Hid (Blk wr w.heap.size 31 (abtC x)) ∧ Hid (Blk wr (w.heap.size + 1) 63 zV.toList)) (fun i _ => l.length - (intOf i).toNat)
  case atStart => exact ⟨0, Nat.zero_le _, rfl, Lib.hid ⟨_, G1.out⟩, G2, G3, G4⟩
  case round =>
    obtain ⟨j, hj, rfl, hV, hb, hXB, hR⟩ := hrel
    have j0 : (0 : Int) ≤ (j : Int) := by omega
    have jb : IntKind.i64.wrap ((j : Int) + 1) = (j : Int) + 1 := IntWalk.i64_in _ (by have := HL.out; omega)
    clear G1 G2 G3 G4
    by_cases hlt : j < l.length
    · have j1 : (j : Int) < (l.length : Int) := by omega
      have hr2 := HRow.out.below hb.out
      have s1 := hr2.elemSome (s := 33) (prts33 HOK.out) (by decide) (i := j) (by simpa using hlt)
      have hpo := HOK.out _ (List.getElem_mem hlt)
      have q1 := ldOp_at (P := Try.prog) (ty := 83) (hr2.elem (s := 33) (prts33 HOK.out) (i := j) (c := prtC l[j]) (by simp [hlt])) Try.underlying83 rfl (by rw [prtC_len hpo]; exact sizePA)
      have hT : Hid ((l.take (j + 1)).map prtV = (l.take j).map prtV ++ [prtV l[j]]) := by
        show _ = _
        rw [List.take_succ_eq_append_getElem hlt, List.map_append]; rfl
      generalize l[j] = p at *
      have y1 : (List.toArray (prtC p)).size = 33 := by simpa using prtC_len hpo
      have y2 : OneC (List.toArray (prtC p)) := all_oneCell_toArray (prtC_one p)
      clear hr2
      obtain ⟨u, hvb⟩ := hV.out
      obtain ⟨vs, hvs⟩ : ∃ vs, vs = (l.take j).map prtV := ⟨_, rfl⟩
      rw [← hvs] at hvb hT
      go_upto_region 5 with (fail)
      have hpB : Blk (wr.alloc (.cells (List.toArray (prtC p)) 83)) wr.heap.size 83 (prtC p) := Blk.new wr 83 _
      have hb0x : Below wr.heap.size wr (wr.alloc (.cells (List.toArray (prtC p)) 83)) := (Below.refl _ _).alloc (Nat.le_refl _) _
      have hqW : q < wr.heap.size := hvb.blk.lt
      have hvbW : VB (w.heap.size + 2) q (wr.alloc (.cells (List.toArray (prtC p)) 83)) (.mk 6 0 [] [] [] vs) (.slice none 0 0) (.slice none 0 0) u := hvb.keep hb0x.size (fun b _ hlt => hb0x.block b hlt)
      have hbW := hb.out.trans (hb0x.mono hb.out.size)
      have hRW := hR.out.below hb0x
      have hXW := hXB.out.below hb0x
      generalize hqx : wr.heap.size = qp at *
      generalize wr.alloc (.cells (List.toArray (prtC p)) 83) = W at *
      have hSm : ∀ (L : Array Bool) (w1 w2 : World), ((L.getD 11 false = false → Blk w1 q 63 (lstC u)) ∧ Blk w1 qp 83 (prtC p)) → Mo w1 w2 → ((L.getD 11 false = false → Blk w2 q 63 (lstC u)) ∧ Blk w2 qp 83 (prtC p)) :=
        fun L w1 w2 h hm => ⟨fun hL => (h.1 hL).below hm, h.2.below hm⟩
      have hSi : ∀ i, i ≠ 11 → ∀ (L : Array Bool) (w1 : World), ((((L.setIfInBounds i true).getD 11 false = false → Blk w1 q 63 (lstC u)) ∧ Blk w1 qp 83 (prtC p)) ↔ ((L.getD 11 false = false → Blk w1 q 63 (lstC u)) ∧ Blk w1 qp 83 (prtC p))) := fun i hi L w1 => by
        rw [getD_set_ne false hi]
      have hS0 : Blk (W.drewN 1) q 63 (lstC u) ∧ Blk (W.drewN 1) qp 83 (prtC p) := ⟨hvbW.blk, hpB⟩
      have hSw : ∀ (L : Array Bool) (w' : World), Mo (W.drewN 1) w' → (L.getD 11 false = false → Blk w' q 63 (lstC u)) ∧ Blk w' qp 83 (prtC p) := fun L w' hm => ⟨fun _ => hS0.1.below hm, hS0.2.below hm⟩
      have hxt : ∀ w', Blk w' qp 83 (prtC p) → (ldOp 29 (.pointer (some ⟨qp, 0, none⟩))).run Try.prog w' = .ok (.agg (List.toArray (p.id.map b8))) w' ∧ w'.cell? ⟨qp, 32, none⟩ = some (.int .i64 p.size) := fun w' h => by
        refine ⟨?_, h.cell (prtC_32 hpo)⟩
        have := ldOp_blk (P := Try.prog) (ty := 29) (o := 0) (n := 32) h (by rw [prtC_len hpo]; omega) Try.underlying29 rfl sizeID
        rwa [prtC_id hpo] at this
      refine wp_region_upN (S := fun L w1 => (L.getD 11 false = false → Blk w1 q 63 (lstC u)) ∧ Blk w1 qp 83 (prtC p)) 14 rfl (by kernel_rfl) ?_
      refine wpAnyU_take (i := 0) (A := fun _ => True) (v := .pointer (some ⟨q, 5, none⟩)) (a' := ⟨#[.agg (List.toArray (abtC x)), .slice a l.length c, .pointer (some ⟨w.heap.size, 0, none⟩), undef, .pointer (some ⟨w.heap.size + 1, 0, none⟩), .pointer (some ⟨q, 0, none⟩), undef, .pointer (some ⟨qp, 0, none⟩), .agg (List.toArray (lstC (.slice none 0 0))), .slice a l.length c, .int .i64 (l.length : Int), .int .i64 (j : Int), .bool true, .pointer (some ((hd a).add (j * 33))), .agg (List.toArray (prtC p)), .pointer (some ⟨q, 5, none⟩), u16, u17, u18, u19, u20, u21, u22, u23, u24, u25, u26, u27, u28, undef, undef, undef, undef, undef, undef, undef, undef, undef, undef, undef, undef, undef, undef, undef, undef, undef, undef, undef], []⟩) hSm (hSi 0 (by decide)) (fun _ _ _ => trivial) rfl (by kernel_rfl) (by kernel_rfl) (by kernel_rfl) (fun _ _ _ h => h) (hSw _ _ (Mo.refl _)) (Tame.val rfl (fun w' hA => by go_simp)) rfl ?_
      refine wpAnyU_takeK (i := 1) 11 (A := fun w1 => Blk w1 q 63 (lstC u)) (v := u) (a' := ⟨#[.agg (List.toArray (abtC x)), .slice a l.length c, .pointer (some ⟨w.heap.size, 0, none⟩), undef, .pointer (some ⟨w.heap.size + 1, 0, none⟩), .pointer (some ⟨q, 0, none⟩), undef, .pointer (some ⟨qp, 0, none⟩), .agg (List.toArray (lstC (.slice none 0 0))), .slice a l.length c, .int .i64 (l.length : Int), .int .i64 (j : Int), .bool true, .pointer (some ((hd a).add (j * 33))), .agg (List.toArray (prtC p)), .pointer (some ⟨q, 5, none⟩), u, u17, u18, u19, u20, u21, u22, u23, u24, u25, u26, u27, u28, undef, undef, undef, undef, undef, undef, undef, undef, undef, undef, undef, undef, undef, undef, undef, undef, undef, undef, undef], []⟩) hSm (hSi 1 (by decide)) (fun _ _ h h2 => h.1 h2) rfl rfl (by kernel_rfl) (by kernel_rfl) (by kernel_rfl) (by kernel_rfl) (by kernel_rfl) (fun _ _ _ h => h) (hSw _ _ (Mo.refl _)) (Tame.val rfl (fun w' hA => by have := hA.cell (i := 5) (u := u) rfl; go_simp)) rfl ?_
      refine wpAnyU_take (i := 2) (A := fun _ => True) (v := .pointer (some ⟨qp, 0, none⟩)) (a' := ⟨#[.agg (List.toArray (abtC x)), .slice a l.length c, .pointer (some ⟨w.heap.size, 0, none⟩), undef, .pointer (some ⟨w.heap.size + 1, 0, none⟩), .pointer (some ⟨q, 0, none⟩), undef, .pointer (some ⟨qp, 0, none⟩), .agg (List.toArray (lstC (.slice none 0 0))), .slice a l.length c, .int .i64 (l.length : Int), .int .i64 (j : Int), .bool true, .pointer (some ((hd a).add (j * 33))), .agg (List.toArray (prtC p)), .pointer (some ⟨q, 5, none⟩), u, .pointer (some ⟨qp, 0, none⟩), u18, u19, u20, u21, u22, u23, u24, u25, u26, u27, u28, undef, undef, undef, undef, undef, undef, undef, undef, undef, undef, undef, undef, undef, undef, undef, undef, undef, undef, undef], []⟩) hSm (hSi 2 (by decide)) (fun _ _ _ => trivial) rfl (by kernel_rfl) (by kernel_rfl) (by kernel_rfl) (fun _ _ _ h => h) (hSw _ _ (Mo.refl _)) (Tame.val rfl (fun w' hA => by go_simp)) rfl ?_
      refine wpAnyU_take (i := 3) (A := fun w1 => Blk w1 qp 83 (prtC p)) (v := .agg (List.toArray (p.id.map b8))) (a' := ⟨#[.agg (List.toArray (abtC x)), .slice a l.length c, .pointer (some ⟨w.heap.size, 0, none⟩), undef, .pointer (some ⟨w.heap.size + 1, 0, none⟩), .pointer (some ⟨q, 0, none⟩), undef, .pointer (some ⟨qp, 0, none⟩), .agg (List.toArray (lstC (.slice none 0 0))), .slice a l.length c, .int .i64 (l.length : Int), .int .i64 (j : Int), .bool true, .pointer (some ((hd a).add (j * 33))), .agg (List.toArray (prtC p)), .pointer (some ⟨q, 5, none⟩), u, .pointer (some ⟨qp, 0, none⟩), .agg (List.toArray (p.id.map b8)), u19, u20, u21, u22, u23, u24, u25, u26, u27, u28, undef, undef, undef, undef, undef, undef, undef, undef, undef, undef, undef, undef, undef, undef, undef, undef, undef, undef, undef], []⟩) hSm (hSi 3 (by decide)) (fun _ _ h => h.2) rfl (by kernel_rfl) (by kernel_rfl) (by kernel_rfl) (fun _ _ _ h => h) (hSw _ _ (Mo.refl _)) (Tame.val rfl (fun w' hA => run_ldOp (hxt _ hA).1)) rfl ?_
      refine wpAnyU_take (i := 5) (A := fun _ => True) (v := .pointer (some ⟨qp, 32, none⟩)) (a' := ⟨#[.agg (List.toArray (abtC x)), .slice a l.length c, .pointer (some ⟨w.heap.size, 0, none⟩), undef, .pointer (some ⟨w.heap.size + 1, 0, none⟩), .pointer (some ⟨q, 0, none⟩), undef, .pointer (some ⟨qp, 0, none⟩), .agg (List.toArray (lstC (.slice none 0 0))), .slice a l.length c, .int .i64 (l.length : Int), .int .i64 (j : Int), .bool true, .pointer (some ((hd a).add (j * 33))), .agg (List.toArray (prtC p)), .pointer (some ⟨q, 5, none⟩), u, .pointer (some ⟨qp, 0, none⟩), .agg (List.toArray (p.id.map b8)), u19, .pointer (some ⟨qp, 32, none⟩), u21, u22, u23, u24, u25, u26, u27, u28, undef, undef, undef, undef, undef, undef, undef, undef, undef, undef, undef, undef, undef, undef, undef, undef, undef, undef, undef], []⟩) hSm (hSi 5 (by decide)) (fun _ _ _ => trivial) rfl (by kernel_rfl) (by kernel_rfl) (by kernel_rfl) (fun _ _ _ h => h) (hSw _ _ (Mo.refl _)) (Tame.val rfl (fun w' hA => by go_simp)) rfl ?_
      refine wpAnyU_take (i := 6) (A := fun w1 => Blk w1 qp 83 (prtC p)) (v := .int .i64 p.size) (a' := ⟨#[.agg (List.toArray (abtC x)), .slice a l.length c, .pointer (some ⟨w.heap.size, 0, none⟩), undef, .pointer (some ⟨w.heap.size + 1, 0, none⟩), .pointer (some ⟨q, 0, none⟩), undef, .pointer (some ⟨qp, 0, none⟩), .agg (List.toArray (lstC (.slice none 0 0))), .slice a l.length c, .int .i64 (l.length : Int), .int .i64 (j : Int), .bool true, .pointer (some ((hd a).add (j * 33))), .agg (List.toArray (prtC p)), .pointer (some ⟨q, 5, none⟩), u, .pointer (some ⟨qp, 0, none⟩), .agg (List.toArray (p.id.map b8)), u19, .pointer (some ⟨qp, 32, none⟩), .int .i64 p.size, u22, u23, u24, u25, u26, u27, u28, undef, undef, undef, undef, undef, undef, undef, undef, undef, undef, undef, undef, undef, undef, undef, undef, undef, undef, undef], []⟩) hSm (hSi 6 (by decide)) (fun _ _ h => h.2) rfl (by kernel_rfl) (by kernel_rfl) (by kernel_rfl) (fun _ _ _ h => h) (hSw _ _ (Mo.refl _)) (Tame.val rfl (fun w' hA => by have h1 := (hxt _ hA).2; go_simp)) rfl ?_
      refine wpAnyU_all (rs := [4]) (by kernel_rfl) (by decide) ?_
      intro w2 hm2 i hi
      obtain rfl : i = 4 := by simpa using hi
      refine wpOp_enter (f := 53) (args := #[.agg (List.toArray (p.id.map b8))]) rfl rfl (by go_simp) ((mblob_any p.id w2 hpo.id).mono ?_)
      rintro e w3 ⟨ab, cb, rfl, hrb, hcb1, hcb2, hab, hb3⟩
      refine ⟨_, rfl, ?_⟩
      show _ ∧ wpAnyU _ _ _ _ _ _ _ (⟨#[.agg (List.toArray (abtC x)), .slice a l.length c, .pointer (some ⟨w.heap.size, 0, none⟩), undef, .pointer (some ⟨w.heap.size + 1, 0, none⟩), .pointer (some ⟨q, 0, none⟩), undef, .pointer (some ⟨qp, 0, none⟩), .agg (List.toArray (lstC (.slice none 0 0))), .slice a l.length c, .int .i64 (l.length : Int), .int .i64 (j : Int), .bool true, .pointer (some ((hd a).add (j * 33))), .agg (List.toArray (prtC p)), .pointer (some ⟨q, 5, none⟩), u, .pointer (some ⟨qp, 0, none⟩), .agg (List.toArray (p.id.map b8)), .agg (List.toArray (bytC (.slice ab 32 cb))), .pointer (some ⟨qp, 32, none⟩), .int .i64 p.size, u22, u23, u24, u25, u26, u27, u28, undef, undef, undef, undef, undef, undef, undef, undef, undef, undef, undef, undef, undef, undef, undef, undef, undef, undef, undef], []⟩ : Act) _
      have hm3 : Mo (W.drewN 1) w3 := Mo.trans hm2 hb3
      refine ⟨hSw _ _ hm3, ?_⟩
      refine wpAnyU_take (i := 7) (A := fun _ => True) (v := .agg (List.toArray (numC p.size))) (a' := ⟨#[.agg (List.toArray (abtC x)), .slice a l.length c, .pointer (some ⟨w.heap.size, 0, none⟩), undef, .pointer (some ⟨w.heap.size + 1, 0, none⟩), .pointer (some ⟨q, 0, none⟩), undef, .pointer (some ⟨qp, 0, none⟩), .agg (List.toArray (lstC (.slice none 0 0))), .slice a l.length c, .int .i64 (l.length : Int), .int .i64 (j : Int), .bool true, .pointer (some ((hd a).add (j * 33))), .agg (List.toArray (prtC p)), .pointer (some ⟨q, 5, none⟩), u, .pointer (some ⟨qp, 0, none⟩), .agg (List.toArray (p.id.map b8)), .agg (List.toArray (bytC (.slice ab 32 cb))), .pointer (some ⟨qp, 32, none⟩), .int .i64 p.size, .agg (List.toArray (numC p.size)), u23, u24, u25, u26, u27, u28, undef, undef, undef, undef, undef, undef, undef, undef, undef, undef, undef, undef, undef, undef, undef, undef, undef, undef, undef], []⟩) hSm (hSi 7 (by decide)) (fun _ _ _ => trivial) rfl (by kernel_rfl) (by kernel_rfl) (by kernel_rfl) (fun _ _ _ h => h) (hSw _ _ hm3) (Tame.enter rfl (fun w' => by go_simp) (fun w' _ => of_any p.size w')) rfl ?_
      refine wpAnyU_all (rs := [8]) (by kernel_rfl) (by decide) ?_
      intro w4 hm4 i hi
      obtain rfl : i = 8 := by simpa using hi
      refine wpOp_val (v := .slice (some ⟨w4.heap.size, 0, none⟩) 2 2) (w' := w4.alloc (.cells (List.toArray (List.flatten [bytC (.slice ab 32 cb), numC p.size])) 63)) (a' := ⟨#[.agg (List.toArray (abtC x)), .slice a l.length c, .pointer (some ⟨w.heap.size, 0, none⟩), undef, .pointer (some ⟨w.heap.size + 1, 0, none⟩), .pointer (some ⟨q, 0, none⟩), undef, .pointer (some ⟨qp, 0, none⟩), .agg (List.toArray (lstC (.slice none 0 0))), .slice a l.length c, .int .i64 (l.length : Int), .int .i64 (j : Int), .bool true, .pointer (some ((hd a).add (j * 33))), .agg (List.toArray (prtC p)), .pointer (some ⟨q, 5, none⟩), u, .pointer (some ⟨qp, 0, none⟩), .agg (List.toArray (p.id.map b8)), .agg (List.toArray (bytC (.slice ab 32 cb))), .pointer (some ⟨qp, 32, none⟩), .int .i64 p.size, .agg (List.toArray (numC p.size)), .slice (some ⟨w4.heap.size, 0, none⟩) 2 2, u24, u25, u26, u27, u28, undef, undef, undef, undef, undef, undef, undef, undef, undef, undef, undef, undef, undef, undef, undef, undef, undef, undef, undef], []⟩) rfl rfl (run_bsOp (vals := #[(0, .agg (List.toArray (bytC (.slice ab 32 cb)))), (1, .agg (List.toArray (numC p.size)))]) (by first | rfl | go_simp | simp [Act.eval]) (bsOp_rows (vs := [bytC (.slice ab 32 cb), numC p.size]) Try.underlying61 infoV (by decide) rfl (by decide) (by decide) (by exact zV_size) (by simp [bytC, numC]) rfl)) rfl ?_
      have hm5 : Mo w4 (w4.alloc (.cells (List.toArray (List.flatten [bytC (.slice ab 32 cb), numC p.size])) 63)) := (Below.refl _ _).alloc (Nat.le_refl _) _
      have hm35 := Mo.trans (Mo.trans hm3 hm4) hm5
      have hB5 : Blk (w4.alloc (.cells (List.toArray (List.flatten [bytC (.slice ab 32 cb), numC p.size])) 63)) w4.heap.size 63 (List.flatten [bytC (.slice ab 32 cb), numC p.size]) := Blk.new _ _ _
      have hg4 : W.heap.size ≤ w4.heap.size := (Mo.trans hm3 hm4).size
      have hrb5 := hrb.below (Mo.trans hm4 hm5)
      refine ⟨hSw _ _ hm35, ?_⟩
      generalize hgg : w4.heap.size = g at *
      generalize hw5 : w4.alloc (.cells (List.toArray (List.flatten [bytC (.slice ab 32 cb), numC p.size])) 63) = w5 at *
      clear hw5 hm4 hm5
      refine wpAnyU_take (i := 9) (A := fun _ => True) (v := .agg (List.toArray (lstC (.slice (some ⟨g, 0, none⟩) 2 2)))) (a' := ⟨#[.agg (List.toArray (abtC x)), .slice a l.length c, .pointer (some ⟨w.heap.size, 0, none⟩), undef, .pointer (some ⟨w.heap.size + 1, 0, none⟩), .pointer (some ⟨q, 0, none⟩), undef, .pointer (some ⟨qp, 0, none⟩), .agg (List.toArray (lstC (.slice none 0 0))), .slice a l.length c, .int .i64 (l.length : Int), .int .i64 (j : Int), .bool true, .pointer (some ((hd a).add (j * 33))), .agg (List.toArray (prtC p)), .pointer (some ⟨q, 5, none⟩), u, .pointer (some ⟨qp, 0, none⟩), .agg (List.toArray (p.id.map b8)), .agg (List.toArray (bytC (.slice ab 32 cb))), .pointer (some ⟨qp, 32, none⟩), .int .i64 p.size, .agg (List.toArray (numC p.size)), .slice (some ⟨g, 0, none⟩) 2 2, .agg (List.toArray (lstC (.slice (some ⟨g, 0, none⟩) 2 2))), u25, u26, u27, u28, undef, undef, undef, undef, undef, undef, undef, undef, undef, undef, undef, undef, undef, undef, undef, undef, undef, undef, undef], []⟩) hSm (hSi 9 (by decide)) (fun _ _ _ => trivial) rfl (by kernel_rfl) (by kernel_rfl) (by kernel_rfl) (fun _ _ _ h => h) (hSw _ _ hm35) (Tame.enter rfl (fun w' => by go_simp) (fun w' _ => plist_any _ _ _ w')) rfl ?_
      refine wpAnyU_all (rs := [10]) (by kernel_rfl) (by decide) ?_
      intro w6 hm6 i hi
      obtain rfl : i = 10 := by simpa using hi
      refine wpOp_val (v := .slice (some ⟨w6.heap.size, 0, none⟩) 1 1) (w' := w6.alloc (.cells (List.toArray (lstC (.slice (some ⟨g, 0, none⟩) 2 2))) 63)) (a' := ⟨#[.agg (List.toArray (abtC x)), .slice a l.length c, .pointer (some ⟨w.heap.size, 0, none⟩), undef, .pointer (some ⟨w.heap.size + 1, 0, none⟩), .pointer (some ⟨q, 0, none⟩), undef, .pointer (some ⟨qp, 0, none⟩), .agg (List.toArray (lstC (.slice none 0 0))), .slice a l.length c, .int .i64 (l.length : Int), .int .i64 (j : Int), .bool true, .pointer (some ((hd a).add (j * 33))), .agg (List.toArray (prtC p)), .pointer (some ⟨q, 5, none⟩), u, .pointer (some ⟨qp, 0, none⟩), .agg (List.toArray (p.id.map b8)), .agg (List.toArray (bytC (.slice ab 32 cb))), .pointer (some ⟨qp, 32, none⟩), .int .i64 p.size, .agg (List.toArray (numC p.size)), .slice (some ⟨g, 0, none⟩) 2 2, .agg (List.toArray (lstC (.slice (some ⟨g, 0, none⟩) 2 2))), .slice (some ⟨w6.heap.size, 0, none⟩) 1 1, u26, u27, u28, undef, undef, undef, undef, undef, undef, undef, undef, undef, undef, undef, undef, undef, undef, undef, undef, undef, undef, undef], []⟩) rfl rfl (run_bsOp (vals := #[(0, .agg (List.toArray (lstC (.slice (some ⟨g, 0, none⟩) 2 2))))]) (by first | rfl | go_simp | simp [Act.eval]) (bsOp_one (cs := List.toArray (lstC (.slice (some ⟨g, 0, none⟩) 2 2))) Try.underlying61 infoV (by decide) (by decide) (by exact zV_size) rfl)) rfl ?_
      have hm7 : Mo w6 (w6.alloc (.cells (List.toArray (lstC (.slice (some ⟨g, 0, none⟩) 2 2))) 63)) := (Below.refl _ _).alloc (Nat.le_refl _) _
      have hB7 : Blk (w6.alloc (.cells (List.toArray (lstC (.slice (some ⟨g, 0, none⟩) 2 2))) 63)) w6.heap.size 63 (lstC (.slice (some ⟨g, 0, none⟩) 2 2)) := Blk.new _ _ _
      have hm37 := Mo.trans (Mo.trans hm35 hm6) hm7
      have hm57 := Mo.trans hm6 hm7
      refine ⟨hSw _ _ hm37, ?_⟩
      generalize hgg2 : w6.heap.size = g2 at *
      generalize hw7 : w6.alloc (.cells (List.toArray (lstC (.slice (some ⟨g, 0, none⟩) 2 2))) 63) = w7 at *
      clear hw7 hm6 hm7
      refine wpAnyU_all (rs := [11]) (by kernel_rfl) (by decide) ?_
      intro w8 hm8 i hi
      obtain rfl : i = 11 := by simpa using hi
      have hm38 := Mo.trans hm37 hm8
      have hvb8 : VB (w.heap.size + 2) q w8 (.mk 6 0 [] [] [] vs) (.slice none 0 0) (.slice none 0 0) u := hvbW.keep hm38.size (fun b _ hlt => hm38.block b hlt)
      have huW : ∀ b, u.ownBlock = some b → b < W.heap.size := fun b hb => (hvbW.kown.2 b hb).2
      have hxV : VAtP (okB (w.heap.size + 2) q (.slice none 0 0) u) w8 (lstC (.slice (some ⟨g, 0, none⟩) 2 2)) (prtV p) := by
        have hB8 := hB5.below (Mo.trans hm57 hm8)
        have hrb8 := hrb5.below (Mo.trans hm57 hm8)
        have hqW2 : q < W.heap.size := hvbW.blk.lt
        have fresh : ∀ b, W.heap.size ≤ b → okB (w.heap.size + 2) q (.slice none 0 0) u b := fun b hbb => ⟨by have := hvbW.le; omega, by omega, by simp [Value.ownBlock], fun e => by have := huW b e; omega⟩
        refine VAtP.lst (css := [bytC (.slice ab 32 cb), numC p.size]) (l := [pByt p.id, pNum p.size]) hB8.row (by simp) (by unfold maxLen; simp) rfl (by simp [bytC, numC]) (fun _ => fresh g (by omega)) ?_
        intro i c v hc hv
        match i with
        | 0 =>
          simp at hc hv; subst hc hv
          have := VAtP.bytS (ok := okB (w.heap.size + 2) q (.slice none 0 0) u) (c := cb) hrb8 (by rw [hpo.id]; exact hcb1) hcb2 (fun _ => fresh _ (by have := hm2.size; have e : (W.drewN 1).heap.size = W.heap.size := rfl; omega))
          rwa [hpo.id] at this
        | 1 => simp at hc hv; subst hc hv; exact VAtP.numb w8 hpo.size
        | i + 2 => simp at hc
      have hr8 : Row w8 (some ⟨g2, 0, none⟩) (lstC (.slice (some ⟨g, 0, none⟩) 2 2)) := (hB7.below hm8).row
      have hvl : vs.length ≤ 1000000000 := by
        have h1 := HL.out
        have h2 : vs.length ≤ l.length := by rw [hvs, List.length_map, List.length_take]; omega
        omega
      obtain ⟨a', c', w9, hrun, hVs9, hG9⟩ := VsAt.appR (ty := 61) (c2 := 1) (ok' := fun z => okB (w.heap.size + 2) q (.slice none 0 0) u z ∧ z < w8.heap.size) hvb8.list (fun z hz => hz.2.2.2) hxV (fun z hz hlt => ⟨hz, hlt⟩) hvl hvb8.le hr8
      refine wpOp_val (v := .slice a' (vs.length + 1) c') (w' := w9) (a' := ⟨#[.agg (List.toArray (abtC x)), .slice a l.length c, .pointer (some ⟨w.heap.size, 0, none⟩), undef, .pointer (some ⟨w.heap.size + 1, 0, none⟩), .pointer (some ⟨q, 0, none⟩), undef, .pointer (some ⟨qp, 0, none⟩), .agg (List.toArray (lstC (.slice none 0 0))), .slice a l.length c, .int .i64 (l.length : Int), .int .i64 (j : Int), .bool true, .pointer (some ((hd a).add (j * 33))), .agg (List.toArray (prtC p)), .pointer (some ⟨q, 5, none⟩), u, .pointer (some ⟨qp, 0, none⟩), .agg (List.toArray (p.id.map b8)), .agg (List.toArray (bytC (.slice ab 32 cb))), .pointer (some ⟨qp, 32, none⟩), .int .i64 p.size, .agg (List.toArray (numC p.size)), .slice (some ⟨g, 0, none⟩) 2 2, .agg (List.toArray (lstC (.slice (some ⟨g, 0, none⟩) 2 2))), .slice (some ⟨g2, 0, none⟩) 1 1, .slice a' (vs.length + 1) c', u27, u28, undef, undef, undef, undef, undef, undef, undef, undef, undef, undef, undef, undef, undef, undef, undef, undef, undef, undef, undef], []⟩) rfl rfl (run_append hrun rfl rfl rfl) rfl ?_
      have hB9 : Blk w9 qp 83 (prtC p) := (hG9.blk ((show Blk (W.drewN 1) qp 83 (prtC p) from hpB).below hm38) (fun e => by have := hvb.kown.2 _ e; omega)).1
      have hS9 : ∀ L : Array Bool, L.getD 11 false = true → (L.getD 11 false = false → Blk w9 q 63 (lstC u)) ∧ Blk w9 qp 83 (prtC p) := fun L hL => ⟨fun h => absurd (hL.symm.trans h) (by decide), hB9⟩
      refine ⟨hS9 _ (by kernel_rfl), ?_⟩
      refine wpAnyU_take (i := 12) (A := fun _ => True) (v := .pointer (some ⟨q, 5, none⟩)) (a' := ⟨#[.agg (List.toArray (abtC x)), .slice a l.length c, .pointer (some ⟨w.heap.size, 0, none⟩), undef, .pointer (some ⟨w.heap.size + 1, 0, none⟩), .pointer (some ⟨q, 0, none⟩), undef, .pointer (some ⟨qp, 0, none⟩), .agg (List.toArray (lstC (.slice none 0 0))), .slice a l.length c, .int .i64 (l.length : Int), .int .i64 (j : Int), .bool true, .pointer (some ((hd a).add (j * 33))), .agg (List.toArray (prtC p)), .pointer (some ⟨q, 5, none⟩), u, .pointer (some ⟨qp, 0, none⟩), .agg (List.toArray (p.id.map b8)), .agg (List.toArray (bytC (.slice ab 32 cb))), .pointer (some ⟨qp, 32, none⟩), .int .i64 p.size, .agg (List.toArray (numC p.size)), .slice (some ⟨g, 0, none⟩) 2 2, .agg (List.toArray (lstC (.slice (some ⟨g, 0, none⟩) 2 2))), .slice (some ⟨g2, 0, none⟩) 1 1, .slice a' (vs.length + 1) c', .pointer (some ⟨q, 5, none⟩), u28, undef, undef, undef, undef, undef, undef, undef, undef, undef, undef, undef, undef, undef, undef, undef, undef, undef, undef, undef], []⟩) hSm (hSi 12 (by decide)) (fun _ _ _ => trivial) rfl (by kernel_rfl) (by kernel_rfl) (by kernel_rfl) (fun _ _ _ h => h) (hS9 _ (by kernel_rfl)) (Tame.val rfl (fun w' hA => by go_simp)) rfl ?_
      refine wpAnyU_all (rs := [13]) (by kernel_rfl) (by decide) ?_
      intro w10 hm10 i hi
      obtain rfl : i = 13 := by simpa using hi
      have hq9 := hG9.blk hvb8.blk hvb8.lq
      have hq10 := hq9.1.below hm10
      have d1 : w10.cell? ⟨q, 5, none⟩ = some u := hq10.cell rfl
      have d2 : w10.frozen? ⟨q, 5, none⟩ = false := hq10.free 5
      refine wpOp_skip (w' := w10.setCell ⟨q, 5, none⟩ (.slice a' (vs.length + 1) c')) (a' := ⟨#[.agg (List.toArray (abtC x)), .slice a l.length c, .pointer (some ⟨w.heap.size, 0, none⟩), undef, .pointer (some ⟨w.heap.size + 1, 0, none⟩), .pointer (some ⟨q, 0, none⟩), undef, .pointer (some ⟨qp, 0, none⟩), .agg (List.toArray (lstC (.slice none 0 0))), .slice a l.length c, .int .i64 (l.length : Int), .int .i64 (j : Int), .bool true, .pointer (some ((hd a).add (j * 33))), .agg (List.toArray (prtC p)), .pointer (some ⟨q, 5, none⟩), u, .pointer (some ⟨qp, 0, none⟩), .agg (List.toArray (p.id.map b8)), .agg (List.toArray (bytC (.slice ab 32 cb))), .pointer (some ⟨qp, 32, none⟩), .int .i64 p.size, .agg (List.toArray (numC p.size)), .slice (some ⟨g, 0, none⟩) 2 2, .agg (List.toArray (lstC (.slice (some ⟨g, 0, none⟩) 2 2))), .slice (some ⟨g2, 0, none⟩) 1 1, .slice a' (vs.length + 1) c', .pointer (some ⟨q, 5, none⟩), u28, undef, undef, undef, undef, undef, undef, undef, undef, undef, undef, undef, undef, undef, undef, undef, undef, undef, undef, undef], []⟩) rfl rfl (by go_simp) rfl ?_
      have hVs10 : VsAt (okB (w.heap.size + 2) q (.slice none 0 0) (.slice a' (vs.length + 1) c')) (w.heap.size + 2) w10 (.slice a' (vs.length + 1) c') (vs ++ [prtV p]) :=
        hVs9.same hm10.size (fun b hb => hm10.block b (by obtain ⟨_, _, _, hO, _⟩ := hVs9; exact (World.ownsRow.lt hO b hb).2)) (fun b hb hlt => ⟨hm10.block b hlt, hb.1.1, hb.1.2.1, hb.1.2.2.1, fun e => by
          rcases hG9.own b e with h | h
          · exact hb.1.2.2.2 h
          · omega⟩)
      have hvb11 := hvb8.addL hVs10 (hG9.trans (Gro.ofBelow hm10))
      have hne : q ≠ qp := by omega
      have hB11 : Blk (w10.setCell ⟨q, 5, none⟩ (.slice a' (vs.length + 1) c')) qp 83 (prtC p) := by
        have := hB9.below hm10
        unfold Blk at *
        rw [Below.heap_setCell w10 ⟨q, 5, none⟩ _ qp (Ne.symm hne)]; exact this
      have hS11 : ∀ L : Array Bool, L.getD 11 false = true → (L.getD 11 false = false → Blk (w10.setCell ⟨q, 5, none⟩ (.slice a' (vs.length + 1) c')) q 63 (lstC u)) ∧ Blk (w10.setCell ⟨q, 5, none⟩ (.slice a' (vs.length + 1) c')) qp 83 (prtC p) := fun L hL => ⟨fun h => absurd (hL.symm.trans h) (by decide), hB11⟩
      refine ⟨hS11 _ (by kernel_rfl), ?_⟩
      refine wpAnyU_done (by kernel_rfl) ?_ _
      intro w12 hm12
      have hqb : w.heap.size + 2 ≤ q := hvbW.hq
      have hb8 : Below w.heap.size w w8 := hbW.trans ((Below.drewN' hm38).mono hbW.size)
      have hb9 : Below w.heap.size w w9 := hb8.trans (hG9.below (base := w.heap.size + 2) (fun k hk => (hvb8.kown.2 k hk).1) (by omega) hb8.size)
      have hb10 : Below w.heap.size w w10 := hb9.trans (hm10.mono hb9.size)
      have hb11 : Below w.heap.size w (w10.setCell ⟨q, 5, none⟩ (.slice a' (vs.length + 1) c')) := hb10.trans ⟨rfl, rfl, rfl, by simp, fun k hk => Below.heap_setCell w10 _ _ k (by show k ≠ q; omega)⟩
      have hb12 := Lib.hid (hb11.trans (hm12.mono hb11.size))
      have hR8 : Blk w8 (w.heap.size + 1) 63 zV.toList := (show Blk (W.drewN 1) (w.heap.size + 1) 63 zV.toList from hRW).below hm38
      have hR9 := (hG9.blk hR8 (fun e => by have := (hvb8.kown.2 _ e).1; omega)).1
      have hX8 : Blk w8 w.heap.size 31 (abtC x) := (show Blk (W.drewN 1) w.heap.size 31 (abtC x) from hXW).below hm38
      have hX9 := (hG9.blk hX8 (fun e => by have := (hvb8.kown.2 _ e).1; omega)).1
      have hRX11 : Blk (w10.setCell ⟨q, 5, none⟩ (.slice a' (vs.length + 1) c')) (w.heap.size + 1) 63 zV.toList ∧ Blk (w10.setCell ⟨q, 5, none⟩ (.slice a' (vs.length + 1) c')) w.heap.size 31 (abtC x) := by
        have h1 := hR9.below hm10
        have h2 := hX9.below hm10
        unfold Blk at *
        refine ⟨?_, ?_⟩
        · rw [Below.heap_setCell w10 ⟨q, 5, none⟩ _ (w.heap.size + 1) (by show w.heap.size + 1 ≠ q; omega)]; exact h1
        · rw [Below.heap_setCell w10 ⟨q, 5, none⟩ _ w.heap.size (by show w.heap.size ≠ q; omega)]; exact h2
      have hR12 := Lib.hid (hRX11.1.below hm12)
      have hX12 := Lib.hid (hRX11.2.below hm12)
      have hvb12 : Hid (∃ u', VB (w.heap.size + 2) q w12 (.mk 6 0 [] [] [] ((l.take (j + 1)).map prtV)) (.slice none 0 0) (.slice none 0 0) u') := by
        show ∃ _, _
        rw [hT.out]
        exact ⟨_, hvb11.keep hm12.size (fun b _ hlt => hm12.block b hlt)⟩
      clear hm12 hb11 hb10 hb9 hb8 hRX11 hX9 hX8 hR9 hR8 hvb11 hS11 hB11 hVs10 d1 d2 hq10 hq9 hm10 hS9 hB9 hG9 hVs9 hrun hr8 hxV hvb8 hSw hSm hSi hS0 hxt
      go_wp2
      first
        | exact ⟨⟨j + 1, by omega, (by first | rfl | go_num | (congr 1; omega)), hvb12, hb12, hX12, hR12⟩, by simp [intOf] <;> omega⟩
        | (refine ⟨?_, by simp [intOf] <;> omega⟩; (repeat apply Exists.intro); exact ⟨⟨j + 1, by omega, (by first | rfl | go_num | (congr 1; omega)), hvb12, hb12, hX12, hR12⟩, rfl⟩)
    · obtain rfl : j = l.length := by omega
      have j1 : ¬ (l.length : Int) < (l.length : Int) := by omega
      obtain ⟨u, hvb⟩ := hV.out
      rw [List.take_length] at hvb
      have hqb : w.heap.size + 2 ≤ q := hvb.hq
      have hbase := hvb.le
      clear hls jb j0
      go_upto_region 7 with (fail)
      have hSm : ∀ (L : Array Bool) (w1 w2 : World), (Blk w1 q 63 (lstC u) ∧ Blk w1 w.heap.size 31 (abtC x)) → Mo w1 w2 → (Blk w2 q 63 (lstC u) ∧ Blk w2 w.heap.size 31 (abtC x)) := fun L w1 w2 h hm => ⟨h.1.below hm, h.2.below hm⟩
      have hSi : ∀ i, i ≠ 99 → ∀ (L : Array Bool) (w1 : World), (Blk w1 q 63 (lstC u) ∧ Blk w1 w.heap.size 31 (abtC x)) ↔ (Blk w1 q 63 (lstC u) ∧ Blk w1 w.heap.size 31 (abtC x)) := fun _ _ _ _ => Iff.rfl
      have hS0 : Blk (wr.drewN 1) q 63 (lstC u) ∧ Blk (wr.drewN 1) w.heap.size 31 (abtC x) := ⟨hvb.blk, hXB.out⟩
      have hS0w : ∀ w', Mo (wr.drewN 1) w' → (Blk w' q 63 (lstC u) ∧ Blk w' w.heap.size 31 (abtC x)) := fun w' hm => ⟨hS0.1.below hm, hS0.2.below hm⟩
      have hl6 : (lstC u).length = 6 := rfl
      have hvd := hvb.done
      have hxo := HX.out
      have hxt : ∀ w', Blk w' w.heap.size 31 (abtC x) → w'.cell? ⟨w.heap.size, 0, none⟩ = some (.string (str x.name)) ∧ w'.cell? ⟨w.heap.size, 33, none⟩ = some (.int .i64 x.time) ∧ w'.cell? ⟨w.heap.size, 34, none⟩ = some (.string (str x.comment)) ∧ w'.cell? ⟨w.heap.size, 35, none⟩ = some (.int .i64 x.items) ∧ w'.cell? ⟨w.heap.size, 36, none⟩ = some (.int .i64 x.bytes) := fun w' h =>
        ⟨h.cell (abtC_0 x), h.cell (abtC_33 hxo), h.cell (abtC_34 hxo), h.cell (abtC_35 hxo), h.cell (abtC_36 hxo)⟩
      refine wp_region_upN (S := fun _ w1 => Blk w1 q 63 (lstC u) ∧ Blk w1 w.heap.size 31 (abtC x)) 20 rfl (by kernel_rfl) ?_
      refine wpAnyU_take (i := 1) (A := fun _ => True) (v := .pointer (some ⟨w.heap.size, 36, none⟩)) (a' := ⟨#[.agg (List.toArray (abtC x)), .slice a l.length c, .pointer (some ⟨w.heap.size, 0, none⟩), undef, .pointer (some ⟨w.heap.size + 1, 0, none⟩), .pointer (some ⟨q, 0, none⟩), undef, u7, .agg (List.toArray (lstC (.slice none 0 0))), .slice a l.length c, .int .i64 (l.length : Int), .int .i64 (l.length : Int), .bool false, u13, u14, u15, u16, u17, u18, u19, u20, u21, u22, u23, u24, u25, u26, u27, u28, undef, .pointer (some ⟨w.heap.size, 36, none⟩), undef, undef, undef, undef, undef, undef, undef, undef, undef, undef, undef, undef, undef, undef, undef, undef, undef], []⟩) hSm (hSi 1 (by decide)) (fun _ _ _ => trivial) rfl (by kernel_rfl) (by kernel_rfl) (by kernel_rfl) (fun _ _ _ h => h) hS0 (Tame.val rfl (fun w' hA => by go_simp)) rfl ?_
      refine wpAnyU_take (i := 2) (A := fun w1 => Blk w1 w.heap.size 31 (abtC x)) (v := .int .i64 x.bytes) (a' := ⟨#[.agg (List.toArray (abtC x)), .slice a l.length c, .pointer (some ⟨w.heap.size, 0, none⟩), undef, .pointer (some ⟨w.heap.size + 1, 0, none⟩), .pointer (some ⟨q, 0, none⟩), undef, u7, .agg (List.toArray (lstC (.slice none 0 0))), .slice a l.length c, .int .i64 (l.length : Int), .int .i64 (l.length : Int), .bool false, u13, u14, u15, u16, u17, u18, u19, u20, u21, u22, u23, u24, u25, u26, u27, u28, undef, .pointer (some ⟨w.heap.size, 36, none⟩), .int .i64 x.bytes, undef, undef, undef, undef, undef, undef, undef, undef, undef, undef, undef, undef, undef, undef, undef, undef], []⟩) hSm (hSi 2 (by decide)) (fun _ _ h => h.2) rfl (by kernel_rfl) (by kernel_rfl) (by kernel_rfl) (fun _ _ _ h => h) hS0 (Tame.val rfl (fun w' hA => by have h1 := (hxt _ hA).2.2.2.2; go_simp)) rfl ?_
      refine wpAnyU_take (i := 3) (A := fun _ => True) (v := .agg (List.toArray (numC x.bytes))) (a' := ⟨#[.agg (List.toArray (abtC x)), .slice a l.length c, .pointer (some ⟨w.heap.size, 0, none⟩), undef, .pointer (some ⟨w.heap.size + 1, 0, none⟩), .pointer (some ⟨q, 0, none⟩), undef, u7, .agg (List.toArray (lstC (.slice none 0 0))), .slice a l.length c, .int .i64 (l.length : Int), .int .i64 (l.length : Int), .bool false, u13, u14, u15, u16, u17, u18, u19, u20, u21, u22, u23, u24, u25, u26, u27, u28, undef, .pointer (some ⟨w.heap.size, 36, none⟩), .int .i64 x.bytes, .agg (List.toArray (numC x.bytes)), undef, undef, undef, undef, undef, undef, undef, undef, undef, undef, undef, undef, undef, undef, undef], []⟩) hSm (hSi 3 (by decide)) (fun _ _ _ => trivial) rfl (by kernel_rfl) (by kernel_rfl) (by kernel_rfl) (fun _ _ _ h => h) hS0 (Tame.enter rfl (fun w' => by go_simp) (fun w' _ => of_any x.bytes w')) rfl ?_
      refine wpAnyU_take (i := 4) (A := fun _ => True) (v := .pointer (some ⟨w.heap.size, 34, none⟩)) (a' := ⟨#[.agg (List.toArray (abtC x)), .slice a l.length c, .pointer (some ⟨w.heap.size, 0, none⟩), undef, .pointer (some ⟨w.heap.size + 1, 0, none⟩), .pointer (some ⟨q, 0, none⟩), undef, u7, .agg (List.toArray (lstC (.slice none 0 0))), .slice a l.length c, .int .i64 (l.length : Int), .int .i64 (l.length : Int), .bool false, u13, u14, u15, u16, u17, u18, u19, u20, u21, u22, u23, u24, u25, u26, u27, u28, undef, .pointer (some ⟨w.heap.size, 36, none⟩), .int .i64 x.bytes, .agg (List.toArray (numC x.bytes)), .pointer (some ⟨w.heap.size, 34, none⟩), undef, undef, undef, undef, undef, undef, undef, undef, undef, undef, undef, undef, undef, undef], []⟩) hSm (hSi 4 (by decide)) (fun _ _ _ => trivial) rfl (by kernel_rfl) (by kernel_rfl) (by kernel_rfl) (fun _ _ _ h => h) hS0 (Tame.val rfl (fun w' hA => by go_simp)) rfl ?_
      refine wpAnyU_take (i := 5) (A := fun w1 => Blk w1 w.heap.size 31 (abtC x)) (v := .string (str x.comment)) (a' := ⟨#[.agg (List.toArray (abtC x)), .slice a l.length c, .pointer (some ⟨w.heap.size, 0, none⟩), undef, .pointer (some ⟨w.heap.size + 1, 0, none⟩), .pointer (some ⟨q, 0, none⟩), undef, u7, .agg (List.toArray (lstC (.slice none 0 0))), .slice a l.length c, .int .i64 (l.length : Int), .int .i64 (l.length : Int), .bool false, u13, u14, u15, u16, u17, u18, u19, u20, u21, u22, u23, u24, u25, u26, u27, u28, undef, .pointer (some ⟨w.heap.size, 36, none⟩), .int .i64 x.bytes, .agg (List.toArray (numC x.bytes)), .pointer (some ⟨w.heap.size, 34, none⟩), .string (str x.comment), undef, undef, undef, undef, undef, undef, undef, undef, undef, undef, undef, undef, undef], []⟩) hSm (hSi 5 (by decide)) (fun _ _ h => h.2) rfl (by kernel_rfl) (by kernel_rfl) (by kernel_rfl) (fun _ _ _ h => h) hS0 (Tame.val rfl (fun w' hA => by have h1 := (hxt _ hA).2.2.1; go_simp)) rfl ?_
      refine wpAnyU_take (i := 6) (A := fun _ => True) (v := .agg (List.toArray (txtS x.comment))) (a' := ⟨#[.agg (List.toArray (abtC x)), .slice a l.length c, .pointer (some ⟨w.heap.size, 0, none⟩), undef, .pointer (some ⟨w.heap.size + 1, 0, none⟩), .pointer (some ⟨q, 0, none⟩), undef, u7, .agg (List.toArray (lstC (.slice none 0 0))), .slice a l.length c, .int .i64 (l.length : Int), .int .i64 (l.length : Int), .bool false, u13, u14, u15, u16, u17, u18, u19, u20, u21, u22, u23, u24, u25, u26, u27, u28, undef, .pointer (some ⟨w.heap.size, 36, none⟩), .int .i64 x.bytes, .agg (List.toArray (numC x.bytes)), .pointer (some ⟨w.heap.size, 34, none⟩), .string (str x.comment), .agg (List.toArray (txtS x.comment)), undef, undef, undef, undef, undef, undef, undef, undef, undef, undef, undef, undef], []⟩) hSm (hSi 6 (by decide)) (fun _ _ _ => trivial) rfl (by kernel_rfl) (by kernel_rfl) (by kernel_rfl) (fun _ _ _ h => h) hS0 (Tame.enter rfl (fun w' => by go_simp) (fun w' _ => ptext_any x.comment w')) rfl ?_
      refine wpAnyU_take (i := 7) (A := fun w1 => Blk w1 q 63 (lstC u)) (v := .agg (List.toArray (lstC u))) (a' := ⟨#[.agg (List.toArray (abtC x)), .slice a l.length c, .pointer (some ⟨w.heap.size, 0, none⟩), undef, .pointer (some ⟨w.heap.size + 1, 0, none⟩), .pointer (some ⟨q, 0, none⟩), undef, u7, .agg (List.toArray (lstC (.slice none 0 0))), .slice a l.length c, .int .i64 (l.length : Int), .int .i64 (l.length : Int), .bool false, u13, u14, u15, u16, u17, u18, u19, u20, u21, u22, u23, u24, u25, u26, u27, u28, undef, .pointer (some ⟨w.heap.size, 36, none⟩), .int .i64 x.bytes, .agg (List.toArray (numC x.bytes)), .pointer (some ⟨w.heap.size, 34, none⟩), .string (str x.comment), .agg (List.toArray (txtS x.comment)), .agg (List.toArray (lstC u)), undef, undef, undef, undef, undef, undef, undef, undef, undef, undef, undef], []⟩) hSm (hSi 7 (by decide)) (fun _ _ h => h.1) rfl (by kernel_rfl) (by kernel_rfl) (by kernel_rfl) (fun _ _ _ h => h) hS0 (Tame.val rfl (fun w' hA => run_ldOp (ldOp_all hA Try.underlying63 rfl (by rw [hl6]; exact sizeV)))) rfl ?_
      refine wpAnyU_take (i := 8) (A := fun _ => True) (v := .pointer (some ⟨w.heap.size, 0, none⟩)) (a' := ⟨#[.agg (List.toArray (abtC x)), .slice a l.length c, .pointer (some ⟨w.heap.size, 0, none⟩), undef, .pointer (some ⟨w.heap.size + 1, 0, none⟩), .pointer (some ⟨q, 0, none⟩), undef, u7, .agg (List.toArray (lstC (.slice none 0 0))), .slice a l.length c, .int .i64 (l.length : Int), .int .i64 (l.length : Int), .bool false, u13, u14, u15, u16, u17, u18, u19, u20, u21, u22, u23, u24, u25, u26, u27, u28, undef, .pointer (some ⟨w.heap.size, 36, none⟩), .int .i64 x.bytes, .agg (List.toArray (numC x.bytes)), .pointer (some ⟨w.heap.size, 34, none⟩), .string (str x.comment), .agg (List.toArray (txtS x.comment)), .agg (List.toArray (lstC u)), .pointer (some ⟨w.heap.size, 0, none⟩), undef, undef, undef, undef, undef, undef, undef, undef, undef, undef], []⟩) hSm (hSi 8 (by decide)) (fun _ _ _ => trivial) rfl (by kernel_rfl) (by kernel_rfl) (by kernel_rfl) (fun _ _ _ h => h) hS0 (Tame.val rfl (fun w' hA => by go_simp)) rfl ?_
      refine wpAnyU_take (i := 9) (A := fun w1 => Blk w1 w.heap.size 31 (abtC x)) (v := .string (str x.name)) (a' := ⟨#[.agg (List.toArray (abtC x)), .slice a l.length c, .pointer (some ⟨w.heap.size, 0, none⟩), undef, .pointer (some ⟨w.heap.size + 1, 0, none⟩), .pointer (some ⟨q, 0, none⟩), undef, u7, .agg (List.toArray (lstC (.slice none 0 0))), .slice a l.length c, .int .i64 (l.length : Int), .int .i64 (l.length : Int), .bool false, u13, u14, u15, u16, u17, u18, u19, u20, u21, u22, u23, u24, u25, u26, u27, u28, undef, .pointer (some ⟨w.heap.size, 36, none⟩), .int .i64 x.bytes, .agg (List.toArray (numC x.bytes)), .pointer (some ⟨w.heap.size, 34, none⟩), .string (str x.comment), .agg (List.toArray (txtS x.comment)), .agg (List.toArray (lstC u)), .pointer (some ⟨w.heap.size, 0, none⟩), .string (str x.name), undef, undef, undef, undef, undef, undef, undef, undef, undef], []⟩) hSm (hSi 9 (by decide)) (fun _ _ h => h.2) rfl (by kernel_rfl) (by kernel_rfl) (by kernel_rfl) (fun _ _ _ h => h) hS0 (Tame.val rfl (fun w' hA => by have h1 := (hxt _ hA).1; go_simp)) rfl ?_
      refine wpAnyU_take (i := 10) (A := fun _ => True) (v := .agg (List.toArray (txtS x.name))) (a' := ⟨#[.agg (List.toArray (abtC x)), .slice a l.length c, .pointer (some ⟨w.heap.size, 0, none⟩), undef, .pointer (some ⟨w.heap.size + 1, 0, none⟩), .pointer (some ⟨q, 0, none⟩), undef, u7, .agg (List.toArray (lstC (.slice none 0 0))), .slice a l.length c, .int .i64 (l.length : Int), .int .i64 (l.length : Int), .bool false, u13, u14, u15, u16, u17, u18, u19, u20, u21, u22, u23, u24, u25, u26, u27, u28, undef, .pointer (some ⟨w.heap.size, 36, none⟩), .int .i64 x.bytes, .agg (List.toArray (numC x.bytes)), .pointer (some ⟨w.heap.size, 34, none⟩), .string (str x.comment), .agg (List.toArray (txtS x.comment)), .agg (List.toArray (lstC u)), .pointer (some ⟨w.heap.size, 0, none⟩), .string (str x.name), .agg (List.toArray (txtS x.name)), undef, undef, undef, undef, undef, undef, undef, undef], []⟩) hSm (hSi 10 (by decide)) (fun _ _ _ => trivial) rfl (by kernel_rfl) (by kernel_rfl) (by kernel_rfl) (fun _ _ _ h => h) hS0 (Tame.enter rfl (fun w' => by go_simp) (fun w' _ => ptext_any x.name w')) rfl ?_
      refine wpAnyU_take (i := 11) (A := fun _ => True) (v := .pointer (some ⟨w.heap.size, 35, none⟩)) (a' := ⟨#[.agg (List.toArray (abtC x)), .slice a l.length c, .pointer (some ⟨w.heap.size, 0, none⟩), undef, .pointer (some ⟨w.heap.size + 1, 0, none⟩), .pointer (some ⟨q, 0, none⟩), undef, u7, .agg (List.toArray (lstC (.slice none 0 0))), .slice a l.length c, .int .i64 (l.length : Int), .int .i64 (l.length : Int), .bool false, u13, u14, u15, u16, u17, u18, u19, u20, u21, u22, u23, u24, u25, u26, u27, u28, undef, .pointer (some ⟨w.heap.size, 36, none⟩), .int .i64 x.bytes, .agg (List.toArray (numC x.bytes)), .pointer (some ⟨w.heap.size, 34, none⟩), .string (str x.comment), .agg (List.toArray (txtS x.comment)), .agg (List.toArray (lstC u)), .pointer (some ⟨w.heap.size, 0, none⟩), .string (str x.name), .agg (List.toArray (txtS x.name)), .pointer (some ⟨w.heap.size, 35, none⟩), undef, undef, undef, undef, undef, undef, undef], []⟩) hSm (hSi 11 (by decide)) (fun _ _ _ => trivial) rfl (by kernel_rfl) (by kernel_rfl) (by kernel_rfl) (fun _ _ _ h => h) hS0 (Tame.val rfl (fun w' hA => by go_simp)) rfl ?_
      refine wpAnyU_take (i := 12) (A := fun w1 => Blk w1 w.heap.size 31 (abtC x)) (v := .int .i64 x.items) (a' := ⟨#[.agg (List.toArray (abtC x)), .slice a l.length c, .pointer (some ⟨w.heap.size, 0, none⟩), undef, .pointer (some ⟨w.heap.size + 1, 0, none⟩), .pointer (some ⟨q, 0, none⟩), undef, u7, .agg (List.toArray (lstC (.slice none 0 0))), .slice a l.length c, .int .i64 (l.length : Int), .int .i64 (l.length : Int), .bool false, u13, u14, u15, u16, u17, u18, u19, u20, u21, u22, u23, u24, u25, u26, u27, u28, undef, .pointer (some ⟨w.heap.size, 36, none⟩), .int .i64 x.bytes, .agg (List.toArray (numC x.bytes)), .pointer (some ⟨w.heap.size, 34, none⟩), .string (str x.comment), .agg (List.toArray (txtS x.comment)), .agg (List.toArray (lstC u)), .pointer (some ⟨w.heap.size, 0, none⟩), .string (str x.name), .agg (List.toArray (txtS x.name)), .pointer (some ⟨w.heap.size, 35, none⟩), .int .i64 x.items, undef, undef, undef, undef, undef, undef], []⟩) hSm (hSi 12 (by decide)) (fun _ _ h => h.2) rfl (by kernel_rfl) (by kernel_rfl) (by kernel_rfl) (fun _ _ _ h => h) hS0 (Tame.val rfl (fun w' hA => by have h1 := (hxt _ hA).2.2.2.1; go_simp)) rfl ?_
      refine wpAnyU_take (i := 13) (A := fun _ => True) (v := .agg (List.toArray (numC x.items))) (a' := ⟨#[.agg (List.toArray (abtC x)), .slice a l.length c, .pointer (some ⟨w.heap.size, 0, none⟩), undef, .pointer (some ⟨w.heap.size + 1, 0, none⟩), .pointer (some ⟨q, 0, none⟩), undef, u7, .agg (List.toArray (lstC (.slice none 0 0))), .slice a l.length c, .int .i64 (l.length : Int), .int .i64 (l.length : Int), .bool false, u13, u14, u15, u16, u17, u18, u19, u20, u21, u22, u23, u24, u25, u26, u27, u28, undef, .pointer (some ⟨w.heap.size, 36, none⟩), .int .i64 x.bytes, .agg (List.toArray (numC x.bytes)), .pointer (some ⟨w.heap.size, 34, none⟩), .string (str x.comment), .agg (List.toArray (txtS x.comment)), .agg (List.toArray (lstC u)), .pointer (some ⟨w.heap.size, 0, none⟩), .string (str x.name), .agg (List.toArray (txtS x.name)), .pointer (some ⟨w.heap.size, 35, none⟩), .int .i64 x.items, .agg (List.toArray (numC x.items)), undef, undef, undef, undef, undef], []⟩) hSm (hSi 13 (by decide)) (fun _ _ _ => trivial) rfl (by kernel_rfl) (by kernel_rfl) (by kernel_rfl) (fun _ _ _ h => h) hS0 (Tame.enter rfl (fun w' => by go_simp) (fun w' _ => of_any x.items w')) rfl ?_
      refine wpAnyU_take (i := 14) (A := fun _ => True) (v := .pointer (some ⟨w.heap.size, 33, none⟩)) (a' := ⟨#[.agg (List.toArray (abtC x)), .slice a l.length c, .pointer (some ⟨w.heap.size, 0, none⟩), undef, .pointer (some ⟨w.heap.size + 1, 0, none⟩), .pointer (some ⟨q, 0, none⟩), undef, u7, .agg (List.toArray (lstC (.slice none 0 0))), .slice a l.length c, .int .i64 (l.length : Int), .int .i64 (l.length : Int), .bool false, u13, u14, u15, u16, u17, u18, u19, u20, u21, u22, u23, u24, u25, u26, u27, u28, undef, .pointer (some ⟨w.heap.size, 36, none⟩), .int .i64 x.bytes, .agg (List.toArray (numC x.bytes)), .pointer (some ⟨w.heap.size, 34, none⟩), .string (str x.comment), .agg (List.toArray (txtS x.comment)), .agg (List.toArray (lstC u)), .pointer (some ⟨w.heap.size, 0, none⟩), .string (str x.name), .agg (List.toArray (txtS x.name)), .pointer (some ⟨w.heap.size, 35, none⟩), .int .i64 x.items, .agg (List.toArray (numC x.items)), .pointer (some ⟨w.heap.size, 33, none⟩), undef, undef, undef, undef], []⟩) hSm (hSi 14 (by decide)) (fun _ _ _ => trivial) rfl (by kernel_rfl) (by kernel_rfl) (by kernel_rfl) (fun _ _ _ h => h) hS0 (Tame.val rfl (fun w' hA => by go_simp)) rfl ?_
      refine wpAnyU_take (i := 15) (A := fun w1 => Blk w1 w.heap.size 31 (abtC x)) (v := .int .i64 x.time) (a' := ⟨#[.agg (List.toArray (abtC x)), .slice a l.length c, .pointer (some ⟨w.heap.size, 0, none⟩), undef, .pointer (some ⟨w.heap.size + 1, 0, none⟩), .pointer (some ⟨q, 0, none⟩), undef, u7, .agg (List.toArray (lstC (.slice none 0 0))), .slice a l.length c, .int .i64 (l.length : Int), .int .i64 (l.length : Int), .bool false, u13, u14, u15, u16, u17, u18, u19, u20, u21, u22, u23, u24, u25, u26, u27, u28, undef, .pointer (some ⟨w.heap.size, 36, none⟩), .int .i64 x.bytes, .agg (List.toArray (numC x.bytes)), .pointer (some ⟨w.heap.size, 34, none⟩), .string (str x.comment), .agg (List.toArray (txtS x.comment)), .agg (List.toArray (lstC u)), .pointer (some ⟨w.heap.size, 0, none⟩), .string (str x.name), .agg (List.toArray (txtS x.name)), .pointer (some ⟨w.heap.size, 35, none⟩), .int .i64 x.items, .agg (List.toArray (numC x.items)), .pointer (some ⟨w.heap.size, 33, none⟩), .int .i64 x.time, undef, undef, undef], []⟩) hSm (hSi 15 (by decide)) (fun _ _ h => h.2) rfl (by kernel_rfl) (by kernel_rfl) (by kernel_rfl) (fun _ _ _ h => h) hS0 (Tame.val rfl (fun w' hA => by have h1 := (hxt _ hA).2.1; go_simp)) rfl ?_
      refine wpAnyU_take (i := 16) (A := fun _ => True) (v := .agg (List.toArray (numC x.time))) (a' := ⟨#[.agg (List.toArray (abtC x)), .slice a l.length c, .pointer (some ⟨w.heap.size, 0, none⟩), undef, .pointer (some ⟨w.heap.size + 1, 0, none⟩), .pointer (some ⟨q, 0, none⟩), undef, u7, .agg (List.toArray (lstC (.slice none 0 0))), .slice a l.length c, .int .i64 (l.length : Int), .int .i64 (l.length : Int), .bool false, u13, u14, u15, u16, u17, u18, u19, u20, u21, u22, u23, u24, u25, u26, u27, u28, undef, .pointer (some ⟨w.heap.size, 36, none⟩), .int .i64 x.bytes, .agg (List.toArray (numC x.bytes)), .pointer (some ⟨w.heap.size, 34, none⟩), .string (str x.comment), .agg (List.toArray (txtS x.comment)), .agg (List.toArray (lstC u)), .pointer (some ⟨w.heap.size, 0, none⟩), .string (str x.name), .agg (List.toArray (txtS x.name)), .pointer (some ⟨w.heap.size, 35, none⟩), .int .i64 x.items, .agg (List.toArray (numC x.items)), .pointer (some ⟨w.heap.size, 33, none⟩), .int .i64 x.time, .agg (List.toArray (numC x.time)), undef, undef], []⟩) hSm (hSi 16 (by decide)) (fun _ _ _ => trivial) rfl (by kernel_rfl) (by kernel_rfl) (by kernel_rfl) (fun _ _ _ h => h) hS0 (Tame.enter rfl (fun w' => by go_simp) (fun w' _ => of_any x.time w')) rfl ?_
      refine wpAnyU_all (rs := [0, 17]) (by kernel_rfl) (by decide) ?_
      intro w2 hm2 i hi
      rcases (by simpa using hi : i = 0 ∨ i = 17) with rfl | rfl
      · refine wpOp_val (v := .slice (some ⟨w2.heap.size, 0, none⟩) 6 6) (w' := w2.alloc (.cells #[.string { data := #[98] }, .string { data := #[99] }, .string { data := #[105] }, .string { data := #[110] }, .string { data := #[113] }, .string { data := #[116] }] 9)) (a' := ⟨#[.agg (List.toArray (abtC x)), .slice a l.length c, .pointer (some ⟨w.heap.size, 0, none⟩), undef, .pointer (some ⟨w.heap.size + 1, 0, none⟩), .pointer (some ⟨q, 0, none⟩), undef, u7, .agg (List.toArray (lstC (.slice none 0 0))), .slice a l.length c, .int .i64 (l.length : Int), .int .i64 (l.length : Int), .bool false, u13, u14, u15, u16, u17, u18, u19, u20, u21, u22, u23, u24, u25, u26, u27, u28, .slice (some ⟨w2.heap.size, 0, none⟩) 6 6, .pointer (some ⟨w.heap.size, 36, none⟩), .int .i64 x.bytes, .agg (List.toArray (numC x.bytes)), .pointer (some ⟨w.heap.size, 34, none⟩), .string (str x.comment), .agg (List.toArray (txtS x.comment)), .agg (List.toArray (lstC u)), .pointer (some ⟨w.heap.size, 0, none⟩), .string (str x.name), .agg (List.toArray (txtS x.name)), .pointer (some ⟨w.heap.size, 35, none⟩), .int .i64 x.items, .agg (List.toArray (numC x.items)), .pointer (some ⟨w.heap.size, 33, none⟩), .int .i64 x.time, .agg (List.toArray (numC x.time)), undef, undef], []⟩) rfl rfl (by go_simp) rfl ?_
        have hB3 : Blk (w2.alloc (.cells #[.string { data := #[98] }, .string { data := #[99] }, .string { data := #[105] }, .string { data := #[110] }, .string { data := #[113] }, .string { data := #[116] }] 9)) w2.heap.size 9 [strV [98], strV [99], strV [105], strV [110], strV [113], strV [116]] := Blk.new _ _ _
        have hg3 : Mo w2 (w2.alloc (.cells #[.string { data := #[98] }, .string { data := #[99] }, .string { data := #[105] }, .string { data := #[110] }, .string { data := #[113] }, .string { data := #[116] }] 9)) := (Below.refl _ _).alloc (Nat.le_refl _) _
        have hc3 := Mo.trans hm2 hg3
        have hsgk : w.heap.size + 2 ≤ w2.heap.size := Nat.le_trans hbase (hm2).size
        refine ⟨hS0w _ hc3, ?_⟩
        generalize w2.heap.size = gk at *
        generalize w2.alloc (.cells #[.string { data := #[98] }, .string { data := #[99] }, .string { data := #[105] }, .string { data := #[110] }, .string { data := #[113] }, .string { data := #[116] }] 9) = x3 at *
        refine wpAnyU_all (rs := [17]) (by kernel_rfl) (by decide) ?_
        intro w4 hm4 i hi
        obtain rfl : i = 17 := by simpa using hi
        refine wpOp_val (v := .slice (some ⟨w4.heap.size, 0, none⟩) 6 6) (w' := w4.alloc (.cells (List.toArray (List.flatten [numC x.bytes, txtS x.comment, lstC u, txtS x.name, numC x.items, numC x.time])) 63)) (a' := ⟨#[.agg (List.toArray (abtC x)), .slice a l.length c, .pointer (some ⟨w.heap.size, 0, none⟩), undef, .pointer (some ⟨w.heap.size + 1, 0, none⟩), .pointer (some ⟨q, 0, none⟩), undef, u7, .agg (List.toArray (lstC (.slice none 0 0))), .slice a l.length c, .int .i64 (l.length : Int), .int .i64 (l.length : Int), .bool false, u13, u14, u15, u16, u17, u18, u19, u20, u21, u22, u23, u24, u25, u26, u27, u28, .slice (some ⟨gk, 0, none⟩) 6 6, .pointer (some ⟨w.heap.size, 36, none⟩), .int .i64 x.bytes, .agg (List.toArray (numC x.bytes)), .pointer (some ⟨w.heap.size, 34, none⟩), .string (str x.comment), .agg (List.toArray (txtS x.comment)), .agg (List.toArray (lstC u)), .pointer (some ⟨w.heap.size, 0, none⟩), .string (str x.name), .agg (List.toArray (txtS x.name)), .pointer (some ⟨w.heap.size, 35, none⟩), .int .i64 x.items, .agg (List.toArray (numC x.items)), .pointer (some ⟨w.heap.size, 33, none⟩), .int .i64 x.time, .agg (List.toArray (numC x.time)), .slice (some ⟨w4.heap.size, 0, none⟩) 6 6, undef], []⟩) rfl rfl (run_bsOp (vals := #[(0, .agg (List.toArray (numC x.bytes))), (1, .agg (List.toArray (txtS x.comment))), (2, .agg (List.toArray (lstC u))), (3, .agg (List.toArray (txtS x.name))), (4, .agg (List.toArray (numC x.items))), (5, .agg (List.toArray (numC x.time)))]) (by first | rfl | go_simp | simp [Act.eval]) (bsOp_rows (vs := [numC x.bytes, txtS x.comment, lstC u, txtS x.name, numC x.items, numC x.time]) Try.underlying61 infoV (by decide) rfl (by decide) (by decide) (by exact zV_size) (by simp [lstC, numC, txtS]) rfl)) rfl ?_
        have hB5 : Blk (w4.alloc (.cells (List.toArray (List.flatten [numC x.bytes, txtS x.comment, lstC u, txtS x.name, numC x.items, numC x.time])) 63)) w4.heap.size 63 (List.flatten [numC x.bytes, txtS x.comment, lstC u, txtS x.name, numC x.items, numC x.time]) := Blk.new _ _ _
        have hg5 : Mo w4 (w4.alloc (.cells (List.toArray (List.flatten [numC x.bytes, txtS x.comment, lstC u, txtS x.name, numC x.items, numC x.time])) 63)) := (Below.refl _ _).alloc (Nat.le_refl _) _
        have hc5 := Mo.trans (Mo.trans hc3 hm4) hg5
        have hsgv : w.heap.size + 2 ≤ w4.heap.size := Nat.le_trans hbase ((Mo.trans hc3 hm4)).size
        refine ⟨hS0w _ hc5, ?_⟩
        generalize w4.heap.size = gv at *
        generalize w4.alloc (.cells (List.toArray (List.flatten [numC x.bytes, txtS x.comment, lstC u, txtS x.name, numC x.items, numC x.time])) 63) = x5 at *
        refine wpAnyU_take (i := 18) (A := fun _ => True) (v := .agg #[.int .i64 7, .int .i64 0, .slice none 0 0, .string { data := #[] }, .slice (some ⟨gk, 0, none⟩) 6 6, .slice (some ⟨gv, 0, none⟩) 6 6]) (a' := ⟨#[.agg (List.toArray (abtC x)), .slice a l.length c, .pointer (some ⟨w.heap.size, 0, none⟩), undef, .pointer (some ⟨w.heap.size + 1, 0, none⟩), .pointer (some ⟨q, 0, none⟩), undef, u7, .agg (List.toArray (lstC (.slice none 0 0))), .slice a l.length c, .int .i64 (l.length : Int), .int .i64 (l.length : Int), .bool false, u13, u14, u15, u16, u17, u18, u19, u20, u21, u22, u23, u24, u25, u26, u27, u28, .slice (some ⟨gk, 0, none⟩) 6 6, .pointer (some ⟨w.heap.size, 36, none⟩), .int .i64 x.bytes, .agg (List.toArray (numC x.bytes)), .pointer (some ⟨w.heap.size, 34, none⟩), .string (str x.comment), .agg (List.toArray (txtS x.comment)), .agg (List.toArray (lstC u)), .pointer (some ⟨w.heap.size, 0, none⟩), .string (str x.name), .agg (List.toArray (txtS x.name)), .pointer (some ⟨w.heap.size, 35, none⟩), .int .i64 x.items, .agg (List.toArray (numC x.items)), .pointer (some ⟨w.heap.size, 33, none⟩), .int .i64 x.time, .agg (List.toArray (numC x.time)), .slice (some ⟨gv, 0, none⟩) 6 6, .agg #[.int .i64 7, .int .i64 0, .slice none 0 0, .string { data := #[] }, .slice (some ⟨gk, 0, none⟩) 6 6, .slice (some ⟨gv, 0, none⟩) 6 6]], []⟩) hSm (hSi 18 (by decide)) (fun _ _ _ => trivial) rfl (by kernel_rfl) (by kernel_rfl) (by kernel_rfl) (fun _ _ _ h => h) (hS0w _ hc5) (Tame.val rfl (fun w' hA => by go_simp)) rfl ?_
        refine wpAnyU_all (rs := [19]) (by kernel_rfl) (by decide) ?_
        intro wz hmz i hi
        obtain rfl : i = 19 := by simpa using hi
        have hcz := Mo.trans hc5 hmz
        have hRz : Blk wz (w.heap.size + 1) 63 zV.toList := (show Blk (wr.drewN 1) (w.heap.size + 1) 63 zV.toList from hR.out).below hcz
        have hzK := hB3.below (Mo.trans (Mo.trans hm4 hg5) hmz)
        have hzV := hB5.below hmz
        refine wpOp_skip (w' := wz.setRow (w.heap.size + 1) #[.int .i64 7, .int .i64 0, .slice none 0 0, .string { data := #[] }, .slice (some ⟨gk, 0, none⟩) 6 6, .slice (some ⟨gv, 0, none⟩) 6 6]) (a' := ⟨#[.agg (List.toArray (abtC x)), .slice a l.length c, .pointer (some ⟨w.heap.size, 0, none⟩), undef, .pointer (some ⟨w.heap.size + 1, 0, none⟩), .pointer (some ⟨q, 0, none⟩), undef, u7, .agg (List.toArray (lstC (.slice none 0 0))), .slice a l.length c, .int .i64 (l.length : Int), .int .i64 (l.length : Int), .bool false, u13, u14, u15, u16, u17, u18, u19, u20, u21, u22, u23, u24, u25, u26, u27, u28, .slice (some ⟨gk, 0, none⟩) 6 6, .pointer (some ⟨w.heap.size, 36, none⟩), .int .i64 x.bytes, .agg (List.toArray (numC x.bytes)), .pointer (some ⟨w.heap.size, 34, none⟩), .string (str x.comment), .agg (List.toArray (txtS x.comment)), .agg (List.toArray (lstC u)), .pointer (some ⟨w.heap.size, 0, none⟩), .string (str x.name), .agg (List.toArray (txtS x.name)), .pointer (some ⟨w.heap.size, 35, none⟩), .int .i64 x.items, .agg (List.toArray (numC x.items)), .pointer (some ⟨w.heap.size, 33, none⟩), .int .i64 x.time, .agg (List.toArray (numC x.time)), .slice (some ⟨gv, 0, none⟩) 6 6, .agg #[.int .i64 7, .int .i64 0, .slice none 0 0, .string { data := #[] }, .slice (some ⟨gk, 0, none⟩) 6 6, .slice (some ⟨gv, 0, none⟩) 6 6]], []⟩) rfl rfl (run_stoOp (st_row hRz (by rfl) _ rfl (by unfold OneC; simp [Value.oneCell']))) rfl ?_
        have hgr := setRow_gr wz (w.heap.size + 1) #[.int .i64 7, .int .i64 0, .slice none 0 0, .string { data := #[] }, .slice (some ⟨gk, 0, none⟩) 6 6, .slice (some ⟨gv, 0, none⟩) 6 6]
        have hBr : Blk (wz.setRow (w.heap.size + 1) #[.int .i64 7, .int .i64 0, .slice none 0 0, .string { data := #[] }, .slice (some ⟨gk, 0, none⟩) 6 6, .slice (some ⟨gv, 0, none⟩) 6 6]) (w.heap.size + 1) 63 [.int .i64 7, .int .i64 0, .slice none 0 0, strV [], .slice (some ⟨gk, 0, none⟩) 6 6, .slice (some ⟨gv, 0, none⟩) 6 6] := setRow_blk hRz [.int .i64 7, .int .i64 0, .slice none 0 0, strV [], .slice (some ⟨gk, 0, none⟩) 6 6, .slice (some ⟨gv, 0, none⟩) 6 6]
        have hk1 := hzK.grown hgr (by omega)
        have hv1 := hzV.grown hgr (by omega)
        have hq1 : Blk (wz.setRow (w.heap.size + 1) #[.int .i64 7, .int .i64 0, .slice none 0 0, .string { data := #[] }, .slice (some ⟨gk, 0, none⟩) 6 6, .slice (some ⟨gv, 0, none⟩) 6 6]) q 63 (lstC u) ∧ Blk (wz.setRow (w.heap.size + 1) #[.int .i64 7, .int .i64 0, .slice none 0 0, .string { data := #[] }, .slice (some ⟨gk, 0, none⟩) 6 6, .slice (some ⟨gv, 0, none⟩) 6 6]) w.heap.size 31 (abtC x) := ⟨(hS0w _ hcz).1.grown hgr (by omega), (hS0w _ hcz).2.grown hgr (by omega)⟩
        have hvd1 := ((hvd.same (w' := wz) (fun b _ hlt => hcz.block b hlt)).same (w' := wz.setRow (w.heap.size + 1) #[.int .i64 7, .int .i64 0, .slice none 0 0, .string { data := #[] }, .slice (some ⟨gk, 0, none⟩) 6 6, .slice (some ⟨gv, 0, none⟩) 6 6]) (fun b hb hlt => hgr.block b hlt (by simp; omega)))
        have hbz : Below w.heap.size w wz := hb.out.trans ((Below.drewN' hcz).mono hb.out.size)
        have hbr : Below w.heap.size w (wz.setRow (w.heap.size + 1) #[.int .i64 7, .int .i64 0, .slice none 0 0, .string { data := #[] }, .slice (some ⟨gk, 0, none⟩) 6 6, .slice (some ⟨gv, 0, none⟩) 6 6]) := hbz.trans ⟨hgr.os, hgr.tape, hgr.output, hgr.size, fun k hk => hgr.block k (Nat.lt_of_lt_of_le hk hbz.size) (by simp; omega)⟩
        refine ⟨hq1, ?_⟩
        generalize wz.setRow (w.heap.size + 1) #[.int .i64 7, .int .i64 0, .slice none 0 0, .string { data := #[] }, .slice (some ⟨gk, 0, none⟩) 6 6, .slice (some ⟨gv, 0, none⟩) 6 6] = we at *
        refine wpAnyU_done (by kernel_rfl) ?_ _
        intro wf hmf
        have hRes : VAtP (fun b => w.heap.size ≤ b) wf [.int .i64 7, .int .i64 0, .slice none 0 0, strV [], .slice (some ⟨gk, 0, none⟩) 6 6, .slice (some ⟨gv, 0, none⟩) 6 6] (archV x l) := by
          refine VAtP.map (ks := [[98], [99], [105], [110], [113], [116]]) (css := [numC x.bytes, txtS x.comment, lstC u, txtS x.name, numC x.items, numC x.time]) (l := [pNum x.bytes, pTxt x.comment, pList (l.map prtV), pTxt x.name, pNum x.items, pNum x.time]) (hk1.below hmf).row (by simp) (by unfold maxLen; omega) (by simp [maxLen]) (fun _ => by show w.heap.size ≤ gk; omega) (hv1.below hmf).row (by simp) (by unfold maxLen; simp) rfl (by simp [lstC, numC, txtS]) (fun _ => by show w.heap.size ≤ gv; omega) ?_
          intro i c v hc hv
          match i with
          | 0 => simp at hc hv; subst hc hv; exact VAtP.numb wf hxo.bytes
          | 1 => simp at hc hv; subst hc hv; exact VAtP.txtS wf hxo.comment
          | 2 =>
            simp at hc hv; subst hc hv
            exact ((hvd1.grow hmf).mono (fun b hb _ => by omega))
          | 3 => simp at hc hv; subst hc hv; exact VAtP.txtS wf hxo.name
          | 4 => simp at hc hv; subst hc hv; exact VAtP.numb wf hxo.items
          | 5 => simp at hc hv; subst hc hv; exact VAtP.numb wf hxo.time
          | i + 6 => simp at hc
        have hBf := hBr.below hmf
        have hF := Lib.hid (And.intro hRes (hbr.trans (hmf.mono hbr.size)))
        clear hRes hbr hbz hvd1 hq1 hv1 hk1 hBr hzK hzV hRz hSm hSi hS0 hS0w hvd hvb hV hxt
        go_wp2
        refine bodyPost_ret (results_cell_row (fn := Try.f35) (by rfl) _ _ (w.heap.size + 1) 63 _ (0, 0) _ (by rfl) hBf Try.underlying63 rfl sizeV) rfl ?_
        exact ⟨_, rfl, hF.out.1, hF.out.2⟩
      · refine wpOp_val (v := .slice (some ⟨w2.heap.size, 0, none⟩) 6 6) (w' := w2.alloc (.cells (List.toArray (List.flatten [numC x.bytes, txtS x.comment, lstC u, txtS x.name, numC x.items, numC x.time])) 63)) (a' := ⟨#[.agg (List.toArray (abtC x)), .slice a l.length c, .pointer (some ⟨w.heap.size, 0, none⟩), undef, .pointer (some ⟨w.heap.size + 1, 0, none⟩), .pointer (some ⟨q, 0, none⟩), undef, u7, .agg (List.toArray (lstC (.slice none 0 0))), .slice a l.length c, .int .i64 (l.length : Int), .int .i64 (l.length : Int), .bool false, u13, u14, u15, u16, u17, u18, u19, u20, u21, u22, u23, u24, u25, u26, u27, u28, undef, .pointer (some ⟨w.heap.size, 36, none⟩), .int .i64 x.bytes, .agg (List.toArray (numC x.bytes)), .pointer (some ⟨w.heap.size, 34, none⟩), .string (str x.comment), .agg (List.toArray (txtS x.comment)), .agg (List.toArray (lstC u)), .pointer (some ⟨w.heap.size, 0, none⟩), .string (str x.name), .agg (List.toArray (txtS x.name)), .pointer (some ⟨w.heap.size, 35, none⟩), .int .i64 x.items, .agg (List.toArray (numC x.items)), .pointer (some ⟨w.heap.size, 33, none⟩), .int .i64 x.time, .agg (List.toArray (numC x.time)), .slice (some ⟨w2.heap.size, 0, none⟩) 6 6, undef], []⟩) rfl rfl (run_bsOp (vals := #[(0, .agg (List.toArray (numC x.bytes))), (1, .agg (List.toArray (txtS x.comment))), (2, .agg (List.toArray (lstC u))), (3, .agg (List.toArray (txtS x.name))), (4, .agg (List.toArray (numC x.items))), (5, .agg (List.toArray (numC x.time)))]) (by first | rfl | go_simp | simp [Act.eval]) (bsOp_rows (vs := [numC x.bytes, txtS x.comment, lstC u, txtS x.name, numC x.items, numC x.time]) Try.underlying61 infoV (by decide) rfl (by decide) (by decide) (by exact zV_size) (by simp [lstC, numC, txtS]) rfl)) rfl ?_
        have hB3 : Blk (w2.alloc (.cells (List.toArray (List.flatten [numC x.bytes, txtS x.comment, lstC u, txtS x.name, numC x.items, numC x.time])) 63)) w2.heap.size 63 (List.flatten [numC x.bytes, txtS x.comment, lstC u, txtS x.name, numC x.items, numC x.time]) := Blk.new _ _ _
        have hg3 : Mo w2 (w2.alloc (.cells (List.toArray (List.flatten [numC x.bytes, txtS x.comment, lstC u, txtS x.name, numC x.items, numC x.time])) 63)) := (Below.refl _ _).alloc (Nat.le_refl _) _
        have hc3 := Mo.trans hm2 hg3
        have hsgv : w.heap.size + 2 ≤ w2.heap.size := Nat.le_trans hbase (hm2).size
        refine ⟨hS0w _ hc3, ?_⟩
        generalize w2.heap.size = gv at *
        generalize w2.alloc (.cells (List.toArray (List.flatten [numC x.bytes, txtS x.comment, lstC u, txtS x.name, numC x.items, numC x.time])) 63) = x3 at *
        refine wpAnyU_all (rs := [0]) (by kernel_rfl) (by decide) ?_
        intro w4 hm4 i hi
        obtain rfl : i = 0 := by simpa using hi
        refine wpOp_val (v := .slice (some ⟨w4.heap.size, 0, none⟩) 6 6) (w' := w4.alloc (.cells #[.string { data := #[98] }, .string { data := #[99] }, .string { data := #[105] }, .string { data := #[110] }, .string { data := #[113] }, .string { data := #[116] }] 9)) (a' := ⟨#[.agg (List.toArray (abtC x)), .slice a l.length c, .pointer (some ⟨w.heap.size, 0, none⟩), undef, .pointer (some ⟨w.heap.size + 1, 0, none⟩), .pointer (some ⟨q, 0, none⟩), undef, u7, .agg (List.toArray (lstC (.slice none 0 0))), .slice a l.length c, .int .i64 (l.length : Int), .int .i64 (l.length : Int), .bool false, u13, u14, u15, u16, u17, u18, u19, u20, u21, u22, u23, u24, u25, u26, u27, u28, .slice (some ⟨w4.heap.size, 0, none⟩) 6 6, .pointer (some ⟨w.heap.size, 36, none⟩), .int .i64 x.bytes, .agg (List.toArray (numC x.bytes)), .pointer (some ⟨w.heap.size, 34, none⟩), .string (str x.comment), .agg (List.toArray (txtS x.comment)), .agg (List.toArray (lstC u)), .pointer (some ⟨w.heap.size, 0, none⟩), .string (str x.name), .agg (List.toArray (txtS x.name)), .pointer (some ⟨w.heap.size, 35, none⟩), .int .i64 x.items, .agg (List.toArray (numC x.items)), .pointer (some ⟨w.heap.size, 33, none⟩), .int .i64 x.time, .agg (List.toArray (numC x.time)), .slice (some ⟨gv, 0, none⟩) 6 6, undef], []⟩) rfl rfl (by go_simp) rfl ?_
        have hB5 : Blk (w4.alloc (.cells #[.string { data := #[98] }, .string { data := #[99] }, .string { data := #[105] }, .string { data := #[110] }, .string { data := #[113] }, .string { data := #[116] }] 9)) w4.heap.size 9 [strV [98], strV [99], strV [105], strV [110], strV [113], strV [116]] := Blk.new _ _ _
        have hg5 : Mo w4 (w4.alloc (.cells #[.string { data := #[98] }, .string { data := #[99] }, .string { data := #[105] }, .string { data := #[110] }, .string { data := #[113] }, .string { data := #[116] }] 9)) := (Below.refl _ _).alloc (Nat.le_refl _) _
        have hc5 := Mo.trans (Mo.trans hc3 hm4) hg5
        have hsgk : w.heap.size + 2 ≤ w4.heap.size := Nat.le_trans hbase ((Mo.trans hc3 hm4)).size
        refine ⟨hS0w _ hc5, ?_⟩
        generalize w4.heap.size = gk at *
        generalize w4.alloc (.cells #[.string { data := #[98] }, .string { data := #[99] }, .string { data := #[105] }, .string { data := #[110] }, .string { data := #[113] }, .string { data := #[116] }] 9) = x5 at *
        refine wpAnyU_take (i := 18) (A := fun _ => True) (v := .agg #[.int .i64 7, .int .i64 0, .slice none 0 0, .string { data := #[] }, .slice (some ⟨gk, 0, none⟩) 6 6, .slice (some ⟨gv, 0, none⟩) 6 6]) (a' := ⟨#[.agg (List.toArray (abtC x)), .slice a l.length c, .pointer (some ⟨w.heap.size, 0, none⟩), undef, .pointer (some ⟨w.heap.size + 1, 0, none⟩), .pointer (some ⟨q, 0, none⟩), undef, u7, .agg (List.toArray (lstC (.slice none 0 0))), .slice a l.length c, .int .i64 (l.length : Int), .int .i64 (l.length : Int), .bool false, u13, u14, u15, u16, u17, u18, u19, u20, u21, u22, u23, u24, u25, u26, u27, u28, .slice (some ⟨gk, 0, none⟩) 6 6, .pointer (some ⟨w.heap.size, 36, none⟩), .int .i64 x.bytes, .agg (List.toArray (numC x.bytes)), .pointer (some ⟨w.heap.size, 34, none⟩), .string (str x.comment), .agg (List.toArray (txtS x.comment)), .agg (List.toArray (lstC u)), .pointer (some ⟨w.heap.size, 0, none⟩), .string (str x.name), .agg (List.toArray (txtS x.name)), .pointer (some ⟨w.heap.size, 35, none⟩), .int .i64 x.items, .agg (List.toArray (numC x.items)), .pointer (some ⟨w.heap.size, 33, none⟩), .int .i64 x.time, .agg (List.toArray (numC x.time)), .slice (some ⟨gv, 0, none⟩) 6 6, .agg #[.int .i64 7, .int .i64 0, .slice none 0 0, .string { data := #[] }, .slice (some ⟨gk, 0, none⟩) 6 6, .slice (some ⟨gv, 0, none⟩) 6 6]], []⟩) hSm (hSi 18 (by decide)) (fun _ _ _ => trivial) rfl (by kernel_rfl) (by kernel_rfl) (by kernel_rfl) (fun _ _ _ h => h) (hS0w _ hc5) (Tame.val rfl (fun w' hA => by go_simp)) rfl ?_
        refine wpAnyU_all (rs := [19]) (by kernel_rfl) (by decide) ?_
        intro wz hmz i hi
        obtain rfl : i = 19 := by simpa using hi
        have hcz := Mo.trans hc5 hmz
        have hRz : Blk wz (w.heap.size + 1) 63 zV.toList := (show Blk (wr.drewN 1) (w.heap.size + 1) 63 zV.toList from hR.out).below hcz
        have hzV := hB3.below (Mo.trans (Mo.trans hm4 hg5) hmz)
        have hzK := hB5.below hmz
        refine wpOp_skip (w' := wz.setRow (w.heap.size + 1) #[.int .i64 7, .int .i64 0, .slice none 0 0, .string { data := #[] }, .slice (some ⟨gk, 0, none⟩) 6 6, .slice (some ⟨gv, 0, none⟩) 6 6]) (a' := ⟨#[.agg (List.toArray (abtC x)), .slice a l.length c, .pointer (some ⟨w.heap.size, 0, none⟩), undef, .pointer (some ⟨w.heap.size + 1, 0, none⟩), .pointer (some ⟨q, 0, none⟩), undef, u7, .agg (List.toArray (lstC (.slice none 0 0))), .slice a l.length c, .int .i64 (l.length : Int), .int .i64 (l.length : Int), .bool false, u13, u14, u15, u16, u17, u18, u19, u20, u21, u22, u23, u24, u25, u26, u27, u28, .slice (some ⟨gk, 0, none⟩) 6 6, .pointer (some ⟨w.heap.size, 36, none⟩), .int .i64 x.bytes, .agg (List.toArray (numC x.bytes)), .pointer (some ⟨w.heap.size, 34, none⟩), .string (str x.comment), .agg (List.toArray (txtS x.comment)), .agg (List.toArray (lstC u)), .pointer (some ⟨w.heap.size, 0, none⟩), .string (str x.name), .agg (List.toArray (txtS x.name)), .pointer (some ⟨w.heap.size, 35, none⟩), .int .i64 x.items, .agg (List.toArray (numC x.items)), .pointer (some ⟨w.heap.size, 33, none⟩), .int .i64 x.time, .agg (List.toArray (numC x.time)), .slice (some ⟨gv, 0, none⟩) 6 6, .agg #[.int .i64 7, .int .i64 0, .slice none 0 0, .string { data := #[] }, .slice (some ⟨gk, 0, none⟩) 6 6, .slice (some ⟨gv, 0, none⟩) 6 6]], []⟩) rfl rfl (run_stoOp (st_row hRz (by rfl) _ rfl (by unfold OneC; simp [Value.oneCell']))) rfl ?_
        have hgr := setRow_gr wz (w.heap.size + 1) #[.int .i64 7, .int .i64 0, .slice none 0 0, .string { data := #[] }, .slice (some ⟨gk, 0, none⟩) 6 6, .slice (some ⟨gv, 0, none⟩) 6 6]
        have hBr : Blk (wz.setRow (w.heap.size + 1) #[.int .i64 7, .int .i64 0, .slice none 0 0, .string { data := #[] }, .slice (some ⟨gk, 0, none⟩) 6 6, .slice (some ⟨gv, 0, none⟩) 6 6]) (w.heap.size + 1) 63 [.int .i64 7, .int .i64 0, .slice none 0 0, strV [], .slice (some ⟨gk, 0, none⟩) 6 6, .slice (some ⟨gv, 0, none⟩) 6 6] := setRow_blk hRz [.int .i64 7, .int .i64 0, .slice none 0 0, strV [], .slice (some ⟨gk, 0, none⟩) 6 6, .slice (some ⟨gv, 0, none⟩) 6 6]
        have hk1 := hzK.grown hgr (by omega)
        have hv1 := hzV.grown hgr (by omega)
        have hq1 : Blk (wz.setRow (w.heap.size + 1) #[.int .i64 7, .int .i64 0, .slice none 0 0, .string { data := #[] }, .slice (some ⟨gk, 0, none⟩) 6 6, .slice (some ⟨gv, 0, none⟩) 6 6]) q 63 (lstC u) ∧ Blk (wz.setRow (w.heap.size + 1) #[.int .i64 7, .int .i64 0, .slice none 0 0, .string { data := #[] }, .slice (some ⟨gk, 0, none⟩) 6 6, .slice (some ⟨gv, 0, none⟩) 6 6]) w.heap.size 31 (abtC x) := ⟨(hS0w _ hcz).1.grown hgr (by omega), (hS0w _ hcz).2.grown hgr (by omega)⟩
        have hvd1 := ((hvd.same (w' := wz) (fun b _ hlt => hcz.block b hlt)).same (w' := wz.setRow (w.heap.size + 1) #[.int .i64 7, .int .i64 0, .slice none 0 0, .string { data := #[] }, .slice (some ⟨gk, 0, none⟩) 6 6, .slice (some ⟨gv, 0, none⟩) 6 6]) (fun b hb hlt => hgr.block b hlt (by simp; omega)))
        have hbz : Below w.heap.size w wz := hb.out.trans ((Below.drewN' hcz).mono hb.out.size)
        have hbr : Below w.heap.size w (wz.setRow (w.heap.size + 1) #[.int .i64 7, .int .i64 0, .slice none 0 0, .string { data := #[] }, .slice (some ⟨gk, 0, none⟩) 6 6, .slice (some ⟨gv, 0, none⟩) 6 6]) := hbz.trans ⟨hgr.os, hgr.tape, hgr.output, hgr.size, fun k hk => hgr.block k (Nat.lt_of_lt_of_le hk hbz.size) (by simp; omega)⟩
        refine ⟨hq1, ?_⟩
        generalize wz.setRow (w.heap.size + 1) #[.int .i64 7, .int .i64 0, .slice none 0 0, .string { data := #[] }, .slice (some ⟨gk, 0, none⟩) 6 6, .slice (some ⟨gv, 0, none⟩) 6 6] = we at *
        refine wpAnyU_done (by kernel_rfl) ?_ _
        intro wf hmf
        have hRes : VAtP (fun b => w.heap.size ≤ b) wf [.int .i64 7, .int .i64 0, .slice none 0 0, strV [], .slice (some ⟨gk, 0, none⟩) 6 6, .slice (some ⟨gv, 0, none⟩) 6 6] (archV x l) := by
          refine VAtP.map (ks := [[98], [99], [105], [110], [113], [116]]) (css := [numC x.bytes, txtS x.comment, lstC u, txtS x.name, numC x.items, numC x.time]) (l := [pNum x.bytes, pTxt x.comment, pList (l.map prtV), pTxt x.name, pNum x.items, pNum x.time]) (hk1.below hmf).row (by simp) (by unfold maxLen; omega) (by simp [maxLen]) (fun _ => by show w.heap.size ≤ gk; omega) (hv1.below hmf).row (by simp) (by unfold maxLen; simp) rfl (by simp [lstC, numC, txtS]) (fun _ => by show w.heap.size ≤ gv; omega) ?_
          intro i c v hc hv
          match i with
          | 0 => simp at hc hv; subst hc hv; exact VAtP.numb wf hxo.bytes
          | 1 => simp at hc hv; subst hc hv; exact VAtP.txtS wf hxo.comment
          | 2 =>
            simp at hc hv; subst hc hv
            exact ((hvd1.grow hmf).mono (fun b hb _ => by omega))
          | 3 => simp at hc hv; subst hc hv; exact VAtP.txtS wf hxo.name
          | 4 => simp at hc hv; subst hc hv; exact VAtP.numb wf hxo.items
          | 5 => simp at hc hv; subst hc hv; exact VAtP.numb wf hxo.time
          | i + 6 => simp at hc
        have hBf := hBr.below hmf
        have hF := Lib.hid (And.intro hRes (hbr.trans (hmf.mono hbr.size)))
        clear hRes hbr hbz hvd1 hq1 hv1 hk1 hBr hzK hzV hRz hSm hSi hS0 hS0w hvd hvb hV hxt
        go_wp2
        refine bodyPost_ret (results_cell_row (fn := Try.f35) (by rfl) _ _ (w.heap.size + 1) 63 _ (0, 0) _ (by rfl) hBf Try.underlying63 rfl sizeV) rfl ?_
        exact ⟨_, rfl, hF.out.1, hF.out.2⟩
end Go.Proofs.Ytakliplkabgmbaa
