/- Layer 23: the document's ArchiveValue; Archive, the program's and the document's. -/
import Derived.Test.YtakliplkabgmbaaM10
set_option maxRecDepth 20000
namespace Go.Proofs.Ytakliplkabgmbaa
open Go.RowKit Go.Hd
attribute [local go_sem ↓] h_ldV h_stV h_alV h_ldID h_stID h_alID h_bsLV h_ldAB h_stAB h_alAB
attribute [local go_sem] r_ldV r_stV r_alV r_ldID r_stID r_alID r_ldAB r_stAB r_alAB

/-- The id of a part in a row, loaded. -/
theorem prt_ldID {w : World} {a : Option Addr} {l : List Prt} (hr : Row w a (l.map prtC).flatten) (hok : ∀ x ∈ l, PrtOk x) {j : Nat} (hj : j < l.length) :
    (ldOp 29 (.pointer (some ((hd a).add (j * 33))))).run Try.prog w = .ok (.agg (List.toArray (l[j].id.map b8))) w := by
  have hxo := hok _ (List.getElem_mem hj)
  refine ldOp_at (fun i v hv => ?_) Try.underlying29 rfl (by rw [List.length_map, hxo.id]; exact sizeID)
  refine prt_cell hr hok hj (k := i) ?_
  rw [← prtC_id hxo, List.drop_zero] at hv
  rw [List.getElem?_take] at hv
  split at hv
  · exact hv
  · cases hv
set_option maxHeartbeats 2000000 in
theorem rArchiveValue_any {a : Option Addr} {n c : Nat} {x : Abt} {l : List Prt} {w : World} (hn : n = l.length) (hr : Row w a (l.map prtC).flatten) (hok : ∀ p ∈ l, PrtOk p) (hx : AbtOk x) (hl : l.length ≤ 1000) :
    Calls Try.prog 37 #[.agg (List.toArray (abtC x)), .slice a n c] w fun e w' => ∃ cs, e = .returned (.agg (List.toArray cs)) ∧ VAtP (fun b => w.heap.size ≤ b) w' cs (archV x l) ∧ Below w.heap.size w w' := by
  subst hn
  have zs := zV_size
  have hO6 := oneC6
  have x1 : (List.toArray (abtC x)).size = 37 := by simpa using abtC_len hx
  have x2 : OneC (List.toArray (abtC x)) := all_oneCell_toArray (abtC_one x)
  have hall0 : Hid (∀ W, W = (w.alloc (.cells (List.toArray (abtC x)) 31)).alloc (.cells zV 63) → Blk W w.heap.size 31 (abtC x) ∧ Blk W (w.heap.size + 1) 63 zV.toList ∧ Below w.heap.size w W) := by
    rintro W rfl
    refine ⟨(Blk.new w 31 _).alloc _, ?_, ((Below.refl _ _).alloc (Nat.le_refl _) _).alloc (by simp) _⟩
    have := Blk.new (w.alloc (.cells (List.toArray (abtC x)) 31)) 63 zV
    simpa using this
  have HX := Lib.hid hx
  have HL := Lib.hid hl
  have HOK := Lib.hid hok
  have HRow := Lib.hid hr
  clear hx hl hok hr
  go_enter Try.func37, Try.ntmps37
  go_upto_region 1 with (fail)
  generalize hW0 : (w.alloc (.cells (List.toArray (abtC x)) 31)).alloc (.cells zV 63) = W0 at *
  obtain ⟨f1, f2, f3⟩ := hall0.out W0 rfl
  have F1 := Lib.hid f1
  have F2 := Lib.hid f2
  have F3 := Lib.hid f3
  clear hall0 hW0 f1 f2 f3
  go_wp2
  go_loopw [5, 6] (fun u i wr => ∃ j : Nat, j ≤ l.length ∧ i = .int .i64 j ∧ Hid (VsAt (fun b => w.heap.size + 2 ≤ b ∧ u.ownBlock ≠ some b) (w.heap.size + 2) wr u ((l.take j).map prtV)) ∧ Hid (Below w.heap.size w wr) ∧ Hid (Blk wr w.heap.size 31 (abtC x)) ∧ Hid (Blk wr (w.heap.size + 1) 63 zV.toList)) (fun _ i _ => l.length - (intOf i).toNat)
  case atStart => exact ⟨0, Nat.zero_le _, rfl, Lib.hid (VsAt.nil _ _ _), F3, F1, F2⟩
  case round =>
    obtain ⟨j, hj, rfl, hVs, hb, hXB, hR⟩ := hrel
    have j0 : (0 : Int) ≤ (j : Int) := by omega
    have jb : IntKind.i64.wrap ((j : Int) + 1) = (j : Int) + 1 := IntWalk.i64_in _ (by have := HL.out; omega)
    obtain ⟨vs, hvs⟩ : ∃ vs, vs = (l.take j).map prtV := ⟨_, rfl⟩
    rw [← hvs] at hVs
    obtain ⟨au, cu, rfl⟩ : ∃ au cu, u5 = .slice au vs.length cu := by
      obtain ⟨css, c1, c2, hO, _⟩ := hVs.out
      obtain ⟨a', c', h1, _⟩ := owns_rowN hO (by decide)
      exact ⟨a', c', h1⟩
    clear F1 F2 F3
    have hbase : w.heap.size + 2 ≤ wr.heap.size := hR.out.lt
    by_cases hlt : j < l.length
    · have j1 : (j : Int) < (l.length : Int) := by omega
      have hpo := HOK.out _ (List.getElem_mem hlt)
      have s1 := HRow.out.elemSome (s := 33) (prts33 HOK.out) (by decide) (i := j) (by simpa using hlt)
      have hT : Hid ((l.take (j + 1)).map prtV = vs ++ [prtV l[j]]) := by
        show _ = _
        rw [List.take_succ_eq_append_getElem hlt, List.map_append, hvs]; rfl
      have hxt : ∀ w', Below w.heap.size w w' → (ldOp 29 (.pointer (some ((hd a).add (j * 33))))).run Try.prog w' = .ok (.agg (List.toArray (l[j].id.map b8))) w' ∧ w'.cell? ⟨((hd a).add (j * 33)).block, ((hd a).add (j * 33)).off + 32, none⟩ = some (.int .i64 l[j].size) := fun w' h => by
        have hr2 := HRow.out.below h
        exact ⟨prt_ldID hr2 HOK.out hlt, cell_fld (prt_cell hr2 HOK.out hlt (prtC_32 hpo))⟩
      generalize l[j] = p at *
      have hvl : Hid (vs.length ≤ 1000000000) := by
        have h1 := HL.out
        have h2 : vs.length ≤ l.length := by rw [hvs, List.length_map, List.length_take]; omega
        show _ ≤ _
        omega
      clear hvs
      go_upto_region 5 with (fail)
      have hSm : ∀ (L : Array Bool) (w1 w2 : World), Below w.heap.size w w1 → Mo w1 w2 → Below w.heap.size w w2 := fun L w1 w2 h hm => h.trans (hm.mono h.size)
      have hSi : ∀ i, i ≠ 99 → ∀ (L : Array Bool) (w1 : World), Below w.heap.size w w1 ↔ Below w.heap.size w w1 := fun _ _ _ _ => Iff.rfl
      have hS0 : Below w.heap.size w (wr.drewN 1) := Below.drewN hb.out 1
      have hSw : ∀ w', Mo (wr.drewN 1) w' → Below w.heap.size w w' := fun w' hm => hSm #[] _ _ hS0 hm
      refine wp_region_upN (S := fun _ w1 => Below w.heap.size w w1) 18 rfl (by kernel_rfl) ?_
      refine wpAnyU_take (i := 0) (A := fun _ => True) (v := .slice au vs.length cu) (a' := ⟨#[.agg (List.toArray (abtC x)), .slice a l.length c, .pointer (some ⟨w.heap.size, 0, none⟩), undef, .pointer (some ⟨w.heap.size + 1, 0, none⟩), .slice au vs.length cu, .int .i64 (j : Int), .int .i64 (j : Int), .slice a l.length c, .int .i64 (l.length : Int), .bool true, u11, u12, .slice au vs.length cu, u14, u15, u16, u17, u18, u19, u20, u21, u22, u23, u24, u25, u26, u27, u28, u29, undef, undef, undef, undef, undef, undef, undef, undef, undef, undef, undef, undef, undef, undef, undef, undef, undef, undef, undef, undef], []⟩) hSm (hSi 0 (by decide)) (fun _ _ _ => trivial) rfl (by kernel_rfl) (by kernel_rfl) (by kernel_rfl) (fun _ _ _ h => h) hS0 (Tame.val rfl (fun w' hA => by go_simp)) rfl ?_
      refine wpAnyU_take (i := 1) (A := fun _ => True) (v := .slice a l.length c) (a' := ⟨#[.agg (List.toArray (abtC x)), .slice a l.length c, .pointer (some ⟨w.heap.size, 0, none⟩), undef, .pointer (some ⟨w.heap.size + 1, 0, none⟩), .slice au vs.length cu, .int .i64 (j : Int), .int .i64 (j : Int), .slice a l.length c, .int .i64 (l.length : Int), .bool true, u11, u12, .slice au vs.length cu, .slice a l.length c, u15, u16, u17, u18, u19, u20, u21, u22, u23, u24, u25, u26, u27, u28, u29, undef, undef, undef, undef, undef, undef, undef, undef, undef, undef, undef, undef, undef, undef, undef, undef, undef, undef, undef, undef], []⟩) hSm (hSi 1 (by decide)) (fun _ _ _ => trivial) rfl (by kernel_rfl) (by kernel_rfl) (by kernel_rfl) (fun _ _ _ h => h) hS0 (Tame.val rfl (fun w' hA => by go_simp)) rfl ?_
      refine wpAnyU_take (i := 2) (A := fun _ => True) (v := .int .i64 (j : Int)) (a' := ⟨#[.agg (List.toArray (abtC x)), .slice a l.length c, .pointer (some ⟨w.heap.size, 0, none⟩), undef, .pointer (some ⟨w.heap.size + 1, 0, none⟩), .slice au vs.length cu, .int .i64 (j : Int), .int .i64 (j : Int), .slice a l.length c, .int .i64 (l.length : Int), .bool true, u11, u12, .slice au vs.length cu, .slice a l.length c, .int .i64 (j : Int), u16, u17, u18, u19, u20, u21, u22, u23, u24, u25, u26, u27, u28, u29, undef, undef, undef, undef, undef, undef, undef, undef, undef, undef, undef, undef, undef, undef, undef, undef, undef, undef, undef, undef], []⟩) hSm (hSi 2 (by decide)) (fun _ _ _ => trivial) rfl (by kernel_rfl) (by kernel_rfl) (by kernel_rfl) (fun _ _ _ h => h) hS0 (Tame.val rfl (fun w' hA => by go_simp)) rfl ?_
      refine wpAnyU_take (i := 3) (A := fun _ => True) (v := .pointer (some ((hd a).add (j * 33)))) (a' := ⟨#[.agg (List.toArray (abtC x)), .slice a l.length c, .pointer (some ⟨w.heap.size, 0, none⟩), undef, .pointer (some ⟨w.heap.size + 1, 0, none⟩), .slice au vs.length cu, .int .i64 (j : Int), .int .i64 (j : Int), .slice a l.length c, .int .i64 (l.length : Int), .bool true, u11, u12, .slice au vs.length cu, .slice a l.length c, .int .i64 (j : Int), .pointer (some ((hd a).add (j * 33))), u17, u18, u19, u20, u21, u22, u23, u24, u25, u26, u27, u28, u29, undef, undef, undef, undef, undef, undef, undef, undef, undef, undef, undef, undef, undef, undef, undef, undef, undef, undef, undef, undef], []⟩) hSm (hSi 3 (by decide)) (fun _ _ _ => trivial) rfl (by kernel_rfl) (by kernel_rfl) (by kernel_rfl) (fun _ _ _ h => h) hS0 (Tame.val rfl (fun w' hA => by go_simp)) rfl ?_
      refine wpAnyU_take (i := 4) (A := fun _ => True) (v := .pointer (some ((hd a).add (j * 33)))) (a' := ⟨#[.agg (List.toArray (abtC x)), .slice a l.length c, .pointer (some ⟨w.heap.size, 0, none⟩), undef, .pointer (some ⟨w.heap.size + 1, 0, none⟩), .slice au vs.length cu, .int .i64 (j : Int), .int .i64 (j : Int), .slice a l.length c, .int .i64 (l.length : Int), .bool true, u11, u12, .slice au vs.length cu, .slice a l.length c, .int .i64 (j : Int), .pointer (some ((hd a).add (j * 33))), .pointer (some ((hd a).add (j * 33))), u18, u19, u20, u21, u22, u23, u24, u25, u26, u27, u28, u29, undef, undef, undef, undef, undef, undef, undef, undef, undef, undef, undef, undef, undef, undef, undef, undef, undef, undef, undef, undef], []⟩) hSm (hSi 4 (by decide)) (fun _ _ _ => trivial) rfl (by kernel_rfl) (by kernel_rfl) (by kernel_rfl) (fun _ _ _ h => h) hS0 (Tame.val rfl (fun w' hA => by go_simp)) rfl ?_
      refine wpAnyU_take (i := 5) (A := fun w1 => Below w.heap.size w w1) (v := .agg (List.toArray (p.id.map b8))) (a' := ⟨#[.agg (List.toArray (abtC x)), .slice a l.length c, .pointer (some ⟨w.heap.size, 0, none⟩), undef, .pointer (some ⟨w.heap.size + 1, 0, none⟩), .slice au vs.length cu, .int .i64 (j : Int), .int .i64 (j : Int), .slice a l.length c, .int .i64 (l.length : Int), .bool true, u11, u12, .slice au vs.length cu, .slice a l.length c, .int .i64 (j : Int), .pointer (some ((hd a).add (j * 33))), .pointer (some ((hd a).add (j * 33))), .agg (List.toArray (p.id.map b8)), u19, u20, u21, u22, u23, u24, u25, u26, u27, u28, u29, undef, undef, undef, undef, undef, undef, undef, undef, undef, undef, undef, undef, undef, undef, undef, undef, undef, undef, undef, undef], []⟩) hSm (hSi 5 (by decide)) (fun _ _ h => h) rfl (by kernel_rfl) (by kernel_rfl) (by kernel_rfl) (fun _ _ _ h => h) hS0 (Tame.val rfl (fun w' hA => run_ldOp (hxt _ hA).1)) rfl ?_
      refine wpAnyU_take (i := 7) (A := fun _ => True) (v := .slice a l.length c) (a' := ⟨#[.agg (List.toArray (abtC x)), .slice a l.length c, .pointer (some ⟨w.heap.size, 0, none⟩), undef, .pointer (some ⟨w.heap.size + 1, 0, none⟩), .slice au vs.length cu, .int .i64 (j : Int), .int .i64 (j : Int), .slice a l.length c, .int .i64 (l.length : Int), .bool true, u11, u12, .slice au vs.length cu, .slice a l.length c, .int .i64 (j : Int), .pointer (some ((hd a).add (j * 33))), .pointer (some ((hd a).add (j * 33))), .agg (List.toArray (p.id.map b8)), u19, .slice a l.length c, u21, u22, u23, u24, u25, u26, u27, u28, u29, undef, undef, undef, undef, undef, undef, undef, undef, undef, undef, undef, undef, undef, undef, undef, undef, undef, undef, undef, undef], []⟩) hSm (hSi 7 (by decide)) (fun _ _ _ => trivial) rfl (by kernel_rfl) (by kernel_rfl) (by kernel_rfl) (fun _ _ _ h => h) hS0 (Tame.val rfl (fun w' hA => by go_simp)) rfl ?_
      refine wpAnyU_take (i := 8) (A := fun _ => True) (v := .int .i64 (j : Int)) (a' := ⟨#[.agg (List.toArray (abtC x)), .slice a l.length c, .pointer (some ⟨w.heap.size, 0, none⟩), undef, .pointer (some ⟨w.heap.size + 1, 0, none⟩), .slice au vs.length cu, .int .i64 (j : Int), .int .i64 (j : Int), .slice a l.length c, .int .i64 (l.length : Int), .bool true, u11, u12, .slice au vs.length cu, .slice a l.length c, .int .i64 (j : Int), .pointer (some ((hd a).add (j * 33))), .pointer (some ((hd a).add (j * 33))), .agg (List.toArray (p.id.map b8)), u19, .slice a l.length c, .int .i64 (j : Int), u22, u23, u24, u25, u26, u27, u28, u29, undef, undef, undef, undef, undef, undef, undef, undef, undef, undef, undef, undef, undef, undef, undef, undef, undef, undef, undef, undef], []⟩) hSm (hSi 8 (by decide)) (fun _ _ _ => trivial) rfl (by kernel_rfl) (by kernel_rfl) (by kernel_rfl) (fun _ _ _ h => h) hS0 (Tame.val rfl (fun w' hA => by go_simp)) rfl ?_
      refine wpAnyU_take (i := 9) (A := fun _ => True) (v := .pointer (some ((hd a).add (j * 33)))) (a' := ⟨#[.agg (List.toArray (abtC x)), .slice a l.length c, .pointer (some ⟨w.heap.size, 0, none⟩), undef, .pointer (some ⟨w.heap.size + 1, 0, none⟩), .slice au vs.length cu, .int .i64 (j : Int), .int .i64 (j : Int), .slice a l.length c, .int .i64 (l.length : Int), .bool true, u11, u12, .slice au vs.length cu, .slice a l.length c, .int .i64 (j : Int), .pointer (some ((hd a).add (j * 33))), .pointer (some ((hd a).add (j * 33))), .agg (List.toArray (p.id.map b8)), u19, .slice a l.length c, .int .i64 (j : Int), .pointer (some ((hd a).add (j * 33))), u23, u24, u25, u26, u27, u28, u29, undef, undef, undef, undef, undef, undef, undef, undef, undef, undef, undef, undef, undef, undef, undef, undef, undef, undef, undef, undef], []⟩) hSm (hSi 9 (by decide)) (fun _ _ _ => trivial) rfl (by kernel_rfl) (by kernel_rfl) (by kernel_rfl) (fun _ _ _ h => h) hS0 (Tame.val rfl (fun w' hA => by go_simp)) rfl ?_
      refine wpAnyU_take (i := 10) (A := fun _ => True) (v := .pointer (some ⟨((hd a).add (j * 33)).block, ((hd a).add (j * 33)).off + 32, none⟩)) (a' := ⟨#[.agg (List.toArray (abtC x)), .slice a l.length c, .pointer (some ⟨w.heap.size, 0, none⟩), undef, .pointer (some ⟨w.heap.size + 1, 0, none⟩), .slice au vs.length cu, .int .i64 (j : Int), .int .i64 (j : Int), .slice a l.length c, .int .i64 (l.length : Int), .bool true, u11, u12, .slice au vs.length cu, .slice a l.length c, .int .i64 (j : Int), .pointer (some ((hd a).add (j * 33))), .pointer (some ((hd a).add (j * 33))), .agg (List.toArray (p.id.map b8)), u19, .slice a l.length c, .int .i64 (j : Int), .pointer (some ((hd a).add (j * 33))), .pointer (some ⟨((hd a).add (j * 33)).block, ((hd a).add (j * 33)).off + 32, none⟩), u24, u25, u26, u27, u28, u29, undef, undef, undef, undef, undef, undef, undef, undef, undef, undef, undef, undef, undef, undef, undef, undef, undef, undef, undef, undef], []⟩) hSm (hSi 10 (by decide)) (fun _ _ _ => trivial) rfl (by kernel_rfl) (by kernel_rfl) (by kernel_rfl) (fun _ _ _ h => h) hS0 (Tame.val rfl (fun w' hA => by go_simp)) rfl ?_
      refine wpAnyU_take (i := 11) (A := fun w1 => Below w.heap.size w w1) (v := .int .i64 p.size) (a' := ⟨#[.agg (List.toArray (abtC x)), .slice a l.length c, .pointer (some ⟨w.heap.size, 0, none⟩), undef, .pointer (some ⟨w.heap.size + 1, 0, none⟩), .slice au vs.length cu, .int .i64 (j : Int), .int .i64 (j : Int), .slice a l.length c, .int .i64 (l.length : Int), .bool true, u11, u12, .slice au vs.length cu, .slice a l.length c, .int .i64 (j : Int), .pointer (some ((hd a).add (j * 33))), .pointer (some ((hd a).add (j * 33))), .agg (List.toArray (p.id.map b8)), u19, .slice a l.length c, .int .i64 (j : Int), .pointer (some ((hd a).add (j * 33))), .pointer (some ⟨((hd a).add (j * 33)).block, ((hd a).add (j * 33)).off + 32, none⟩), .int .i64 p.size, u25, u26, u27, u28, u29, undef, undef, undef, undef, undef, undef, undef, undef, undef, undef, undef, undef, undef, undef, undef, undef, undef, undef, undef, undef], []⟩) hSm (hSi 11 (by decide)) (fun _ _ h => h) rfl (by kernel_rfl) (by kernel_rfl) (by kernel_rfl) (fun _ _ _ h => h) hS0 (Tame.val rfl (fun w' hA => by have h1 := (hxt _ hA).2; go_simp)) rfl ?_
      refine wpAnyU_all (rs := [6]) (by kernel_rfl) (by decide) ?_
      intro w2 hm2 i hi
      obtain rfl : i = 6 := by simpa using hi
      refine wpOp_enter (f := 59) (args := #[.agg (List.toArray (p.id.map b8))]) rfl rfl (by go_simp) ((rid_any p.id w2 hpo.id).mono ?_)
      rintro e w3 ⟨ab, cb, rfl, hrb, hcb1, hcb2, hab, hb3⟩
      refine ⟨_, rfl, ?_⟩
      show _ ∧ wpAnyU _ _ _ _ _ _ _ (⟨#[.agg (List.toArray (abtC x)), .slice a l.length c, .pointer (some ⟨w.heap.size, 0, none⟩), undef, .pointer (some ⟨w.heap.size + 1, 0, none⟩), .slice au vs.length cu, .int .i64 (j : Int), .int .i64 (j : Int), .slice a l.length c, .int .i64 (l.length : Int), .bool true, u11, u12, .slice au vs.length cu, .slice a l.length c, .int .i64 (j : Int), .pointer (some ((hd a).add (j * 33))), .pointer (some ((hd a).add (j * 33))), .agg (List.toArray (p.id.map b8)), .agg (List.toArray (bytC (.slice ab 32 cb))), .slice a l.length c, .int .i64 (j : Int), .pointer (some ((hd a).add (j * 33))), .pointer (some ⟨((hd a).add (j * 33)).block, ((hd a).add (j * 33)).off + 32, none⟩), .int .i64 p.size, u25, u26, u27, u28, u29, undef, undef, undef, undef, undef, undef, undef, undef, undef, undef, undef, undef, undef, undef, undef, undef, undef, undef, undef, undef], []⟩ : Act) _
      have hm3 : Mo (wr.drewN 1) w3 := Mo.trans hm2 hb3
      refine ⟨hSw _ hm3, ?_⟩
      refine wpAnyU_take (i := 12) (A := fun _ => True) (v := .agg (List.toArray (numC p.size))) (a' := ⟨#[.agg (List.toArray (abtC x)), .slice a l.length c, .pointer (some ⟨w.heap.size, 0, none⟩), undef, .pointer (some ⟨w.heap.size + 1, 0, none⟩), .slice au vs.length cu, .int .i64 (j : Int), .int .i64 (j : Int), .slice a l.length c, .int .i64 (l.length : Int), .bool true, u11, u12, .slice au vs.length cu, .slice a l.length c, .int .i64 (j : Int), .pointer (some ((hd a).add (j * 33))), .pointer (some ((hd a).add (j * 33))), .agg (List.toArray (p.id.map b8)), .agg (List.toArray (bytC (.slice ab 32 cb))), .slice a l.length c, .int .i64 (j : Int), .pointer (some ((hd a).add (j * 33))), .pointer (some ⟨((hd a).add (j * 33)).block, ((hd a).add (j * 33)).off + 32, none⟩), .int .i64 p.size, .agg (List.toArray (numC p.size)), u26, u27, u28, u29, undef, undef, undef, undef, undef, undef, undef, undef, undef, undef, undef, undef, undef, undef, undef, undef, undef, undef, undef, undef], []⟩) hSm (hSi 12 (by decide)) (fun _ _ _ => trivial) rfl (by kernel_rfl) (by kernel_rfl) (by kernel_rfl) (fun _ _ _ h => h) (hSw _ hm3) (Tame.enter rfl (fun w' => by go_simp) (fun w' _ => rnum_any p.size w')) rfl ?_
      refine wpAnyU_all (rs := [13]) (by kernel_rfl) (by decide) ?_
      intro w4 hm4 i hi
      obtain rfl : i = 13 := by simpa using hi
      refine wpOp_val (v := .slice (some ⟨w4.heap.size, 0, none⟩) 2 2) (w' := w4.alloc (.cells (List.toArray (List.flatten [bytC (.slice ab 32 cb), numC p.size])) 63)) (a' := ⟨#[.agg (List.toArray (abtC x)), .slice a l.length c, .pointer (some ⟨w.heap.size, 0, none⟩), undef, .pointer (some ⟨w.heap.size + 1, 0, none⟩), .slice au vs.length cu, .int .i64 (j : Int), .int .i64 (j : Int), .slice a l.length c, .int .i64 (l.length : Int), .bool true, u11, u12, .slice au vs.length cu, .slice a l.length c, .int .i64 (j : Int), .pointer (some ((hd a).add (j * 33))), .pointer (some ((hd a).add (j * 33))), .agg (List.toArray (p.id.map b8)), .agg (List.toArray (bytC (.slice ab 32 cb))), .slice a l.length c, .int .i64 (j : Int), .pointer (some ((hd a).add (j * 33))), .pointer (some ⟨((hd a).add (j * 33)).block, ((hd a).add (j * 33)).off + 32, none⟩), .int .i64 p.size, .agg (List.toArray (numC p.size)), .slice (some ⟨w4.heap.size, 0, none⟩) 2 2, u27, u28, u29, undef, undef, undef, undef, undef, undef, undef, undef, undef, undef, undef, undef, undef, undef, undef, undef, undef, undef, undef, undef], []⟩) rfl rfl (run_bsOp (vals := #[(0, .agg (List.toArray (bytC (.slice ab 32 cb)))), (1, .agg (List.toArray (numC p.size)))]) (by first | rfl | go_simp | simp [Act.eval]) (bsOp_rows (vs := [bytC (.slice ab 32 cb), numC p.size]) Try.underlying61 infoV (by decide) rfl (by decide) (by decide) (by exact zV_size) (by simp [bytC, numC]) rfl)) rfl ?_
      have hm5 : Mo w4 (w4.alloc (.cells (List.toArray (List.flatten [bytC (.slice ab 32 cb), numC p.size])) 63)) := (Below.refl _ _).alloc (Nat.le_refl _) _
      have hm35 := Mo.trans (Mo.trans hm3 hm4) hm5
      have hB5 : Blk (w4.alloc (.cells (List.toArray (List.flatten [bytC (.slice ab 32 cb), numC p.size])) 63)) w4.heap.size 63 (List.flatten [bytC (.slice ab 32 cb), numC p.size]) := Blk.new _ _ _
      have hg4 : wr.heap.size ≤ w4.heap.size := (Mo.trans hm3 hm4).size
      have hrb5 := hrb.below (Mo.trans hm4 hm5)
      refine ⟨hSw _ hm35, ?_⟩
      generalize hgg : w4.heap.size = g at *
      generalize hw5 : w4.alloc (.cells (List.toArray (List.flatten [bytC (.slice ab 32 cb), numC p.size])) 63) = w5 at *
      clear hw5 hm4 hm5
      refine wpAnyU_take (i := 14) (A := fun _ => True) (v := .agg #[.int .i64 6, .int .i64 0, .slice none 0 0, .string { data := #[] }, .slice none 0 0, .slice (some ⟨g, 0, none⟩) 2 2]) (a' := ⟨#[.agg (List.toArray (abtC x)), .slice a l.length c, .pointer (some ⟨w.heap.size, 0, none⟩), undef, .pointer (some ⟨w.heap.size + 1, 0, none⟩), .slice au vs.length cu, .int .i64 (j : Int), .int .i64 (j : Int), .slice a l.length c, .int .i64 (l.length : Int), .bool true, u11, u12, .slice au vs.length cu, .slice a l.length c, .int .i64 (j : Int), .pointer (some ((hd a).add (j * 33))), .pointer (some ((hd a).add (j * 33))), .agg (List.toArray (p.id.map b8)), .agg (List.toArray (bytC (.slice ab 32 cb))), .slice a l.length c, .int .i64 (j : Int), .pointer (some ((hd a).add (j * 33))), .pointer (some ⟨((hd a).add (j * 33)).block, ((hd a).add (j * 33)).off + 32, none⟩), .int .i64 p.size, .agg (List.toArray (numC p.size)), .slice (some ⟨g, 0, none⟩) 2 2, .agg #[.int .i64 6, .int .i64 0, .slice none 0 0, .string { data := #[] }, .slice none 0 0, .slice (some ⟨g, 0, none⟩) 2 2], u28, u29, undef, undef, undef, undef, undef, undef, undef, undef, undef, undef, undef, undef, undef, undef, undef, undef, undef, undef, undef, undef], []⟩) hSm (hSi 14 (by decide)) (fun _ _ _ => trivial) rfl (by kernel_rfl) (by kernel_rfl) (by kernel_rfl) (fun _ _ _ h => h) (hSw _ hm35) (Tame.val rfl (fun w' hA => by go_simp)) rfl ?_
      refine wpAnyU_all (rs := [15]) (by kernel_rfl) (by decide) ?_
      intro w6 hm6 i hi
      obtain rfl : i = 15 := by simpa using hi
      refine wpOp_val (v := .slice (some ⟨w6.heap.size, 0, none⟩) 1 1) (w' := w6.alloc (.cells (List.toArray (lstC (.slice (some ⟨g, 0, none⟩) 2 2))) 63)) (a' := ⟨#[.agg (List.toArray (abtC x)), .slice a l.length c, .pointer (some ⟨w.heap.size, 0, none⟩), undef, .pointer (some ⟨w.heap.size + 1, 0, none⟩), .slice au vs.length cu, .int .i64 (j : Int), .int .i64 (j : Int), .slice a l.length c, .int .i64 (l.length : Int), .bool true, u11, u12, .slice au vs.length cu, .slice a l.length c, .int .i64 (j : Int), .pointer (some ((hd a).add (j * 33))), .pointer (some ((hd a).add (j * 33))), .agg (List.toArray (p.id.map b8)), .agg (List.toArray (bytC (.slice ab 32 cb))), .slice a l.length c, .int .i64 (j : Int), .pointer (some ((hd a).add (j * 33))), .pointer (some ⟨((hd a).add (j * 33)).block, ((hd a).add (j * 33)).off + 32, none⟩), .int .i64 p.size, .agg (List.toArray (numC p.size)), .slice (some ⟨g, 0, none⟩) 2 2, .agg #[.int .i64 6, .int .i64 0, .slice none 0 0, .string { data := #[] }, .slice none 0 0, .slice (some ⟨g, 0, none⟩) 2 2], .slice (some ⟨w6.heap.size, 0, none⟩) 1 1, u29, undef, undef, undef, undef, undef, undef, undef, undef, undef, undef, undef, undef, undef, undef, undef, undef, undef, undef, undef, undef], []⟩) rfl rfl (run_bsOp (vals := #[(0, .agg #[.int .i64 6, .int .i64 0, .slice none 0 0, .string { data := #[] }, .slice none 0 0, .slice (some ⟨g, 0, none⟩) 2 2])]) (by first | rfl | go_simp | simp [Act.eval]) (bsOp_one (cs := List.toArray (lstC (.slice (some ⟨g, 0, none⟩) 2 2))) Try.underlying61 infoV (by decide) (by decide) (by exact zV_size) rfl)) rfl ?_
      have hm7 : Mo w6 (w6.alloc (.cells (List.toArray (lstC (.slice (some ⟨g, 0, none⟩) 2 2))) 63)) := (Below.refl _ _).alloc (Nat.le_refl _) _
      have hB7 : Blk (w6.alloc (.cells (List.toArray (lstC (.slice (some ⟨g, 0, none⟩) 2 2))) 63)) w6.heap.size 63 (lstC (.slice (some ⟨g, 0, none⟩) 2 2)) := Blk.new _ _ _
      have hm37 := Mo.trans (Mo.trans hm35 hm6) hm7
      have hm57 := Mo.trans hm6 hm7
      refine ⟨hSw _ hm37, ?_⟩
      generalize hgg2 : w6.heap.size = g2 at *
      generalize hw7 : w6.alloc (.cells (List.toArray (lstC (.slice (some ⟨g, 0, none⟩) 2 2))) 63) = w7 at *
      clear hw7 hm6 hm7
      refine wpAnyU_all (rs := [16]) (by kernel_rfl) (by decide) ?_
      intro w8 hm8 i hi
      obtain rfl : i = 16 := by simpa using hi
      have hm38 := Mo.trans hm37 hm8
      have hVs8 : VsAt (fun b => w.heap.size + 2 ≤ b ∧ (Value.slice au vs.length cu).ownBlock ≠ some b) (w.heap.size + 2) w8 (.slice au vs.length cu) vs :=
        hVs.out.same (show (wr.drewN 1).heap.size ≤ _ from Mo.size' hm38) (fun b hb => hm38.block b (by obtain ⟨_, _, _, hO, _⟩ := hVs.out; exact (World.ownsRow.lt hO b hb).2)) (fun b hb hlt => ⟨hm38.block b hlt, hb⟩)
      have hown : ∀ b, (Value.slice au vs.length cu).ownBlock = some b → w.heap.size + 2 ≤ b ∧ b < wr.heap.size := fun b hb => by
        obtain ⟨_, _, _, hO, _⟩ := hVs.out
        exact World.ownsRow.lt hO b hb
      have hxV : VAtP (fun b => w.heap.size + 2 ≤ b ∧ (Value.slice au vs.length cu).ownBlock ≠ some b) w8 (lstC (.slice (some ⟨g, 0, none⟩) 2 2)) (prtV p) := by
        have hB8 := hB5.below (Mo.trans hm57 hm8)
        have hrb8 := hrb5.below (Mo.trans hm57 hm8)
        have fresh : ∀ b, wr.heap.size ≤ b → w.heap.size + 2 ≤ b ∧ (Value.slice au vs.length cu).ownBlock ≠ some b := fun b hbb => ⟨by omega, fun e => by have := (hown b e).2; omega⟩
        refine VAtP.lst (css := [bytC (.slice ab 32 cb), numC p.size]) (l := [pByt p.id, pNum p.size]) hB8.row (by simp) (by unfold maxLen; simp) rfl (by simp [bytC, numC]) (fun _ => fresh g (by omega)) ?_
        intro i c v hc hv
        match i with
        | 0 =>
          simp at hc hv; subst hc hv
          have := VAtP.byt (ok := (fun b => w.heap.size + 2 ≤ b ∧ (Value.slice au vs.length cu).ownBlock ≠ some b)) (c := cb) hrb8 (by rw [hpo.id]; exact hcb1) hcb2 (fun _ => fresh _ (by have := hm2.size; have e : (wr.drewN 1).heap.size = wr.heap.size := rfl; omega))
          rwa [hpo.id] at this
        | 1 => simp at hc hv; subst hc hv; exact VAtP.numb w8 hpo.size
        | i + 2 => simp at hc
      have hr8 : Row w8 (some ⟨g2, 0, none⟩) (lstC (.slice (some ⟨g, 0, none⟩) 2 2)) := (hB7.below hm8).row
      obtain ⟨a', c', w9, hrun, hVs9, hG9⟩ := VsAt.appR (ty := 61) (c2 := 1) (ok' := fun z => (w.heap.size + 2 ≤ z ∧ (Value.slice au vs.length cu).ownBlock ≠ some z) ∧ z < w8.heap.size) hVs8 (fun z hz => hz.2) hxV (fun z hz hlt => ⟨hz, hlt⟩) hvl.out (Nat.le_trans hbase (show (wr.drewN 1).heap.size ≤ _ from Mo.size' hm38)) hr8
      have hb8 := hSw _ hm38
      have hb9 : Below w.heap.size w w9 := hb8.trans (hG9.below (base := w.heap.size + 2) (fun k hk => (hown k hk).1) (by omega) hb8.size)
      refine wpOp_val (v := .slice a' (vs.length + 1) c') (w' := w9) (a' := ⟨#[.agg (List.toArray (abtC x)), .slice a l.length c, .pointer (some ⟨w.heap.size, 0, none⟩), undef, .pointer (some ⟨w.heap.size + 1, 0, none⟩), .slice au vs.length cu, .int .i64 (j : Int), .int .i64 (j : Int), .slice a l.length c, .int .i64 (l.length : Int), .bool true, u11, u12, .slice au vs.length cu, .slice a l.length c, .int .i64 (j : Int), .pointer (some ((hd a).add (j * 33))), .pointer (some ((hd a).add (j * 33))), .agg (List.toArray (p.id.map b8)), .agg (List.toArray (bytC (.slice ab 32 cb))), .slice a l.length c, .int .i64 (j : Int), .pointer (some ((hd a).add (j * 33))), .pointer (some ⟨((hd a).add (j * 33)).block, ((hd a).add (j * 33)).off + 32, none⟩), .int .i64 p.size, .agg (List.toArray (numC p.size)), .slice (some ⟨g, 0, none⟩) 2 2, .agg #[.int .i64 6, .int .i64 0, .slice none 0 0, .string { data := #[] }, .slice none 0 0, .slice (some ⟨g, 0, none⟩) 2 2], .slice (some ⟨g2, 0, none⟩) 1 1, .slice a' (vs.length + 1) c', undef, undef, undef, undef, undef, undef, undef, undef, undef, undef, undef, undef, undef, undef, undef, undef, undef, undef, undef, undef], []⟩) rfl rfl (run_append hrun rfl rfl rfl) rfl ?_
      refine ⟨hb9, ?_⟩
      refine wpAnyU_take (i := 17) (A := fun _ => True) (v := .slice a' (vs.length + 1) c') (a' := ⟨#[.agg (List.toArray (abtC x)), .slice a l.length c, .pointer (some ⟨w.heap.size, 0, none⟩), undef, .pointer (some ⟨w.heap.size + 1, 0, none⟩), .slice a' (vs.length + 1) c', .int .i64 (j : Int), .int .i64 (j : Int), .slice a l.length c, .int .i64 (l.length : Int), .bool true, u11, u12, .slice au vs.length cu, .slice a l.length c, .int .i64 (j : Int), .pointer (some ((hd a).add (j * 33))), .pointer (some ((hd a).add (j * 33))), .agg (List.toArray (p.id.map b8)), .agg (List.toArray (bytC (.slice ab 32 cb))), .slice a l.length c, .int .i64 (j : Int), .pointer (some ((hd a).add (j * 33))), .pointer (some ⟨((hd a).add (j * 33)).block, ((hd a).add (j * 33)).off + 32, none⟩), .int .i64 p.size, .agg (List.toArray (numC p.size)), .slice (some ⟨g, 0, none⟩) 2 2, .agg #[.int .i64 6, .int .i64 0, .slice none 0 0, .string { data := #[] }, .slice none 0 0, .slice (some ⟨g, 0, none⟩) 2 2], .slice (some ⟨g2, 0, none⟩) 1 1, .slice a' (vs.length + 1) c', undef, undef, undef, undef, undef, undef, undef, undef, undef, undef, undef, undef, undef, undef, undef, undef, undef, undef, undef, undef], []⟩) hSm (hSi 17 (by decide)) (fun _ _ _ => trivial) rfl (by kernel_rfl) (by kernel_rfl) (by kernel_rfl) (fun _ _ _ h => h) hb9 (Tame.val rfl (fun w' hA => by go_simp)) rfl ?_
      refine wpAnyU_done (by kernel_rfl) ?_ _
      intro w12 hm12
      have hb12 := Lib.hid (hb9.trans (hm12.mono hb9.size))
      have hR8 : Blk w8 (w.heap.size + 1) 63 zV.toList := (show Blk (wr.drewN 1) (w.heap.size + 1) 63 zV.toList from hR.out).below hm38
      have hR9 := (hG9.blk hR8 (fun e => by have := (hown _ e).1; omega)).1
      have hX8 : Blk w8 w.heap.size 31 (abtC x) := (show Blk (wr.drewN 1) w.heap.size 31 (abtC x) from hXB.out).below hm38
      have hX9 := (hG9.blk hX8 (fun e => by have := (hown _ e).1; omega)).1
      have hR12 := Lib.hid (hR9.below hm12)
      have hX12 := Lib.hid (hX9.below hm12)
      have hVs12 : Hid (VsAt (fun b => w.heap.size + 2 ≤ b ∧ (Value.slice a' (vs.length + 1) c').ownBlock ≠ some b) (w.heap.size + 2) w12 (.slice a' (vs.length + 1) c') ((l.take (j + 1)).map prtV)) := by
        show VsAt _ _ _ _ _
        rw [hT.out]
        exact hVs9.same hm12.size (fun b hb => hm12.block b (by obtain ⟨_, _, _, hO, _⟩ := hVs9; exact (World.ownsRow.lt hO b hb).2)) (fun b hb hlt => ⟨hm12.block b hlt, hb.1.1, fun e => by
          rcases hG9.own b e with h | h
          · exact hb.1.2 h
          · omega⟩)
      clear hm12 hb9 hb8 hR9 hR8 hX9 hX8 hG9 hVs9 hrun hr8 hxV hVs8 hSw hSm hSi hS0 hxt hown
      go_wp2
      first
        | exact ⟨⟨j + 1, by omega, (by first | rfl | go_num | (congr 1; omega)), hVs12, hb12, hX12, hR12⟩, by simp [intOf] <;> omega⟩
        | (refine ⟨?_, by simp [intOf] <;> omega⟩; (repeat apply Exists.intro); exact ⟨⟨j + 1, by omega, (by first | rfl | go_num | (congr 1; omega)), hVs12, hb12, hX12, hR12⟩, rfl⟩)
    · obtain rfl : j = l.length := by omega
      have j1 : ¬ (l.length : Int) < (l.length : Int) := by omega
      have hAV : Hid (archV x l = .mk 7 0 [] [] [[98], [99], [105], [110], [113], [116]] [pNum x.bytes, pTxt x.comment, pList vs, pTxt x.name, pNum x.items, pNum x.time]) := by
        show _ = _
        rw [hvs, List.take_length]; rfl
      have hvd := (VsAt.lst hVs.out (fun b hb => hb.1)).2
      clear hvs jb j0
      go_upto_region 6 with (fail)
      have hSm : ∀ (L : Array Bool) (w1 w2 : World), Blk w1 w.heap.size 31 (abtC x) → Mo w1 w2 → Blk w2 w.heap.size 31 (abtC x) := fun L w1 w2 h hm => h.below hm
      have hSi : ∀ i, i ≠ 99 → ∀ (L : Array Bool) (w1 : World), Blk w1 w.heap.size 31 (abtC x) ↔ Blk w1 w.heap.size 31 (abtC x) := fun _ _ _ _ => Iff.rfl
      have hS0 : Blk (wr.drewN 1) w.heap.size 31 (abtC x) := hXB.out
      have hS0w : ∀ w', Mo (wr.drewN 1) w' → Blk w' w.heap.size 31 (abtC x) := fun w' hm => hS0.below hm
      have hxo := HX.out
      have hxt : ∀ w', Blk w' w.heap.size 31 (abtC x) → w'.cell? ⟨w.heap.size, 0, none⟩ = some (.string (str x.name)) ∧ w'.cell? ⟨w.heap.size, 33, none⟩ = some (.int .i64 x.time) ∧ w'.cell? ⟨w.heap.size, 34, none⟩ = some (.string (str x.comment)) ∧ w'.cell? ⟨w.heap.size, 35, none⟩ = some (.int .i64 x.items) ∧ w'.cell? ⟨w.heap.size, 36, none⟩ = some (.int .i64 x.bytes) := fun w' h =>
        ⟨h.cell (abtC_0 x), h.cell (abtC_33 hxo), h.cell (abtC_34 hxo), h.cell (abtC_35 hxo), h.cell (abtC_36 hxo)⟩
      refine wp_region_upN (S := fun _ w1 => Blk w1 w.heap.size 31 (abtC x)) 21 rfl (by kernel_rfl) ?_
      refine wpAnyU_take (i := 1) (A := fun _ => True) (v := .pointer (some ⟨w.heap.size, 36, none⟩)) (a' := ⟨#[.agg (List.toArray (abtC x)), .slice a l.length c, .pointer (some ⟨w.heap.size, 0, none⟩), undef, .pointer (some ⟨w.heap.size + 1, 0, none⟩), .slice au vs.length cu, .int .i64 (l.length : Int), .int .i64 (l.length : Int), .slice a l.length c, .int .i64 (l.length : Int), .bool false, u11, u12, u13, u14, u15, u16, u17, u18, u19, u20, u21, u22, u23, u24, u25, u26, u27, u28, u29, undef, .pointer (some ⟨w.heap.size, 36, none⟩), undef, undef, undef, undef, undef, undef, undef, undef, undef, undef, undef, undef, undef, undef, undef, undef, undef, undef], []⟩) hSm (hSi 1 (by decide)) (fun _ _ _ => trivial) rfl (by kernel_rfl) (by kernel_rfl) (by kernel_rfl) (fun _ _ _ h => h) hS0 (Tame.val rfl (fun w' hA => by go_simp)) rfl ?_
      refine wpAnyU_take (i := 2) (A := fun w1 => Blk w1 w.heap.size 31 (abtC x)) (v := .int .i64 x.bytes) (a' := ⟨#[.agg (List.toArray (abtC x)), .slice a l.length c, .pointer (some ⟨w.heap.size, 0, none⟩), undef, .pointer (some ⟨w.heap.size + 1, 0, none⟩), .slice au vs.length cu, .int .i64 (l.length : Int), .int .i64 (l.length : Int), .slice a l.length c, .int .i64 (l.length : Int), .bool false, u11, u12, u13, u14, u15, u16, u17, u18, u19, u20, u21, u22, u23, u24, u25, u26, u27, u28, u29, undef, .pointer (some ⟨w.heap.size, 36, none⟩), .int .i64 x.bytes, undef, undef, undef, undef, undef, undef, undef, undef, undef, undef, undef, undef, undef, undef, undef, undef, undef], []⟩) hSm (hSi 2 (by decide)) (fun _ _ h => h) rfl (by kernel_rfl) (by kernel_rfl) (by kernel_rfl) (fun _ _ _ h => h) hS0 (Tame.val rfl (fun w' hA => by have h1 := (hxt _ hA).2.2.2.2; go_simp)) rfl ?_
      refine wpAnyU_take (i := 3) (A := fun _ => True) (v := .agg (List.toArray (numC x.bytes))) (a' := ⟨#[.agg (List.toArray (abtC x)), .slice a l.length c, .pointer (some ⟨w.heap.size, 0, none⟩), undef, .pointer (some ⟨w.heap.size + 1, 0, none⟩), .slice au vs.length cu, .int .i64 (l.length : Int), .int .i64 (l.length : Int), .slice a l.length c, .int .i64 (l.length : Int), .bool false, u11, u12, u13, u14, u15, u16, u17, u18, u19, u20, u21, u22, u23, u24, u25, u26, u27, u28, u29, undef, .pointer (some ⟨w.heap.size, 36, none⟩), .int .i64 x.bytes, .agg (List.toArray (numC x.bytes)), undef, undef, undef, undef, undef, undef, undef, undef, undef, undef, undef, undef, undef, undef, undef, undef], []⟩) hSm (hSi 3 (by decide)) (fun _ _ _ => trivial) rfl (by kernel_rfl) (by kernel_rfl) (by kernel_rfl) (fun _ _ _ h => h) hS0 (Tame.enter rfl (fun w' => by go_simp) (fun w' _ => rnum_any x.bytes w')) rfl ?_
      refine wpAnyU_take (i := 4) (A := fun _ => True) (v := .pointer (some ⟨w.heap.size, 34, none⟩)) (a' := ⟨#[.agg (List.toArray (abtC x)), .slice a l.length c, .pointer (some ⟨w.heap.size, 0, none⟩), undef, .pointer (some ⟨w.heap.size + 1, 0, none⟩), .slice au vs.length cu, .int .i64 (l.length : Int), .int .i64 (l.length : Int), .slice a l.length c, .int .i64 (l.length : Int), .bool false, u11, u12, u13, u14, u15, u16, u17, u18, u19, u20, u21, u22, u23, u24, u25, u26, u27, u28, u29, undef, .pointer (some ⟨w.heap.size, 36, none⟩), .int .i64 x.bytes, .agg (List.toArray (numC x.bytes)), .pointer (some ⟨w.heap.size, 34, none⟩), undef, undef, undef, undef, undef, undef, undef, undef, undef, undef, undef, undef, undef, undef, undef], []⟩) hSm (hSi 4 (by decide)) (fun _ _ _ => trivial) rfl (by kernel_rfl) (by kernel_rfl) (by kernel_rfl) (fun _ _ _ h => h) hS0 (Tame.val rfl (fun w' hA => by go_simp)) rfl ?_
      refine wpAnyU_take (i := 5) (A := fun w1 => Blk w1 w.heap.size 31 (abtC x)) (v := .string (str x.comment)) (a' := ⟨#[.agg (List.toArray (abtC x)), .slice a l.length c, .pointer (some ⟨w.heap.size, 0, none⟩), undef, .pointer (some ⟨w.heap.size + 1, 0, none⟩), .slice au vs.length cu, .int .i64 (l.length : Int), .int .i64 (l.length : Int), .slice a l.length c, .int .i64 (l.length : Int), .bool false, u11, u12, u13, u14, u15, u16, u17, u18, u19, u20, u21, u22, u23, u24, u25, u26, u27, u28, u29, undef, .pointer (some ⟨w.heap.size, 36, none⟩), .int .i64 x.bytes, .agg (List.toArray (numC x.bytes)), .pointer (some ⟨w.heap.size, 34, none⟩), .string (str x.comment), undef, undef, undef, undef, undef, undef, undef, undef, undef, undef, undef, undef, undef, undef], []⟩) hSm (hSi 5 (by decide)) (fun _ _ h => h) rfl (by kernel_rfl) (by kernel_rfl) (by kernel_rfl) (fun _ _ _ h => h) hS0 (Tame.val rfl (fun w' hA => by have h1 := (hxt _ hA).2.2.1; go_simp)) rfl ?_
      refine wpAnyU_take (i := 6) (A := fun _ => True) (v := .agg (List.toArray (txtC x.comment))) (a' := ⟨#[.agg (List.toArray (abtC x)), .slice a l.length c, .pointer (some ⟨w.heap.size, 0, none⟩), undef, .pointer (some ⟨w.heap.size + 1, 0, none⟩), .slice au vs.length cu, .int .i64 (l.length : Int), .int .i64 (l.length : Int), .slice a l.length c, .int .i64 (l.length : Int), .bool false, u11, u12, u13, u14, u15, u16, u17, u18, u19, u20, u21, u22, u23, u24, u25, u26, u27, u28, u29, undef, .pointer (some ⟨w.heap.size, 36, none⟩), .int .i64 x.bytes, .agg (List.toArray (numC x.bytes)), .pointer (some ⟨w.heap.size, 34, none⟩), .string (str x.comment), .agg (List.toArray (txtC x.comment)), undef, undef, undef, undef, undef, undef, undef, undef, undef, undef, undef, undef, undef], []⟩) hSm (hSi 6 (by decide)) (fun _ _ _ => trivial) rfl (by kernel_rfl) (by kernel_rfl) (by kernel_rfl) (fun _ _ _ h => h) hS0 (Tame.enter rfl (fun w' => by go_simp) (fun w' _ => rtext_any x.comment w')) rfl ?_
      refine wpAnyU_take (i := 7) (A := fun _ => True) (v := .slice au vs.length cu) (a' := ⟨#[.agg (List.toArray (abtC x)), .slice a l.length c, .pointer (some ⟨w.heap.size, 0, none⟩), undef, .pointer (some ⟨w.heap.size + 1, 0, none⟩), .slice au vs.length cu, .int .i64 (l.length : Int), .int .i64 (l.length : Int), .slice a l.length c, .int .i64 (l.length : Int), .bool false, u11, u12, u13, u14, u15, u16, u17, u18, u19, u20, u21, u22, u23, u24, u25, u26, u27, u28, u29, undef, .pointer (some ⟨w.heap.size, 36, none⟩), .int .i64 x.bytes, .agg (List.toArray (numC x.bytes)), .pointer (some ⟨w.heap.size, 34, none⟩), .string (str x.comment), .agg (List.toArray (txtC x.comment)), .slice au vs.length cu, undef, undef, undef, undef, undef, undef, undef, undef, undef, undef, undef, undef], []⟩) hSm (hSi 7 (by decide)) (fun _ _ _ => trivial) rfl (by kernel_rfl) (by kernel_rfl) (by kernel_rfl) (fun _ _ _ h => h) hS0 (Tame.val rfl (fun w' hA => by go_simp)) rfl ?_
      refine wpAnyU_take (i := 8) (A := fun _ => True) (v := .agg #[.int .i64 6, .int .i64 0, .slice none 0 0, .string { data := #[] }, .slice none 0 0, .slice au vs.length cu]) (a' := ⟨#[.agg (List.toArray (abtC x)), .slice a l.length c, .pointer (some ⟨w.heap.size, 0, none⟩), undef, .pointer (some ⟨w.heap.size + 1, 0, none⟩), .slice au vs.length cu, .int .i64 (l.length : Int), .int .i64 (l.length : Int), .slice a l.length c, .int .i64 (l.length : Int), .bool false, u11, u12, u13, u14, u15, u16, u17, u18, u19, u20, u21, u22, u23, u24, u25, u26, u27, u28, u29, undef, .pointer (some ⟨w.heap.size, 36, none⟩), .int .i64 x.bytes, .agg (List.toArray (numC x.bytes)), .pointer (some ⟨w.heap.size, 34, none⟩), .string (str x.comment), .agg (List.toArray (txtC x.comment)), .slice au vs.length cu, .agg #[.int .i64 6, .int .i64 0, .slice none 0 0, .string { data := #[] }, .slice none 0 0, .slice au vs.length cu], undef, undef, undef, undef, undef, undef, undef, undef, undef, undef, undef], []⟩) hSm (hSi 8 (by decide)) (fun _ _ _ => trivial) rfl (by kernel_rfl) (by kernel_rfl) (by kernel_rfl) (fun _ _ _ h => h) hS0 (Tame.val rfl (fun w' hA => by go_simp)) rfl ?_
      refine wpAnyU_take (i := 9) (A := fun _ => True) (v := .pointer (some ⟨w.heap.size, 0, none⟩)) (a' := ⟨#[.agg (List.toArray (abtC x)), .slice a l.length c, .pointer (some ⟨w.heap.size, 0, none⟩), undef, .pointer (some ⟨w.heap.size + 1, 0, none⟩), .slice au vs.length cu, .int .i64 (l.length : Int), .int .i64 (l.length : Int), .slice a l.length c, .int .i64 (l.length : Int), .bool false, u11, u12, u13, u14, u15, u16, u17, u18, u19, u20, u21, u22, u23, u24, u25, u26, u27, u28, u29, undef, .pointer (some ⟨w.heap.size, 36, none⟩), .int .i64 x.bytes, .agg (List.toArray (numC x.bytes)), .pointer (some ⟨w.heap.size, 34, none⟩), .string (str x.comment), .agg (List.toArray (txtC x.comment)), .slice au vs.length cu, .agg #[.int .i64 6, .int .i64 0, .slice none 0 0, .string { data := #[] }, .slice none 0 0, .slice au vs.length cu], .pointer (some ⟨w.heap.size, 0, none⟩), undef, undef, undef, undef, undef, undef, undef, undef, undef, undef], []⟩) hSm (hSi 9 (by decide)) (fun _ _ _ => trivial) rfl (by kernel_rfl) (by kernel_rfl) (by kernel_rfl) (fun _ _ _ h => h) hS0 (Tame.val rfl (fun w' hA => by go_simp)) rfl ?_
      refine wpAnyU_take (i := 10) (A := fun w1 => Blk w1 w.heap.size 31 (abtC x)) (v := .string (str x.name)) (a' := ⟨#[.agg (List.toArray (abtC x)), .slice a l.length c, .pointer (some ⟨w.heap.size, 0, none⟩), undef, .pointer (some ⟨w.heap.size + 1, 0, none⟩), .slice au vs.length cu, .int .i64 (l.length : Int), .int .i64 (l.length : Int), .slice a l.length c, .int .i64 (l.length : Int), .bool false, u11, u12, u13, u14, u15, u16, u17, u18, u19, u20, u21, u22, u23, u24, u25, u26, u27, u28, u29, undef, .pointer (some ⟨w.heap.size, 36, none⟩), .int .i64 x.bytes, .agg (List.toArray (numC x.bytes)), .pointer (some ⟨w.heap.size, 34, none⟩), .string (str x.comment), .agg (List.toArray (txtC x.comment)), .slice au vs.length cu, .agg #[.int .i64 6, .int .i64 0, .slice none 0 0, .string { data := #[] }, .slice none 0 0, .slice au vs.length cu], .pointer (some ⟨w.heap.size, 0, none⟩), .string (str x.name), undef, undef, undef, undef, undef, undef, undef, undef, undef], []⟩) hSm (hSi 10 (by decide)) (fun _ _ h => h) rfl (by kernel_rfl) (by kernel_rfl) (by kernel_rfl) (fun _ _ _ h => h) hS0 (Tame.val rfl (fun w' hA => by have h1 := (hxt _ hA).1; go_simp)) rfl ?_
      refine wpAnyU_take (i := 11) (A := fun _ => True) (v := .agg (List.toArray (txtC x.name))) (a' := ⟨#[.agg (List.toArray (abtC x)), .slice a l.length c, .pointer (some ⟨w.heap.size, 0, none⟩), undef, .pointer (some ⟨w.heap.size + 1, 0, none⟩), .slice au vs.length cu, .int .i64 (l.length : Int), .int .i64 (l.length : Int), .slice a l.length c, .int .i64 (l.length : Int), .bool false, u11, u12, u13, u14, u15, u16, u17, u18, u19, u20, u21, u22, u23, u24, u25, u26, u27, u28, u29, undef, .pointer (some ⟨w.heap.size, 36, none⟩), .int .i64 x.bytes, .agg (List.toArray (numC x.bytes)), .pointer (some ⟨w.heap.size, 34, none⟩), .string (str x.comment), .agg (List.toArray (txtC x.comment)), .slice au vs.length cu, .agg #[.int .i64 6, .int .i64 0, .slice none 0 0, .string { data := #[] }, .slice none 0 0, .slice au vs.length cu], .pointer (some ⟨w.heap.size, 0, none⟩), .string (str x.name), .agg (List.toArray (txtC x.name)), undef, undef, undef, undef, undef, undef, undef, undef], []⟩) hSm (hSi 11 (by decide)) (fun _ _ _ => trivial) rfl (by kernel_rfl) (by kernel_rfl) (by kernel_rfl) (fun _ _ _ h => h) hS0 (Tame.enter rfl (fun w' => by go_simp) (fun w' _ => rtext_any x.name w')) rfl ?_
      refine wpAnyU_take (i := 12) (A := fun _ => True) (v := .pointer (some ⟨w.heap.size, 35, none⟩)) (a' := ⟨#[.agg (List.toArray (abtC x)), .slice a l.length c, .pointer (some ⟨w.heap.size, 0, none⟩), undef, .pointer (some ⟨w.heap.size + 1, 0, none⟩), .slice au vs.length cu, .int .i64 (l.length : Int), .int .i64 (l.length : Int), .slice a l.length c, .int .i64 (l.length : Int), .bool false, u11, u12, u13, u14, u15, u16, u17, u18, u19, u20, u21, u22, u23, u24, u25, u26, u27, u28, u29, undef, .pointer (some ⟨w.heap.size, 36, none⟩), .int .i64 x.bytes, .agg (List.toArray (numC x.bytes)), .pointer (some ⟨w.heap.size, 34, none⟩), .string (str x.comment), .agg (List.toArray (txtC x.comment)), .slice au vs.length cu, .agg #[.int .i64 6, .int .i64 0, .slice none 0 0, .string { data := #[] }, .slice none 0 0, .slice au vs.length cu], .pointer (some ⟨w.heap.size, 0, none⟩), .string (str x.name), .agg (List.toArray (txtC x.name)), .pointer (some ⟨w.heap.size, 35, none⟩), undef, undef, undef, undef, undef, undef, undef], []⟩) hSm (hSi 12 (by decide)) (fun _ _ _ => trivial) rfl (by kernel_rfl) (by kernel_rfl) (by kernel_rfl) (fun _ _ _ h => h) hS0 (Tame.val rfl (fun w' hA => by go_simp)) rfl ?_
      refine wpAnyU_take (i := 13) (A := fun w1 => Blk w1 w.heap.size 31 (abtC x)) (v := .int .i64 x.items) (a' := ⟨#[.agg (List.toArray (abtC x)), .slice a l.length c, .pointer (some ⟨w.heap.size, 0, none⟩), undef, .pointer (some ⟨w.heap.size + 1, 0, none⟩), .slice au vs.length cu, .int .i64 (l.length : Int), .int .i64 (l.length : Int), .slice a l.length c, .int .i64 (l.length : Int), .bool false, u11, u12, u13, u14, u15, u16, u17, u18, u19, u20, u21, u22, u23, u24, u25, u26, u27, u28, u29, undef, .pointer (some ⟨w.heap.size, 36, none⟩), .int .i64 x.bytes, .agg (List.toArray (numC x.bytes)), .pointer (some ⟨w.heap.size, 34, none⟩), .string (str x.comment), .agg (List.toArray (txtC x.comment)), .slice au vs.length cu, .agg #[.int .i64 6, .int .i64 0, .slice none 0 0, .string { data := #[] }, .slice none 0 0, .slice au vs.length cu], .pointer (some ⟨w.heap.size, 0, none⟩), .string (str x.name), .agg (List.toArray (txtC x.name)), .pointer (some ⟨w.heap.size, 35, none⟩), .int .i64 x.items, undef, undef, undef, undef, undef, undef], []⟩) hSm (hSi 13 (by decide)) (fun _ _ h => h) rfl (by kernel_rfl) (by kernel_rfl) (by kernel_rfl) (fun _ _ _ h => h) hS0 (Tame.val rfl (fun w' hA => by have h1 := (hxt _ hA).2.2.2.1; go_simp)) rfl ?_
      refine wpAnyU_take (i := 14) (A := fun _ => True) (v := .agg (List.toArray (numC x.items))) (a' := ⟨#[.agg (List.toArray (abtC x)), .slice a l.length c, .pointer (some ⟨w.heap.size, 0, none⟩), undef, .pointer (some ⟨w.heap.size + 1, 0, none⟩), .slice au vs.length cu, .int .i64 (l.length : Int), .int .i64 (l.length : Int), .slice a l.length c, .int .i64 (l.length : Int), .bool false, u11, u12, u13, u14, u15, u16, u17, u18, u19, u20, u21, u22, u23, u24, u25, u26, u27, u28, u29, undef, .pointer (some ⟨w.heap.size, 36, none⟩), .int .i64 x.bytes, .agg (List.toArray (numC x.bytes)), .pointer (some ⟨w.heap.size, 34, none⟩), .string (str x.comment), .agg (List.toArray (txtC x.comment)), .slice au vs.length cu, .agg #[.int .i64 6, .int .i64 0, .slice none 0 0, .string { data := #[] }, .slice none 0 0, .slice au vs.length cu], .pointer (some ⟨w.heap.size, 0, none⟩), .string (str x.name), .agg (List.toArray (txtC x.name)), .pointer (some ⟨w.heap.size, 35, none⟩), .int .i64 x.items, .agg (List.toArray (numC x.items)), undef, undef, undef, undef, undef], []⟩) hSm (hSi 14 (by decide)) (fun _ _ _ => trivial) rfl (by kernel_rfl) (by kernel_rfl) (by kernel_rfl) (fun _ _ _ h => h) hS0 (Tame.enter rfl (fun w' => by go_simp) (fun w' _ => rnum_any x.items w')) rfl ?_
      refine wpAnyU_take (i := 15) (A := fun _ => True) (v := .pointer (some ⟨w.heap.size, 33, none⟩)) (a' := ⟨#[.agg (List.toArray (abtC x)), .slice a l.length c, .pointer (some ⟨w.heap.size, 0, none⟩), undef, .pointer (some ⟨w.heap.size + 1, 0, none⟩), .slice au vs.length cu, .int .i64 (l.length : Int), .int .i64 (l.length : Int), .slice a l.length c, .int .i64 (l.length : Int), .bool false, u11, u12, u13, u14, u15, u16, u17, u18, u19, u20, u21, u22, u23, u24, u25, u26, u27, u28, u29, undef, .pointer (some ⟨w.heap.size, 36, none⟩), .int .i64 x.bytes, .agg (List.toArray (numC x.bytes)), .pointer (some ⟨w.heap.size, 34, none⟩), .string (str x.comment), .agg (List.toArray (txtC x.comment)), .slice au vs.length cu, .agg #[.int .i64 6, .int .i64 0, .slice none 0 0, .string { data := #[] }, .slice none 0 0, .slice au vs.length cu], .pointer (some ⟨w.heap.size, 0, none⟩), .string (str x.name), .agg (List.toArray (txtC x.name)), .pointer (some ⟨w.heap.size, 35, none⟩), .int .i64 x.items, .agg (List.toArray (numC x.items)), .pointer (some ⟨w.heap.size, 33, none⟩), undef, undef, undef, undef], []⟩) hSm (hSi 15 (by decide)) (fun _ _ _ => trivial) rfl (by kernel_rfl) (by kernel_rfl) (by kernel_rfl) (fun _ _ _ h => h) hS0 (Tame.val rfl (fun w' hA => by go_simp)) rfl ?_
      refine wpAnyU_take (i := 16) (A := fun w1 => Blk w1 w.heap.size 31 (abtC x)) (v := .int .i64 x.time) (a' := ⟨#[.agg (List.toArray (abtC x)), .slice a l.length c, .pointer (some ⟨w.heap.size, 0, none⟩), undef, .pointer (some ⟨w.heap.size + 1, 0, none⟩), .slice au vs.length cu, .int .i64 (l.length : Int), .int .i64 (l.length : Int), .slice a l.length c, .int .i64 (l.length : Int), .bool false, u11, u12, u13, u14, u15, u16, u17, u18, u19, u20, u21, u22, u23, u24, u25, u26, u27, u28, u29, undef, .pointer (some ⟨w.heap.size, 36, none⟩), .int .i64 x.bytes, .agg (List.toArray (numC x.bytes)), .pointer (some ⟨w.heap.size, 34, none⟩), .string (str x.comment), .agg (List.toArray (txtC x.comment)), .slice au vs.length cu, .agg #[.int .i64 6, .int .i64 0, .slice none 0 0, .string { data := #[] }, .slice none 0 0, .slice au vs.length cu], .pointer (some ⟨w.heap.size, 0, none⟩), .string (str x.name), .agg (List.toArray (txtC x.name)), .pointer (some ⟨w.heap.size, 35, none⟩), .int .i64 x.items, .agg (List.toArray (numC x.items)), .pointer (some ⟨w.heap.size, 33, none⟩), .int .i64 x.time, undef, undef, undef], []⟩) hSm (hSi 16 (by decide)) (fun _ _ h => h) rfl (by kernel_rfl) (by kernel_rfl) (by kernel_rfl) (fun _ _ _ h => h) hS0 (Tame.val rfl (fun w' hA => by have h1 := (hxt _ hA).2.1; go_simp)) rfl ?_
      refine wpAnyU_take (i := 17) (A := fun _ => True) (v := .agg (List.toArray (numC x.time))) (a' := ⟨#[.agg (List.toArray (abtC x)), .slice a l.length c, .pointer (some ⟨w.heap.size, 0, none⟩), undef, .pointer (some ⟨w.heap.size + 1, 0, none⟩), .slice au vs.length cu, .int .i64 (l.length : Int), .int .i64 (l.length : Int), .slice a l.length c, .int .i64 (l.length : Int), .bool false, u11, u12, u13, u14, u15, u16, u17, u18, u19, u20, u21, u22, u23, u24, u25, u26, u27, u28, u29, undef, .pointer (some ⟨w.heap.size, 36, none⟩), .int .i64 x.bytes, .agg (List.toArray (numC x.bytes)), .pointer (some ⟨w.heap.size, 34, none⟩), .string (str x.comment), .agg (List.toArray (txtC x.comment)), .slice au vs.length cu, .agg #[.int .i64 6, .int .i64 0, .slice none 0 0, .string { data := #[] }, .slice none 0 0, .slice au vs.length cu], .pointer (some ⟨w.heap.size, 0, none⟩), .string (str x.name), .agg (List.toArray (txtC x.name)), .pointer (some ⟨w.heap.size, 35, none⟩), .int .i64 x.items, .agg (List.toArray (numC x.items)), .pointer (some ⟨w.heap.size, 33, none⟩), .int .i64 x.time, .agg (List.toArray (numC x.time)), undef, undef], []⟩) hSm (hSi 17 (by decide)) (fun _ _ _ => trivial) rfl (by kernel_rfl) (by kernel_rfl) (by kernel_rfl) (fun _ _ _ h => h) hS0 (Tame.enter rfl (fun w' => by go_simp) (fun w' _ => rnum_any x.time w')) rfl ?_
      refine wpAnyU_all (rs := [0, 18]) (by kernel_rfl) (by decide) ?_
      intro w2 hm2 i hi
      rcases (by simpa using hi : i = 0 ∨ i = 18) with rfl | rfl
      · refine wpOp_val (v := .slice (some ⟨w2.heap.size, 0, none⟩) 6 6) (w' := w2.alloc (.cells #[.string { data := #[98] }, .string { data := #[99] }, .string { data := #[105] }, .string { data := #[110] }, .string { data := #[113] }, .string { data := #[116] }] 9)) (a' := ⟨#[.agg (List.toArray (abtC x)), .slice a l.length c, .pointer (some ⟨w.heap.size, 0, none⟩), undef, .pointer (some ⟨w.heap.size + 1, 0, none⟩), .slice au vs.length cu, .int .i64 (l.length : Int), .int .i64 (l.length : Int), .slice a l.length c, .int .i64 (l.length : Int), .bool false, u11, u12, u13, u14, u15, u16, u17, u18, u19, u20, u21, u22, u23, u24, u25, u26, u27, u28, u29, .slice (some ⟨w2.heap.size, 0, none⟩) 6 6, .pointer (some ⟨w.heap.size, 36, none⟩), .int .i64 x.bytes, .agg (List.toArray (numC x.bytes)), .pointer (some ⟨w.heap.size, 34, none⟩), .string (str x.comment), .agg (List.toArray (txtC x.comment)), .slice au vs.length cu, .agg #[.int .i64 6, .int .i64 0, .slice none 0 0, .string { data := #[] }, .slice none 0 0, .slice au vs.length cu], .pointer (some ⟨w.heap.size, 0, none⟩), .string (str x.name), .agg (List.toArray (txtC x.name)), .pointer (some ⟨w.heap.size, 35, none⟩), .int .i64 x.items, .agg (List.toArray (numC x.items)), .pointer (some ⟨w.heap.size, 33, none⟩), .int .i64 x.time, .agg (List.toArray (numC x.time)), undef, undef], []⟩) rfl rfl (by go_simp) rfl ?_
        have hB3 : Blk (w2.alloc (.cells #[.string { data := #[98] }, .string { data := #[99] }, .string { data := #[105] }, .string { data := #[110] }, .string { data := #[113] }, .string { data := #[116] }] 9)) w2.heap.size 9 [strV [98], strV [99], strV [105], strV [110], strV [113], strV [116]] := Blk.new _ _ _
        have hg3 : Mo w2 (w2.alloc (.cells #[.string { data := #[98] }, .string { data := #[99] }, .string { data := #[105] }, .string { data := #[110] }, .string { data := #[113] }, .string { data := #[116] }] 9)) := (Below.refl _ _).alloc (Nat.le_refl _) _
        have hc3 := Mo.trans hm2 hg3
        have hsgk : w.heap.size + 2 ≤ w2.heap.size := Nat.le_trans hbase (hm2).size
        refine ⟨hS0w _ hc3, ?_⟩
        generalize w2.heap.size = gk at *
        generalize w2.alloc (.cells #[.string { data := #[98] }, .string { data := #[99] }, .string { data := #[105] }, .string { data := #[110] }, .string { data := #[113] }, .string { data := #[116] }] 9) = x3 at *
        refine wpAnyU_all (rs := [18]) (by kernel_rfl) (by decide) ?_
        intro w4 hm4 i hi
        obtain rfl : i = 18 := by simpa using hi
        refine wpOp_val (v := .slice (some ⟨w4.heap.size, 0, none⟩) 6 6) (w' := w4.alloc (.cells (List.toArray (List.flatten [numC x.bytes, txtC x.comment, lstC (.slice au vs.length cu), txtC x.name, numC x.items, numC x.time])) 63)) (a' := ⟨#[.agg (List.toArray (abtC x)), .slice a l.length c, .pointer (some ⟨w.heap.size, 0, none⟩), undef, .pointer (some ⟨w.heap.size + 1, 0, none⟩), .slice au vs.length cu, .int .i64 (l.length : Int), .int .i64 (l.length : Int), .slice a l.length c, .int .i64 (l.length : Int), .bool false, u11, u12, u13, u14, u15, u16, u17, u18, u19, u20, u21, u22, u23, u24, u25, u26, u27, u28, u29, .slice (some ⟨gk, 0, none⟩) 6 6, .pointer (some ⟨w.heap.size, 36, none⟩), .int .i64 x.bytes, .agg (List.toArray (numC x.bytes)), .pointer (some ⟨w.heap.size, 34, none⟩), .string (str x.comment), .agg (List.toArray (txtC x.comment)), .slice au vs.length cu, .agg #[.int .i64 6, .int .i64 0, .slice none 0 0, .string { data := #[] }, .slice none 0 0, .slice au vs.length cu], .pointer (some ⟨w.heap.size, 0, none⟩), .string (str x.name), .agg (List.toArray (txtC x.name)), .pointer (some ⟨w.heap.size, 35, none⟩), .int .i64 x.items, .agg (List.toArray (numC x.items)), .pointer (some ⟨w.heap.size, 33, none⟩), .int .i64 x.time, .agg (List.toArray (numC x.time)), .slice (some ⟨w4.heap.size, 0, none⟩) 6 6, undef], []⟩) rfl rfl (run_bsOp (vals := #[(0, .agg (List.toArray (numC x.bytes))), (1, .agg (List.toArray (txtC x.comment))), (2, .agg #[.int .i64 6, .int .i64 0, .slice none 0 0, .string { data := #[] }, .slice none 0 0, .slice au vs.length cu]), (3, .agg (List.toArray (txtC x.name))), (4, .agg (List.toArray (numC x.items))), (5, .agg (List.toArray (numC x.time)))]) (by first | rfl | go_simp | simp [Act.eval]) (bsOp_rows (vs := [numC x.bytes, txtC x.comment, lstC (.slice au vs.length cu), txtC x.name, numC x.items, numC x.time]) Try.underlying61 infoV (by decide) rfl (by decide) (by decide) (by exact zV_size) (by simp [lstC, numC, txtC]) rfl)) rfl ?_
        have hB5 : Blk (w4.alloc (.cells (List.toArray (List.flatten [numC x.bytes, txtC x.comment, lstC (.slice au vs.length cu), txtC x.name, numC x.items, numC x.time])) 63)) w4.heap.size 63 (List.flatten [numC x.bytes, txtC x.comment, lstC (.slice au vs.length cu), txtC x.name, numC x.items, numC x.time]) := Blk.new _ _ _
        have hg5 : Mo w4 (w4.alloc (.cells (List.toArray (List.flatten [numC x.bytes, txtC x.comment, lstC (.slice au vs.length cu), txtC x.name, numC x.items, numC x.time])) 63)) := (Below.refl _ _).alloc (Nat.le_refl _) _
        have hc5 := Mo.trans (Mo.trans hc3 hm4) hg5
        have hsgv : w.heap.size + 2 ≤ w4.heap.size := Nat.le_trans hbase ((Mo.trans hc3 hm4)).size
        refine ⟨hS0w _ hc5, ?_⟩
        generalize w4.heap.size = gv at *
        generalize w4.alloc (.cells (List.toArray (List.flatten [numC x.bytes, txtC x.comment, lstC (.slice au vs.length cu), txtC x.name, numC x.items, numC x.time])) 63) = x5 at *
        refine wpAnyU_take (i := 19) (A := fun _ => True) (v := .agg #[.int .i64 7, .int .i64 0, .slice none 0 0, .string { data := #[] }, .slice (some ⟨gk, 0, none⟩) 6 6, .slice (some ⟨gv, 0, none⟩) 6 6]) (a' := ⟨#[.agg (List.toArray (abtC x)), .slice a l.length c, .pointer (some ⟨w.heap.size, 0, none⟩), undef, .pointer (some ⟨w.heap.size + 1, 0, none⟩), .slice au vs.length cu, .int .i64 (l.length : Int), .int .i64 (l.length : Int), .slice a l.length c, .int .i64 (l.length : Int), .bool false, u11, u12, u13, u14, u15, u16, u17, u18, u19, u20, u21, u22, u23, u24, u25, u26, u27, u28, u29, .slice (some ⟨gk, 0, none⟩) 6 6, .pointer (some ⟨w.heap.size, 36, none⟩), .int .i64 x.bytes, .agg (List.toArray (numC x.bytes)), .pointer (some ⟨w.heap.size, 34, none⟩), .string (str x.comment), .agg (List.toArray (txtC x.comment)), .slice au vs.length cu, .agg #[.int .i64 6, .int .i64 0, .slice none 0 0, .string { data := #[] }, .slice none 0 0, .slice au vs.length cu], .pointer (some ⟨w.heap.size, 0, none⟩), .string (str x.name), .agg (List.toArray (txtC x.name)), .pointer (some ⟨w.heap.size, 35, none⟩), .int .i64 x.items, .agg (List.toArray (numC x.items)), .pointer (some ⟨w.heap.size, 33, none⟩), .int .i64 x.time, .agg (List.toArray (numC x.time)), .slice (some ⟨gv, 0, none⟩) 6 6, .agg #[.int .i64 7, .int .i64 0, .slice none 0 0, .string { data := #[] }, .slice (some ⟨gk, 0, none⟩) 6 6, .slice (some ⟨gv, 0, none⟩) 6 6]], []⟩) hSm (hSi 19 (by decide)) (fun _ _ _ => trivial) rfl (by kernel_rfl) (by kernel_rfl) (by kernel_rfl) (fun _ _ _ h => h) (hS0w _ hc5) (Tame.val rfl (fun w' hA => by go_simp)) rfl ?_
        refine wpAnyU_all (rs := [20]) (by kernel_rfl) (by decide) ?_
        intro wz hmz i hi
        obtain rfl : i = 20 := by simpa using hi
        have hcz := Mo.trans hc5 hmz
        have hRz : Blk wz (w.heap.size + 1) 63 zV.toList := (show Blk (wr.drewN 1) (w.heap.size + 1) 63 zV.toList from hR.out).below hcz
        have hzK := hB3.below (Mo.trans (Mo.trans hm4 hg5) hmz)
        have hzV := hB5.below hmz
        refine wpOp_skip (w' := wz.setRow (w.heap.size + 1) #[.int .i64 7, .int .i64 0, .slice none 0 0, .string { data := #[] }, .slice (some ⟨gk, 0, none⟩) 6 6, .slice (some ⟨gv, 0, none⟩) 6 6]) (a' := ⟨#[.agg (List.toArray (abtC x)), .slice a l.length c, .pointer (some ⟨w.heap.size, 0, none⟩), undef, .pointer (some ⟨w.heap.size + 1, 0, none⟩), .slice au vs.length cu, .int .i64 (l.length : Int), .int .i64 (l.length : Int), .slice a l.length c, .int .i64 (l.length : Int), .bool false, u11, u12, u13, u14, u15, u16, u17, u18, u19, u20, u21, u22, u23, u24, u25, u26, u27, u28, u29, .slice (some ⟨gk, 0, none⟩) 6 6, .pointer (some ⟨w.heap.size, 36, none⟩), .int .i64 x.bytes, .agg (List.toArray (numC x.bytes)), .pointer (some ⟨w.heap.size, 34, none⟩), .string (str x.comment), .agg (List.toArray (txtC x.comment)), .slice au vs.length cu, .agg #[.int .i64 6, .int .i64 0, .slice none 0 0, .string { data := #[] }, .slice none 0 0, .slice au vs.length cu], .pointer (some ⟨w.heap.size, 0, none⟩), .string (str x.name), .agg (List.toArray (txtC x.name)), .pointer (some ⟨w.heap.size, 35, none⟩), .int .i64 x.items, .agg (List.toArray (numC x.items)), .pointer (some ⟨w.heap.size, 33, none⟩), .int .i64 x.time, .agg (List.toArray (numC x.time)), .slice (some ⟨gv, 0, none⟩) 6 6, .agg #[.int .i64 7, .int .i64 0, .slice none 0 0, .string { data := #[] }, .slice (some ⟨gk, 0, none⟩) 6 6, .slice (some ⟨gv, 0, none⟩) 6 6]], []⟩) rfl rfl (run_stoOp (st_row hRz (by rfl) _ rfl (by unfold OneC; simp [Value.oneCell']))) rfl ?_
        have hgr := setRow_gr wz (w.heap.size + 1) #[.int .i64 7, .int .i64 0, .slice none 0 0, .string { data := #[] }, .slice (some ⟨gk, 0, none⟩) 6 6, .slice (some ⟨gv, 0, none⟩) 6 6]
        have hBr : Blk (wz.setRow (w.heap.size + 1) #[.int .i64 7, .int .i64 0, .slice none 0 0, .string { data := #[] }, .slice (some ⟨gk, 0, none⟩) 6 6, .slice (some ⟨gv, 0, none⟩) 6 6]) (w.heap.size + 1) 63 [.int .i64 7, .int .i64 0, .slice none 0 0, strV [], .slice (some ⟨gk, 0, none⟩) 6 6, .slice (some ⟨gv, 0, none⟩) 6 6] := setRow_blk hRz [.int .i64 7, .int .i64 0, .slice none 0 0, strV [], .slice (some ⟨gk, 0, none⟩) 6 6, .slice (some ⟨gv, 0, none⟩) 6 6]
        have hk1 := hzK.grown hgr (by omega)
        have hv1 := hzV.grown hgr (by omega)
        have hq1 := (hS0w _ hcz).grown hgr (by omega)
        have hvd1 := ((hvd.same (w' := wz) (fun b _ hlt => hcz.block b hlt)).same (w' := wz.setRow (w.heap.size + 1) #[.int .i64 7, .int .i64 0, .slice none 0 0, .string { data := #[] }, .slice (some ⟨gk, 0, none⟩) 6 6, .slice (some ⟨gv, 0, none⟩) 6 6]) (fun b hb hlt => hgr.block b hlt (by simp; omega)))
        have hbz : Below w.heap.size w wz := hb.out.trans ((Below.drewN' hcz).mono hb.out.size)
        have hbr : Below w.heap.size w (wz.setRow (w.heap.size + 1) #[.int .i64 7, .int .i64 0, .slice none 0 0, .string { data := #[] }, .slice (some ⟨gk, 0, none⟩) 6 6, .slice (some ⟨gv, 0, none⟩) 6 6]) := hbz.trans ⟨hgr.os, hgr.tape, hgr.output, hgr.size, fun k hk => hgr.block k (Nat.lt_of_lt_of_le hk hbz.size) (by simp; omega)⟩
        refine ⟨hq1, ?_⟩
        generalize wz.setRow (w.heap.size + 1) #[.int .i64 7, .int .i64 0, .slice none 0 0, .string { data := #[] }, .slice (some ⟨gk, 0, none⟩) 6 6, .slice (some ⟨gv, 0, none⟩) 6 6] = we at *
        refine wpAnyU_done (by kernel_rfl) ?_ _
        intro wf hmf
        have hRes : VAtP (fun b => w.heap.size ≤ b) wf [.int .i64 7, .int .i64 0, .slice none 0 0, strV [], .slice (some ⟨gk, 0, none⟩) 6 6, .slice (some ⟨gv, 0, none⟩) 6 6] (archV x l) := by
          rw [hAV.out]
          refine VAtP.map (ks := [[98], [99], [105], [110], [113], [116]]) (css := [numC x.bytes, txtC x.comment, lstC (.slice au vs.length cu), txtC x.name, numC x.items, numC x.time]) (l := [pNum x.bytes, pTxt x.comment, pList vs, pTxt x.name, pNum x.items, pNum x.time]) (hk1.below hmf).row (by simp) (by unfold maxLen; omega) (by simp [maxLen]) (fun _ => by show w.heap.size ≤ gk; omega) (hv1.below hmf).row (by simp) (by unfold maxLen; simp) rfl (by simp [lstC, numC, txtC]) (fun _ => by show w.heap.size ≤ gv; omega) ?_
          intro i c v hc hv
          match i with
          | 0 => simp at hc hv; subst hc hv; exact VAtP.numb wf hxo.bytes
          | 1 => simp at hc hv; subst hc hv; exact VAtP.txt wf hxo.comment
          | 2 =>
            simp at hc hv; subst hc hv
            exact ((hvd1.grow hmf).mono (fun b hb _ => by omega))
          | 3 => simp at hc hv; subst hc hv; exact VAtP.txt wf hxo.name
          | 4 => simp at hc hv; subst hc hv; exact VAtP.numb wf hxo.items
          | 5 => simp at hc hv; subst hc hv; exact VAtP.numb wf hxo.time
          | i + 6 => simp at hc
        have hBf := hBr.below hmf
        have hF := Lib.hid (And.intro hRes (hbr.trans (hmf.mono hbr.size)))
        clear hRes hbr hbz hvd1 hq1 hv1 hk1 hBr hzK hzV hRz hSm hSi hS0 hS0w hvd hVs hxt
        go_wp2
        refine bodyPost_ret (results_cell_row (fn := Try.f37) (by rfl) _ _ (w.heap.size + 1) 63 _ (0, 0) _ (by rfl) hBf Try.underlying63 rfl sizeV) rfl ?_
        exact ⟨_, rfl, hF.out.1, hF.out.2⟩
      · refine wpOp_val (v := .slice (some ⟨w2.heap.size, 0, none⟩) 6 6) (w' := w2.alloc (.cells (List.toArray (List.flatten [numC x.bytes, txtC x.comment, lstC (.slice au vs.length cu), txtC x.name, numC x.items, numC x.time])) 63)) (a' := ⟨#[.agg (List.toArray (abtC x)), .slice a l.length c, .pointer (some ⟨w.heap.size, 0, none⟩), undef, .pointer (some ⟨w.heap.size + 1, 0, none⟩), .slice au vs.length cu, .int .i64 (l.length : Int), .int .i64 (l.length : Int), .slice a l.length c, .int .i64 (l.length : Int), .bool false, u11, u12, u13, u14, u15, u16, u17, u18, u19, u20, u21, u22, u23, u24, u25, u26, u27, u28, u29, undef, .pointer (some ⟨w.heap.size, 36, none⟩), .int .i64 x.bytes, .agg (List.toArray (numC x.bytes)), .pointer (some ⟨w.heap.size, 34, none⟩), .string (str x.comment), .agg (List.toArray (txtC x.comment)), .slice au vs.length cu, .agg #[.int .i64 6, .int .i64 0, .slice none 0 0, .string { data := #[] }, .slice none 0 0, .slice au vs.length cu], .pointer (some ⟨w.heap.size, 0, none⟩), .string (str x.name), .agg (List.toArray (txtC x.name)), .pointer (some ⟨w.heap.size, 35, none⟩), .int .i64 x.items, .agg (List.toArray (numC x.items)), .pointer (some ⟨w.heap.size, 33, none⟩), .int .i64 x.time, .agg (List.toArray (numC x.time)), .slice (some ⟨w2.heap.size, 0, none⟩) 6 6, undef], []⟩) rfl rfl (run_bsOp (vals := #[(0, .agg (List.toArray (numC x.bytes))), (1, .agg (List.toArray (txtC x.comment))), (2, .agg #[.int .i64 6, .int .i64 0, .slice none 0 0, .string { data := #[] }, .slice none 0 0, .slice au vs.length cu]), (3, .agg (List.toArray (txtC x.name))), (4, .agg (List.toArray (numC x.items))), (5, .agg (List.toArray (numC x.time)))]) (by first | rfl | go_simp | simp [Act.eval]) (bsOp_rows (vs := [numC x.bytes, txtC x.comment, lstC (.slice au vs.length cu), txtC x.name, numC x.items, numC x.time]) Try.underlying61 infoV (by decide) rfl (by decide) (by decide) (by exact zV_size) (by simp [lstC, numC, txtC]) rfl)) rfl ?_
        have hB3 : Blk (w2.alloc (.cells (List.toArray (List.flatten [numC x.bytes, txtC x.comment, lstC (.slice au vs.length cu), txtC x.name, numC x.items, numC x.time])) 63)) w2.heap.size 63 (List.flatten [numC x.bytes, txtC x.comment, lstC (.slice au vs.length cu), txtC x.name, numC x.items, numC x.time]) := Blk.new _ _ _
        have hg3 : Mo w2 (w2.alloc (.cells (List.toArray (List.flatten [numC x.bytes, txtC x.comment, lstC (.slice au vs.length cu), txtC x.name, numC x.items, numC x.time])) 63)) := (Below.refl _ _).alloc (Nat.le_refl _) _
        have hc3 := Mo.trans hm2 hg3
        have hsgv : w.heap.size + 2 ≤ w2.heap.size := Nat.le_trans hbase (hm2).size
        refine ⟨hS0w _ hc3, ?_⟩
        generalize w2.heap.size = gv at *
        generalize w2.alloc (.cells (List.toArray (List.flatten [numC x.bytes, txtC x.comment, lstC (.slice au vs.length cu), txtC x.name, numC x.items, numC x.time])) 63) = x3 at *
        refine wpAnyU_all (rs := [0]) (by kernel_rfl) (by decide) ?_
        intro w4 hm4 i hi
        obtain rfl : i = 0 := by simpa using hi
        refine wpOp_val (v := .slice (some ⟨w4.heap.size, 0, none⟩) 6 6) (w' := w4.alloc (.cells #[.string { data := #[98] }, .string { data := #[99] }, .string { data := #[105] }, .string { data := #[110] }, .string { data := #[113] }, .string { data := #[116] }] 9)) (a' := ⟨#[.agg (List.toArray (abtC x)), .slice a l.length c, .pointer (some ⟨w.heap.size, 0, none⟩), undef, .pointer (some ⟨w.heap.size + 1, 0, none⟩), .slice au vs.length cu, .int .i64 (l.length : Int), .int .i64 (l.length : Int), .slice a l.length c, .int .i64 (l.length : Int), .bool false, u11, u12, u13, u14, u15, u16, u17, u18, u19, u20, u21, u22, u23, u24, u25, u26, u27, u28, u29, .slice (some ⟨w4.heap.size, 0, none⟩) 6 6, .pointer (some ⟨w.heap.size, 36, none⟩), .int .i64 x.bytes, .agg (List.toArray (numC x.bytes)), .pointer (some ⟨w.heap.size, 34, none⟩), .string (str x.comment), .agg (List.toArray (txtC x.comment)), .slice au vs.length cu, .agg #[.int .i64 6, .int .i64 0, .slice none 0 0, .string { data := #[] }, .slice none 0 0, .slice au vs.length cu], .pointer (some ⟨w.heap.size, 0, none⟩), .string (str x.name), .agg (List.toArray (txtC x.name)), .pointer (some ⟨w.heap.size, 35, none⟩), .int .i64 x.items, .agg (List.toArray (numC x.items)), .pointer (some ⟨w.heap.size, 33, none⟩), .int .i64 x.time, .agg (List.toArray (numC x.time)), .slice (some ⟨gv, 0, none⟩) 6 6, undef], []⟩) rfl rfl (by go_simp) rfl ?_
        have hB5 : Blk (w4.alloc (.cells #[.string { data := #[98] }, .string { data := #[99] }, .string { data := #[105] }, .string { data := #[110] }, .string { data := #[113] }, .string { data := #[116] }] 9)) w4.heap.size 9 [strV [98], strV [99], strV [105], strV [110], strV [113], strV [116]] := Blk.new _ _ _
        have hg5 : Mo w4 (w4.alloc (.cells #[.string { data := #[98] }, .string { data := #[99] }, .string { data := #[105] }, .string { data := #[110] }, .string { data := #[113] }, .string { data := #[116] }] 9)) := (Below.refl _ _).alloc (Nat.le_refl _) _
        have hc5 := Mo.trans (Mo.trans hc3 hm4) hg5
        have hsgk : w.heap.size + 2 ≤ w4.heap.size := Nat.le_trans hbase ((Mo.trans hc3 hm4)).size
        refine ⟨hS0w _ hc5, ?_⟩
        generalize w4.heap.size = gk at *
        generalize w4.alloc (.cells #[.string { data := #[98] }, .string { data := #[99] }, .string { data := #[105] }, .string { data := #[110] }, .string { data := #[113] }, .string { data := #[116] }] 9) = x5 at *
        refine wpAnyU_take (i := 19) (A := fun _ => True) (v := .agg #[.int .i64 7, .int .i64 0, .slice none 0 0, .string { data := #[] }, .slice (some ⟨gk, 0, none⟩) 6 6, .slice (some ⟨gv, 0, none⟩) 6 6]) (a' := ⟨#[.agg (List.toArray (abtC x)), .slice a l.length c, .pointer (some ⟨w.heap.size, 0, none⟩), undef, .pointer (some ⟨w.heap.size + 1, 0, none⟩), .slice au vs.length cu, .int .i64 (l.length : Int), .int .i64 (l.length : Int), .slice a l.length c, .int .i64 (l.length : Int), .bool false, u11, u12, u13, u14, u15, u16, u17, u18, u19, u20, u21, u22, u23, u24, u25, u26, u27, u28, u29, .slice (some ⟨gk, 0, none⟩) 6 6, .pointer (some ⟨w.heap.size, 36, none⟩), .int .i64 x.bytes, .agg (List.toArray (numC x.bytes)), .pointer (some ⟨w.heap.size, 34, none⟩), .string (str x.comment), .agg (List.toArray (txtC x.comment)), .slice au vs.length cu, .agg #[.int .i64 6, .int .i64 0, .slice none 0 0, .string { data := #[] }, .slice none 0 0, .slice au vs.length cu], .pointer (some ⟨w.heap.size, 0, none⟩), .string (str x.name), .agg (List.toArray (txtC x.name)), .pointer (some ⟨w.heap.size, 35, none⟩), .int .i64 x.items, .agg (List.toArray (numC x.items)), .pointer (some ⟨w.heap.size, 33, none⟩), .int .i64 x.time, .agg (List.toArray (numC x.time)), .slice (some ⟨gv, 0, none⟩) 6 6, .agg #[.int .i64 7, .int .i64 0, .slice none 0 0, .string { data := #[] }, .slice (some ⟨gk, 0, none⟩) 6 6, .slice (some ⟨gv, 0, none⟩) 6 6]], []⟩) hSm (hSi 19 (by decide)) (fun _ _ _ => trivial) rfl (by kernel_rfl) (by kernel_rfl) (by kernel_rfl) (fun _ _ _ h => h) (hS0w _ hc5) (Tame.val rfl (fun w' hA => by go_simp)) rfl ?_
        refine wpAnyU_all (rs := [20]) (by kernel_rfl) (by decide) ?_
        intro wz hmz i hi
        obtain rfl : i = 20 := by simpa using hi
        have hcz := Mo.trans hc5 hmz
        have hRz : Blk wz (w.heap.size + 1) 63 zV.toList := (show Blk (wr.drewN 1) (w.heap.size + 1) 63 zV.toList from hR.out).below hcz
        have hzV := hB3.below (Mo.trans (Mo.trans hm4 hg5) hmz)
        have hzK := hB5.below hmz
        refine wpOp_skip (w' := wz.setRow (w.heap.size + 1) #[.int .i64 7, .int .i64 0, .slice none 0 0, .string { data := #[] }, .slice (some ⟨gk, 0, none⟩) 6 6, .slice (some ⟨gv, 0, none⟩) 6 6]) (a' := ⟨#[.agg (List.toArray (abtC x)), .slice a l.length c, .pointer (some ⟨w.heap.size, 0, none⟩), undef, .pointer (some ⟨w.heap.size + 1, 0, none⟩), .slice au vs.length cu, .int .i64 (l.length : Int), .int .i64 (l.length : Int), .slice a l.length c, .int .i64 (l.length : Int), .bool false, u11, u12, u13, u14, u15, u16, u17, u18, u19, u20, u21, u22, u23, u24, u25, u26, u27, u28, u29, .slice (some ⟨gk, 0, none⟩) 6 6, .pointer (some ⟨w.heap.size, 36, none⟩), .int .i64 x.bytes, .agg (List.toArray (numC x.bytes)), .pointer (some ⟨w.heap.size, 34, none⟩), .string (str x.comment), .agg (List.toArray (txtC x.comment)), .slice au vs.length cu, .agg #[.int .i64 6, .int .i64 0, .slice none 0 0, .string { data := #[] }, .slice none 0 0, .slice au vs.length cu], .pointer (some ⟨w.heap.size, 0, none⟩), .string (str x.name), .agg (List.toArray (txtC x.name)), .pointer (some ⟨w.heap.size, 35, none⟩), .int .i64 x.items, .agg (List.toArray (numC x.items)), .pointer (some ⟨w.heap.size, 33, none⟩), .int .i64 x.time, .agg (List.toArray (numC x.time)), .slice (some ⟨gv, 0, none⟩) 6 6, .agg #[.int .i64 7, .int .i64 0, .slice none 0 0, .string { data := #[] }, .slice (some ⟨gk, 0, none⟩) 6 6, .slice (some ⟨gv, 0, none⟩) 6 6]], []⟩) rfl rfl (run_stoOp (st_row hRz (by rfl) _ rfl (by unfold OneC; simp [Value.oneCell']))) rfl ?_
        have hgr := setRow_gr wz (w.heap.size + 1) #[.int .i64 7, .int .i64 0, .slice none 0 0, .string { data := #[] }, .slice (some ⟨gk, 0, none⟩) 6 6, .slice (some ⟨gv, 0, none⟩) 6 6]
        have hBr : Blk (wz.setRow (w.heap.size + 1) #[.int .i64 7, .int .i64 0, .slice none 0 0, .string { data := #[] }, .slice (some ⟨gk, 0, none⟩) 6 6, .slice (some ⟨gv, 0, none⟩) 6 6]) (w.heap.size + 1) 63 [.int .i64 7, .int .i64 0, .slice none 0 0, strV [], .slice (some ⟨gk, 0, none⟩) 6 6, .slice (some ⟨gv, 0, none⟩) 6 6] := setRow_blk hRz [.int .i64 7, .int .i64 0, .slice none 0 0, strV [], .slice (some ⟨gk, 0, none⟩) 6 6, .slice (some ⟨gv, 0, none⟩) 6 6]
        have hk1 := hzK.grown hgr (by omega)
        have hv1 := hzV.grown hgr (by omega)
        have hq1 := (hS0w _ hcz).grown hgr (by omega)
        have hvd1 := ((hvd.same (w' := wz) (fun b _ hlt => hcz.block b hlt)).same (w' := wz.setRow (w.heap.size + 1) #[.int .i64 7, .int .i64 0, .slice none 0 0, .string { data := #[] }, .slice (some ⟨gk, 0, none⟩) 6 6, .slice (some ⟨gv, 0, none⟩) 6 6]) (fun b hb hlt => hgr.block b hlt (by simp; omega)))
        have hbz : Below w.heap.size w wz := hb.out.trans ((Below.drewN' hcz).mono hb.out.size)
        have hbr : Below w.heap.size w (wz.setRow (w.heap.size + 1) #[.int .i64 7, .int .i64 0, .slice none 0 0, .string { data := #[] }, .slice (some ⟨gk, 0, none⟩) 6 6, .slice (some ⟨gv, 0, none⟩) 6 6]) := hbz.trans ⟨hgr.os, hgr.tape, hgr.output, hgr.size, fun k hk => hgr.block k (Nat.lt_of_lt_of_le hk hbz.size) (by simp; omega)⟩
        refine ⟨hq1, ?_⟩
        generalize wz.setRow (w.heap.size + 1) #[.int .i64 7, .int .i64 0, .slice none 0 0, .string { data := #[] }, .slice (some ⟨gk, 0, none⟩) 6 6, .slice (some ⟨gv, 0, none⟩) 6 6] = we at *
        refine wpAnyU_done (by kernel_rfl) ?_ _
        intro wf hmf
        have hRes : VAtP (fun b => w.heap.size ≤ b) wf [.int .i64 7, .int .i64 0, .slice none 0 0, strV [], .slice (some ⟨gk, 0, none⟩) 6 6, .slice (some ⟨gv, 0, none⟩) 6 6] (archV x l) := by
          rw [hAV.out]
          refine VAtP.map (ks := [[98], [99], [105], [110], [113], [116]]) (css := [numC x.bytes, txtC x.comment, lstC (.slice au vs.length cu), txtC x.name, numC x.items, numC x.time]) (l := [pNum x.bytes, pTxt x.comment, pList vs, pTxt x.name, pNum x.items, pNum x.time]) (hk1.below hmf).row (by simp) (by unfold maxLen; omega) (by simp [maxLen]) (fun _ => by show w.heap.size ≤ gk; omega) (hv1.below hmf).row (by simp) (by unfold maxLen; simp) rfl (by simp [lstC, numC, txtC]) (fun _ => by show w.heap.size ≤ gv; omega) ?_
          intro i c v hc hv
          match i with
          | 0 => simp at hc hv; subst hc hv; exact VAtP.numb wf hxo.bytes
          | 1 => simp at hc hv; subst hc hv; exact VAtP.txt wf hxo.comment
          | 2 =>
            simp at hc hv; subst hc hv
            exact ((hvd1.grow hmf).mono (fun b hb _ => by omega))
          | 3 => simp at hc hv; subst hc hv; exact VAtP.txt wf hxo.name
          | 4 => simp at hc hv; subst hc hv; exact VAtP.numb wf hxo.items
          | 5 => simp at hc hv; subst hc hv; exact VAtP.numb wf hxo.time
          | i + 6 => simp at hc
        have hBf := hBr.below hmf
        have hF := Lib.hid (And.intro hRes (hbr.trans (hmf.mono hbr.size)))
        clear hRes hbr hbz hvd1 hq1 hv1 hk1 hBr hzK hzV hRz hSm hSi hS0 hS0w hvd hVs hxt
        go_wp2
        refine bodyPost_ret (results_cell_row (fn := Try.f37) (by rfl) _ _ (w.heap.size + 1) 63 _ (0, 0) _ (by rfl) hBf Try.underlying63 rfl sizeV) rfl ?_
        exact ⟨_, rfl, hF.out.1, hF.out.2⟩
def metaA (x : Abt) (l : List Prt) : List UInt8 × Int := if checkA x l ≠ 0 then ([], checkA x l) else encF (archV x l)
theorem march_any {a : Option Addr} {n c : Nat} {x : Abt} {l : List Prt} {w : World} (hn : n = l.length) (hr : Row w a (l.map prtC).flatten) (hok : ∀ p ∈ l, PrtOk p) (hx : AbtOk x) (hl : l.length ≤ 1000) :
    Calls Try.prog 16 #[.agg (List.toArray (abtC x)), .slice a n c] w fun e w' => ∃ u, e = .returned (.tuple #[u, .int .i64 (metaA x l).2]) ∧ BRd w' u (metaA x l).1 ∧ Below w.heap.size w w' := by
  subst hn
  have hxo := hx
  have x1 : (List.toArray (abtC x)).size = 37 := by simpa using abtC_len hx
  have x2 : OneC (List.toArray (abtC x)) := all_oneCell_toArray (abtC_one x)
  have hb0 : Below w.heap.size w (w.alloc (.cells (List.toArray (abtC x)) 31)) := (Below.refl _ _).alloc (Nat.le_refl _) _
  have hB0 : Blk (w.alloc (.cells (List.toArray (abtC x)) 31)) w.heap.size 31 (abtC x) := Blk.new w 31 _
  have hck := fun w' (hb : Below w.heap.size w w') => checkArchive_any (c := c) rfl (hr.below hb) hok hx hl
  have hlv := fun w' (hb : Below w.heap.size w w') => archiveValue_any (c := c) rfl (hr.below hb) hok hx hl
  have hld : ∀ w', Blk w' w.heap.size 31 (abtC x) → (ldOp 31 (.pointer (some ⟨w.heap.size, 0, none⟩))).run Try.prog w' = .ok (.agg (List.toArray (abtC x))) w' := fun w' h => ldOp_all h Try.underlying31 rfl (by rw [abtC_len hxo]; exact sizeAB)
  have HM : Hid (metaA x l = if checkA x l ≠ 0 then ([], checkA x l) else encF (archV x l)) := rfl
  generalize metaA x l = R at *
  generalize archV x l = v at *
  clear hxo hx
  go_enter Try.func16, Try.ntmps16
  go_upto_region 1 with (fail)
  generalize w.alloc (.cells (List.toArray (abtC x)) 31) = W at *
  have hl1 := hld _ hB0
  by_cases h0 : checkA x l = 0
  · rw [h0] at hck
    have hR : Hid (R = encF v) := by show _ = _; rw [HM.out, if_neg (by rw [h0]; simp)]
    clear HM h0
    go_wp2_with fail
    refine (hck _ hb0).mono ?_
    rintro e w1 ⟨rfl, hb1⟩
    have hl2 := hld _ (hB0.below hb1)
    have hb01 := hb0.trans (hb1.mono hb0.size)
    clear hl1
    go_wp2_with fail
    refine (hlv _ hb01).mono ?_
    rintro e w2 ⟨cs, rfl, hv, hb2⟩
    have he := enc_any hv.at (Below.refl _ _)
    have hb02 := hb01.trans (hb2.mono hb01.size)
    clear hl2
    go_wp2_with fail
    refine he.mono ?_
    rintro e w3 ⟨u, rfl, hu, hb3⟩
    go_wp2
    go_ret2
    exact ⟨u, by rw [hR.out] <;> rfl, by rw [hR.out]; exact hu, hb02.trans (hb3.mono hb02.size)⟩
  · have e1 : (checkA x l == 0) = false := by simpa using h0
    have e2 : (checkA x l != 0) = true := by simpa using h0
    have hR : Hid (R = ([], checkA x l)) := by show _ = _; rw [HM.out, if_pos h0]
    generalize checkA x l = E at *
    clear HM h0
    go_wp2_with fail
    refine (hck _ hb0).mono ?_
    rintro e w1 ⟨rfl, hb1⟩
    go_wp2
    go_ret2
    exact ⟨.slice none 0 0, by rw [hR.out] <;> rfl, by rw [hR.out]; exact BRd.nil _, hb0.trans (hb1.mono hb0.size)⟩
theorem rmarch_any {a : Option Addr} {n c : Nat} {x : Abt} {l : List Prt} {w : World} (hn : n = l.length) (hr : Row w a (l.map prtC).flatten) (hok : ∀ p ∈ l, PrtOk p) (hx : AbtOk x) (hnl : x.name.length ≤ 1000) (hl : l.length ≤ 1000) :
    Calls Try.prog 17 #[.agg (List.toArray (abtC x)), .slice a n c] w fun e w' => ∃ u, e = .returned (.tuple #[u, .int .i64 (metaA x l).2]) ∧ BRd w' u (metaA x l).1 ∧ Below w.heap.size w w' := by
  subst hn
  have hxo := hx
  have x1 : (List.toArray (abtC x)).size = 37 := by simpa using abtC_len hx
  have x2 : OneC (List.toArray (abtC x)) := all_oneCell_toArray (abtC_one x)
  have hb0 : Below w.heap.size w (w.alloc (.cells (List.toArray (abtC x)) 31)) := (Below.refl _ _).alloc (Nat.le_refl _) _
  have hB0 : Blk (w.alloc (.cells (List.toArray (abtC x)) 31)) w.heap.size 31 (abtC x) := Blk.new w 31 _
  have hck := fun w' (hb : Below w.heap.size w w') => rCheckArchive_any (c := c) rfl (hr.below hb) hok hx hnl hl
  have hlv := fun w' (hb : Below w.heap.size w w') => rArchiveValue_any (c := c) rfl (hr.below hb) hok hx hl
  have hld : ∀ w', Blk w' w.heap.size 31 (abtC x) → (ldOp 31 (.pointer (some ⟨w.heap.size, 0, none⟩))).run Try.prog w' = .ok (.agg (List.toArray (abtC x))) w' := fun w' h => ldOp_all h Try.underlying31 rfl (by rw [abtC_len hxo]; exact sizeAB)
  have HM : Hid (metaA x l = if checkA x l ≠ 0 then ([], checkA x l) else encF (archV x l)) := rfl
  generalize metaA x l = R at *
  generalize archV x l = v at *
  clear hxo hx hnl
  go_enter Try.func17, Try.ntmps17
  go_upto_region 1 with (fail)
  generalize w.alloc (.cells (List.toArray (abtC x)) 31) = W at *
  have hl1 := hld _ hB0
  by_cases h0 : checkA x l = 0
  · rw [h0] at hck
    have hR : Hid (R = encF v) := by show _ = _; rw [HM.out, if_neg (by rw [h0]; simp)]
    clear HM h0
    go_wp2_with fail
    refine (hck _ hb0).mono ?_
    rintro e w1 ⟨rfl, hb1⟩
    have hl2 := hld _ (hB0.below hb1)
    have hb01 := hb0.trans (hb1.mono hb0.size)
    clear hl1
    go_wp2_with fail
    refine (hlv _ hb01).mono ?_
    rintro e w2 ⟨cs, rfl, hv, hb2⟩
    have he := renc_any hv.at (Below.refl _ _)
    have hb02 := hb01.trans (hb2.mono hb01.size)
    clear hl2
    go_wp2_with fail
    refine he.mono ?_
    rintro e w3 ⟨u, rfl, hu, hb3⟩
    go_wp2
    go_ret2
    exact ⟨u, by rw [hR.out] <;> rfl, by rw [hR.out]; exact hu, hb02.trans (hb3.mono hb02.size)⟩
  · have e1 : (checkA x l == 0) = false := by simpa using h0
    have e2 : (checkA x l != 0) = true := by simpa using h0
    have hR : Hid (R = ([], checkA x l)) := by show _ = _; rw [HM.out, if_pos h0]
    generalize checkA x l = E at *
    clear HM h0
    go_wp2_with fail
    refine (hck _ hb0).mono ?_
    rintro e w1 ⟨rfl, hb1⟩
    go_wp2
    go_ret2
    exact ⟨.slice none 0 0, by rw [hR.out] <;> rfl, by rw [hR.out]; exact BRd.nil _, hb0.trans (hb1.mono hb0.size)⟩
end Go.Proofs.Ytakliplkabgmbaa
