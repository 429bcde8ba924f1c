/- Layer 23: the document's ListValue, List. -/
import Derived.Test.YtakliplkabgmbaaM7
set_option maxRecDepth 20000
namespace Go.Proofs.Ytakliplkabgmbaa
open Go.RowKit Go.Hd
section
variable (ρ : Operand → Value) (dst : Option Tmp) (ty : TypeId) (pos : String) (after : Array Edge) (guard : Option (Nat × Bool))
theorem h_bsLV (n : Nat) (parts : Array (Nat × Operand)) : execOp ρ { dst, op := .buildSlice 61 n parts, type := ty, pos, after, guard } = (do pure (.value (← bsOp 61 n (parts.map fun (i, x) => (i, ρ x))))) := rfl
end
attribute [local go_sem ↓] h_ldV h_stV h_alV h_ldID h_stID h_alID h_bsLV
attribute [local go_sem] r_ldV r_stV r_alV r_ldID r_stID r_alID

/-- The id of an archive in a row, loaded. -/
theorem abt_ldID {w : World} {a : Option Addr} {l : List Abt} (hr : Row w a (l.map abtC).flatten) (hok : ∀ x ∈ l, AbtOk x) {j : Nat} (hj : j < l.length) :
    (ldOp 29 (.pointer (some ⟨((hd a).add (j * 37)).block, ((hd a).add (j * 37)).off + 1, none⟩))).run Try.prog w = .ok (.agg (List.toArray (l[j].id.map b8))) w := by
  have hxo := hok _ (List.getElem_mem hj)
  refine ldOp_at (fun i v hv => ?_) Try.underlying29 rfl (by rw [List.length_map, hxo.id]; exact sizeID)
  rw [Addr.add_mid, Nat.add_assoc]
  refine cell_fld (abt_cell hr hok hj (k := 1 + i) ?_)
  rw [← abtC_id hxo] at hv
  rw [List.getElem?_take] at hv
  split at hv
  · rwa [List.getElem?_drop] at hv
  · cases hv
theorem VsAt.lst {ok : Nat → Prop} {base : Nat} {w : World} {a : Option Addr} {n c : Nat} {vs : List PV} (h : VsAt ok base w (.slice a n c) vs) (hok : ∀ b, ok b → base ≤ b) : n = vs.length ∧ VAtP (fun b => base ≤ b) w (lstC (.slice a vs.length c)) (pList vs) := by
  obtain ⟨css, h1, h2, hO, hel⟩ := h
  obtain ⟨a', c', hv, e1, e2, hr, ho⟩ := owns_rowN hO (by decide)
  cases hv
  refine ⟨rfl, VAtP.lst (css := css) hr e1 e2 h1 h2 (fun h0 => (ho (by rw [flatten_len h2, h1]; exact Nat.mul_pos h0 (by decide))).2.1) (fun i c v hc hv => (hel i c v hc hv).mono (fun b hb _ => hok b hb))⟩
set_option maxHeartbeats 2000000 in
theorem rListValue_any {a : Option Addr} {n c : Nat} {l : List Abt} {w : World} (hn : n = l.length) (hr : Row w a (l.map abtC).flatten) (hok : ∀ x ∈ l, AbtOk x) (hl : l.length ≤ 1000) :
    Calls Try.prog 33 #[.slice a n c] w fun e w' => ∃ cs, e = .returned (.agg (List.toArray cs)) ∧ VAtP (fun b => w.heap.size ≤ b) w' cs (listV l) ∧ Below w.heap.size w w' := by
  subst hn
  have zs := zV_size
  have hO6 := oneC6
  have HL := Lib.hid hl
  have HOK := Lib.hid hok
  have HRow := Lib.hid hr
  have hb0 : Hid (Below w.heap.size w (w.alloc (.cells zV 63))) := (Below.refl _ _).alloc (Nat.le_refl _) _
  have R0 : Hid (Blk (w.alloc (.cells zV 63)) w.heap.size 63 zV.toList) := Blk.new _ _ _
  clear hl hok hr
  go_enter Try.func33, Try.ntmps33
  go_upto_region 1 with (fail)
  generalize w.alloc (.cells zV 63) = W0 at *
  go_wp2
  go_loopw [3, 4] (fun u i wr => ∃ j : Nat, j ≤ l.length ∧ i = .int .i64 j ∧ Hid (VsAt (fun b => w.heap.size + 1 ≤ b ∧ u.ownBlock ≠ some b) (w.heap.size + 1) wr u ((l.take j).map abtV)) ∧ Hid (Below w.heap.size w wr) ∧ Hid (Blk wr w.heap.size 63 zV.toList)) (fun _ i _ => l.length - (intOf i).toNat)
  case atStart => exact ⟨0, Nat.zero_le _, rfl, Lib.hid (VsAt.nil _ _ _), hb0, R0⟩
  case round =>
    obtain ⟨j, hj, rfl, hVs, hb, hR⟩ := hrel
    have j0 : (0 : Int) ≤ (j : Int) := by omega
    have jb : IntKind.i64.wrap ((j : Int) + 1) = (j : Int) + 1 := IntWalk.i64_in _ (by have := HL.out; omega)
    obtain ⟨vs, hvs⟩ : ∃ vs, vs = (l.take j).map abtV := ⟨_, rfl⟩
    rw [← hvs] at hVs
    obtain ⟨au, cu, rfl⟩ : ∃ au cu, u3 = .slice au vs.length cu := by
      obtain ⟨css, c1, c2, hO, _⟩ := hVs.out
      obtain ⟨a', c', h1, _⟩ := owns_rowN hO (by decide)
      exact ⟨a', c', h1⟩
    clear hb0 R0
    by_cases hlt : j < l.length
    · have j1 : (j : Int) < (l.length : Int) := by omega
      have hxo := HOK.out _ (List.getElem_mem hlt)
      have s1 := HRow.out.elemSome (s := 37) (abts37 HOK.out) (by decide) (i := j) (by simpa using hlt)
      have hT : Hid ((l.take (j + 1)).map abtV = vs ++ [abtV l[j]]) := by
        show _ = _
        rw [List.take_succ_eq_append_getElem hlt, List.map_append, hvs]; rfl
      have hxt : ∀ w', Below w.heap.size w w' → w'.cell? ((hd a).add (j * 37)) = some (.string (str l[j].name)) ∧ (ldOp 29 (.pointer (some ⟨((hd a).add (j * 37)).block, ((hd a).add (j * 37)).off + 1, none⟩))).run Try.prog w' = .ok (.agg (List.toArray (l[j].id.map b8))) w' ∧ w'.cell? ⟨((hd a).add (j * 37)).block, ((hd a).add (j * 37)).off + 33, none⟩ = some (.int .i64 l[j].time) := fun w' h => by
        have hr2 := HRow.out.below h
        refine ⟨?_, abt_ldID hr2 HOK.out hlt, cell_fld (abt_cell hr2 HOK.out hlt (abtC_33 hxo))⟩
        have := abt_cell hr2 HOK.out hlt (abtC_0 l[j])
        rwa [addr_add0] at this
      generalize l[j] = x at *
      have hvl : Hid (vs.length ≤ 1000000000) := by
        have h1 := HL.out
        have h2 : vs.length ≤ l.length := by rw [hvs, List.length_map, List.length_take]; omega
        show _ ≤ _
        omega
      clear hvs
      go_upto_region 5 with (fail)
      have hSm : ∀ (L : Array Bool) (w1 w2 : World), Below w.heap.size w w1 → Mo w1 w2 → Below w.heap.size w w2 := fun L w1 w2 h hm => h.trans (hm.mono h.size)
      have hSi : ∀ i, i ≠ 99 → ∀ (L : Array Bool) (w1 : World), Below w.heap.size w w1 ↔ Below w.heap.size w w1 := fun _ _ _ _ => Iff.rfl
      have hS0 : Below w.heap.size w (wr.drewN 1) := Below.drewN hb.out 1
      have hSw : ∀ w', Mo (wr.drewN 1) w' → Below w.heap.size w w' := fun w' hm => hSm #[] _ _ hS0 hm
      refine wp_region_upN (S := fun _ w1 => Below w.heap.size w w1) 24 rfl (by kernel_rfl) ?_
      refine wpAnyU_take (i := 0) (A := fun _ => True) (v := .slice au vs.length cu) (a' := ⟨#[.slice a l.length c, undef, .pointer (some ⟨w.heap.size, 0, none⟩), .slice au vs.length cu, .int .i64 (j : Int), .int .i64 (j : Int), .slice a l.length c, .int .i64 (l.length : Int), .bool true, u9, u10, .slice au vs.length cu, u12, u13, u14, u15, u16, u17, u18, u19, u20, u21, u22, u23, u24, u25, u26, u27, u28, u29, u30, u31, u32, u33, undef, undef, undef, undef, undef, undef], []⟩) hSm (hSi 0 (by decide)) (fun _ _ _ => trivial) rfl (by kernel_rfl) (by kernel_rfl) (by kernel_rfl) (fun _ _ _ h => h) hS0 (Tame.val rfl (fun w' hA => by go_simp)) rfl ?_
      refine wpAnyU_take (i := 1) (A := fun _ => True) (v := .slice a l.length c) (a' := ⟨#[.slice a l.length c, undef, .pointer (some ⟨w.heap.size, 0, none⟩), .slice au vs.length cu, .int .i64 (j : Int), .int .i64 (j : Int), .slice a l.length c, .int .i64 (l.length : Int), .bool true, u9, u10, .slice au vs.length cu, .slice a l.length c, u13, u14, u15, u16, u17, u18, u19, u20, u21, u22, u23, u24, u25, u26, u27, u28, u29, u30, u31, u32, u33, undef, undef, undef, undef, undef, undef], []⟩) hSm (hSi 1 (by decide)) (fun _ _ _ => trivial) rfl (by kernel_rfl) (by kernel_rfl) (by kernel_rfl) (fun _ _ _ h => h) hS0 (Tame.val rfl (fun w' hA => by go_simp)) rfl ?_
      refine wpAnyU_take (i := 2) (A := fun _ => True) (v := .int .i64 (j : Int)) (a' := ⟨#[.slice a l.length c, undef, .pointer (some ⟨w.heap.size, 0, none⟩), .slice au vs.length cu, .int .i64 (j : Int), .int .i64 (j : Int), .slice a l.length c, .int .i64 (l.length : Int), .bool true, u9, u10, .slice au vs.length cu, .slice a l.length c, .int .i64 (j : Int), u14, u15, u16, u17, u18, u19, u20, u21, u22, u23, u24, u25, u26, u27, u28, u29, u30, u31, u32, u33, undef, undef, undef, undef, undef, undef], []⟩) hSm (hSi 2 (by decide)) (fun _ _ _ => trivial) rfl (by kernel_rfl) (by kernel_rfl) (by kernel_rfl) (fun _ _ _ h => h) hS0 (Tame.val rfl (fun w' hA => by go_simp)) rfl ?_
      refine wpAnyU_take (i := 3) (A := fun _ => True) (v := .pointer (some ((hd a).add (j * 37)))) (a' := ⟨#[.slice a l.length c, undef, .pointer (some ⟨w.heap.size, 0, none⟩), .slice au vs.length cu, .int .i64 (j : Int), .int .i64 (j : Int), .slice a l.length c, .int .i64 (l.length : Int), .bool true, u9, u10, .slice au vs.length cu, .slice a l.length c, .int .i64 (j : Int), .pointer (some ((hd a).add (j * 37))), u15, u16, u17, u18, u19, u20, u21, u22, u23, u24, u25, u26, u27, u28, u29, u30, u31, u32, u33, undef, undef, undef, undef, undef, undef], []⟩) hSm (hSi 3 (by decide)) (fun _ _ _ => trivial) rfl (by kernel_rfl) (by kernel_rfl) (by kernel_rfl) (fun _ _ _ h => h) hS0 (Tame.val rfl (fun w' hA => by go_simp)) rfl ?_
      refine wpAnyU_take (i := 4) (A := fun _ => True) (v := .pointer (some ((hd a).add (j * 37)))) (a' := ⟨#[.slice a l.length c, undef, .pointer (some ⟨w.heap.size, 0, none⟩), .slice au vs.length cu, .int .i64 (j : Int), .int .i64 (j : Int), .slice a l.length c, .int .i64 (l.length : Int), .bool true, u9, u10, .slice au vs.length cu, .slice a l.length c, .int .i64 (j : Int), .pointer (some ((hd a).add (j * 37))), .pointer (some ((hd a).add (j * 37))), u16, u17, u18, u19, u20, u21, u22, u23, u24, u25, u26, u27, u28, u29, u30, u31, u32, u33, undef, undef, undef, undef, undef, undef], []⟩) hSm (hSi 4 (by decide)) (fun _ _ _ => trivial) rfl (by kernel_rfl) (by kernel_rfl) (by kernel_rfl) (fun _ _ _ h => h) hS0 (Tame.val rfl (fun w' hA => by go_simp)) rfl ?_
      refine wpAnyU_take (i := 5) (A := fun w1 => Below w.heap.size w w1) (v := .string (str x.name)) (a' := ⟨#[.slice a l.length c, undef, .pointer (some ⟨w.heap.size, 0, none⟩), .slice au vs.length cu, .int .i64 (j : Int), .int .i64 (j : Int), .slice a l.length c, .int .i64 (l.length : Int), .bool true, u9, u10, .slice au vs.length cu, .slice a l.length c, .int .i64 (j : Int), .pointer (some ((hd a).add (j * 37))), .pointer (some ((hd a).add (j * 37))), .string (str x.name), u17, u18, u19, u20, u21, u22, u23, u24, u25, u26, u27, u28, u29, u30, u31, u32, u33, undef, undef, undef, undef, undef, undef], []⟩) hSm (hSi 5 (by decide)) (fun _ _ h => h) rfl (by kernel_rfl) (by kernel_rfl) (by kernel_rfl) (fun _ _ _ h => h) hS0 (Tame.val rfl (fun w' hA => by have h1 := (hxt _ hA).1; go_simp)) rfl ?_
      refine wpAnyU_take (i := 6) (A := fun _ => True) (v := .agg (List.toArray (txtC x.name))) (a' := ⟨#[.slice a l.length c, undef, .pointer (some ⟨w.heap.size, 0, none⟩), .slice au vs.length cu, .int .i64 (j : Int), .int .i64 (j : Int), .slice a l.length c, .int .i64 (l.length : Int), .bool true, u9, u10, .slice au vs.length cu, .slice a l.length c, .int .i64 (j : Int), .pointer (some ((hd a).add (j * 37))), .pointer (some ((hd a).add (j * 37))), .string (str x.name), .agg (List.toArray (txtC x.name)), u18, u19, u20, u21, u22, u23, u24, u25, u26, u27, u28, u29, u30, u31, u32, u33, undef, undef, undef, undef, undef, undef], []⟩) hSm (hSi 6 (by decide)) (fun _ _ _ => trivial) rfl (by kernel_rfl) (by kernel_rfl) (by kernel_rfl) (fun _ _ _ h => h) hS0 (Tame.enter rfl (fun w' => by go_simp) (fun w' _ => rtext_any x.name w')) rfl ?_
      refine wpAnyU_take (i := 7) (A := fun _ => True) (v := .slice a l.length c) (a' := ⟨#[.slice a l.length c, undef, .pointer (some ⟨w.heap.size, 0, none⟩), .slice au vs.length cu, .int .i64 (j : Int), .int .i64 (j : Int), .slice a l.length c, .int .i64 (l.length : Int), .bool true, u9, u10, .slice au vs.length cu, .slice a l.length c, .int .i64 (j : Int), .pointer (some ((hd a).add (j * 37))), .pointer (some ((hd a).add (j * 37))), .string (str x.name), .agg (List.toArray (txtC x.name)), .slice a l.length c, u19, u20, u21, u22, u23, u24, u25, u26, u27, u28, u29, u30, u31, u32, u33, undef, undef, undef, undef, undef, undef], []⟩) hSm (hSi 7 (by decide)) (fun _ _ _ => trivial) rfl (by kernel_rfl) (by kernel_rfl) (by kernel_rfl) (fun _ _ _ h => h) hS0 (Tame.val rfl (fun w' hA => by go_simp)) rfl ?_
      refine wpAnyU_take (i := 8) (A := fun _ => True) (v := .int .i64 (j : Int)) (a' := ⟨#[.slice a l.length c, undef, .pointer (some ⟨w.heap.size, 0, none⟩), .slice au vs.length cu, .int .i64 (j : Int), .int .i64 (j : Int), .slice a l.length c, .int .i64 (l.length : Int), .bool true, u9, u10, .slice au vs.length cu, .slice a l.length c, .int .i64 (j : Int), .pointer (some ((hd a).add (j * 37))), .pointer (some ((hd a).add (j * 37))), .string (str x.name), .agg (List.toArray (txtC x.name)), .slice a l.length c, .int .i64 (j : Int), u20, u21, u22, u23, u24, u25, u26, u27, u28, u29, u30, u31, u32, u33, undef, undef, undef, undef, undef, undef], []⟩) hSm (hSi 8 (by decide)) (fun _ _ _ => trivial) rfl (by kernel_rfl) (by kernel_rfl) (by kernel_rfl) (fun _ _ _ h => h) hS0 (Tame.val rfl (fun w' hA => by go_simp)) rfl ?_
      refine wpAnyU_take (i := 9) (A := fun _ => True) (v := .pointer (some ((hd a).add (j * 37)))) (a' := ⟨#[.slice a l.length c, undef, .pointer (some ⟨w.heap.size, 0, none⟩), .slice au vs.length cu, .int .i64 (j : Int), .int .i64 (j : Int), .slice a l.length c, .int .i64 (l.length : Int), .bool true, u9, u10, .slice au vs.length cu, .slice a l.length c, .int .i64 (j : Int), .pointer (some ((hd a).add (j * 37))), .pointer (some ((hd a).add (j * 37))), .string (str x.name), .agg (List.toArray (txtC x.name)), .slice a l.length c, .int .i64 (j : Int), .pointer (some ((hd a).add (j * 37))), u21, u22, u23, u24, u25, u26, u27, u28, u29, u30, u31, u32, u33, undef, undef, undef, undef, undef, undef], []⟩) hSm (hSi 9 (by decide)) (fun _ _ _ => trivial) rfl (by kernel_rfl) (by kernel_rfl) (by kernel_rfl) (fun _ _ _ h => h) hS0 (Tame.val rfl (fun w' hA => by go_simp)) rfl ?_
      refine wpAnyU_take (i := 10) (A := fun _ => True) (v := .pointer (some ⟨((hd a).add (j * 37)).block, ((hd a).add (j * 37)).off + 1, none⟩)) (a' := ⟨#[.slice a l.length c, undef, .pointer (some ⟨w.heap.size, 0, none⟩), .slice au vs.length cu, .int .i64 (j : Int), .int .i64 (j : Int), .slice a l.length c, .int .i64 (l.length : Int), .bool true, u9, u10, .slice au vs.length cu, .slice a l.length c, .int .i64 (j : Int), .pointer (some ((hd a).add (j * 37))), .pointer (some ((hd a).add (j * 37))), .string (str x.name), .agg (List.toArray (txtC x.name)), .slice a l.length c, .int .i64 (j : Int), .pointer (some ((hd a).add (j * 37))), .pointer (some ⟨((hd a).add (j * 37)).block, ((hd a).add (j * 37)).off + 1, none⟩), u22, u23, u24, u25, u26, u27, u28, u29, u30, u31, u32, u33, undef, undef, undef, undef, undef, undef], []⟩) hSm (hSi 10 (by decide)) (fun _ _ _ => trivial) rfl (by kernel_rfl) (by kernel_rfl) (by kernel_rfl) (fun _ _ _ h => h) hS0 (Tame.val rfl (fun w' hA => by go_simp)) rfl ?_
      refine wpAnyU_take (i := 11) (A := fun w1 => Below w.heap.size w w1) (v := .agg (List.toArray (x.id.map b8))) (a' := ⟨#[.slice a l.length c, undef, .pointer (some ⟨w.heap.size, 0, none⟩), .slice au vs.length cu, .int .i64 (j : Int), .int .i64 (j : Int), .slice a l.length c, .int .i64 (l.length : Int), .bool true, u9, u10, .slice au vs.length cu, .slice a l.length c, .int .i64 (j : Int), .pointer (some ((hd a).add (j * 37))), .pointer (some ((hd a).add (j * 37))), .string (str x.name), .agg (List.toArray (txtC x.name)), .slice a l.length c, .int .i64 (j : Int), .pointer (some ((hd a).add (j * 37))), .pointer (some ⟨((hd a).add (j * 37)).block, ((hd a).add (j * 37)).off + 1, none⟩), .agg (List.toArray (x.id.map b8)), u23, u24, u25, u26, u27, u28, u29, u30, u31, u32, u33, undef, undef, undef, undef, undef, undef], []⟩) hSm (hSi 11 (by decide)) (fun _ _ h => h) rfl (by kernel_rfl) (by kernel_rfl) (by kernel_rfl) (fun _ _ _ h => h) hS0 (Tame.val rfl (fun w' hA => run_ldOp (hxt _ hA).2.1)) rfl ?_
      refine wpAnyU_take (i := 13) (A := fun _ => True) (v := .slice a l.length c) (a' := ⟨#[.slice a l.length c, undef, .pointer (some ⟨w.heap.size, 0, none⟩), .slice au vs.length cu, .int .i64 (j : Int), .int .i64 (j : Int), .slice a l.length c, .int .i64 (l.length : Int), .bool true, u9, u10, .slice au vs.length cu, .slice a l.length c, .int .i64 (j : Int), .pointer (some ((hd a).add (j * 37))), .pointer (some ((hd a).add (j * 37))), .string (str x.name), .agg (List.toArray (txtC x.name)), .slice a l.length c, .int .i64 (j : Int), .pointer (some ((hd a).add (j * 37))), .pointer (some ⟨((hd a).add (j * 37)).block, ((hd a).add (j * 37)).off + 1, none⟩), .agg (List.toArray (x.id.map b8)), u23, .slice a l.length c, u25, u26, u27, u28, u29, u30, u31, u32, u33, undef, undef, undef, undef, undef, undef], []⟩) hSm (hSi 13 (by decide)) (fun _ _ _ => trivial) rfl (by kernel_rfl) (by kernel_rfl) (by kernel_rfl) (fun _ _ _ h => h) hS0 (Tame.val rfl (fun w' hA => by go_simp)) rfl ?_
      refine wpAnyU_take (i := 14) (A := fun _ => True) (v := .int .i64 (j : Int)) (a' := ⟨#[.slice a l.length c, undef, .pointer (some ⟨w.heap.size, 0, none⟩), .slice au vs.length cu, .int .i64 (j : Int), .int .i64 (j : Int), .slice a l.length c, .int .i64 (l.length : Int), .bool true, u9, u10, .slice au vs.length cu, .slice a l.length c, .int .i64 (j : Int), .pointer (some ((hd a).add (j * 37))), .pointer (some ((hd a).add (j * 37))), .string (str x.name), .agg (List.toArray (txtC x.name)), .slice a l.length c, .int .i64 (j : Int), .pointer (some ((hd a).add (j * 37))), .pointer (some ⟨((hd a).add (j * 37)).block, ((hd a).add (j * 37)).off + 1, none⟩), .agg (List.toArray (x.id.map b8)), u23, .slice a l.length c, .int .i64 (j : Int), u26, u27, u28, u29, u30, u31, u32, u33, undef, undef, undef, undef, undef, undef], []⟩) hSm (hSi 14 (by decide)) (fun _ _ _ => trivial) rfl (by kernel_rfl) (by kernel_rfl) (by kernel_rfl) (fun _ _ _ h => h) hS0 (Tame.val rfl (fun w' hA => by go_simp)) rfl ?_
      refine wpAnyU_take (i := 15) (A := fun _ => True) (v := .pointer (some ((hd a).add (j * 37)))) (a' := ⟨#[.slice a l.length c, undef, .pointer (some ⟨w.heap.size, 0, none⟩), .slice au vs.length cu, .int .i64 (j : Int), .int .i64 (j : Int), .slice a l.length c, .int .i64 (l.length : Int), .bool true, u9, u10, .slice au vs.length cu, .slice a l.length c, .int .i64 (j : Int), .pointer (some ((hd a).add (j * 37))), .pointer (some ((hd a).add (j * 37))), .string (str x.name), .agg (List.toArray (txtC x.name)), .slice a l.length c, .int .i64 (j : Int), .pointer (some ((hd a).add (j * 37))), .pointer (some ⟨((hd a).add (j * 37)).block, ((hd a).add (j * 37)).off + 1, none⟩), .agg (List.toArray (x.id.map b8)), u23, .slice a l.length c, .int .i64 (j : Int), .pointer (some ((hd a).add (j * 37))), u27, u28, u29, u30, u31, u32, u33, undef, undef, undef, undef, undef, undef], []⟩) hSm (hSi 15 (by decide)) (fun _ _ _ => trivial) rfl (by kernel_rfl) (by kernel_rfl) (by kernel_rfl) (fun _ _ _ h => h) hS0 (Tame.val rfl (fun w' hA => by go_simp)) rfl ?_
      refine wpAnyU_take (i := 16) (A := fun _ => True) (v := .pointer (some ⟨((hd a).add (j * 37)).block, ((hd a).add (j * 37)).off + 33, none⟩)) (a' := ⟨#[.slice a l.length c, undef, .pointer (some ⟨w.heap.size, 0, none⟩), .slice au vs.length cu, .int .i64 (j : Int), .int .i64 (j : Int), .slice a l.length c, .int .i64 (l.length : Int), .bool true, u9, u10, .slice au vs.length cu, .slice a l.length c, .int .i64 (j : Int), .pointer (some ((hd a).add (j * 37))), .pointer (some ((hd a).add (j * 37))), .string (str x.name), .agg (List.toArray (txtC x.name)), .slice a l.length c, .int .i64 (j : Int), .pointer (some ((hd a).add (j * 37))), .pointer (some ⟨((hd a).add (j * 37)).block, ((hd a).add (j * 37)).off + 1, none⟩), .agg (List.toArray (x.id.map b8)), u23, .slice a l.length c, .int .i64 (j : Int), .pointer (some ((hd a).add (j * 37))), .pointer (some ⟨((hd a).add (j * 37)).block, ((hd a).add (j * 37)).off + 33, none⟩), u28, u29, u30, u31, u32, u33, undef, undef, undef, undef, undef, undef], []⟩) hSm (hSi 16 (by decide)) (fun _ _ _ => trivial) rfl (by kernel_rfl) (by kernel_rfl) (by kernel_rfl) (fun _ _ _ h => h) hS0 (Tame.val rfl (fun w' hA => by go_simp)) rfl ?_
      refine wpAnyU_take (i := 17) (A := fun w1 => Below w.heap.size w w1) (v := .int .i64 x.time) (a' := ⟨#[.slice a l.length c, undef, .pointer (some ⟨w.heap.size, 0, none⟩), .slice au vs.length cu, .int .i64 (j : Int), .int .i64 (j : Int), .slice a l.length c, .int .i64 (l.length : Int), .bool true, u9, u10, .slice au vs.length cu, .slice a l.length c, .int .i64 (j : Int), .pointer (some ((hd a).add (j * 37))), .pointer (some ((hd a).add (j * 37))), .string (str x.name), .agg (List.toArray (txtC x.name)), .slice a l.length c, .int .i64 (j : Int), .pointer (some ((hd a).add (j * 37))), .pointer (some ⟨((hd a).add (j * 37)).block, ((hd a).add (j * 37)).off + 1, none⟩), .agg (List.toArray (x.id.map b8)), u23, .slice a l.length c, .int .i64 (j : Int), .pointer (some ((hd a).add (j * 37))), .pointer (some ⟨((hd a).add (j * 37)).block, ((hd a).add (j * 37)).off + 33, none⟩), .int .i64 x.time, u29, u30, u31, u32, u33, undef, undef, undef, undef, undef, undef], []⟩) hSm (hSi 17 (by decide)) (fun _ _ h => h) rfl (by kernel_rfl) (by kernel_rfl) (by kernel_rfl) (fun _ _ _ h => h) hS0 (Tame.val rfl (fun w' hA => by have h1 := (hxt _ hA).2.2; go_simp)) rfl ?_
      refine wpAnyU_all (rs := [12]) (by kernel_rfl) (by decide) ?_
      intro w2 hm2 i hi
      obtain rfl : i = 12 := by simpa using hi
      refine wpOp_enter (f := 59) (args := #[.agg (List.toArray (x.id.map b8))]) rfl rfl (by go_simp) ((rid_any x.id w2 hxo.id).mono ?_)
      rintro e w3 ⟨ab, cb, rfl, hrb, hcb1, hcb2, hab, hb3⟩
      refine ⟨_, rfl, ?_⟩
      show _ ∧ wpAnyU _ _ _ _ _ _ _ (⟨#[.slice a l.length c, undef, .pointer (some ⟨w.heap.size, 0, none⟩), .slice au vs.length cu, .int .i64 (j : Int), .int .i64 (j : Int), .slice a l.length c, .int .i64 (l.length : Int), .bool true, u9, u10, .slice au vs.length cu, .slice a l.length c, .int .i64 (j : Int), .pointer (some ((hd a).add (j * 37))), .pointer (some ((hd a).add (j * 37))), .string (str x.name), .agg (List.toArray (txtC x.name)), .slice a l.length c, .int .i64 (j : Int), .pointer (some ((hd a).add (j * 37))), .pointer (some ⟨((hd a).add (j * 37)).block, ((hd a).add (j * 37)).off + 1, none⟩), .agg (List.toArray (x.id.map b8)), .agg (List.toArray (bytC (.slice ab 32 cb))), .slice a l.length c, .int .i64 (j : Int), .pointer (some ((hd a).add (j * 37))), .pointer (some ⟨((hd a).add (j * 37)).block, ((hd a).add (j * 37)).off + 33, none⟩), .int .i64 x.time, u29, u30, u31, u32, u33, undef, undef, undef, undef, undef, undef], []⟩ : Act) _
      have hm3 : Mo (wr.drewN 1) w3 := Mo.trans hm2 hb3
      refine ⟨hSw _ hm3, ?_⟩
      refine wpAnyU_take (i := 18) (A := fun _ => True) (v := .agg (List.toArray (numC x.time))) (a' := ⟨#[.slice a l.length c, undef, .pointer (some ⟨w.heap.size, 0, none⟩), .slice au vs.length cu, .int .i64 (j : Int), .int .i64 (j : Int), .slice a l.length c, .int .i64 (l.length : Int), .bool true, u9, u10, .slice au vs.length cu, .slice a l.length c, .int .i64 (j : Int), .pointer (some ((hd a).add (j * 37))), .pointer (some ((hd a).add (j * 37))), .string (str x.name), .agg (List.toArray (txtC x.name)), .slice a l.length c, .int .i64 (j : Int), .pointer (some ((hd a).add (j * 37))), .pointer (some ⟨((hd a).add (j * 37)).block, ((hd a).add (j * 37)).off + 1, none⟩), .agg (List.toArray (x.id.map b8)), .agg (List.toArray (bytC (.slice ab 32 cb))), .slice a l.length c, .int .i64 (j : Int), .pointer (some ((hd a).add (j * 37))), .pointer (some ⟨((hd a).add (j * 37)).block, ((hd a).add (j * 37)).off + 33, none⟩), .int .i64 x.time, .agg (List.toArray (numC x.time)), u30, u31, u32, u33, undef, undef, undef, undef, undef, undef], []⟩) hSm (hSi 18 (by decide)) (fun _ _ _ => trivial) rfl (by kernel_rfl) (by kernel_rfl) (by kernel_rfl) (fun _ _ _ h => h) (hSw _ hm3) (Tame.enter rfl (fun w' => by go_simp) (fun w' _ => rnum_any x.time w')) rfl ?_
      refine wpAnyU_all (rs := [19]) (by kernel_rfl) (by decide) ?_
      intro w4 hm4 i hi
      obtain rfl : i = 19 := by simpa using hi
      refine wpOp_val (v := .slice (some ⟨w4.heap.size, 0, none⟩) 3 3) (w' := w4.alloc (.cells (List.toArray (List.flatten [txtC x.name, bytC (.slice ab 32 cb), numC x.time])) 63)) (a' := ⟨#[.slice a l.length c, undef, .pointer (some ⟨w.heap.size, 0, none⟩), .slice au vs.length cu, .int .i64 (j : Int), .int .i64 (j : Int), .slice a l.length c, .int .i64 (l.length : Int), .bool true, u9, u10, .slice au vs.length cu, .slice a l.length c, .int .i64 (j : Int), .pointer (some ((hd a).add (j * 37))), .pointer (some ((hd a).add (j * 37))), .string (str x.name), .agg (List.toArray (txtC x.name)), .slice a l.length c, .int .i64 (j : Int), .pointer (some ((hd a).add (j * 37))), .pointer (some ⟨((hd a).add (j * 37)).block, ((hd a).add (j * 37)).off + 1, none⟩), .agg (List.toArray (x.id.map b8)), .agg (List.toArray (bytC (.slice ab 32 cb))), .slice a l.length c, .int .i64 (j : Int), .pointer (some ((hd a).add (j * 37))), .pointer (some ⟨((hd a).add (j * 37)).block, ((hd a).add (j * 37)).off + 33, none⟩), .int .i64 x.time, .agg (List.toArray (numC x.time)), .slice (some ⟨w4.heap.size, 0, none⟩) 3 3, u31, u32, u33, undef, undef, undef, undef, undef, undef], []⟩) rfl rfl (run_bsOp (vals := #[(0, .agg (List.toArray (txtC x.name))), (1, .agg (List.toArray (bytC (.slice ab 32 cb)))), (2, .agg (List.toArray (numC x.time)))]) (by first | rfl | go_simp | simp [Act.eval]) (bsOp_rows (vs := [txtC x.name, bytC (.slice ab 32 cb), numC x.time]) Try.underlying61 infoV (by decide) rfl (by decide) (by decide) (by exact zV_size) (by simp [txtC, bytC, numC]) rfl)) rfl ?_
      have hm5 : Mo w4 (w4.alloc (.cells (List.toArray (List.flatten [txtC x.name, bytC (.slice ab 32 cb), numC x.time])) 63)) := (Below.refl _ _).alloc (Nat.le_refl _) _
      have hm35 := Mo.trans (Mo.trans hm3 hm4) hm5
      have hB5 : Blk (w4.alloc (.cells (List.toArray (List.flatten [txtC x.name, bytC (.slice ab 32 cb), numC x.time])) 63)) w4.heap.size 63 (List.flatten [txtC x.name, bytC (.slice ab 32 cb), numC x.time]) := Blk.new _ _ _
      have hg4 : wr.heap.size ≤ w4.heap.size := (Mo.trans hm3 hm4).size
      have hrb5 := hrb.below (Mo.trans hm4 hm5)
      refine ⟨hSw _ hm35, ?_⟩
      generalize hgg : w4.heap.size = g at *
      generalize hw5 : w4.alloc (.cells (List.toArray (List.flatten [txtC x.name, bytC (.slice ab 32 cb), numC x.time])) 63) = w5 at *
      clear hw5 hm4 hm5
      refine wpAnyU_take (i := 20) (A := fun _ => True) (v := .agg #[.int .i64 6, .int .i64 0, .slice none 0 0, .string { data := #[] }, .slice none 0 0, .slice (some ⟨g, 0, none⟩) 3 3]) (a' := ⟨#[.slice a l.length c, undef, .pointer (some ⟨w.heap.size, 0, none⟩), .slice au vs.length cu, .int .i64 (j : Int), .int .i64 (j : Int), .slice a l.length c, .int .i64 (l.length : Int), .bool true, u9, u10, .slice au vs.length cu, .slice a l.length c, .int .i64 (j : Int), .pointer (some ((hd a).add (j * 37))), .pointer (some ((hd a).add (j * 37))), .string (str x.name), .agg (List.toArray (txtC x.name)), .slice a l.length c, .int .i64 (j : Int), .pointer (some ((hd a).add (j * 37))), .pointer (some ⟨((hd a).add (j * 37)).block, ((hd a).add (j * 37)).off + 1, none⟩), .agg (List.toArray (x.id.map b8)), .agg (List.toArray (bytC (.slice ab 32 cb))), .slice a l.length c, .int .i64 (j : Int), .pointer (some ((hd a).add (j * 37))), .pointer (some ⟨((hd a).add (j * 37)).block, ((hd a).add (j * 37)).off + 33, none⟩), .int .i64 x.time, .agg (List.toArray (numC x.time)), .slice (some ⟨g, 0, none⟩) 3 3, .agg #[.int .i64 6, .int .i64 0, .slice none 0 0, .string { data := #[] }, .slice none 0 0, .slice (some ⟨g, 0, none⟩) 3 3], u32, u33, undef, undef, undef, undef, undef, undef], []⟩) hSm (hSi 20 (by decide)) (fun _ _ _ => trivial) rfl (by kernel_rfl) (by kernel_rfl) (by kernel_rfl) (fun _ _ _ h => h) (hSw _ hm35) (Tame.val rfl (fun w' hA => by go_simp)) rfl ?_
      refine wpAnyU_all (rs := [21]) (by kernel_rfl) (by decide) ?_
      intro w6 hm6 i hi
      obtain rfl : i = 21 := by simpa using hi
      refine wpOp_val (v := .slice (some ⟨w6.heap.size, 0, none⟩) 1 1) (w' := w6.alloc (.cells (List.toArray (lstC (.slice (some ⟨g, 0, none⟩) 3 3))) 63)) (a' := ⟨#[.slice a l.length c, undef, .pointer (some ⟨w.heap.size, 0, none⟩), .slice au vs.length cu, .int .i64 (j : Int), .int .i64 (j : Int), .slice a l.length c, .int .i64 (l.length : Int), .bool true, u9, u10, .slice au vs.length cu, .slice a l.length c, .int .i64 (j : Int), .pointer (some ((hd a).add (j * 37))), .pointer (some ((hd a).add (j * 37))), .string (str x.name), .agg (List.toArray (txtC x.name)), .slice a l.length c, .int .i64 (j : Int), .pointer (some ((hd a).add (j * 37))), .pointer (some ⟨((hd a).add (j * 37)).block, ((hd a).add (j * 37)).off + 1, none⟩), .agg (List.toArray (x.id.map b8)), .agg (List.toArray (bytC (.slice ab 32 cb))), .slice a l.length c, .int .i64 (j : Int), .pointer (some ((hd a).add (j * 37))), .pointer (some ⟨((hd a).add (j * 37)).block, ((hd a).add (j * 37)).off + 33, none⟩), .int .i64 x.time, .agg (List.toArray (numC x.time)), .slice (some ⟨g, 0, none⟩) 3 3, .agg #[.int .i64 6, .int .i64 0, .slice none 0 0, .string { data := #[] }, .slice none 0 0, .slice (some ⟨g, 0, none⟩) 3 3], .slice (some ⟨w6.heap.size, 0, none⟩) 1 1, u33, undef, undef, undef, undef, undef, undef], []⟩) rfl rfl (run_bsOp (vals := #[(0, .agg #[.int .i64 6, .int .i64 0, .slice none 0 0, .string { data := #[] }, .slice none 0 0, .slice (some ⟨g, 0, none⟩) 3 3])]) (by first | rfl | go_simp | simp [Act.eval]) (bsOp_one (cs := List.toArray (lstC (.slice (some ⟨g, 0, none⟩) 3 3))) Try.underlying61 infoV (by decide) (by decide) (by exact zV_size) rfl)) rfl ?_
      have hm7 : Mo w6 (w6.alloc (.cells (List.toArray (lstC (.slice (some ⟨g, 0, none⟩) 3 3))) 63)) := (Below.refl _ _).alloc (Nat.le_refl _) _
      have hB7 : Blk (w6.alloc (.cells (List.toArray (lstC (.slice (some ⟨g, 0, none⟩) 3 3))) 63)) w6.heap.size 63 (lstC (.slice (some ⟨g, 0, none⟩) 3 3)) := Blk.new _ _ _
      have hm37 := Mo.trans (Mo.trans hm35 hm6) hm7
      have hm57 := Mo.trans hm6 hm7
      refine ⟨hSw _ hm37, ?_⟩
      generalize hgg2 : w6.heap.size = g2 at *
      generalize hw7 : w6.alloc (.cells (List.toArray (lstC (.slice (some ⟨g, 0, none⟩) 3 3))) 63) = w7 at *
      clear hw7 hm6 hm7
      refine wpAnyU_all (rs := [22]) (by kernel_rfl) (by decide) ?_
      intro w8 hm8 i hi
      obtain rfl : i = 22 := by simpa using hi
      have hm38 := Mo.trans hm37 hm8
      have hVs8 : VsAt (fun b => w.heap.size + 1 ≤ b ∧ (Value.slice au vs.length cu).ownBlock ≠ some b) (w.heap.size + 1) w8 (.slice au vs.length cu) vs :=
        hVs.out.same (show (wr.drewN 1).heap.size ≤ _ from Mo.size' hm38) (fun b hb => hm38.block b (by obtain ⟨_, _, _, hO, _⟩ := hVs.out; exact (World.ownsRow.lt hO b hb).2)) (fun b hb hlt => ⟨hm38.block b hlt, hb⟩)
      have hown : ∀ b, (Value.slice au vs.length cu).ownBlock = some b → w.heap.size + 1 ≤ b ∧ b < wr.heap.size := fun b hb => by
        obtain ⟨_, _, _, hO, _⟩ := hVs.out
        exact World.ownsRow.lt hO b hb
      have hbase : w.heap.size + 1 ≤ wr.heap.size := hR.out.lt
      have hxV : VAtP (fun b => w.heap.size + 1 ≤ b ∧ (Value.slice au vs.length cu).ownBlock ≠ some b) w8 (lstC (.slice (some ⟨g, 0, none⟩) 3 3)) (abtV x) := by
        have hB8 := hB5.below (Mo.trans hm57 hm8)
        have hrb8 := hrb5.below (Mo.trans hm57 hm8)
        have fresh : ∀ b, wr.heap.size ≤ b → w.heap.size + 1 ≤ b ∧ (Value.slice au vs.length cu).ownBlock ≠ some b := fun b hbb => ⟨by omega, fun e => by have := (hown b e).2; omega⟩
        refine VAtP.lst (css := [txtC x.name, bytC (.slice ab 32 cb), numC x.time]) (l := [pTxt x.name, pByt x.id, pNum x.time]) hB8.row (by simp) (by unfold maxLen; simp) rfl (by simp [txtC, bytC, numC]) (fun _ => fresh g (by omega)) ?_
        intro i c v hc hv
        match i with
        | 0 => simp at hc hv; subst hc hv; exact VAtP.txt w8 hxo.name
        | 1 =>
          simp at hc hv; subst hc hv
          have := VAtP.byt (ok := fun b => w.heap.size + 1 ≤ b ∧ (Value.slice au vs.length cu).ownBlock ≠ some b) (c := cb) hrb8 (by rw [hxo.id]; exact hcb1) hcb2 (fun _ => fresh _ (by have := hm2.size; have e : (wr.drewN 1).heap.size = wr.heap.size := rfl; omega))
          rwa [hxo.id] at this
        | 2 => simp at hc hv; subst hc hv; exact VAtP.numb w8 hxo.time
        | i + 3 => simp at hc
      have hr8 : Row w8 (some ⟨g2, 0, none⟩) (lstC (.slice (some ⟨g, 0, none⟩) 3 3)) := (hB7.below hm8).row
      obtain ⟨a', c', w9, hrun, hVs9, hG9⟩ := VsAt.appR (ty := 61) (c2 := 1) (ok' := fun z => (w.heap.size + 1 ≤ z ∧ (Value.slice au vs.length cu).ownBlock ≠ some z) ∧ z < w8.heap.size) hVs8 (fun z hz => hz.2) hxV (fun z hz hlt => ⟨hz, hlt⟩) hvl.out (Nat.le_trans hbase (show (wr.drewN 1).heap.size ≤ _ from Mo.size' hm38)) hr8
      have hb8 := hSw _ hm38
      have hb9 : Below w.heap.size w w9 := hb8.trans (hG9.below (base := w.heap.size + 1) (fun k hk => (hown k hk).1) (by omega) hb8.size)
      refine wpOp_val (v := .slice a' (vs.length + 1) c') (w' := w9) (a' := ⟨#[.slice a l.length c, undef, .pointer (some ⟨w.heap.size, 0, none⟩), .slice au vs.length cu, .int .i64 (j : Int), .int .i64 (j : Int), .slice a l.length c, .int .i64 (l.length : Int), .bool true, u9, u10, .slice au vs.length cu, .slice a l.length c, .int .i64 (j : Int), .pointer (some ((hd a).add (j * 37))), .pointer (some ((hd a).add (j * 37))), .string (str x.name), .agg (List.toArray (txtC x.name)), .slice a l.length c, .int .i64 (j : Int), .pointer (some ((hd a).add (j * 37))), .pointer (some ⟨((hd a).add (j * 37)).block, ((hd a).add (j * 37)).off + 1, none⟩), .agg (List.toArray (x.id.map b8)), .agg (List.toArray (bytC (.slice ab 32 cb))), .slice a l.length c, .int .i64 (j : Int), .pointer (some ((hd a).add (j * 37))), .pointer (some ⟨((hd a).add (j * 37)).block, ((hd a).add (j * 37)).off + 33, none⟩), .int .i64 x.time, .agg (List.toArray (numC x.time)), .slice (some ⟨g, 0, none⟩) 3 3, .agg #[.int .i64 6, .int .i64 0, .slice none 0 0, .string { data := #[] }, .slice none 0 0, .slice (some ⟨g, 0, none⟩) 3 3], .slice (some ⟨g2, 0, none⟩) 1 1, .slice a' (vs.length + 1) c', undef, undef, undef, undef, undef, undef], []⟩) rfl rfl (run_append hrun rfl rfl rfl) rfl ?_
      refine ⟨hb9, ?_⟩
      refine wpAnyU_take (i := 23) (A := fun _ => True) (v := .slice a' (vs.length + 1) c') (a' := ⟨#[.slice a l.length c, undef, .pointer (some ⟨w.heap.size, 0, none⟩), .slice a' (vs.length + 1) c', .int .i64 (j : Int), .int .i64 (j : Int), .slice a l.length c, .int .i64 (l.length : Int), .bool true, u9, u10, .slice au vs.length cu, .slice a l.length c, .int .i64 (j : Int), .pointer (some ((hd a).add (j * 37))), .pointer (some ((hd a).add (j * 37))), .string (str x.name), .agg (List.toArray (txtC x.name)), .slice a l.length c, .int .i64 (j : Int), .pointer (some ((hd a).add (j * 37))), .pointer (some ⟨((hd a).add (j * 37)).block, ((hd a).add (j * 37)).off + 1, none⟩), .agg (List.toArray (x.id.map b8)), .agg (List.toArray (bytC (.slice ab 32 cb))), .slice a l.length c, .int .i64 (j : Int), .pointer (some ((hd a).add (j * 37))), .pointer (some ⟨((hd a).add (j * 37)).block, ((hd a).add (j * 37)).off + 33, none⟩), .int .i64 x.time, .agg (List.toArray (numC x.time)), .slice (some ⟨g, 0, none⟩) 3 3, .agg #[.int .i64 6, .int .i64 0, .slice none 0 0, .string { data := #[] }, .slice none 0 0, .slice (some ⟨g, 0, none⟩) 3 3], .slice (some ⟨g2, 0, none⟩) 1 1, .slice a' (vs.length + 1) c', undef, undef, undef, undef, undef, undef], []⟩) hSm (hSi 23 (by decide)) (fun _ _ _ => trivial) rfl (by kernel_rfl) (by kernel_rfl) (by kernel_rfl) (fun _ _ _ h => h) hb9 (Tame.val rfl (fun w' hA => by go_simp)) rfl ?_
      refine wpAnyU_done (by kernel_rfl) ?_ _
      intro w12 hm12
      have hb12 := Lib.hid (hb9.trans (hm12.mono hb9.size))
      have hR8 : Blk w8 w.heap.size 63 zV.toList := (show Blk (wr.drewN 1) w.heap.size 63 zV.toList from hR.out).below hm38
      have hR9 := (hG9.blk hR8 (fun e => by have := (hown _ e).1; omega)).1
      have hR12 := Lib.hid (hR9.below hm12)
      have hVs12 : Hid (VsAt (fun b => w.heap.size + 1 ≤ b ∧ (Value.slice a' (vs.length + 1) c').ownBlock ≠ some b) (w.heap.size + 1) w12 (.slice a' (vs.length + 1) c') ((l.take (j + 1)).map abtV)) := by
        show VsAt _ _ _ _ _
        rw [hT.out]
        exact hVs9.same hm12.size (fun b hb => hm12.block b (by obtain ⟨_, _, _, hO, _⟩ := hVs9; exact (World.ownsRow.lt hO b hb).2)) (fun b hb hlt => ⟨hm12.block b hlt, hb.1.1, fun e => by
          rcases hG9.own b e with h | h
          · exact hb.1.2 h
          · omega⟩)
      clear hm12 hb9 hb8 hR9 hR8 hG9 hVs9 hrun hr8 hxV hVs8 hSw hSm hSi hS0 hxt hown
      go_wp2
      first
        | exact ⟨⟨j + 1, by omega, (by first | rfl | go_num | (congr 1; omega)), hVs12, hb12, hR12⟩, by simp [intOf] <;> omega⟩
        | (refine ⟨?_, by simp [intOf] <;> omega⟩; (repeat apply Exists.intro); exact ⟨⟨j + 1, by omega, (by first | rfl | go_num | (congr 1; omega)), hVs12, hb12, hR12⟩, rfl⟩)
    · obtain rfl : j = l.length := by omega
      have j1 : ¬ (l.length : Int) < (l.length : Int) := by omega
      have hLV : Hid (listV l = .mk 7 0 [] [] [[97], [118]] [pList vs, pNum 1]) := by
        show _ = _
        rw [hvs, List.take_length]; rfl
      clear hvs jb j0
      have hone := fun w' => rnum_any 1 w'
      go_wp2_with fail
      have hK : Blk (wr.alloc (.cells #[.string { data := #[97] }, .string { data := #[118] }] 9)) wr.heap.size 9 [strV [97], strV [118]] := Blk.new _ _ _
      have hm1 : Mo wr (wr.alloc (.cells #[.string { data := #[97] }, .string { data := #[118] }] 9)) := (Below.refl _ _).alloc (Nat.le_refl _) _
      generalize hwk : wr.alloc (.cells #[.string { data := #[97] }, .string { data := #[118] }] 9) = wk at *
      refine (hone _).mono ?_
      rintro e w2 ⟨rfl, hb2⟩
      have hm2 : Mo wr w2 := Mo.trans hm1 hb2
      have hVs2 : VsAt (fun b => w.heap.size + 1 ≤ b ∧ (Value.slice au vs.length cu).ownBlock ≠ some b) (w.heap.size + 1) w2 (.slice au vs.length cu) vs :=
        hVs.out.same hm2.size (fun b hb => hm2.block b (by obtain ⟨_, _, _, hO, _⟩ := hVs.out; exact (World.ownsRow.lt hO b hb).2)) (fun b hb hlt => ⟨hm2.block b hlt, hb⟩)
      have hLst := (VsAt.lst hVs2 (fun b hb => hb.1)).2
      have hbs := bsOp_rows (P := Try.prog) (w := w2) (n := 2) (vs := [lstC (.slice au vs.length cu), numC 1]) (parts := #[(0, .agg #[.int .i64 6, .int .i64 0, .slice none 0 0, .string { data := #[] }, .slice none 0 0, .slice au vs.length cu]), (1, .agg (List.toArray (numC 1)))]) Try.underlying61 infoV (by decide) rfl (by decide) (by decide) (by exact zV_size) (by simp [lstC, numC]) rfl
      have hV3 : Blk (w2.alloc (.cells (List.toArray (List.flatten [lstC (.slice au vs.length cu), numC 1])) 63)) w2.heap.size 63 (List.flatten [lstC (.slice au vs.length cu), numC 1]) := Blk.new _ _ _
      have hm3 : Mo w2 (w2.alloc (.cells (List.toArray (List.flatten [lstC (.slice au vs.length cu), numC 1])) 63)) := (Below.refl _ _).alloc (Nat.le_refl _) _
      generalize hw3 : w2.alloc (.cells (List.toArray (List.flatten [lstC (.slice au vs.length cu), numC 1])) 63) = w3 at *
      have hbase : w.heap.size + 1 ≤ wr.heap.size := hR.out.lt
      have hk3 := hK.below (Mo.trans hb2 hm3)
      have hR3 := hR.out.below (Mo.trans hm2 hm3)
      have hb3 : Below w.heap.size w w3 := hb.out.trans ((Mo.trans hm2 hm3).mono hb.out.size)
      have hL3 := hLst.grow hm3
      have hgk : w.heap.size + 1 ≤ wr.heap.size := hbase
      have hgv : w.heap.size + 1 ≤ w2.heap.size := Nat.le_trans hbase hm2.size
      generalize wr.heap.size = gk at *
      generalize w2.heap.size = gv at *
      have hst := st_row hR3 (by rfl) #[.int .i64 7, .int .i64 0, .slice none 0 0, .string { data := #[] }, .slice (some ⟨gk, 0, none⟩) 2 2, .slice (some ⟨gv, 0, none⟩) 2 2] rfl (by unfold OneC; simp [Value.oneCell'])
      have hgr := setRow_gr w3 w.heap.size #[.int .i64 7, .int .i64 0, .slice none 0 0, .string { data := #[] }, .slice (some ⟨gk, 0, none⟩) 2 2, .slice (some ⟨gv, 0, none⟩) 2 2]
      have hBr : Blk (w3.setRow w.heap.size #[.int .i64 7, .int .i64 0, .slice none 0 0, .string { data := #[] }, .slice (some ⟨gk, 0, none⟩) 2 2, .slice (some ⟨gv, 0, none⟩) 2 2]) w.heap.size 63 [.int .i64 7, .int .i64 0, .slice none 0 0, strV [], .slice (some ⟨gk, 0, none⟩) 2 2, .slice (some ⟨gv, 0, none⟩) 2 2] := setRow_blk hR3 [.int .i64 7, .int .i64 0, .slice none 0 0, strV [], .slice (some ⟨gk, 0, none⟩) 2 2, .slice (some ⟨gv, 0, none⟩) 2 2]
      have hF : Hid (VAtP (fun b => w.heap.size ≤ b) (w3.setRow w.heap.size #[.int .i64 7, .int .i64 0, .slice none 0 0, .string { data := #[] }, .slice (some ⟨gk, 0, none⟩) 2 2, .slice (some ⟨gv, 0, none⟩) 2 2]) [.int .i64 7, .int .i64 0, .slice none 0 0, strV [], .slice (some ⟨gk, 0, none⟩) 2 2, .slice (some ⟨gv, 0, none⟩) 2 2] (listV l) ∧ Below w.heap.size w (w3.setRow w.heap.size #[.int .i64 7, .int .i64 0, .slice none 0 0, .string { data := #[] }, .slice (some ⟨gk, 0, none⟩) 2 2, .slice (some ⟨gv, 0, none⟩) 2 2])) := by
        show _ ∧ _
        refine ⟨?_, hb3.trans ⟨hgr.os, hgr.tape, hgr.output, hgr.size, fun k hk => hgr.block k (Nat.lt_of_lt_of_le hk hb3.size) (by simp; omega)⟩⟩
        rw [hLV.out]
        refine VAtP.map (ks := [[97], [118]]) (css := [lstC (.slice au vs.length cu), numC 1]) (l := [pList vs, pNum 1]) (hk3.grown hgr (by omega)).row (by simp) (by unfold maxLen; simp) (by simp [maxLen]) (fun _ => by show w.heap.size ≤ gk; omega) (hV3.grown hgr (by omega)).row (by simp) (by unfold maxLen; simp) rfl (by simp [lstC, numC]) (fun _ => by show w.heap.size ≤ gv; omega) ?_
        intro i c v hc hv
        match i with
        | 0 =>
          simp at hc hv; subst hc hv
          exact ((hL3.same (fun b hb hlt => hgr.block b hlt (by simp; omega))).mono (fun b hb _ => by omega))
        | 1 => simp at hc hv; subst hc hv; exact VAtP.numb _ (by unfold in64; omega)
        | i + 2 => simp at hc
      clear hgr hL3 hLst hVs2 hVs hk3 hR3 hK hm1 hm2 hm3 hb2 hV3 hLV hone hR hb hb3
      go_wp2
      refine bodyPost_ret (results_cell_row (fn := Try.f33) (by rfl) _ _ w.heap.size 63 _ (0, 0) _ (by rfl) hBr Try.underlying63 rfl sizeV) rfl ?_
      exact ⟨_, rfl, hF.out.1, hF.out.2⟩
theorem rmlist_any {a : Option Addr} {n c : Nat} {l : List Abt} {w : World} (hn : n = l.length) (hr : Row w a (l.map abtC).flatten) (hok : ∀ x ∈ l, AbtOk x) (hln : ∀ x ∈ l, x.name.length ≤ 1000) (hl : l.length ≤ 1000) :
    Calls Try.prog 15 #[.slice a n c] w fun e w' => ∃ u, e = .returned (.tuple #[u, .int .i64 (metaL l).2]) ∧ BRd w' u (metaL l).1 ∧ Below w.heap.size w w' := by
  subst hn
  have hck := rCheckList_any (c := c) rfl hr hok hln hl
  have hlv := fun w' (hb : Below w.heap.size w w') => rListValue_any (c := c) rfl (hr.below hb) hok hl
  have HM : Hid (metaL l = if checkL l ≠ 0 then ([], checkL l) else encF (listV l)) := rfl
  generalize metaL l = R at *
  generalize listV l = v at *
  by_cases h0 : checkL l = 0
  · rw [h0] at hck
    have hR : Hid (R = encF v) := by show _ = _; rw [HM.out, if_neg (by rw [h0]; simp)]
    clear HM h0
    go_enter Try.func15, Try.ntmps15
    go_wp2_with fail
    refine hck.mono ?_
    rintro e w1 ⟨rfl, hb1⟩
    go_wp2_with fail
    refine (hlv _ hb1).mono ?_
    rintro e w2 ⟨cs, rfl, hv, hb2⟩
    have he := renc_any hv.at (Below.refl _ _)
    go_wp2_with fail
    refine he.mono ?_
    rintro e w3 ⟨u, rfl, hu, hb3⟩
    go_wp2
    go_ret2
    exact ⟨u, by rw [hR.out] <;> rfl, by rw [hR.out]; exact hu, Gr.trans hb1 (Gr.trans hb2 hb3)⟩
  · have e1 : (checkL l == 0) = false := by simpa using h0
    have e2 : (checkL l != 0) = true := by simpa using h0
    have hR : Hid (R = ([], checkL l)) := by show _ = _; rw [HM.out, if_pos h0]
    generalize checkL l = E at *
    clear HM h0
    go_enter Try.func15, Try.ntmps15
    go_wp2_with fail
    refine hck.mono ?_
    rintro e w1 ⟨rfl, hb1⟩
    go_wp2
    go_ret2
    exact ⟨.slice none 0 0, by rw [hR.out] <;> rfl, by rw [hR.out]; exact BRd.nil _, hb1⟩
end Go.Proofs.Ytakliplkabgmbaa
