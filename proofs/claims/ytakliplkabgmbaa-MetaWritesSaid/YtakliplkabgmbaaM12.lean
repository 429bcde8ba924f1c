/- Layer 23: the laws' cut and few. -/
import Derived.Test.YtakliplkabgmbaaM11
set_option maxRecDepth 20000
namespace Go.Hd
open Go Go.RowKit
def cutX (x : Abt) : Abt := { x with name := x.name.take 40, comment := x.comment.take 120 }
def cutL (l : List Abt) (m : Nat) : List Abt := (l.take m).map cutX
theorem cutX_ok {x : Abt} (h : AbtOk x) : AbtOk (cutX x) where
  id := h.id
  time := h.time
  items := h.items
  bytes := h.bytes
  name := by have := h.name; simp [cutX]; omega
  comment := by have := h.comment; simp [cutX]; omega
theorem abtC_cutX {x : Abt} (h : AbtOk x) : abtC (cutX x) = ((abtC x).set 0 (.string (str (x.name.take 40)))).set 34 (.string (str (x.comment.take 120))) := by
  have hi := h.id
  unfold abtC cutX
  rw [List.set_cons_zero, List.set_cons_succ, List.set_append_right _ _ (by simp [hi])]
  simp [hi, strV]
theorem cutL_ok {l : List Abt} {m : Nat} (h : ∀ x ∈ l, AbtOk x) : ∀ x ∈ cutL l m, AbtOk x := fun x hx => by
  obtain ⟨y, hy, rfl⟩ := List.mem_map.1 hx
  exact cutX_ok (h y (List.mem_of_mem_take hy))
theorem cutL_name {l : List Abt} {m : Nat} : ∀ x ∈ cutL l m, x.name.length ≤ 1000 := fun x hx => by
  obtain ⟨y, hy, rfl⟩ := List.mem_map.1 hx
  simp [cutX]; omega
theorem cutL_len {l : List Abt} {m : Nat} : (cutL l m).length ≤ m := by simp [cutL]; omega
end Go.Hd
namespace Go.Proofs.Ytakliplkabgmbaa
open Go.RowKit Go.Hd
attribute [local go_sem ↓] h_ldAB h_stAB h_alAB h_bsAB
attribute [local go_sem] r_ldAB r_stAB r_alAB r_bsAB

theorem prtFew_any {a : Option Addr} {n c : Nat} {l : List Prt} {w : World} (hn : n = l.length) (hnc : n ≤ c) :
    Calls Try.prog 13 #[.slice a n c] w fun e w' => ∃ c', e = .returned (.slice a (l.take 70).length c') ∧ w = w' := by
  subst hn
  by_cases h : 70 < l.length
  · have h1 : (70 : Int) < (l.length : Int) := by omega
    have h70c : (70 : Int) ≤ (c : Int) := by omega
    have h70 : Hid ((l.take 70).length = 70) := by show _ = _; simp; omega
    go_enter Try.func13, Try.ntmps13
    go_wp2
    go_ret
    exact ⟨c, by rw [h70.out]; rfl, rfl⟩
  · have h1 : ¬ (70 : Int) < (l.length : Int) := by omega
    have h70 : Hid ((l.take 70).length = l.length) := by show _ = _; simp; omega
    go_enter Try.func13, Try.ntmps13
    go_wp2
    go_ret
    refine ⟨⟨c, ?_⟩, rfl⟩
    rw [← List.length_take, h70.out]; rfl

set_option maxHeartbeats 2000000 in
theorem abtCut_any {a : Option Addr} {n c m : Nat} {l : List Abt} {w : World} (hn : n = l.length) (hr : Row w a (l.map abtC).flatten) (hok : ∀ x ∈ l, AbtOk x) (hm : m ≤ 1000) (hlm : l.length ≤ maxLen) :
    Calls Try.prog 12 #[.slice a n c, .int .i64 (m : Int)] w fun e w' => ∃ a' c', e = .returned (.slice a' (cutL l m).length c') ∧ Row w' a' ((cutL l m).map abtC).flatten ∧ (0 < (cutL l m).length → w.heap.size ≤ (hd a').block) ∧ Below w.heap.size w w' := by
  subst hn
  have HM := Lib.hid hm
  have HL := Lib.hid hlm
  have HOK := Lib.hid hok
  have HRow := Lib.hid hr
  have za := zAB_size
  clear hm hlm hok hr
  have hsh := fun (t : List UInt8) w' => short_any t 40 w' (by decide)
  have hsh2 := fun (t : List UInt8) w' => short_any t 120 w' (by decide)
  go_enter Try.func12, Try.ntmps12
  go_wp2
  go_loopw [5, 6] (fun v i wr => ∃ j : Nat, j ≤ l.length ∧ j ≤ m ∧ i = .int .i64 j ∧ Hid (wr.ownsRow w.heap.size 31 37 v j (((l.take j).map fun x => abtC (cutX x)).flatten)) ∧ Hid (Below w.heap.size w wr)) (fun _ i _ => l.length - (intOf i).toNat)
  case atStart => exact ⟨0, Nat.zero_le _, Nat.zero_le _, rfl, Lib.hid ⟨rfl, .inl ⟨rfl, rfl⟩⟩, Lib.hid (Below.refl _ _)⟩
  case round =>
    obtain ⟨j, hj, hjm, rfl, hO, hb⟩ := hrel
    have j0 : (0 : Int) ≤ (j : Int) := by omega
    have jb : IntKind.i64.wrap ((j : Int) + 1) = (j : Int) + 1 := IntWalk.i64_in _ (by have := HM.out; omega)
    by_cases hlt : j < l.length
    · have j1 : (j : Int) < (l.length : Int) := by omega
      by_cases hlm2 : j < m
      · have j2 : (j : Int) < (m : Int) := by omega
        have hr2 := HRow.out.below hb.out
        have s1 := hr2.elemSome (s := 37) (abts37 HOK.out) (by decide) (i := j) (by simpa using hlt)
        have hpo := HOK.out _ (List.getElem_mem hlt)
        have q1 := ldOp_at (P := Try.prog) (ty := 31) (hr2.elem (s := 37) (abts37 HOK.out) (i := j) (c := abtC l[j]) (by simp [hlt])) Try.underlying31 rfl (by rw [abtC_len hpo]; exact sizeAB)
        have hT : Hid (((l.take (j + 1)).map fun x => abtC (cutX x)).flatten = ((l.take j).map fun x => abtC (cutX x)).flatten ++ abtC (cutX l[j])) := by
          show _ = _
          rw [List.take_succ_eq_append_getElem hlt, List.map_append, List.flatten_append]; simp
        generalize l[j] = x at *
        have y1 : (List.toArray (abtC x)).size = 37 := by simpa using abtC_len hpo
        have y2 : OneC (List.toArray (abtC x)) := all_oneCell_toArray (abtC_one x)
        clear hr2
        go_upto_region 6 with (fail)
        have hxB : Blk (wr.alloc (.cells (List.toArray (abtC x)) 31)) wr.heap.size 31 (abtC x) := Blk.new wr 31 _
        have hb0x : Below wr.heap.size wr (wr.alloc (.cells (List.toArray (abtC x)) 31)) := (Below.refl _ _).alloc (Nat.le_refl _) _
        have hOW := ownsRow_below hO.out hb0x
        have hOlt := World.ownsRow.lt hO.out
        have hbW := hb.out.trans (hb0x.mono hb.out.size)
        have hbs : w.heap.size ≤ wr.heap.size := hb.out.size
        generalize hqx : wr.heap.size = qx at *
        generalize wr.alloc (.cells (List.toArray (abtC x)) 31) = W at *
        have hSm : ∀ (L : Array Bool) (w1 w2 : World), (L.getD 7 false = false → Blk w1 qx 31 (abtC x)) → Mo w1 w2 → (L.getD 7 false = false → Blk w2 qx 31 (abtC x)) :=
          fun L w1 w2 h hm hL => (h hL).below hm
        have hSi : ∀ i, i ≠ 7 → ∀ (L : Array Bool) (w1 : World), (((L.setIfInBounds i true).getD 7 false = false → Blk w1 qx 31 (abtC x)) ↔ (L.getD 7 false = false → Blk w1 qx 31 (abtC x))) := fun i hi L w1 => by
          rw [getD_set_ne false hi]
        have hS0 : Blk (W.drewN 1) qx 31 (abtC x) := hxB
        have hxt : ∀ w', Blk w' qx 31 (abtC x) → w'.cell? ⟨qx, 0, none⟩ = some (.string (str x.name)) ∧ w'.cell? ⟨qx, 34, none⟩ = some (.string (str x.comment)) := fun w' h => ⟨h.cell (abtC_0 x), h.cell (abtC_34 hpo)⟩
        refine wp_region_upN (S := fun L w1 => L.getD 7 false = false → Blk w1 qx 31 (abtC x)) 10 rfl (by kernel_rfl) ?_
        refine wpAnyU_take (i := 0) (A := fun _ => True) (v := .pointer (some ⟨qx, 0, none⟩)) (a' := ⟨#[.slice a l.length c, .int .i64 (m : Int), undef, undef, .slice none 0 0, u5, .int .i64 (j : Int), .pointer (some ⟨qx, 0, none⟩), .int .i64 (j : Int), .slice a l.length c, .int .i64 (l.length : Int), .bool true, .bool true, .int .i64 (j : Int), .int .i64 (m : Int), .bool true, .bool true, u17, u18, .slice a l.length c, .int .i64 (j : Int), .pointer (some ((hd a).add (j * 37))), .agg (List.toArray (abtC x)), .pointer (some ⟨qx, 0, none⟩), u24, u25, u26, u27, u28, u29, u30, u31, u32, u33, u34, undef], []⟩) hSm (hSi 0 (by decide)) (fun _ _ _ => trivial) rfl (by kernel_rfl) (by kernel_rfl) (by kernel_rfl) (fun _ _ _ h => h) (fun _ => hS0) (Tame.val rfl (fun w' hA => by go_simp)) rfl ?_
        refine wpAnyU_takeK (i := 1) 7 (A := fun w1 => Blk w1 qx 31 (abtC x)) (v := .string (str x.name)) (a' := ⟨#[.slice a l.length c, .int .i64 (m : Int), undef, undef, .slice none 0 0, u5, .int .i64 (j : Int), .pointer (some ⟨qx, 0, none⟩), .int .i64 (j : Int), .slice a l.length c, .int .i64 (l.length : Int), .bool true, .bool true, .int .i64 (j : Int), .int .i64 (m : Int), .bool true, .bool true, u17, u18, .slice a l.length c, .int .i64 (j : Int), .pointer (some ((hd a).add (j * 37))), .agg (List.toArray (abtC x)), .pointer (some ⟨qx, 0, none⟩), .string (str x.name), u25, u26, u27, u28, u29, u30, u31, u32, u33, u34, undef], []⟩) hSm (hSi 1 (by decide)) (fun _ _ h h2 => h h2) rfl rfl (by kernel_rfl) (by kernel_rfl) (by kernel_rfl) (by kernel_rfl) (by kernel_rfl) (fun _ _ _ h => h) (fun _ => hS0) (Tame.val rfl (fun w' hA => by have h1 := (hxt _ hA).1; go_simp)) rfl ?_
        refine wpAnyU_take (i := 3) (A := fun _ => True) (v := .pointer (some ⟨qx, 34, none⟩)) (a' := ⟨#[.slice a l.length c, .int .i64 (m : Int), undef, undef, .slice none 0 0, u5, .int .i64 (j : Int), .pointer (some ⟨qx, 0, none⟩), .int .i64 (j : Int), .slice a l.length c, .int .i64 (l.length : Int), .bool true, .bool true, .int .i64 (j : Int), .int .i64 (m : Int), .bool true, .bool true, u17, u18, .slice a l.length c, .int .i64 (j : Int), .pointer (some ((hd a).add (j * 37))), .agg (List.toArray (abtC x)), .pointer (some ⟨qx, 0, none⟩), .string (str x.name), u25, .pointer (some ⟨qx, 34, none⟩), u27, u28, u29, u30, u31, u32, u33, u34, undef], []⟩) hSm (hSi 3 (by decide)) (fun _ _ _ => trivial) rfl (by kernel_rfl) (by kernel_rfl) (by kernel_rfl) (fun _ _ _ h => h) (fun _ => hS0) (Tame.val rfl (fun w' hA => by go_simp)) rfl ?_
        refine wpAnyU_takeK (i := 4) 7 (A := fun w1 => Blk w1 qx 31 (abtC x)) (v := .string (str x.comment)) (a' := ⟨#[.slice a l.length c, .int .i64 (m : Int), undef, undef, .slice none 0 0, u5, .int .i64 (j : Int), .pointer (some ⟨qx, 0, none⟩), .int .i64 (j : Int), .slice a l.length c, .int .i64 (l.length : Int), .bool true, .bool true, .int .i64 (j : Int), .int .i64 (m : Int), .bool true, .bool true, u17, u18, .slice a l.length c, .int .i64 (j : Int), .pointer (some ((hd a).add (j * 37))), .agg (List.toArray (abtC x)), .pointer (some ⟨qx, 0, none⟩), .string (str x.name), u25, .pointer (some ⟨qx, 34, none⟩), .string (str x.comment), u28, u29, u30, u31, u32, u33, u34, undef], []⟩) hSm (hSi 4 (by decide)) (fun _ _ h h2 => h h2) rfl rfl (by kernel_rfl) (by kernel_rfl) (by kernel_rfl) (by kernel_rfl) (by kernel_rfl) (fun _ _ _ h => h) (fun _ => hS0) (Tame.val rfl (fun w' hA => by have h1 := (hxt _ hA).2; go_simp)) rfl ?_
        refine wpAnyU_take (i := 2) (A := fun _ => True) (v := .string (str (x.name.take 40))) (a' := ⟨#[.slice a l.length c, .int .i64 (m : Int), undef, undef, .slice none 0 0, u5, .int .i64 (j : Int), .pointer (some ⟨qx, 0, none⟩), .int .i64 (j : Int), .slice a l.length c, .int .i64 (l.length : Int), .bool true, .bool true, .int .i64 (j : Int), .int .i64 (m : Int), .bool true, .bool true, u17, u18, .slice a l.length c, .int .i64 (j : Int), .pointer (some ((hd a).add (j * 37))), .agg (List.toArray (abtC x)), .pointer (some ⟨qx, 0, none⟩), .string (str x.name), .string (str (x.name.take 40)), .pointer (some ⟨qx, 34, none⟩), .string (str x.comment), u28, u29, u30, u31, u32, u33, u34, undef], []⟩) hSm (hSi 2 (by decide)) (fun _ _ _ => trivial) rfl (by kernel_rfl) (by kernel_rfl) (by kernel_rfl) (fun _ _ _ h => h) (fun _ => hS0) (Tame.enter rfl (fun w' => by go_simp) (fun w' _ => (hsh x.name w').mono (by rintro e w2 ⟨rfl, rfl⟩; exact ⟨rfl, Mo.refl _⟩))) rfl ?_
        refine wpAnyU_take (i := 5) (A := fun _ => True) (v := .string (str (x.comment.take 120))) (a' := ⟨#[.slice a l.length c, .int .i64 (m : Int), undef, undef, .slice none 0 0, u5, .int .i64 (j : Int), .pointer (some ⟨qx, 0, none⟩), .int .i64 (j : Int), .slice a l.length c, .int .i64 (l.length : Int), .bool true, .bool true, .int .i64 (j : Int), .int .i64 (m : Int), .bool true, .bool true, u17, u18, .slice a l.length c, .int .i64 (j : Int), .pointer (some ((hd a).add (j * 37))), .agg (List.toArray (abtC x)), .pointer (some ⟨qx, 0, none⟩), .string (str x.name), .string (str (x.name.take 40)), .pointer (some ⟨qx, 34, none⟩), .string (str x.comment), .string (str (x.comment.take 120)), u29, u30, u31, u32, u33, u34, undef], []⟩) hSm (hSi 5 (by decide)) (fun _ _ _ => trivial) rfl (by kernel_rfl) (by kernel_rfl) (by kernel_rfl) (fun _ _ _ h => h) (fun _ => hS0) (Tame.enter rfl (fun w' => by go_simp) (fun w' _ => (hsh2 x.comment w').mono (by rintro e w2 ⟨rfl, rfl⟩; exact ⟨rfl, Mo.refl _⟩))) rfl ?_
        refine wpAnyU_take (i := 6) (A := fun _ => True) (v := .pointer (some ⟨qx, 0, none⟩)) (a' := ⟨#[.slice a l.length c, .int .i64 (m : Int), undef, undef, .slice none 0 0, u5, .int .i64 (j : Int), .pointer (some ⟨qx, 0, none⟩), .int .i64 (j : Int), .slice a l.length c, .int .i64 (l.length : Int), .bool true, .bool true, .int .i64 (j : Int), .int .i64 (m : Int), .bool true, .bool true, u17, u18, .slice a l.length c, .int .i64 (j : Int), .pointer (some ((hd a).add (j * 37))), .agg (List.toArray (abtC x)), .pointer (some ⟨qx, 0, none⟩), .string (str x.name), .string (str (x.name.take 40)), .pointer (some ⟨qx, 34, none⟩), .string (str x.comment), .string (str (x.comment.take 120)), .pointer (some ⟨qx, 0, none⟩), u30, u31, u32, u33, u34, undef], []⟩) hSm (hSi 6 (by decide)) (fun _ _ _ => trivial) rfl (by kernel_rfl) (by kernel_rfl) (by kernel_rfl) (fun _ _ _ h => h) (fun _ => hS0) (Tame.val rfl (fun w' hA => by go_simp)) rfl ?_
        refine wpAnyU_all (rs := [7]) (by kernel_rfl) (by decide) ?_
        intro w2 hm2 i hi
        obtain rfl : i = 7 := by simpa using hi
        have hB2 := hS0.below hm2
        have d1 : w2.cell? ⟨qx, 0, none⟩ = some (.string (str x.name)) := (hxt _ hB2).1
        have d2 : w2.frozen? ⟨qx, 0, none⟩ = false := hB2.free 0
        refine wpOp_skip (w' := w2.setCell ⟨qx, 0, none⟩ (.string (str (x.name.take 40)))) (a' := ⟨#[.slice a l.length c, .int .i64 (m : Int), undef, undef, .slice none 0 0, u5, .int .i64 (j : Int), .pointer (some ⟨qx, 0, none⟩), .int .i64 (j : Int), .slice a l.length c, .int .i64 (l.length : Int), .bool true, .bool true, .int .i64 (j : Int), .int .i64 (m : Int), .bool true, .bool true, u17, u18, .slice a l.length c, .int .i64 (j : Int), .pointer (some ((hd a).add (j * 37))), .agg (List.toArray (abtC x)), .pointer (some ⟨qx, 0, none⟩), .string (str x.name), .string (str (x.name.take 40)), .pointer (some ⟨qx, 34, none⟩), .string (str x.comment), .string (str (x.comment.take 120)), .pointer (some ⟨qx, 0, none⟩), u30, u31, u32, u33, u34, undef], []⟩) rfl rfl (by go_simp) rfl ?_
        have hB3 := hB2.set 0 (.string (str (x.name.take 40)))
        have hBw3 : Below w.heap.size w (w2.setCell ⟨qx, 0, none⟩ (.string (str (x.name.take 40)))) := (hbW.trans ((Below.drewN' hm2).mono hbW.size)).trans ⟨rfl, rfl, rfl, by simp, fun k hk => Below.heap_setCell w2 _ _ k (by show k ≠ qx; omega)⟩
        have hO2 := ownsRow_below hOW (Below.drewN' hm2)
        have hO3 := ownsRow_setCell_other hO2 (a := ⟨qx, 0, none⟩) (fun e => Nat.lt_irrefl _ (hOlt _ e).2) (.string (str (x.name.take 40)))
        generalize w2.setCell ⟨qx, 0, none⟩ (.string (str (x.name.take 40))) = w3 at *
        refine ⟨fun hL => absurd hL (by decide +kernel), ?_⟩
        refine wpAnyU_take (i := 8) (A := fun _ => True) (v := .pointer (some ⟨qx, 34, none⟩)) (a' := ⟨#[.slice a l.length c, .int .i64 (m : Int), undef, undef, .slice none 0 0, u5, .int .i64 (j : Int), .pointer (some ⟨qx, 0, none⟩), .int .i64 (j : Int), .slice a l.length c, .int .i64 (l.length : Int), .bool true, .bool true, .int .i64 (j : Int), .int .i64 (m : Int), .bool true, .bool true, u17, u18, .slice a l.length c, .int .i64 (j : Int), .pointer (some ((hd a).add (j * 37))), .agg (List.toArray (abtC x)), .pointer (some ⟨qx, 0, none⟩), .string (str x.name), .string (str (x.name.take 40)), .pointer (some ⟨qx, 34, none⟩), .string (str x.comment), .string (str (x.comment.take 120)), .pointer (some ⟨qx, 0, none⟩), .pointer (some ⟨qx, 34, none⟩), u31, u32, u33, u34, undef], []⟩) hSm (hSi 8 (by decide)) (fun _ _ _ => trivial) rfl (by kernel_rfl) (by kernel_rfl) (by kernel_rfl) (fun _ _ _ h => h) (fun hL => absurd hL (by decide +kernel)) (Tame.val rfl (fun w' hA => by go_simp)) rfl ?_
        refine wpAnyU_all (rs := [9]) (by kernel_rfl) (by decide) ?_
        intro w4 hm4 i hi
        obtain rfl : i = 9 := by simpa using hi
        have hB4 := hB3.below hm4
        have d3 : w4.cell? ⟨qx, 34, none⟩ = some (.string (str x.comment)) := hB4.cell (by rw [List.getElem?_set_ne (by decide)]; exact abtC_34 hpo)
        have d4 : w4.frozen? ⟨qx, 34, none⟩ = false := hB4.free 34
        refine wpOp_skip (w' := w4.setCell ⟨qx, 34, none⟩ (.string (str (x.comment.take 120)))) (a' := ⟨#[.slice a l.length c, .int .i64 (m : Int), undef, undef, .slice none 0 0, u5, .int .i64 (j : Int), .pointer (some ⟨qx, 0, none⟩), .int .i64 (j : Int), .slice a l.length c, .int .i64 (l.length : Int), .bool true, .bool true, .int .i64 (j : Int), .int .i64 (m : Int), .bool true, .bool true, u17, u18, .slice a l.length c, .int .i64 (j : Int), .pointer (some ((hd a).add (j * 37))), .agg (List.toArray (abtC x)), .pointer (some ⟨qx, 0, none⟩), .string (str x.name), .string (str (x.name.take 40)), .pointer (some ⟨qx, 34, none⟩), .string (str x.comment), .string (str (x.comment.take 120)), .pointer (some ⟨qx, 0, none⟩), .pointer (some ⟨qx, 34, none⟩), u31, u32, u33, u34, undef], []⟩) rfl rfl (by go_simp) rfl ?_
        have hB5 := hB4.set 34 (.string (str (x.comment.take 120)))
        have hbw4 := hBw3.trans (hm4.mono hBw3.size)
        have hBw5 : Below w.heap.size w (w4.setCell ⟨qx, 34, none⟩ (.string (str (x.comment.take 120)))) := hbw4.trans ⟨rfl, rfl, rfl, by simp, fun k hk => Below.heap_setCell w4 _ _ k (by show k ≠ qx; omega)⟩
        have hO4 := ownsRow_below hO3 hm4
        have hO5 := ownsRow_setCell_other hO4 (a := ⟨qx, 34, none⟩) (fun e => Nat.lt_irrefl _ (hOlt _ e).2) (.string (str (x.comment.take 120)))
        generalize w4.setCell ⟨qx, 34, none⟩ (.string (str (x.comment.take 120))) = w5 at *
        refine ⟨fun hL => absurd hL (by decide +kernel), ?_⟩
        refine wpAnyU_done (by kernel_rfl) ?_ _
        intro w6 hm6
        have hB6 := hB5.below hm6
        rw [← abtC_cutX hpo] at hB6
        have hO6 := ownsRow_below hO5 hm6
        have hBw6 := hBw5.trans (hm6.mono hBw5.size)
        have hcx := cutX_ok hpo
        have z1 : (List.toArray (abtC (cutX x))).size = 37 := by simpa using abtC_len hcx
        have z2 : OneC (List.toArray (abtC (cutX x))) := all_oneCell_toArray (abtC_one _)
        have q2 := ldOp_all (P := Try.prog) (ty := 31) hB6 Try.underlying31 rfl (by rw [abtC_len hcx]; exact sizeAB)
        generalize hqq : abtC (cutX x) = cs at *
        have hsrc : Src Try.prog 37 27 (.slice (some ⟨w6.heap.size, 0, none⟩) 1 1) 1 cs (w6.alloc (.cells (List.toArray cs) 31)) := Src.ofRow eAB.ht _ 1 1 cs (by decide) (by simpa using z1) (by simpa using (Blk.new w6 31 (List.toArray cs)).row) (by rw [← hqq]; exact abtC_one _)
        obtain ⟨v', w7, happ, hO7, hG7, hK7⟩ := append_srcK (ty := 27) eAB (hO6.alloc _) hsrc (by have := HM.out; unfold maxLen; omega) (by have := HM.out; omega) (by have := hBw6.size; simp; omega)
        obtain ⟨a', c', rfl, _⟩ := owns_rowN hO7 (by decide)
        have hb6a : Below w.heap.size w (w6.alloc (.cells (List.toArray cs) 31)) := hBw6.alloc hBw6.size _
        have hb7 := Lib.hid (hb6a.trans (Gro.below (base := w.heap.size) (v := u5) (u := .slice a' (j + 1) c') ⟨hG7, hK7⟩ (fun k hk => (hOlt k hk).1) (Nat.le_refl _) hb6a.size))
        have hO8 : Hid (w7.ownsRow w.heap.size 31 37 (.slice a' (j + 1) c') (j + 1) (((l.take (j + 1)).map fun x => abtC (cutX x)).flatten)) := by
          show _
          rw [hT.out]; exact hO7
        clear hT hqq hsrc hO7 hG7 hK7 hb6a hO6 hBw6 hB6 hO5 hO4 hO3 hO2 hBw5 hbw4 hB5 hB4 hB3 hBw3 hB2 hm6 hm4 hm2 hxt hSi hSm hS0 hxB hOW hOlt d1 d2 d3 d4
        go_wp2_with (at_builtin; refine wpList_append_run happ rfl rfl rfl rfl ?_)
        first
          | exact ⟨⟨j + 1, by omega, by omega, (by first | rfl | go_num | (congr 1; omega)), hO8, hb7⟩, by simp [intOf] <;> omega⟩
          | (refine ⟨?_, by simp [intOf] <;> omega⟩; (repeat apply Exists.intro); exact ⟨⟨j + 1, by omega, by omega, (by first | rfl | go_num | (congr 1; omega)), hO8, hb7⟩, rfl⟩)
      · have j2 : ¬ (j : Int) < (m : Int) := by omega
        obtain rfl : j = m := by omega
        have hO1 := hO.out
        have hfin : Hid (w.heap.size = w.heap.size ∧ ∃ a' c', u5 = .slice a' (cutL l j).length c' ∧ Row wr a' ((cutL l j).map abtC).flatten ∧ (0 < (cutL l j).length → w.heap.size ≤ (hd a').block)) := by
          obtain ⟨a', c', h1, _, _, h2, h3⟩ := owns_rowN hO1 (by decide)
          have h4 := hO1.1
          have hl1 : (cutL l j).length = j := by simp [cutL]; omega
          exact ⟨rfl, a', c', by rw [hl1]; exact h1, by rw [cutL, List.map_map]; exact h2, fun h => (h3 (by rw [h4]; omega)).2.1⟩
        clear hO hO1
        go_wp2
        go_ret
        obtain ⟨_, a', c', h1, h2, h3⟩ := hfin.out
        exact ⟨a', ⟨c', congrArg Ending.returned h1⟩, h2, h3, hb.out⟩
    · have j1 : ¬ (j : Int) < (l.length : Int) := by omega
      obtain rfl : j = l.length := by omega
      have hO1 := hO.out
      have hfin : Hid (w.heap.size = w.heap.size ∧ ∃ a' c', u5 = .slice a' (cutL l m).length c' ∧ Row wr a' ((cutL l m).map abtC).flatten ∧ (0 < (cutL l m).length → w.heap.size ≤ (hd a').block)) := by
        obtain ⟨a', c', h1, _, _, h2, h3⟩ := owns_rowN hO1 (by decide)
        have h4 := hO1.1
        have hl1 : (cutL l m).length = l.length := by simp [cutL]; omega
        refine ⟨rfl, a', c', by rw [hl1]; exact h1, ?_, fun h => (h3 (by rw [h4]; omega)).2.1⟩
        rw [cutL, List.map_map, List.take_of_length_le hjm]
        rw [List.take_length] at h2
        exact h2
      clear hO hO1
      go_wp2
      go_ret
      obtain ⟨_, a', c', h1, h2, h3⟩ := hfin.out
      exact ⟨a', ⟨c', congrArg Ending.returned h1⟩, h2, h3, hb.out⟩
end Go.Proofs.Ytakliplkabgmbaa
