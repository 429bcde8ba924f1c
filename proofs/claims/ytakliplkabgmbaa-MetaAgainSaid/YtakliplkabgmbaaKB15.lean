/- Joined: what one statement of this layer stands on, part 15 of 19; nothing is assumed. -/
import Derived.Deep.CutBlock
import Derived.Test.YtakliplkabgmbaaKB1
import Derived.Test.YtakliplkabgmbaaKB4
import Derived.Test.YtakliplkabgmbaaKB14
set_option maxRecDepth 20000
namespace Go.Proofs.Ytakliplkabgmbaa
open Go.RowKit Go.Hd
attribute [local go_sem ↓] h_ldV h_stV h_alV h_ldID h_stID h_alID h_bsLV h_ldAB h_stAB h_alAB
attribute [local go_sem] r_ldV r_stV r_alV r_ldID r_stID r_alID r_ldAB r_stAB r_alAB

def metaA (x : Abt) (l : List Prt) : List UInt8 × Int := if checkA x l ≠ 0 then ([], checkA x l) else encF (archV x l)
theorem march_any {a : Option Addr} {n c : Nat} {x : Abt} {l : List Prt} {w : World} (hn : n = l.length) (hr : Row w a (l.map prtC).flatten) (hok : ∀ p ∈ l, PrtOk p) (hx : AbtOk x) (hl : l.length ≤ 1000) :
    Calls Try.prog 16 #[.agg (List.toArray (abtC x)), .slice a n c] w fun e w' => ∃ u, e = .returned (.tuple #[u, .int .i64 (metaA x l).2]) ∧ BRd w' u (metaA x l).1 ∧ Below w.heap.size w w' := by
  subst hn
  have hxo := hx
  have x1 : (List.toArray (abtC x)).size = 37 := by simpa using abtC_len hx
  have x2 : OneC (List.toArray (abtC x)) := all_oneCell_toArray (abtC_one x)
  have hb0 : Below w.heap.size w (w.alloc (.cells (List.toArray (abtC x)) 31)) := (Below.refl _ _).alloc (Nat.le_refl _) _
  have hB0 : Blk (w.alloc (.cells (List.toArray (abtC x)) 31)) w.heap.size 31 (abtC x) := Blk.new w 31 _
  have hck := fun w' (hb : Below w.heap.size w w') => checkArchive_any (c := c) rfl (hr.below hb) hok hx hl
  have hlv := fun w' (hb : Below w.heap.size w w') => archiveValue_any (c := c) rfl (hr.below hb) hok hx hl
  have hld : ∀ w', Blk w' w.heap.size 31 (abtC x) → (ldOp 31 (.pointer (some ⟨w.heap.size, 0, none⟩))).run Try.prog w' = .ok (.agg (List.toArray (abtC x))) w' := fun w' h => ldOp_all h Try.underlying31 rfl (by rw [abtC_len hxo]; exact sizeAB)
  have HM : Hid (metaA x l = if checkA x l ≠ 0 then ([], checkA x l) else encF (archV x l)) := rfl
  generalize metaA x l = R at *
  generalize archV x l = v at *
  clear hxo hx
  go_enter Try.func16, Try.ntmps16
  go_upto_region 1 with (fail)
  generalize w.alloc (.cells (List.toArray (abtC x)) 31) = W at *
  have hl1 := hld _ hB0
  by_cases h0 : checkA x l = 0
  · rw [h0] at hck
    have hR : Hid (R = encF v) := by show _ = _; rw [HM.out, if_neg (by rw [h0]; simp)]
    clear HM h0
    go_wp2_with fail
    refine (hck _ hb0).mono ?_
    rintro e w1 ⟨rfl, hb1⟩
    have hl2 := hld _ (hB0.below hb1)
    have hb01 := hb0.trans (hb1.mono hb0.size)
    clear hl1
    go_wp2_with fail
    refine (hlv _ hb01).mono ?_
    rintro e w2 ⟨cs, rfl, hv, hb2⟩
    have he := enc_any hv.at (Below.refl _ _)
    have hb02 := hb01.trans (hb2.mono hb01.size)
    clear hl2
    go_wp2_with fail
    refine he.mono ?_
    rintro e w3 ⟨u, rfl, hu, hb3⟩
    go_wp2
    go_ret2
    exact ⟨u, by rw [hR.out] <;> rfl, by rw [hR.out]; exact hu, hb02.trans (hb3.mono hb02.size)⟩
  · have e1 : (checkA x l == 0) = false := by simpa using h0
    have e2 : (checkA x l != 0) = true := by simpa using h0
    have hR : Hid (R = ([], checkA x l)) := by show _ = _; rw [HM.out, if_pos h0]
    generalize checkA x l = E at *
    clear HM h0
    go_wp2_with fail
    refine (hck _ hb0).mono ?_
    rintro e w1 ⟨rfl, hb1⟩
    go_wp2
    go_ret2
    exact ⟨.slice none 0 0, by rw [hR.out] <;> rfl, by rw [hR.out]; exact BRd.nil _, hb0.trans (hb1.mono hb0.size)⟩
end Go.Proofs.Ytakliplkabgmbaa
set_option maxRecDepth 20000
namespace Go.Hd
open Go Go.RowKit
def cutX (x : Abt) : Abt := { x with name := x.name.take 40, comment := x.comment.take 120 }
def cutL (l : List Abt) (m : Nat) : List Abt := (l.take m).map cutX
theorem cutX_ok {x : Abt} (h : AbtOk x) : AbtOk (cutX x) where
  id := h.id
  time := h.time
  items := h.items
  bytes := h.bytes
  name := by have := h.name; simp [cutX]; omega
  comment := by have := h.comment; simp [cutX]; omega
theorem abtC_cutX {x : Abt} (h : AbtOk x) : abtC (cutX x) = ((abtC x).set 0 (.string (str (x.name.take 40)))).set 34 (.string (str (x.comment.take 120))) := by
  have hi := h.id
  unfold abtC cutX
  rw [List.set_cons_zero, List.set_cons_succ, List.set_append_right _ _ (by simp [hi])]
  simp [hi, strV]
theorem cutL_ok {l : List Abt} {m : Nat} (h : ∀ x ∈ l, AbtOk x) : ∀ x ∈ cutL l m, AbtOk x := fun x hx => by
  obtain ⟨y, hy, rfl⟩ := List.mem_map.1 hx
  exact cutX_ok (h y (List.mem_of_mem_take hy))
theorem cutL_len {l : List Abt} {m : Nat} : (cutL l m).length ≤ m := by simp [cutL]; omega
end Go.Hd
namespace Go.Proofs.Ytakliplkabgmbaa
open Go.RowKit Go.Hd
attribute [local go_sem ↓] h_ldAB h_stAB h_alAB h_bsAB
attribute [local go_sem] r_ldAB r_stAB r_alAB r_bsAB

theorem prtFew_any {a : Option Addr} {n c : Nat} {l : List Prt} {w : World} (hn : n = l.length) (hnc : n ≤ c) :
    Calls Try.prog 13 #[.slice a n c] w fun e w' => ∃ c', e = .returned (.slice a (l.take 70).length c') ∧ w = w' := by
  subst hn
  by_cases h : 70 < l.length
  · have h1 : (70 : Int) < (l.length : Int) := by omega
    have h70c : (70 : Int) ≤ (c : Int) := by omega
    have h70 : Hid ((l.take 70).length = 70) := by show _ = _; simp; omega
    go_enter Try.func13, Try.ntmps13
    go_wp2
    go_ret
    exact ⟨c, by rw [h70.out]; rfl, rfl⟩
  · have h1 : ¬ (70 : Int) < (l.length : Int) := by omega
    have h70 : Hid ((l.take 70).length = l.length) := by show _ = _; simp; omega
    go_enter Try.func13, Try.ntmps13
    go_wp2
    go_ret
    refine ⟨⟨c, ?_⟩, rfl⟩
    rw [← List.length_take, h70.out]; rfl

set_option maxHeartbeats 2000000 in
theorem abtCut_any {a : Option Addr} {n c m : Nat} {l : List Abt} {w : World} (hn : n = l.length) (hr : Row w a (l.map abtC).flatten) (hok : ∀ x ∈ l, AbtOk x) (hm : m ≤ 1000) (hlm : l.length ≤ maxLen) :
    Calls Try.prog 12 #[.slice a n c, .int .i64 (m : Int)] w fun e w' => ∃ a' c', e = .returned (.slice a' (cutL l m).length c') ∧ Row w' a' ((cutL l m).map abtC).flatten ∧ (0 < (cutL l m).length → w.heap.size ≤ (hd a').block) ∧ Below w.heap.size w w' := by
  subst hn
  have HM := Lib.hid hm
  have HL := Lib.hid hlm
  have HOK := Lib.hid hok
  have HRow := Lib.hid hr
  have za := zAB_size
  clear hm hlm hok hr
  have hsh := fun (t : List UInt8) w' => short_any t 40 w' (by decide)
  have hsh2 := fun (t : List UInt8) w' => short_any t 120 w' (by decide)
  go_enter Try.func12, Try.ntmps12
  go_wp2
  go_loopw [5, 6] (fun v i wr => ∃ j : Nat, j ≤ l.length ∧ j ≤ m ∧ i = .int .i64 j ∧ Hid (wr.ownsRow w.heap.size 31 37 v j (((l.take j).map fun x => abtC (cutX x)).flatten)) ∧ Hid (Below w.heap.size w wr)) (fun _ i _ => l.length - (intOf i).toNat)
  case atStart => exact ⟨0, Nat.zero_le _, Nat.zero_le _, rfl, Lib.hid ⟨rfl, .inl ⟨rfl, rfl⟩⟩, Lib.hid (Below.refl _ _)⟩
  case round =>
    obtain ⟨j, hj, hjm, rfl, hO, hb⟩ := hrel
    have j0 : (0 : Int) ≤ (j : Int) := by omega
    have jb : IntKind.i64.wrap ((j : Int) + 1) = (j : Int) + 1 := IntWalk.i64_in _ (by have := HM.out; omega)
    by_cases hlt : j < l.length
    · have j1 : (j : Int) < (l.length : Int) := by omega
      by_cases hlm2 : j < m
      · have j2 : (j : Int) < (m : Int) := by omega
        have hr2 := HRow.out.below hb.out
        have s1 := hr2.elemSome (s := 37) (abts37 HOK.out) (by decide) (i := j) (by simpa using hlt)
        have hpo := HOK.out _ (List.getElem_mem hlt)
        have q1 := ldOp_at (P := Try.prog) (ty := 31) (hr2.elem (s := 37) (abts37 HOK.out) (i := j) (c := abtC l[j]) (by simp [hlt])) Try.underlying31 rfl (by rw [abtC_len hpo]; exact sizeAB)
        have hT : Hid (((l.take (j + 1)).map fun x => abtC (cutX x)).flatten = ((l.take j).map fun x => abtC (cutX x)).flatten ++ abtC (cutX l[j])) := by
          show _ = _
          rw [List.take_succ_eq_append_getElem hlt, List.map_append, List.flatten_append]; simp
        generalize l[j] = x at *
        have y1 : (List.toArray (abtC x)).size = 37 := by simpa using abtC_len hpo
        have y2 : OneC (List.toArray (abtC x)) := all_oneCell_toArray (abtC_one x)
        clear hr2
        go_upto_region 6 with (fail)
        have hxB : Blk (wr.alloc (.cells (List.toArray (abtC x)) 31)) wr.heap.size 31 (abtC x) := Blk.new wr 31 _
        have hb0x : Below wr.heap.size wr (wr.alloc (.cells (List.toArray (abtC x)) 31)) := (Below.refl _ _).alloc (Nat.le_refl _) _
        have hOW := ownsRow_below hO.out hb0x
        have hOlt := World.ownsRow.lt hO.out
        have hbW := hb.out.trans (hb0x.mono hb.out.size)
        have hbs : w.heap.size ≤ wr.heap.size := hb.out.size
        generalize hqx : wr.heap.size = qx at *
        generalize wr.alloc (.cells (List.toArray (abtC x)) 31) = W at *
        have hSm : ∀ (L : Array Bool) (w1 w2 : World), (L.getD 7 false = false → Blk w1 qx 31 (abtC x)) → Mo w1 w2 → (L.getD 7 false = false → Blk w2 qx 31 (abtC x)) :=
          fun L w1 w2 h hm hL => (h hL).below hm
        have hSi : ∀ i, i ≠ 7 → ∀ (L : Array Bool) (w1 : World), (((L.setIfInBounds i true).getD 7 false = false → Blk w1 qx 31 (abtC x)) ↔ (L.getD 7 false = false → Blk w1 qx 31 (abtC x))) := fun i hi L w1 => by
          rw [getD_set_ne false hi]
        have hS0 : Blk (W.drewN 1) qx 31 (abtC x) := hxB
        have hxt : ∀ w', Blk w' qx 31 (abtC x) → w'.cell? ⟨qx, 0, none⟩ = some (.string (str x.name)) ∧ w'.cell? ⟨qx, 34, none⟩ = some (.string (str x.comment)) := fun w' h => ⟨h.cell (abtC_0 x), h.cell (abtC_34 hpo)⟩
        refine wp_region_upN (S := fun L w1 => L.getD 7 false = false → Blk w1 qx 31 (abtC x)) 10 rfl (by kernel_rfl) ?_
        refine wpAnyU_take (i := 0) (A := fun _ => True) (v := .pointer (some ⟨qx, 0, none⟩)) (a' := ⟨#[.slice a l.length c, .int .i64 (m : Int), undef, undef, .slice none 0 0, u5, .int .i64 (j : Int), .pointer (some ⟨qx, 0, none⟩), .int .i64 (j : Int), .slice a l.length c, .int .i64 (l.length : Int), .bool true, .bool true, .int .i64 (j : Int), .int .i64 (m : Int), .bool true, .bool true, u17, u18, .slice a l.length c, .int .i64 (j : Int), .pointer (some ((hd a).add (j * 37))), .agg (List.toArray (abtC x)), .pointer (some ⟨qx, 0, none⟩), u24, u25, u26, u27, u28, u29, u30, u31, u32, u33, u34, undef], []⟩) hSm (hSi 0 (by decide)) (fun _ _ _ => trivial) rfl (by kernel_rfl) (by kernel_rfl) (by kernel_rfl) (fun _ _ _ h => h) (fun _ => hS0) (Tame.val rfl (fun w' hA => by go_simp)) rfl ?_
        refine wpAnyU_takeK (i := 1) 7 (A := fun w1 => Blk w1 qx 31 (abtC x)) (v := .string (str x.name)) (a' := ⟨#[.slice a l.length c, .int .i64 (m : Int), undef, undef, .slice none 0 0, u5, .int .i64 (j : Int), .pointer (some ⟨qx, 0, none⟩), .int .i64 (j : Int), .slice a l.length c, .int .i64 (l.length : Int), .bool true, .bool true, .int .i64 (j : Int), .int .i64 (m : Int), .bool true, .bool true, u17, u18, .slice a l.length c, .int .i64 (j : Int), .pointer (some ((hd a).add (j * 37))), .agg (List.toArray (abtC x)), .pointer (some ⟨qx, 0, none⟩), .string (str x.name), u25, u26, u27, u28, u29, u30, u31, u32, u33, u34, undef], []⟩) hSm (hSi 1 (by decide)) (fun _ _ h h2 => h h2) rfl rfl (by kernel_rfl) (by kernel_rfl) (by kernel_rfl) (by kernel_rfl) (by kernel_rfl) (fun _ _ _ h => h) (fun _ => hS0) (Tame.val rfl (fun w' hA => by have h1 := (hxt _ hA).1; go_simp)) rfl ?_
        refine wpAnyU_take (i := 3) (A := fun _ => True) (v := .pointer (some ⟨qx, 34, none⟩)) (a' := ⟨#[.slice a l.length c, .int .i64 (m : Int), undef, undef, .slice none 0 0, u5, .int .i64 (j : Int), .pointer (some ⟨qx, 0, none⟩), .int .i64 (j : Int), .slice a l.length c, .int .i64 (l.length : Int), .bool true, .bool true, .int .i64 (j : Int), .int .i64 (m : Int), .bool true, .bool true, u17, u18, .slice a l.length c, .int .i64 (j : Int), .pointer (some ((hd a).add (j * 37))), .agg (List.toArray (abtC x)), .pointer (some ⟨qx, 0, none⟩), .string (str x.name), u25, .pointer (some ⟨qx, 34, none⟩), u27, u28, u29, u30, u31, u32, u33, u34, undef], []⟩) hSm (hSi 3 (by decide)) (fun _ _ _ => trivial) rfl (by kernel_rfl) (by kernel_rfl) (by kernel_rfl) (fun _ _ _ h => h) (fun _ => hS0) (Tame.val rfl (fun w' hA => by go_simp)) rfl ?_
        refine wpAnyU_takeK (i := 4) 7 (A := fun w1 => Blk w1 qx 31 (abtC x)) (v := .string (str x.comment)) (a' := ⟨#[.slice a l.length c, .int .i64 (m : Int), undef, undef, .slice none 0 0, u5, .int .i64 (j : Int), .pointer (some ⟨qx, 0, none⟩), .int .i64 (j : Int), .slice a l.length c, .int .i64 (l.length : Int), .bool true, .bool true, .int .i64 (j : Int), .int .i64 (m : Int), .bool true, .bool true, u17, u18, .slice a l.length c, .int .i64 (j : Int), .pointer (some ((hd a).add (j * 37))), .agg (List.toArray (abtC x)), .pointer (some ⟨qx, 0, none⟩), .string (str x.name), u25, .pointer (some ⟨qx, 34, none⟩), .string (str x.comment), u28, u29, u30, u31, u32, u33, u34, undef], []⟩) hSm (hSi 4 (by decide)) (fun _ _ h h2 => h h2) rfl rfl (by kernel_rfl) (by kernel_rfl) (by kernel_rfl) (by kernel_rfl) (by kernel_rfl) (fun _ _ _ h => h) (fun _ => hS0) (Tame.val rfl (fun w' hA => by have h1 := (hxt _ hA).2; go_simp)) rfl ?_
        refine wpAnyU_take (i := 2) (A := fun _ => True) (v := .string (str (x.name.take 40))) (a' := ⟨#[.slice a l.length c, .int .i64 (m : Int), undef, undef, .slice none 0 0, u5, .int .i64 (j : Int), .pointer (some ⟨qx, 0, none⟩), .int .i64 (j : Int), .slice a l.length c, .int .i64 (l.length : Int), .bool true, .bool true, .int .i64 (j : Int), .int .i64 (m : Int), .bool true, .bool true, u17, u18, .slice a l.length c, .int .i64 (j : Int), .pointer (some ((hd a).add (j * 37))), .agg (List.toArray (abtC x)), .pointer (some ⟨qx, 0, none⟩), .string (str x.name), .string (str (x.name.take 40)), .pointer (some ⟨qx, 34, none⟩), .string (str x.comment), u28, u29, u30, u31, u32, u33, u34, undef], []⟩) hSm (hSi 2 (by decide)) (fun _ _ _ => trivial) rfl (by kernel_rfl) (by kernel_rfl) (by kernel_rfl) (fun _ _ _ h => h) (fun _ => hS0) (Tame.enter rfl (fun w' => by go_simp) (fun w' _ => (hsh x.name w').mono (by rintro e w2 ⟨rfl, rfl⟩; exact ⟨rfl, Mo.refl _⟩))) rfl ?_
        refine wpAnyU_take (i := 5) (A := fun _ => True) (v := .string (str (x.comment.take 120))) (a' := ⟨#[.slice a l.length c, .int .i64 (m : Int), undef, undef, .slice none 0 0, u5, .int .i64 (j : Int), .pointer (some ⟨qx, 0, none⟩), .int .i64 (j : Int), .slice a l.length c, .int .i64 (l.length : Int), .bool true, .bool true, .int .i64 (j : Int), .int .i64 (m : Int), .bool true, .bool true, u17, u18, .slice a l.length c, .int .i64 (j : Int), .pointer (some ((hd a).add (j * 37))), .agg (List.toArray (abtC x)), .pointer (some ⟨qx, 0, none⟩), .string (str x.name), .string (str (x.name.take 40)), .pointer (some ⟨qx, 34, none⟩), .string (str x.comment), .string (str (x.comment.take 120)), u29, u30, u31, u32, u33, u34, undef], []⟩) hSm (hSi 5 (by decide)) (fun _ _ _ => trivial) rfl (by kernel_rfl) (by kernel_rfl) (by kernel_rfl) (fun _ _ _ h => h) (fun _ => hS0) (Tame.enter rfl (fun w' => by go_simp) (fun w' _ => (hsh2 x.comment w').mono (by rintro e w2 ⟨rfl, rfl⟩; exact ⟨rfl, Mo.refl _⟩))) rfl ?_
        refine wpAnyU_take (i := 6) (A := fun _ => True) (v := .pointer (some ⟨qx, 0, none⟩)) (a' := ⟨#[.slice a l.length c, .int .i64 (m : Int), undef, undef, .slice none 0 0, u5, .int .i64 (j : Int), .pointer (some ⟨qx, 0, none⟩), .int .i64 (j : Int), .slice a l.length c, .int .i64 (l.length : Int), .bool true, .bool true, .int .i64 (j : Int), .int .i64 (m : Int), .bool true, .bool true, u17, u18, .slice a l.length c, .int .i64 (j : Int), .pointer (some ((hd a).add (j * 37))), .agg (List.toArray (abtC x)), .pointer (some ⟨qx, 0, none⟩), .string (str x.name), .string (str (x.name.take 40)), .pointer (some ⟨qx, 34, none⟩), .string (str x.comment), .string (str (x.comment.take 120)), .pointer (some ⟨qx, 0, none⟩), u30, u31, u32, u33, u34, undef], []⟩) hSm (hSi 6 (by decide)) (fun _ _ _ => trivial) rfl (by kernel_rfl) (by kernel_rfl) (by kernel_rfl) (fun _ _ _ h => h) (fun _ => hS0) (Tame.val rfl (fun w' hA => by go_simp)) rfl ?_
        refine wpAnyU_all (rs := [7]) (by kernel_rfl) (by decide) ?_
        intro w2 hm2 i hi
        obtain rfl : i = 7 := by simpa using hi
        have hB2 := hS0.below hm2
        have d1 : w2.cell? ⟨qx, 0, none⟩ = some (.string (str x.name)) := (hxt _ hB2).1
        have d2 : w2.frozen? ⟨qx, 0, none⟩ = false := hB2.free 0
        refine wpOp_skip (w' := w2.setCell ⟨qx, 0, none⟩ (.string (str (x.name.take 40)))) (a' := ⟨#[.slice a l.length c, .int .i64 (m : Int), undef, undef, .slice none 0 0, u5, .int .i64 (j : Int), .pointer (some ⟨qx, 0, none⟩), .int .i64 (j : Int), .slice a l.length c, .int .i64 (l.length : Int), .bool true, .bool true, .int .i64 (j : Int), .int .i64 (m : Int), .bool true, .bool true, u17, u18, .slice a l.length c, .int .i64 (j : Int), .pointer (some ((hd a).add (j * 37))), .agg (List.toArray (abtC x)), .pointer (some ⟨qx, 0, none⟩), .string (str x.name), .string (str (x.name.take 40)), .pointer (some ⟨qx, 34, none⟩), .string (str x.comment), .string (str (x.comment.take 120)), .pointer (some ⟨qx, 0, none⟩), u30, u31, u32, u33, u34, undef], []⟩) rfl rfl (by go_simp) rfl ?_
        have hB3 := hB2.set 0 (.string (str (x.name.take 40)))
        have hBw3 : Below w.heap.size w (w2.setCell ⟨qx, 0, none⟩ (.string (str (x.name.take 40)))) := (hbW.trans ((Below.drewN' hm2).mono hbW.size)).trans ⟨rfl, rfl, rfl, by simp, fun k hk => Below.heap_setCell w2 _ _ k (by show k ≠ qx; omega)⟩
        have hO2 := ownsRow_below hOW (Below.drewN' hm2)
        have hO3 := ownsRow_setCell_other hO2 (a := ⟨qx, 0, none⟩) (fun e => Nat.lt_irrefl _ (hOlt _ e).2) (.string (str (x.name.take 40)))
        generalize w2.setCell ⟨qx, 0, none⟩ (.string (str (x.name.take 40))) = w3 at *
        refine ⟨fun hL => absurd hL (by decide +kernel), ?_⟩
        refine wpAnyU_take (i := 8) (A := fun _ => True) (v := .pointer (some ⟨qx, 34, none⟩)) (a' := ⟨#[.slice a l.length c, .int .i64 (m : Int), undef, undef, .slice none 0 0, u5, .int .i64 (j : Int), .pointer (some ⟨qx, 0, none⟩), .int .i64 (j : Int), .slice a l.length c, .int .i64 (l.length : Int), .bool true, .bool true, .int .i64 (j : Int), .int .i64 (m : Int), .bool true, .bool true, u17, u18, .slice a l.length c, .int .i64 (j : Int), .pointer (some ((hd a).add (j * 37))), .agg (List.toArray (abtC x)), .pointer (some ⟨qx, 0, none⟩), .string (str x.name), .string (str (x.name.take 40)), .pointer (some ⟨qx, 34, none⟩), .string (str x.comment), .string (str (x.comment.take 120)), .pointer (some ⟨qx, 0, none⟩), .pointer (some ⟨qx, 34, none⟩), u31, u32, u33, u34, undef], []⟩) hSm (hSi 8 (by decide)) (fun _ _ _ => trivial) rfl (by kernel_rfl) (by kernel_rfl) (by kernel_rfl) (fun _ _ _ h => h) (fun hL => absurd hL (by decide +kernel)) (Tame.val rfl (fun w' hA => by go_simp)) rfl ?_
        refine wpAnyU_all (rs := [9]) (by kernel_rfl) (by decide) ?_
        intro w4 hm4 i hi
        obtain rfl : i = 9 := by simpa using hi
        have hB4 := hB3.below hm4
        have d3 : w4.cell? ⟨qx, 34, none⟩ = some (.string (str x.comment)) := hB4.cell (by rw [List.getElem?_set_ne (by decide)]; exact abtC_34 hpo)
        have d4 : w4.frozen? ⟨qx, 34, none⟩ = false := hB4.free 34
        refine wpOp_skip (w' := w4.setCell ⟨qx, 34, none⟩ (.string (str (x.comment.take 120)))) (a' := ⟨#[.slice a l.length c, .int .i64 (m : Int), undef, undef, .slice none 0 0, u5, .int .i64 (j : Int), .pointer (some ⟨qx, 0, none⟩), .int .i64 (j : Int), .slice a l.length c, .int .i64 (l.length : Int), .bool true, .bool true, .int .i64 (j : Int), .int .i64 (m : Int), .bool true, .bool true, u17, u18, .slice a l.length c, .int .i64 (j : Int), .pointer (some ((hd a).add (j * 37))), .agg (List.toArray (abtC x)), .pointer (some ⟨qx, 0, none⟩), .string (str x.name), .string (str (x.name.take 40)), .pointer (some ⟨qx, 34, none⟩), .string (str x.comment), .string (str (x.comment.take 120)), .pointer (some ⟨qx, 0, none⟩), .pointer (some ⟨qx, 34, none⟩), u31, u32, u33, u34, undef], []⟩) rfl rfl (by go_simp) rfl ?_
        have hB5 := hB4.set 34 (.string (str (x.comment.take 120)))
        have hbw4 := hBw3.trans (hm4.mono hBw3.size)
        have hBw5 : Below w.heap.size w (w4.setCell ⟨qx, 34, none⟩ (.string (str (x.comment.take 120)))) := hbw4.trans ⟨rfl, rfl, rfl, by simp, fun k hk => Below.heap_setCell w4 _ _ k (by show k ≠ qx; omega)⟩
        have hO4 := ownsRow_below hO3 hm4
        have hO5 := ownsRow_setCell_other hO4 (a := ⟨qx, 34, none⟩) (fun e => Nat.lt_irrefl _ (hOlt _ e).2) (.string (str (x.comment.take 120)))
        generalize w4.setCell ⟨qx, 34, none⟩ (.string (str (x.comment.take 120))) = w5 at *
        refine ⟨fun hL => absurd hL (by decide +kernel), ?_⟩
        refine wpAnyU_done (by kernel_rfl) ?_ _
        intro w6 hm6
        have hB6 := hB5.below hm6
        rw [← abtC_cutX hpo] at hB6
        have hO6 := ownsRow_below hO5 hm6
        have hBw6 := hBw5.trans (hm6.mono hBw5.size)
        have hcx := cutX_ok hpo
        have z1 : (List.toArray (abtC (cutX x))).size = 37 := by simpa using abtC_len hcx
        have z2 : OneC (List.toArray (abtC (cutX x))) := all_oneCell_toArray (abtC_one _)
        have q2 := ldOp_all (P := Try.prog) (ty := 31) hB6 Try.underlying31 rfl (by rw [abtC_len hcx]; exact sizeAB)
        generalize hqq : abtC (cutX x) = cs at *
        have hsrc : Src Try.prog 37 27 (.slice (some ⟨w6.heap.size, 0, none⟩) 1 1) 1 cs (w6.alloc (.cells (List.toArray cs) 31)) := Src.ofRow eAB.ht _ 1 1 cs (by decide) (by simpa using z1) (by simpa using (Blk.new w6 31 (List.toArray cs)).row) (by rw [← hqq]; exact abtC_one _)
        obtain ⟨v', w7, happ, hO7, hG7, hK7⟩ := append_srcK (ty := 27) eAB (hO6.alloc _) hsrc (by have := HM.out; unfold maxLen; omega) (by have := HM.out; omega) (by have := hBw6.size; simp; omega)
        obtain ⟨a', c', rfl, _⟩ := owns_rowN hO7 (by decide)
        have hb6a : Below w.heap.size w (w6.alloc (.cells (List.toArray cs) 31)) := hBw6.alloc hBw6.size _
        have hb7 := Lib.hid (hb6a.trans (Gro.below (base := w.heap.size) (v := u5) (u := .slice a' (j + 1) c') ⟨hG7, hK7⟩ (fun k hk => (hOlt k hk).1) (Nat.le_refl _) hb6a.size))
        have hO8 : Hid (w7.ownsRow w.heap.size 31 37 (.slice a' (j + 1) c') (j + 1) (((l.take (j + 1)).map fun x => abtC (cutX x)).flatten)) := by
          show _
          rw [hT.out]; exact hO7
        clear hT hqq hsrc hO7 hG7 hK7 hb6a hO6 hBw6 hB6 hO5 hO4 hO3 hO2 hBw5 hbw4 hB5 hB4 hB3 hBw3 hB2 hm6 hm4 hm2 hxt hSi hSm hS0 hxB hOW hOlt d1 d2 d3 d4
        go_wp2_with (at_builtin; refine wpList_append_run happ rfl rfl rfl rfl ?_)
        first
          | exact ⟨⟨j + 1, by omega, by omega, (by first | rfl | go_num | (congr 1; omega)), hO8, hb7⟩, by simp [intOf] <;> omega⟩
          | (refine ⟨?_, by simp [intOf] <;> omega⟩; (repeat apply Exists.intro); exact ⟨⟨j + 1, by omega, by omega, (by first | rfl | go_num | (congr 1; omega)), hO8, hb7⟩, rfl⟩)
      · have j2 : ¬ (j : Int) < (m : Int) := by omega
        obtain rfl : j = m := by omega
        have hO1 := hO.out
        have hfin : Hid (w.heap.size = w.heap.size ∧ ∃ a' c', u5 = .slice a' (cutL l j).length c' ∧ Row wr a' ((cutL l j).map abtC).flatten ∧ (0 < (cutL l j).length → w.heap.size ≤ (hd a').block)) := by
          obtain ⟨a', c', h1, _, _, h2, h3⟩ := owns_rowN hO1 (by decide)
          have h4 := hO1.1
          have hl1 : (cutL l j).length = j := by simp [cutL]; omega
          exact ⟨rfl, a', c', by rw [hl1]; exact h1, by rw [cutL, List.map_map]; exact h2, fun h => (h3 (by rw [h4]; omega)).2.1⟩
        clear hO hO1
        go_wp2
        go_ret
        obtain ⟨_, a', c', h1, h2, h3⟩ := hfin.out
        exact ⟨a', ⟨c', congrArg Ending.returned h1⟩, h2, h3, hb.out⟩
    · have j1 : ¬ (j : Int) < (l.length : Int) := by omega
      obtain rfl : j = l.length := by omega
      have hO1 := hO.out
      have hfin : Hid (w.heap.size = w.heap.size ∧ ∃ a' c', u5 = .slice a' (cutL l m).length c' ∧ Row wr a' ((cutL l m).map abtC).flatten ∧ (0 < (cutL l m).length → w.heap.size ≤ (hd a').block)) := by
        obtain ⟨a', c', h1, _, _, h2, h3⟩ := owns_rowN hO1 (by decide)
        have h4 := hO1.1
        have hl1 : (cutL l m).length = l.length := by simp [cutL]; omega
        refine ⟨rfl, a', c', by rw [hl1]; exact h1, ?_, fun h => (h3 (by rw [h4]; omega)).2.1⟩
        rw [cutL, List.map_map, List.take_of_length_le hjm]
        rw [List.take_length] at h2
        exact h2
      clear hO hO1
      go_wp2
      go_ret
      obtain ⟨_, a', c', h1, h2, h3⟩ := hfin.out
      exact ⟨a', ⟨c', congrArg Ending.returned h1⟩, h2, h3, hb.out⟩
end Go.Proofs.Ytakliplkabgmbaa
set_option maxRecDepth 20000
namespace Go.Proofs.Ytakliplkabgmbaa
open Go.RowKit Go.Hd
attribute [local go_sem ↓] h_ldV h_stV h_alV
attribute [local go_sem] r_ldV r_stV r_alV

theorem equal5_any {a b : Option Addr} {n1 n2 c d : Nat} {l m : List UInt8} {w : World} (h1 : n1 = l.length) (h2 : n2 = m.length) (hl : Row w a (l.map b8)) (hm : Row w b (m.map b8)) :
    Calls Try.prog 65 #[.slice a n1 c, .slice b n2 d] w fun e w' => e = .returned (.bool (l == m)) ∧ w = w' := by
  subst h1 h2
  have k1 := run_convert_row (P := Try.prog) (w := w) (src := 35) (e := 5) (dst := 9) (c := c) eB.ht Try.underlying5 Try.underlying9 rfl hl
  have k2 := run_convert_row (P := Try.prog) (w := w) (src := 35) (e := 5) (dst := 9) (c := d) eB.ht Try.underlying5 Try.underlying9 rfl hm
  go_enter Try.func65, Try.ntmps65
  go_wp2
  go_ret
  exact ⟨ret_bool (str_beq l m), rfl⟩
set_option maxHeartbeats 4000000 in
theorem psame_any {w0 : World} {cs : List Value} {v : PV} (h : VAt w0 cs v) : ∀ (cs2 : List Value) (v2 : PV) (w : World), VAt w0 cs2 v2 → Below w0.heap.size w0 w →
    Calls Try.prog 41 #[.agg cs.toArray, .agg cs2.toArray] w fun e w' => e = .returned (.bool (sameV v v2)) ∧ Below w.heap.size w w' := by
  induction h with
  | @mk k n b t ks l ab ak al cb ck cl css hk hn hb hbc ht hks hkc hkt hl hlc hcs h6 sub ih =>
  intro cs2 v2 w h2 hbw
  cases h2 with
  | @mk k' n' b' t' ks' l' ab' ak' al' cb' ck' cl' css' hk' hn' hb' hbc' ht' hks' hkc' hkt' hl' hlc' hcs' h6' sub' =>
  have hsz := hbw.size
  obtain ⟨box, hbox⟩ : ∃ box : List Value, box = [.int .i64 k, .int .i64 n, .slice ab b.length cb, strV t, .slice ak ks.length ck, .slice al l.length cl] := ⟨_, rfl⟩
  obtain ⟨box', hbox'⟩ : ∃ box : List Value, box = [.int .i64 k', .int .i64 n', .slice ab' b'.length cb', strV t', .slice ak' ks'.length ck', .slice al' l'.length cl'] := ⟨_, rfl⟩
  have hb0 : Below w.heap.size w ((w.alloc (.cells (List.toArray (α := Value) box) 63)).alloc (.cells (List.toArray (α := Value) box') 63)) := ((Below.refl _ _).alloc (Nat.le_refl _) _).alloc (by simp) _
  have A0 : Blk ((w.alloc (.cells (List.toArray (α := Value) box) 63)).alloc (.cells (List.toArray (α := Value) box') 63)) w.heap.size 63 box := by simpa using (Blk.new w 63 box.toArray).alloc (.cells box'.toArray 63)
  have R0 : Blk ((w.alloc (.cells (List.toArray (α := Value) box) 63)).alloc (.cells (List.toArray (α := Value) box') 63)) (w.heap.size + 1) 63 box' := by
    have := Blk.new (w.alloc (.cells (List.toArray (α := Value) box) 63)) 63 box'.toArray
    simpa using this
  rw [← hbox, ← hbox']
  have HB := Lib.hid hbox
  have HB' := Lib.hid hbox'
  clear hbox hbox'
  have HSV := Lib.hid (sameV_mk k n k' n' b t b' t' ks ks' l l')
  go_enter Try.func41, Try.ntmps41
  go_upto_region 1 with (fail)
  generalize (w.alloc (.cells (List.toArray (α := Value) box) 63)).alloc (.cells (List.toArray (α := Value) box') 63) = W at *
  have a0 : W.cell? ⟨w.heap.size, 0, none⟩ = some (.int .i64 k) := A0.cell (by rw [HB.out]; rfl)
  have a1 : W.cell? ⟨w.heap.size, 1, none⟩ = some (.int .i64 n) := A0.cell (by rw [HB.out]; rfl)
  have a2 : W.cell? ⟨w.heap.size, 2, none⟩ = some (.slice ab b.length cb) := A0.cell (by rw [HB.out]; rfl)
  have a3 : W.cell? ⟨w.heap.size, 3, none⟩ = some (.string (str t)) := A0.cell (by rw [HB.out]; rfl)
  have r0 : W.cell? ⟨w.heap.size + 1, 0, none⟩ = some (.int .i64 k') := R0.cell (by rw [HB'.out]; rfl)
  have r1 : W.cell? ⟨w.heap.size + 1, 1, none⟩ = some (.int .i64 n') := R0.cell (by rw [HB'.out]; rfl)
  have r2 : W.cell? ⟨w.heap.size + 1, 2, none⟩ = some (.slice ab' b'.length cb') := R0.cell (by rw [HB'.out]; rfl)
  have r3 : W.cell? ⟨w.heap.size + 1, 3, none⟩ = some (.string (str t')) := R0.cell (by rw [HB'.out]; rfl)
  by_cases hkk : k = k'
  case neg =>
    have t0 : (k != k') = true := by simpa using hkk
    have HF : Hid (sameV (.mk k n b t ks l) (.mk k' n' b' t' ks' l') = false) := by
      show _ = _
      rw [HSV.out, beq_eq_false_iff_ne.2 hkk]; rfl
    clear hkk
    go_wp2
    go_ret
    exact ⟨by rw [HF.out]; rfl, hb0⟩
  case pos =>
  have HKK := Lib.hid hkk
  have t0 : (k != k') = false := by simpa using hkk
  clear hkk
  have HS3 : Hid (k = 3 → sameV (.mk k n b t ks l) (.mk k' n' b' t' ks' l') = (n == n')) := by
    intro h; rw [HSV.out, ← HKK.out]; subst h; simp
  have HS4 : Hid (k = 4 → sameV (.mk k n b t ks l) (.mk k' n' b' t' ks' l') = (b == b')) := by
    intro h; rw [HSV.out, ← HKK.out]; subst h; simp
  have HS5 : Hid (k = 5 → sameV (.mk k n b t ks l) (.mk k' n' b' t' ks' l') = (t == t')) := by
    intro h; rw [HSV.out, ← HKK.out]; subst h; simp
  have HS6 : Hid (k = 6 → sameV (.mk k n b t ks l) (.mk k' n' b' t' ks' l') = sameL l l') := by
    intro h; rw [HSV.out, ← HKK.out]; subst h; simp
  have HS7 : Hid (k = 7 → sameV (.mk k n b t ks l) (.mk k' n' b' t' ks' l') = (ks == ks' && sameL l l')) := by
    intro h; rw [HSV.out, ← HKK.out]; subst h; simp
  have HS0 : Hid (k ≠ 3 → k ≠ 4 → k ≠ 5 → k ≠ 6 → k ≠ 7 → sameV (.mk k n b t ks l) (.mk k' n' b' t' ks' l') = true) := by
    intro h3 h4 h5 h6 h7
    rw [HSV.out, ← HKK.out]; simp [h3, h4, h5, h6, h7]
  clear HSV HKK
  by_cases h3 : k = 3
  · have HF : Hid (sameV (.mk k n b t ks l) (.mk k' n' b' t' ks' l') = (n == n')) := HS3.out h3
    have t3 : (k == 3) = true := by simpa using h3
    clear h3
    go_wp2
    go_ret
    exact ⟨by rw [HF.out]; rfl, hb0⟩
  have t3 : (k == 3) = false := beq_eq_false_iff_ne.2 h3
  by_cases h4 : k = 4
  · have HF : Hid (sameV (.mk k n b t ks l) (.mk k' n' b' t' ks' l') = (b == b')) := HS4.out h4
    have t4 : (k == 4) = true := by simpa using h4
    have hrb := hb.below (hbw.trans (hb0.mono hsz))
    have hrb' := hb'.below (hbw.trans (hb0.mono hsz))
    have he := equal5_any (c := cb) (d := cb') rfl rfl hrb hrb'
    clear h3 h4
    go_wp2_with fail
    refine he.mono ?_
    rintro e w1 ⟨rfl, rfl⟩
    go_wp2
    go_ret
    exact ⟨by rw [HF.out]; rfl, hb0⟩
  have t4 : (k == 4) = false := beq_eq_false_iff_ne.2 h4
  by_cases h5 : k = 5
  · have HF : Hid (sameV (.mk k n b t ks l) (.mk k' n' b' t' ks' l') = (t == t')) := HS5.out h5
    have t5 : (k == 5) = true := by simpa using h5
    have ht := Lib.hid (str_beq t t')
    clear h3 h4 h5
    go_wp2
    go_ret
    exact ⟨by rw [HF.out, ← ht.out]; rfl, hb0⟩
  have t5 : (k == 5) = false := beq_eq_false_iff_ne.2 h5
  by_cases hmany : k = 6 ∨ k = 7
  case neg =>
    have HF : Hid (sameV (.mk k n b t ks l) (.mk k' n' b' t' ks' l') = true) := HS0.out h3 h4 h5 (fun h => hmany (.inl h)) (fun h => hmany (.inr h))
    have t6 : (k == 6) = false := beq_eq_false_iff_ne.2 (fun h => hmany (.inl h))
    have t7 : (k == 7) = false := beq_eq_false_iff_ne.2 (fun h => hmany (.inr h))
    clear h3 h4 h5 hmany
    go_wp2
    go_ret
    exact ⟨by rw [HF.out]; rfl, hb0⟩
  case pos =>
    clear h3 h4 h5 HS3 HS4 HS5 HS0
    go_upto_block 5 with (fail)
    go_cut [] (fun wx => (k = 7 → ks = ks') ∧ Blk wx w.heap.size 63 box ∧ Blk wx (w.heap.size + 1) 63 box' ∧ Below w.heap.size w wx)
    case first =>
      rcases hmany with h6 | h7
      · have t6 : (k == 6) = true := by simpa using h6
        have t7 : (k == 7) = false := by subst h6; rfl
        have h67 : ¬ k = 7 := by omega
        clear h6
        go_wp2
        go_meet
        exact ⟨fun h => absurd h h67, A0, R0, hb0⟩
      · have t7 : (k == 7) = true := by simpa using h7
        have HNO : Hid (ks ≠ ks' → sameV (.mk k n b t ks l) (.mk k' n' b' t' ks' l') = false) := by
          intro h; rw [HS7.out h7, beq_eq_false_iff_ne.2 h]; rfl
        have c0 : W.cell? ⟨w.heap.size, 0, none⟩ = some (.int .i64 k) := A0.cell (by rw [HB.out]; rfl)
        have a4 : W.cell? ⟨w.heap.size, 4, none⟩ = some (.slice ak ks.length ck) := A0.cell (by rw [HB.out]; rfl)
        have r4 : W.cell? ⟨w.heap.size + 1, 4, none⟩ = some (.slice ak' ks'.length ck') := R0.cell (by rw [HB'.out]; rfl)
        clear h7 a0 r0 a1 a2 a3 r1 r2 r3
        by_cases hkl : ks.length = ks'.length
        · have t1 : ((ks.length : Int) != (ks'.length : Int)) = false := by rw [hkl]; simp
          have HKL := Lib.hid hkl
          clear hkl
          go_wp2
          go_loopw [49] (fun i wr => ∃ j : Nat, j ≤ ks.length ∧ i = .int .i64 j ∧ ks.take j = ks'.take j ∧ Blk wr w.heap.size 63 box ∧ Blk wr (w.heap.size + 1) 63 box' ∧ Below w.heap.size w wr) (fun i _ => ks.length - (intOf i).toNat)
          case atStart => exact ⟨0, Nat.zero_le _, rfl, rfl, A0, R0, hb0⟩
          case round =>
            clear A0 R0 hb0 a4 r4 c0
            obtain ⟨j, hj, rfl, htk, A0, R0, hb0⟩ := hrel
            have a4 : wr.cell? ⟨w.heap.size, 4, none⟩ = some (.slice ak ks.length ck) := A0.cell (by rw [HB.out]; rfl)
            have r4 : wr.cell? ⟨w.heap.size + 1, 4, none⟩ = some (.slice ak' ks'.length ck') := R0.cell (by rw [HB'.out]; rfl)
            have HTK := Lib.hid htk
            clear htk
            by_cases hlt : j < ks.length
            · have hlt' : j < ks'.length := by have := HKL.out; omega
              have hbr := hbw.trans (hb0.mono hsz)
              have p1 : wr.cell? ((hd ak).add j) = some (strV ks[j]) := (hks.below hbr).cell (by simp [hlt])
              have p2 : wr.cell? ((hd ak').add j) = some (strV ks'[j]) := (hks'.below hbr).cell (by simp [hlt'])
              have s1 : ak.isSome = true := (hks.below hbr).isSome (i := j) (by simpa using hlt)
              have s2 : ak'.isSome = true := (hks'.below hbr).isSome (i := j) (by simpa using hlt')
              unfold strV at p1 p2
              have j0 : (0 : Int) ≤ (j : Int) := by omega
              have j1 : (j : Int) < (ks.length : Int) := by omega
              have j2 : (j : Int) < (ks'.length : Int) := by omega
              have jb : IntKind.i64.wrap ((j : Int) + 1) = (j : Int) + 1 := IntWalk.i64_in _ (by unfold maxLen at hkc; omega)
              by_cases hx : ks[j] = ks'[j]
              · have HT2 : Hid (ks.take (j + 1) = ks'.take (j + 1)) := by
                  show _ = _
                  rw [List.take_succ_eq_append_getElem hlt, List.take_succ_eq_append_getElem hlt', HTK.out, hx]
                have t9 : ((str ks[j]).toList == (str ks'[j]).toList) = true := by rw [str_beq]; simpa using hx
                clear hx hbr
                generalize ks[j] = x at *
                generalize ks'[j] = y at *
                go_wp2
                go_quiet (fail)
                go_wp2
                first
                  | exact ⟨⟨j + 1, by omega, (by first | rfl | go_num | (congr 1; omega)), HT2.out, A0.drewN _, R0.drewN _, Below.drewN hb0 _⟩, by simp [intOf] <;> omega⟩
                  | (refine ⟨?_, by simp [intOf] <;> omega⟩; (repeat apply Exists.intro); exact ⟨⟨j + 1, by omega, (by first | rfl | go_num | (congr 1; omega)), HT2.out, A0.drewN _, R0.drewN _, Below.drewN hb0 _⟩, rfl⟩)
              · have HF : Hid (sameV (.mk k n b t ks l) (.mk k' n' b' t' ks' l') = false) := HNO.out (keys_stop hlt hlt' hx)
                have t9 : ((str ks[j]).toList == (str ks'[j]).toList) = false := by rw [str_beq]; simpa using hx
                clear hx hbr
                generalize ks[j] = x at *
                generalize ks'[j] = y at *
                go_wp2
                go_quiet (fail)
                go_wp2
                go_ret
                exact ⟨by rw [HF.out]; rfl, Below.drewN hb0 _⟩
            · obtain rfl : j = ks.length := by omega
              have HE : Hid (ks = ks') := by
                have := HTK.out
                rw [List.take_length, HKL.out, List.take_length] at this
                exact this
              clear HTK
              go_wp2
              go_meet
              exact ⟨fun _ => HE.out, A0, R0, hb0⟩
        · have t1 : ((ks.length : Int) != (ks'.length : Int)) = true := by simpa using fun h => hkl (by exact_mod_cast h)
          have HF : Hid (sameV (.mk k n b t ks l) (.mk k' n' b' t' ks' l') = false) := HNO.out (fun h => hkl (by rw [h]))
          clear hkl
          go_wp2
          go_ret
          exact ⟨by rw [HF.out]; rfl, hb0⟩
    case rest =>
      clear A0 R0 hb0 a0 a1 a2 a3 r0 r1 r2 r3
      obtain ⟨h7, A0, R0, hb0⟩ := hcut
      have HM : Hid (sameV (.mk k n b t ks l) (.mk k' n' b' t' ks' l') = sameL l l') := by
        show _ = _
        rcases hmany with h | h
        · exact HS6.out h
        · rw [HS7.out h, h7 h]; simp
      have a5 : wc.cell? ⟨w.heap.size, 5, none⟩ = some (.slice al l.length cl) := A0.cell (by rw [HB.out]; rfl)
      have r5 : wc.cell? ⟨w.heap.size + 1, 5, none⟩ = some (.slice al' l'.length cl') := R0.cell (by rw [HB'.out]; rfl)
      have c0 : True := trivial
      clear hmany HS6 HS7 h7
      by_cases hll : l.length = l'.length
      · have t1 : ((l.length : Int) != (l'.length : Int)) = false := by rw [hll]; simp
        have HLL := Lib.hid hll
        clear hll
        go_wp2
        go_loopw [74] (fun i wr => ∃ j : Nat, j ≤ l.length ∧ i = .int .i64 j ∧ sameL (l.take j) (l'.take j) = true ∧ Blk wr w.heap.size 63 box ∧ Blk wr (w.heap.size + 1) 63 box' ∧ Below w.heap.size w wr) (fun i _ => l.length - (intOf i).toNat)
        case atStart => exact ⟨0, Nat.zero_le _, rfl, by rw [List.take_zero, List.take_zero]; rfl, A0, R0, hb0⟩
        case round =>
          clear A0 R0 hb0 a5 r5 c0
          obtain ⟨j, hj, rfl, htk, A0, R0, hb0⟩ := hrel
          have a5 : wr.cell? ⟨w.heap.size, 5, none⟩ = some (.slice al l.length cl) := A0.cell (by rw [HB.out]; rfl)
          have r5 : wr.cell? ⟨w.heap.size + 1, 5, none⟩ = some (.slice al' l'.length cl') := R0.cell (by rw [HB'.out]; rfl)
          have HTK := Lib.hid htk
          clear htk
          by_cases hlt : j < l.length
          · have hlt' : j < l'.length := by have := HLL.out; omega
            have hcj : css[j]? = some (css[j]'(by omega)) := by simp
            have hvj : l[j]? = some l[j] := by simp [hlt]
            have hcj' : css'[j]? = some (css'[j]'(by omega)) := by simp
            have hvj' : l'[j]? = some l'[j] := by simp [hlt']
            have hbr : Below w0.heap.size w0 wr.drew := (hbw.trans (hb0.mono hsz)).trans ((Gr.drewN wr 1).mono (hbw.trans (hb0.mono hsz)).size)
            have IH := ih j _ _ hcj hvj _ _ wr.drew (sub' j _ _ hcj' hvj') hbr
            have s1 := (hl.below hbr).elemSome (s := 6) h6 (by decide) (i := j) (by omega)
            have s2 := (hl'.below hbr).elemSome (s := 6) h6' (by decide) (i := j) (by omega)
            have q1 := ldOp_at (P := Try.prog) (ty := 63) ((hl.below hbr).elem (s := 6) h6 hcj) Try.underlying63 rfl (by rw [h6 _ (List.getElem_mem _)]; exact sizeV)
            have q2 := ldOp_at (P := Try.prog) (ty := 63) ((hl'.below hbr).elem (s := 6) h6' hcj') Try.underlying63 rfl (by rw [h6' _ (List.getElem_mem _)]; exact sizeV)
            have HT := Lib.hid (sameL_take j hlt hlt')
            have HN := Lib.hid (fun h => sameL_stop hlt hlt' h)
            have j0 : (0 : Int) ≤ (j : Int) := by omega
            have j1 : (j : Int) < (l.length : Int) := by omega
            have j2 : (j : Int) < (l'.length : Int) := by omega
            have jb : IntKind.i64.wrap ((j : Int) + 1) = (j : Int) + 1 := IntWalk.i64_in _ (by unfold maxLen at hlc; omega)
            generalize css[j]'(by omega) = c at *
            generalize css'[j]'(by omega) = c' at *
            generalize l[j] = x at *
            generalize l'[j] = y at *
            clear hcj hvj hcj' hvj' hbr
            go_wp2
            refine wp_region_still_tail 10 (by kernel_rfl) (by kernel_rfl) ?_
            simp only [List.take_succ_cons, List.take_zero, List.drop_succ_cons, List.drop_zero]
            change wpStill _ _ wr.drew _ _ _
            repeat still_step
            try refine wpStill_nil ?_
            change wpList _ _ _ _ _ wr.drew
            go_wp2_with fail
            refine IH.mono ?_
            rintro e w5 ⟨rfl, hb5⟩
            have hbw5 : Below w.heap.size w w5 := hb0.trans ((Below.drewN' (n := 1) hb5).mono hb0.size)
            have A5 := A0.below (Below.drewN' (n := 1) hb5)
            have R5 := R0.below (Below.drewN' (n := 1) hb5)
            rcases Bool.eq_false_or_eq_true (sameV x y) with h | h
            · have HT2 : Hid (sameL (l.take (j + 1)) (l'.take (j + 1)) = true) := by show _ = _; rw [HT.out, HTK.out, h]; rfl
              rw [h]
              go_wp2
              first
                | exact ⟨⟨j + 1, by omega, (by first | rfl | go_num | (congr 1; omega)), HT2.out, A5, R5, hbw5⟩, by simp [intOf] <;> omega⟩
                | (refine ⟨?_, by simp [intOf] <;> omega⟩; (repeat apply Exists.intro); exact ⟨⟨j + 1, by omega, (by first | rfl | go_num | (congr 1; omega)), HT2.out, A5, R5, hbw5⟩, rfl⟩)
            · have HF : Hid (sameV (.mk k n b t ks l) (.mk k' n' b' t' ks' l') = false) := by show _ = _; rw [HM.out]; exact HN.out h
              rw [h]
              go_wp2
              go_ret
              exact ⟨by rw [HF.out]; rfl, hbw5⟩
          · obtain rfl : j = l.length := by omega
            have HF : Hid (sameV (.mk k n b t ks l) (.mk k' n' b' t' ks' l') = true) := by
              show _ = _
              have := HTK.out
              rw [List.take_length, HLL.out, List.take_length] at this
              rw [HM.out]; exact this
            clear HTK
            go_wp2
            go_ret
            exact ⟨by rw [HF.out]; rfl, hb0⟩
      · have t1 : ((l.length : Int) != (l'.length : Int)) = true := by simpa using fun h => hll (by exact_mod_cast h)
        have HF : Hid (sameV (.mk k n b t ks l) (.mk k' n' b' t' ks' l') = false) := by show _ = _; rw [HM.out, sameL_diff hll]
        clear hll
        go_wp2
        go_ret
        exact ⟨by rw [HF.out]; rfl, hb0⟩
end Go.Proofs.Ytakliplkabgmbaa
