/- Joined: what one statement of this layer stands on, part 11 of 25; nothing is assumed. -/
import Derived.Test.YtakliplkabgmbaaKR1
import Derived.Test.YtakliplkabgmbaaKR5
set_option maxRecDepth 20000
namespace Go.Proofs.Ytakliplkabgmbaa
open Go.RowKit Go.Hd
def abtV (x : Abt) : PV := pList [pTxt x.name, pByt x.id, pNum x.time]
def listV (l : List Abt) : PV := .mk 7 0 [] [] [[97], [118]] [pList (l.map abtV), pNum 1]
attribute [local go_sem ↓] h_ldV h_stV h_alV h_ldID h_stID h_alID h_ldAB h_stAB h_alAB
attribute [local go_sem] r_ldV r_stV r_alV r_ldID r_stID r_alID r_ldAB r_stAB r_alAB
set_option maxHeartbeats 2000000 in
theorem listValue_any {a : Option Addr} {n c : Nat} {l : List Abt} {w : World} (hn : n = l.length) (hr : Row w a (l.map abtC).flatten) (hok : ∀ x ∈ l, AbtOk x) (hl : l.length ≤ 1000) :
    Calls Try.prog 30 #[.slice a n c] w fun e w' => ∃ cs, e = .returned (.agg (List.toArray cs)) ∧ VAtP (fun b => w.heap.size ≤ b) w' cs (listV l) ∧ Below w.heap.size w w' := by
  subst hn
  have zs := zV_size
  have za := zAB_size
  have hO6 := oneC6
  have hls := fun w' => plist_any none 0 0 w'
  have hb0 : Below w.heap.size w (w.alloc (.cells zV 63)) := (Below.refl _ _).alloc (Nat.le_refl _) _
  have R0 : Blk (w.alloc (.cells zV 63)) w.heap.size 63 zV.toList := Blk.new _ _ _
  go_enter Try.func30, Try.ntmps30
  go_upto_region 1 with (fail)
  generalize w.alloc (.cells zV 63) = W0 at *
  have t1 : (List.toArray (lstC (.slice none 0 0))).size = 6 := by rfl
  have t2 : OneC (List.toArray (lstC (.slice none 0 0))) := by unfold OneC lstC; simp [Value.oneCell', strV]
  go_wp2_with fail
  refine (hls _).mono ?_
  rintro e w1 ⟨rfl, hb1⟩
  go_upto_region 2 with (fail)
  have hall : Hid (∀ W, W = w1.alloc (.cells (List.toArray (lstC (.slice none 0 0))) 63) → VB (w.heap.size + 1) w1.heap.size W (.mk 6 0 [] [] [] ((l.take 0).map abtV)) (.slice none 0 0) (.slice none 0 0) (.slice none 0 0) ∧ Below w.heap.size w W ∧ Blk W w.heap.size 63 zV.toList) := by
    rintro W rfl
    have hsz : w.heap.size ≤ w1.heap.size := Nat.le_trans hb0.size hb1.size
    have hsz1 : w.heap.size + 1 ≤ w1.heap.size := Nat.le_trans R0.lt hb1.size
    refine ⟨?_, (Gr.trans hb0 hb1).alloc hsz _, (R0.below hb1).alloc _⟩
    exact VB.new (b := []) (t := []) (ab := none) (Blk.new w1 63 _) hsz1 (by simp; omega) (by unfold in64; omega) (by unfold in64; omega) (Nat.zero_le _) ⟨Nat.le_refl _, Nat.zero_le _⟩ (Row.nil _ _) (by simp)
  generalize hW : w1.alloc (.cells (List.toArray (lstC (.slice none 0 0))) 63) = W at *
  obtain ⟨g1, g2, g3⟩ := hall.out W rfl
  have G1 := Lib.hid g1
  have G2 := Lib.hid g2
  have G3 := Lib.hid g3
  have HL := Lib.hid hl
  have HOK := Lib.hid hok
  generalize hq : w1.heap.size = q at *
  clear hall hW g1 g2 g3 hl hok hq
  go_wp2
  go_loopw [9] (fun i wr => ∃ j : Nat, j ≤ l.length ∧ i = .int .i64 j ∧ Hid (∃ u, VB (w.heap.size + 1) q wr (.mk 6 0 [] [] [] ((l.take j).map abtV)) (.slice none 0 0) (.slice none 0 0) u) ∧ Hid (Below w.heap.size w wr) ∧ Hid (Blk wr w.heap.size 63 zV.toList)) (fun i _ => l.length - (intOf i).toNat)
  case atStart => exact ⟨0, Nat.zero_le _, rfl, Lib.hid ⟨_, G1.out⟩, G2, G3⟩
  case round =>
    obtain ⟨j, hj, rfl, hV, hb, hR⟩ := hrel
    have j0 : (0 : Int) ≤ (j : Int) := by omega
    have jb : IntKind.i64.wrap ((j : Int) + 1) = (j : Int) + 1 := IntWalk.i64_in _ (by have := HL.out; omega)
    clear G1 G2 G3
    by_cases hlt : j < l.length
    · have j1 : (j : Int) < (l.length : Int) := by omega
      have hok37 : ∀ x ∈ l.map abtC, x.length = 37 := fun x hx => by
        obtain ⟨y, hy, rfl⟩ := List.mem_map.1 hx
        exact abtC_len (HOK.out y hy)
      have hr2 := hr.below hb.out
      have s1 := hr2.elemSome (s := 37) hok37 (by decide) (i := j) (by simpa using hlt)
      have hxo := HOK.out _ (List.getElem_mem hlt)
      have q1 := ldOp_at (P := Try.prog) (ty := 31) (hr2.elem (s := 37) hok37 (i := j) (c := abtC l[j]) (by simp [hlt])) Try.underlying31 rfl (by rw [abtC_len hxo]; exact sizeAB)
      have hT : Hid ((l.take (j + 1)).map abtV = (l.take j).map abtV ++ [abtV l[j]]) := by
        show _ = _
        rw [List.take_succ_eq_append_getElem hlt, List.map_append]; rfl
      generalize l[j] = x at *
      have x1 : (List.toArray (abtC x)).size = 37 := by simpa using abtC_len hxo
      have x2 : OneC (List.toArray (abtC x)) := all_oneCell_toArray (abtC_one x)
      clear hr2
      obtain ⟨u, hvb⟩ := hV.out
      obtain ⟨vs, hvs⟩ : ∃ vs, vs = (l.take j).map abtV := ⟨_, rfl⟩
      rw [← hvs] at hvb hT
      go_upto_region 5 with (fail)
      have hxB : Blk (wr.alloc (.cells (List.toArray (abtC x)) 31)) wr.heap.size 31 (abtC x) := Blk.new wr 31 _
      have hb0x : Below wr.heap.size wr (wr.alloc (.cells (List.toArray (abtC x)) 31)) := (Below.refl _ _).alloc (Nat.le_refl _) _
      have hqW : q < wr.heap.size := hvb.blk.lt
      have hvbW : VB (w.heap.size + 1) q (wr.alloc (.cells (List.toArray (abtC x)) 31)) (.mk 6 0 [] [] [] vs) (.slice none 0 0) (.slice none 0 0) u := hvb.keep hb0x.size (fun b _ hlt => hb0x.block b hlt)
      have hbW := hb.out.trans (hb0x.mono hb.out.size)
      have hRW := hR.out.below hb0x
      generalize hqx : wr.heap.size = qx at *
      generalize wr.alloc (.cells (List.toArray (abtC x)) 31) = W at *
      have hSm : ∀ (L : Array Bool) (w1 w2 : World), ((L.getD 14 false = false → Blk w1 q 63 (lstC u)) ∧ Blk w1 qx 31 (abtC x)) → Mo w1 w2 → ((L.getD 14 false = false → Blk w2 q 63 (lstC u)) ∧ Blk w2 qx 31 (abtC x)) :=
        fun L w1 w2 h hm => ⟨fun hL => (h.1 hL).below hm, h.2.below hm⟩
      have hSi : ∀ i, i ≠ 14 → ∀ (L : Array Bool) (w1 : World), ((((L.setIfInBounds i true).getD 14 false = false → Blk w1 q 63 (lstC u)) ∧ Blk w1 qx 31 (abtC x)) ↔ ((L.getD 14 false = false → Blk w1 q 63 (lstC u)) ∧ Blk w1 qx 31 (abtC x))) := fun i hi L w1 => by
        rw [getD_set_ne false hi]
      have hS0 : ∀ n, Blk (W.drewN n) q 63 (lstC u) ∧ Blk (W.drewN n) qx 31 (abtC x) := fun n => ⟨hvbW.blk, hxB⟩
      have hST : ∀ L : Array Bool, L.getD 14 false = false → (L.getD 14 false = false → Blk (W.drewN 1) q 63 (lstC u)) ∧ Blk (W.drewN 1) qx 31 (abtC x) := fun _ _ => ⟨fun _ => (hS0 1).1, (hS0 1).2⟩
      have hxt : ∀ w', Blk w' qx 31 (abtC x) → w'.cell? ⟨qx, 0, none⟩ = some (.string (str x.name)) ∧ (ldOp 29 (.pointer (some ⟨qx, 1, none⟩))).run Try.prog w' = .ok (.agg (List.toArray (x.id.map b8))) w' ∧ w'.cell? ⟨qx, 33, none⟩ = some (.int .i64 x.time) := fun w' h => by
        refine ⟨h.cell (abtC_0 x), ?_, h.cell (abtC_33 hxo)⟩
        have := ldOp_blk (P := Try.prog) (ty := 29) (o := 1) (n := 32) h (by rw [abtC_len hxo]; omega) Try.underlying29 rfl sizeID
        rwa [abtC_id hxo] at this
      have hSw : ∀ (L : Array Bool) (w' : World), Mo (W.drewN 1) w' → (L.getD 14 false = false → Blk w' q 63 (lstC u)) ∧ Blk w' qx 31 (abtC x) := fun L w' hm => ⟨fun _ => (hS0 1).1.below hm, (hS0 1).2.below hm⟩
      refine wp_region_upN (S := fun L w1 => (L.getD 14 false = false → Blk w1 q 63 (lstC u)) ∧ Blk w1 qx 31 (abtC x)) 17 rfl (by kernel_rfl) ?_
      refine wpAnyU_take (i := 0) (A := fun _ => True) (v := .pointer (some ⟨q, 5, none⟩)) (a' := ⟨#[.slice a l.length c, undef, .pointer (some ⟨w.heap.size, 0, none⟩), .pointer (some ⟨q, 0, none⟩), undef, .pointer (some ⟨qx, 0, none⟩), .agg (List.toArray (lstC (.slice none 0 0))), .slice a l.length c, .int .i64 (l.length : Int), .int .i64 (j : Int), .bool true, .pointer (some ((hd a).add (j * 37))), .agg (List.toArray (abtC x)), .pointer (some ⟨q, 5, none⟩), u14, u15, u16, u17, u18, u19, u20, u21, u22, u23, u24, u25, u26, u27, u28, u29, undef, undef, undef, undef, undef], []⟩) hSm (hSi 0 (by decide)) (fun _ _ _ => trivial) rfl (by kernel_rfl) (by kernel_rfl) (by kernel_rfl) (fun _ _ _ h => h) (hST _ (by kernel_rfl)) (Tame.val rfl (fun w' hA => by go_simp)) rfl ?_
      refine wpAnyU_takeK (i := 1) 14 (A := fun w1 => Blk w1 q 63 (lstC u)) (v := u) (a' := ⟨#[.slice a l.length c, undef, .pointer (some ⟨w.heap.size, 0, none⟩), .pointer (some ⟨q, 0, none⟩), undef, .pointer (some ⟨qx, 0, none⟩), .agg (List.toArray (lstC (.slice none 0 0))), .slice a l.length c, .int .i64 (l.length : Int), .int .i64 (j : Int), .bool true, .pointer (some ((hd a).add (j * 37))), .agg (List.toArray (abtC x)), .pointer (some ⟨q, 5, none⟩), u, u15, u16, u17, u18, u19, u20, u21, u22, u23, u24, u25, u26, u27, u28, u29, undef, undef, undef, undef, undef], []⟩) hSm (hSi 1 (by decide)) (fun _ _ h h2 => h.1 h2) rfl rfl (by kernel_rfl) (by kernel_rfl) (by kernel_rfl) (by kernel_rfl) (by kernel_rfl) (fun _ _ _ h => h) (hST _ (by kernel_rfl)) (Tame.val rfl (fun w' hA => by have := hA.cell (i := 5) (u := u) rfl; go_simp)) rfl ?_
      refine wpAnyU_take (i := 2) (A := fun _ => True) (v := .pointer (some ⟨qx, 0, none⟩)) (a' := ⟨#[.slice a l.length c, undef, .pointer (some ⟨w.heap.size, 0, none⟩), .pointer (some ⟨q, 0, none⟩), undef, .pointer (some ⟨qx, 0, none⟩), .agg (List.toArray (lstC (.slice none 0 0))), .slice a l.length c, .int .i64 (l.length : Int), .int .i64 (j : Int), .bool true, .pointer (some ((hd a).add (j * 37))), .agg (List.toArray (abtC x)), .pointer (some ⟨q, 5, none⟩), u, .pointer (some ⟨qx, 0, none⟩), u16, u17, u18, u19, u20, u21, u22, u23, u24, u25, u26, u27, u28, u29, undef, undef, undef, undef, undef], []⟩) hSm (hSi 2 (by decide)) (fun _ _ _ => trivial) rfl (by kernel_rfl) (by kernel_rfl) (by kernel_rfl) (fun _ _ _ h => h) (hST _ (by kernel_rfl)) (Tame.val rfl (fun w' hA => by go_simp)) rfl ?_
      refine wpAnyU_take (i := 3) (A := fun w1 => Blk w1 qx 31 (abtC x)) (v := .string (str x.name)) (a' := ⟨#[.slice a l.length c, undef, .pointer (some ⟨w.heap.size, 0, none⟩), .pointer (some ⟨q, 0, none⟩), undef, .pointer (some ⟨qx, 0, none⟩), .agg (List.toArray (lstC (.slice none 0 0))), .slice a l.length c, .int .i64 (l.length : Int), .int .i64 (j : Int), .bool true, .pointer (some ((hd a).add (j * 37))), .agg (List.toArray (abtC x)), .pointer (some ⟨q, 5, none⟩), u, .pointer (some ⟨qx, 0, none⟩), .string (str x.name), u17, u18, u19, u20, u21, u22, u23, u24, u25, u26, u27, u28, u29, undef, undef, undef, undef, undef], []⟩) hSm (hSi 3 (by decide)) (fun _ _ h => h.2) rfl (by kernel_rfl) (by kernel_rfl) (by kernel_rfl) (fun _ _ _ h => h) (hST _ (by kernel_rfl)) (Tame.val rfl (fun w' hA => by have h1 := (hxt _ hA).1; go_simp)) rfl ?_
      refine wpAnyU_take (i := 4) (A := fun _ => True) (v := .agg (List.toArray (txtS x.name))) (a' := ⟨#[.slice a l.length c, undef, .pointer (some ⟨w.heap.size, 0, none⟩), .pointer (some ⟨q, 0, none⟩), undef, .pointer (some ⟨qx, 0, none⟩), .agg (List.toArray (lstC (.slice none 0 0))), .slice a l.length c, .int .i64 (l.length : Int), .int .i64 (j : Int), .bool true, .pointer (some ((hd a).add (j * 37))), .agg (List.toArray (abtC x)), .pointer (some ⟨q, 5, none⟩), u, .pointer (some ⟨qx, 0, none⟩), .string (str x.name), .agg (List.toArray (txtS x.name)), u18, u19, u20, u21, u22, u23, u24, u25, u26, u27, u28, u29, undef, undef, undef, undef, undef], []⟩) hSm (hSi 4 (by decide)) (fun _ _ _ => trivial) rfl (by kernel_rfl) (by kernel_rfl) (by kernel_rfl) (fun _ _ _ h => h) (hST _ (by kernel_rfl)) (Tame.enter rfl (fun w' => by go_simp) (fun w' _ => ptext_any x.name w')) rfl ?_
      refine wpAnyU_take (i := 5) (A := fun _ => True) (v := .pointer (some ⟨qx, 1, none⟩)) (a' := ⟨#[.slice a l.length c, undef, .pointer (some ⟨w.heap.size, 0, none⟩), .pointer (some ⟨q, 0, none⟩), undef, .pointer (some ⟨qx, 0, none⟩), .agg (List.toArray (lstC (.slice none 0 0))), .slice a l.length c, .int .i64 (l.length : Int), .int .i64 (j : Int), .bool true, .pointer (some ((hd a).add (j * 37))), .agg (List.toArray (abtC x)), .pointer (some ⟨q, 5, none⟩), u, .pointer (some ⟨qx, 0, none⟩), .string (str x.name), .agg (List.toArray (txtS x.name)), .pointer (some ⟨qx, 1, none⟩), u19, u20, u21, u22, u23, u24, u25, u26, u27, u28, u29, undef, undef, undef, undef, undef], []⟩) hSm (hSi 5 (by decide)) (fun _ _ _ => trivial) rfl (by kernel_rfl) (by kernel_rfl) (by kernel_rfl) (fun _ _ _ h => h) (hST _ (by kernel_rfl)) (Tame.val rfl (fun w' hA => by go_simp)) rfl ?_
      refine wpAnyU_take (i := 6) (A := fun w1 => Blk w1 qx 31 (abtC x)) (v := .agg (List.toArray (x.id.map b8))) (a' := ⟨#[.slice a l.length c, undef, .pointer (some ⟨w.heap.size, 0, none⟩), .pointer (some ⟨q, 0, none⟩), undef, .pointer (some ⟨qx, 0, none⟩), .agg (List.toArray (lstC (.slice none 0 0))), .slice a l.length c, .int .i64 (l.length : Int), .int .i64 (j : Int), .bool true, .pointer (some ((hd a).add (j * 37))), .agg (List.toArray (abtC x)), .pointer (some ⟨q, 5, none⟩), u, .pointer (some ⟨qx, 0, none⟩), .string (str x.name), .agg (List.toArray (txtS x.name)), .pointer (some ⟨qx, 1, none⟩), .agg (List.toArray (x.id.map b8)), u20, u21, u22, u23, u24, u25, u26, u27, u28, u29, undef, undef, undef, undef, undef], []⟩) hSm (hSi 6 (by decide)) (fun _ _ h => h.2) rfl (by kernel_rfl) (by kernel_rfl) (by kernel_rfl) (fun _ _ _ h => h) (hST _ (by kernel_rfl)) (Tame.val rfl (fun w' hA => run_ldOp (hxt _ hA).2.1)) rfl ?_
      refine wpAnyU_take (i := 8) (A := fun _ => True) (v := .pointer (some ⟨qx, 33, none⟩)) (a' := ⟨#[.slice a l.length c, undef, .pointer (some ⟨w.heap.size, 0, none⟩), .pointer (some ⟨q, 0, none⟩), undef, .pointer (some ⟨qx, 0, none⟩), .agg (List.toArray (lstC (.slice none 0 0))), .slice a l.length c, .int .i64 (l.length : Int), .int .i64 (j : Int), .bool true, .pointer (some ((hd a).add (j * 37))), .agg (List.toArray (abtC x)), .pointer (some ⟨q, 5, none⟩), u, .pointer (some ⟨qx, 0, none⟩), .string (str x.name), .agg (List.toArray (txtS x.name)), .pointer (some ⟨qx, 1, none⟩), .agg (List.toArray (x.id.map b8)), u20, .pointer (some ⟨qx, 33, none⟩), u22, u23, u24, u25, u26, u27, u28, u29, undef, undef, undef, undef, undef], []⟩) hSm (hSi 8 (by decide)) (fun _ _ _ => trivial) rfl (by kernel_rfl) (by kernel_rfl) (by kernel_rfl) (fun _ _ _ h => h) (hST _ (by kernel_rfl)) (Tame.val rfl (fun w' hA => by go_simp)) rfl ?_
      refine wpAnyU_take (i := 9) (A := fun w1 => Blk w1 qx 31 (abtC x)) (v := .int .i64 x.time) (a' := ⟨#[.slice a l.length c, undef, .pointer (some ⟨w.heap.size, 0, none⟩), .pointer (some ⟨q, 0, none⟩), undef, .pointer (some ⟨qx, 0, none⟩), .agg (List.toArray (lstC (.slice none 0 0))), .slice a l.length c, .int .i64 (l.length : Int), .int .i64 (j : Int), .bool true, .pointer (some ((hd a).add (j * 37))), .agg (List.toArray (abtC x)), .pointer (some ⟨q, 5, none⟩), u, .pointer (some ⟨qx, 0, none⟩), .string (str x.name), .agg (List.toArray (txtS x.name)), .pointer (some ⟨qx, 1, none⟩), .agg (List.toArray (x.id.map b8)), u20, .pointer (some ⟨qx, 33, none⟩), .int .i64 x.time, u23, u24, u25, u26, u27, u28, u29, undef, undef, undef, undef, undef], []⟩) hSm (hSi 9 (by decide)) (fun _ _ h => h.2) rfl (by kernel_rfl) (by kernel_rfl) (by kernel_rfl) (fun _ _ _ h => h) (hST _ (by kernel_rfl)) (Tame.val rfl (fun w' hA => by have h1 := (hxt _ hA).2.2; go_simp)) rfl ?_
      refine wpAnyU_all (rs := [7]) (by kernel_rfl) (by decide) ?_
      intro w2 hm2 i hi
      obtain rfl : i = 7 := by simpa using hi
      refine wpOp_enter (f := 53) (args := #[.agg (List.toArray (x.id.map b8))]) rfl rfl (by go_simp) ((mblob_any x.id w2 hxo.id).mono ?_)
      rintro e w3 ⟨ab, cb, rfl, hrb, hcb1, hcb2, hab, hb3⟩
      refine ⟨_, rfl, ?_⟩
      show _ ∧ wpAnyU _ _ _ _ _ _ _ (⟨#[.slice a l.length c, undef, .pointer (some ⟨w.heap.size, 0, none⟩), .pointer (some ⟨q, 0, none⟩), undef, .pointer (some ⟨qx, 0, none⟩), .agg (List.toArray (lstC (.slice none 0 0))), .slice a l.length c, .int .i64 (l.length : Int), .int .i64 (j : Int), .bool true, .pointer (some ((hd a).add (j * 37))), .agg (List.toArray (abtC x)), .pointer (some ⟨q, 5, none⟩), u, .pointer (some ⟨qx, 0, none⟩), .string (str x.name), .agg (List.toArray (txtS x.name)), .pointer (some ⟨qx, 1, none⟩), .agg (List.toArray (x.id.map b8)), .agg (List.toArray (bytC (.slice ab 32 cb))), .pointer (some ⟨qx, 33, none⟩), .int .i64 x.time, u23, u24, u25, u26, u27, u28, u29, undef, undef, undef, undef, undef], []⟩ : Act) _
      have hm3 : Mo (W.drewN 1) w3 := Mo.trans hm2 hb3
      refine ⟨hSw _ _ hm3, ?_⟩
      refine wpAnyU_take (i := 10) (A := fun _ => True) (v := .agg (List.toArray (numC x.time))) (a' := ⟨#[.slice a l.length c, undef, .pointer (some ⟨w.heap.size, 0, none⟩), .pointer (some ⟨q, 0, none⟩), undef, .pointer (some ⟨qx, 0, none⟩), .agg (List.toArray (lstC (.slice none 0 0))), .slice a l.length c, .int .i64 (l.length : Int), .int .i64 (j : Int), .bool true, .pointer (some ((hd a).add (j * 37))), .agg (List.toArray (abtC x)), .pointer (some ⟨q, 5, none⟩), u, .pointer (some ⟨qx, 0, none⟩), .string (str x.name), .agg (List.toArray (txtS x.name)), .pointer (some ⟨qx, 1, none⟩), .agg (List.toArray (x.id.map b8)), .agg (List.toArray (bytC (.slice ab 32 cb))), .pointer (some ⟨qx, 33, none⟩), .int .i64 x.time, .agg (List.toArray (numC x.time)), u24, u25, u26, u27, u28, u29, undef, undef, undef, undef, undef], []⟩) hSm (hSi 10 (by decide)) (fun _ _ _ => trivial) rfl (by kernel_rfl) (by kernel_rfl) (by kernel_rfl) (fun _ _ _ h => h) (hSw _ _ hm3) (Tame.enter rfl (fun w' => by go_simp) (fun w' _ => of_any x.time w')) rfl ?_
      refine wpAnyU_all (rs := [11]) (by kernel_rfl) (by decide) ?_
      intro w4 hm4 i hi
      obtain rfl : i = 11 := by simpa using hi
      refine wpOp_val (v := .slice (some ⟨w4.heap.size, 0, none⟩) 3 3) (w' := w4.alloc (.cells (List.toArray (List.flatten [txtS x.name, bytC (.slice ab 32 cb), numC x.time])) 63)) (a' := ⟨#[.slice a l.length c, undef, .pointer (some ⟨w.heap.size, 0, none⟩), .pointer (some ⟨q, 0, none⟩), undef, .pointer (some ⟨qx, 0, none⟩), .agg (List.toArray (lstC (.slice none 0 0))), .slice a l.length c, .int .i64 (l.length : Int), .int .i64 (j : Int), .bool true, .pointer (some ((hd a).add (j * 37))), .agg (List.toArray (abtC x)), .pointer (some ⟨q, 5, none⟩), u, .pointer (some ⟨qx, 0, none⟩), .string (str x.name), .agg (List.toArray (txtS x.name)), .pointer (some ⟨qx, 1, none⟩), .agg (List.toArray (x.id.map b8)), .agg (List.toArray (bytC (.slice ab 32 cb))), .pointer (some ⟨qx, 33, none⟩), .int .i64 x.time, .agg (List.toArray (numC x.time)), .slice (some ⟨w4.heap.size, 0, none⟩) 3 3, u25, u26, u27, u28, u29, undef, undef, undef, undef, undef], []⟩) rfl rfl (run_bsOp (vals := #[(0, .agg (List.toArray (txtS x.name))), (1, .agg (List.toArray (bytC (.slice ab 32 cb)))), (2, .agg (List.toArray (numC x.time)))]) (by first | rfl | go_simp | simp [Act.eval]) (bsOp_rows (vs := [txtS x.name, bytC (.slice ab 32 cb), numC x.time]) Try.underlying61 infoV (by decide) rfl (by decide) (by decide) (by exact zV_size) (by simp [txtS, bytC, numC]) rfl)) rfl ?_
      have hm5 : Mo w4 (w4.alloc (.cells (List.toArray (List.flatten [txtS x.name, bytC (.slice ab 32 cb), numC x.time])) 63)) := (Below.refl _ _).alloc (Nat.le_refl _) _
      have hm35 := Mo.trans (Mo.trans hm3 hm4) hm5
      have hB5 : Blk (w4.alloc (.cells (List.toArray (List.flatten [txtS x.name, bytC (.slice ab 32 cb), numC x.time])) 63)) w4.heap.size 63 (List.flatten [txtS x.name, bytC (.slice ab 32 cb), numC x.time]) := Blk.new _ _ _
      have hg4 : W.heap.size ≤ w4.heap.size := (Mo.trans hm3 hm4).size
      have hrb5 := hrb.below (Mo.trans hm4 hm5)
      refine ⟨hSw _ _ hm35, ?_⟩
      generalize hgg : w4.heap.size = g at *
      generalize hw5 : w4.alloc (.cells (List.toArray (List.flatten [txtS x.name, bytC (.slice ab 32 cb), numC x.time])) 63) = w5 at *
      clear hw5 hm4 hm5
      refine wpAnyU_take (i := 12) (A := fun _ => True) (v := .agg (List.toArray (lstC (.slice (some ⟨g, 0, none⟩) 3 3)))) (a' := ⟨#[.slice a l.length c, undef, .pointer (some ⟨w.heap.size, 0, none⟩), .pointer (some ⟨q, 0, none⟩), undef, .pointer (some ⟨qx, 0, none⟩), .agg (List.toArray (lstC (.slice none 0 0))), .slice a l.length c, .int .i64 (l.length : Int), .int .i64 (j : Int), .bool true, .pointer (some ((hd a).add (j * 37))), .agg (List.toArray (abtC x)), .pointer (some ⟨q, 5, none⟩), u, .pointer (some ⟨qx, 0, none⟩), .string (str x.name), .agg (List.toArray (txtS x.name)), .pointer (some ⟨qx, 1, none⟩), .agg (List.toArray (x.id.map b8)), .agg (List.toArray (bytC (.slice ab 32 cb))), .pointer (some ⟨qx, 33, none⟩), .int .i64 x.time, .agg (List.toArray (numC x.time)), .slice (some ⟨g, 0, none⟩) 3 3, .agg (List.toArray (lstC (.slice (some ⟨g, 0, none⟩) 3 3))), u26, u27, u28, u29, undef, undef, undef, undef, undef], []⟩) hSm (hSi 12 (by decide)) (fun _ _ _ => trivial) rfl (by kernel_rfl) (by kernel_rfl) (by kernel_rfl) (fun _ _ _ h => h) (hSw _ _ hm35) (Tame.enter rfl (fun w' => by go_simp) (fun w' _ => plist_any _ _ _ w')) rfl ?_
      refine wpAnyU_all (rs := [13]) (by kernel_rfl) (by decide) ?_
      intro w6 hm6 i hi
      obtain rfl : i = 13 := by simpa using hi
      refine wpOp_val (v := .slice (some ⟨w6.heap.size, 0, none⟩) 1 1) (w' := w6.alloc (.cells (List.toArray (lstC (.slice (some ⟨g, 0, none⟩) 3 3))) 63)) (a' := ⟨#[.slice a l.length c, undef, .pointer (some ⟨w.heap.size, 0, none⟩), .pointer (some ⟨q, 0, none⟩), undef, .pointer (some ⟨qx, 0, none⟩), .agg (List.toArray (lstC (.slice none 0 0))), .slice a l.length c, .int .i64 (l.length : Int), .int .i64 (j : Int), .bool true, .pointer (some ((hd a).add (j * 37))), .agg (List.toArray (abtC x)), .pointer (some ⟨q, 5, none⟩), u, .pointer (some ⟨qx, 0, none⟩), .string (str x.name), .agg (List.toArray (txtS x.name)), .pointer (some ⟨qx, 1, none⟩), .agg (List.toArray (x.id.map b8)), .agg (List.toArray (bytC (.slice ab 32 cb))), .pointer (some ⟨qx, 33, none⟩), .int .i64 x.time, .agg (List.toArray (numC x.time)), .slice (some ⟨g, 0, none⟩) 3 3, .agg (List.toArray (lstC (.slice (some ⟨g, 0, none⟩) 3 3))), .slice (some ⟨w6.heap.size, 0, none⟩) 1 1, u27, u28, u29, undef, undef, undef, undef, undef], []⟩) rfl rfl (run_bsOp (vals := #[(0, .agg (List.toArray (lstC (.slice (some ⟨g, 0, none⟩) 3 3))))]) (by first | rfl | go_simp | simp [Act.eval]) (bsOp_one (cs := List.toArray (lstC (.slice (some ⟨g, 0, none⟩) 3 3))) Try.underlying61 infoV (by decide) (by decide) (by exact zV_size) rfl)) rfl ?_
      have hm7 : Mo w6 (w6.alloc (.cells (List.toArray (lstC (.slice (some ⟨g, 0, none⟩) 3 3))) 63)) := (Below.refl _ _).alloc (Nat.le_refl _) _
      have hB7 : Blk (w6.alloc (.cells (List.toArray (lstC (.slice (some ⟨g, 0, none⟩) 3 3))) 63)) w6.heap.size 63 (lstC (.slice (some ⟨g, 0, none⟩) 3 3)) := Blk.new _ _ _
      have hm37 := Mo.trans (Mo.trans hm35 hm6) hm7
      have hm57 := Mo.trans hm6 hm7
      refine ⟨hSw _ _ hm37, ?_⟩
      generalize hgg2 : w6.heap.size = g2 at *
      generalize hw7 : w6.alloc (.cells (List.toArray (lstC (.slice (some ⟨g, 0, none⟩) 3 3))) 63) = w7 at *
      clear hw7 hm6 hm7
      refine wpAnyU_all (rs := [14]) (by kernel_rfl) (by decide) ?_
      intro w8 hm8 i hi
      obtain rfl : i = 14 := by simpa using hi
      have hm38 := Mo.trans hm37 hm8
      have hvb8 : VB (w.heap.size + 1) q w8 (.mk 6 0 [] [] [] vs) (.slice none 0 0) (.slice none 0 0) u := hvbW.keep hm38.size (fun b _ hlt => hm38.block b hlt)
      have hlt8 := hvb8.kown.2
      have huW : ∀ b, u.ownBlock = some b → b < W.heap.size := fun b hb => (hvbW.kown.2 b hb).2
      have hxV : VAtP (okB (w.heap.size + 1) q (.slice none 0 0) u) w8 (lstC (.slice (some ⟨g, 0, none⟩) 3 3)) (abtV x) := by
        have hB8 := hB5.below (Mo.trans hm57 hm8)
        have hrb8 := hrb5.below (Mo.trans hm57 hm8)
        have hqW2 : q < W.heap.size := hvbW.blk.lt
        have fresh : ∀ b, W.heap.size ≤ b → okB (w.heap.size + 1) q (.slice none 0 0) u b := fun b hbb => ⟨by have := hvbW.le; omega, by omega, by simp [Value.ownBlock], fun e => by have := huW b e; omega⟩
        refine VAtP.lst (css := [txtS x.name, bytC (.slice ab 32 cb), numC x.time]) (l := [pTxt x.name, pByt x.id, pNum x.time]) hB8.row (by simp) (by unfold maxLen; simp) rfl (by simp [txtS, bytC, numC]) (fun _ => fresh g (by omega)) ?_
        intro i c v hc hv
        match i with
        | 0 => simp at hc hv; subst hc hv; exact VAtP.txtS w8 hxo.name
        | 1 =>
          simp at hc hv; subst hc hv
          have := VAtP.bytS (ok := okB (w.heap.size + 1) q (.slice none 0 0) u) (c := cb) hrb8 (by rw [hxo.id]; exact hcb1) hcb2 (fun _ => fresh _ (by have := hm2.size; have e : (W.drewN 1).heap.size = W.heap.size := rfl; omega))
          rwa [hxo.id] at this
        | 2 => simp at hc hv; subst hc hv; exact VAtP.numb w8 hxo.time
        | i + 3 => simp at hc
      have hr8 : Row w8 (some ⟨g2, 0, none⟩) (lstC (.slice (some ⟨g, 0, none⟩) 3 3)) := (hB7.below hm8).row
      have hvl : vs.length ≤ 1000000000 := by
        have h1 := HL.out
        have h2 : vs.length ≤ l.length := by rw [hvs, List.length_map, List.length_take]; omega
        omega
      obtain ⟨a', c', w9, hrun, hVs9, hG9⟩ := VsAt.appR (ty := 61) (c2 := 1) (ok' := fun z => okB (w.heap.size + 1) q (.slice none 0 0) u z ∧ z < w8.heap.size) hvb8.list (fun z hz => hz.2.2.2) hxV (fun z hz hlt => ⟨hz, hlt⟩) hvl hvb8.le hr8
      refine wpOp_val (v := .slice a' (vs.length + 1) c') (w' := w9) (a' := ⟨#[.slice a l.length c, undef, .pointer (some ⟨w.heap.size, 0, none⟩), .pointer (some ⟨q, 0, none⟩), undef, .pointer (some ⟨qx, 0, none⟩), .agg (List.toArray (lstC (.slice none 0 0))), .slice a l.length c, .int .i64 (l.length : Int), .int .i64 (j : Int), .bool true, .pointer (some ((hd a).add (j * 37))), .agg (List.toArray (abtC x)), .pointer (some ⟨q, 5, none⟩), u, .pointer (some ⟨qx, 0, none⟩), .string (str x.name), .agg (List.toArray (txtS x.name)), .pointer (some ⟨qx, 1, none⟩), .agg (List.toArray (x.id.map b8)), .agg (List.toArray (bytC (.slice ab 32 cb))), .pointer (some ⟨qx, 33, none⟩), .int .i64 x.time, .agg (List.toArray (numC x.time)), .slice (some ⟨g, 0, none⟩) 3 3, .agg (List.toArray (lstC (.slice (some ⟨g, 0, none⟩) 3 3))), .slice (some ⟨g2, 0, none⟩) 1 1, .slice a' (vs.length + 1) c', u28, u29, undef, undef, undef, undef, undef], []⟩) rfl rfl (run_append hrun rfl rfl rfl) rfl ?_
      have hB9 : Blk w9 qx 31 (abtC x) := (hG9.blk ((show Blk (W.drewN 1) qx 31 (abtC x) from hxB).below hm38) (fun e => by have := hvb.kown.2 _ e; omega)).1
      have hS9 : ∀ L : Array Bool, L.getD 14 false = true → (L.getD 14 false = false → Blk w9 q 63 (lstC u)) ∧ Blk w9 qx 31 (abtC x) := fun L hL => ⟨fun h => absurd (hL.symm.trans h) (by decide), hB9⟩
      refine ⟨hS9 _ (by kernel_rfl), ?_⟩
      refine wpAnyU_take (i := 15) (A := fun _ => True) (v := .pointer (some ⟨q, 5, none⟩)) (a' := ⟨#[.slice a l.length c, undef, .pointer (some ⟨w.heap.size, 0, none⟩), .pointer (some ⟨q, 0, none⟩), undef, .pointer (some ⟨qx, 0, none⟩), .agg (List.toArray (lstC (.slice none 0 0))), .slice a l.length c, .int .i64 (l.length : Int), .int .i64 (j : Int), .bool true, .pointer (some ((hd a).add (j * 37))), .agg (List.toArray (abtC x)), .pointer (some ⟨q, 5, none⟩), u, .pointer (some ⟨qx, 0, none⟩), .string (str x.name), .agg (List.toArray (txtS x.name)), .pointer (some ⟨qx, 1, none⟩), .agg (List.toArray (x.id.map b8)), .agg (List.toArray (bytC (.slice ab 32 cb))), .pointer (some ⟨qx, 33, none⟩), .int .i64 x.time, .agg (List.toArray (numC x.time)), .slice (some ⟨g, 0, none⟩) 3 3, .agg (List.toArray (lstC (.slice (some ⟨g, 0, none⟩) 3 3))), .slice (some ⟨g2, 0, none⟩) 1 1, .slice a' (vs.length + 1) c', .pointer (some ⟨q, 5, none⟩), u29, undef, undef, undef, undef, undef], []⟩) hSm (hSi 15 (by decide)) (fun _ _ _ => trivial) rfl (by kernel_rfl) (by kernel_rfl) (by kernel_rfl) (fun _ _ _ h => h) (hS9 _ (by kernel_rfl)) (Tame.val rfl (fun w' hA => by go_simp)) rfl ?_
      refine wpAnyU_all (rs := [16]) (by kernel_rfl) (by decide) ?_
      intro w10 hm10 i hi
      obtain rfl : i = 16 := by simpa using hi
      have hq9 := hG9.blk hvb8.blk hvb8.lq
      have hq10 := hq9.1.below hm10
      have d1 : w10.cell? ⟨q, 5, none⟩ = some u := hq10.cell rfl
      have d2 : w10.frozen? ⟨q, 5, none⟩ = false := hq10.free 5
      refine wpOp_skip (w' := w10.setCell ⟨q, 5, none⟩ (.slice a' (vs.length + 1) c')) (a' := ⟨#[.slice a l.length c, undef, .pointer (some ⟨w.heap.size, 0, none⟩), .pointer (some ⟨q, 0, none⟩), undef, .pointer (some ⟨qx, 0, none⟩), .agg (List.toArray (lstC (.slice none 0 0))), .slice a l.length c, .int .i64 (l.length : Int), .int .i64 (j : Int), .bool true, .pointer (some ((hd a).add (j * 37))), .agg (List.toArray (abtC x)), .pointer (some ⟨q, 5, none⟩), u, .pointer (some ⟨qx, 0, none⟩), .string (str x.name), .agg (List.toArray (txtS x.name)), .pointer (some ⟨qx, 1, none⟩), .agg (List.toArray (x.id.map b8)), .agg (List.toArray (bytC (.slice ab 32 cb))), .pointer (some ⟨qx, 33, none⟩), .int .i64 x.time, .agg (List.toArray (numC x.time)), .slice (some ⟨g, 0, none⟩) 3 3, .agg (List.toArray (lstC (.slice (some ⟨g, 0, none⟩) 3 3))), .slice (some ⟨g2, 0, none⟩) 1 1, .slice a' (vs.length + 1) c', .pointer (some ⟨q, 5, none⟩), u29, undef, undef, undef, undef, undef], []⟩) rfl rfl (by go_simp) rfl ?_
      have hVs10 : VsAt (okB (w.heap.size + 1) q (.slice none 0 0) (.slice a' (vs.length + 1) c')) (w.heap.size + 1) w10 (.slice a' (vs.length + 1) c') (vs ++ [abtV x]) :=
        hVs9.same hm10.size (fun b hb => hm10.block b (by obtain ⟨_, _, _, hO, _⟩ := hVs9; exact (World.ownsRow.lt hO b hb).2)) (fun b hb hlt => ⟨hm10.block b hlt, hb.1.1, hb.1.2.1, hb.1.2.2.1, fun e => by
          rcases hG9.own b e with h | h
          · exact hb.1.2.2.2 h
          · omega⟩)
      have hvb11 := hvb8.addL hVs10 (hG9.trans (Gro.ofBelow hm10))
      have hne : q ≠ qx := by omega
      have hB11 : Blk (w10.setCell ⟨q, 5, none⟩ (.slice a' (vs.length + 1) c')) qx 31 (abtC x) := by
        have := hB9.below hm10
        unfold Blk at *
        rw [Below.heap_setCell w10 ⟨q, 5, none⟩ _ qx (Ne.symm hne)]; exact this
      have hS11 : ∀ L : Array Bool, L.getD 14 false = true → (L.getD 14 false = false → Blk (w10.setCell ⟨q, 5, none⟩ (.slice a' (vs.length + 1) c')) q 63 (lstC u)) ∧ Blk (w10.setCell ⟨q, 5, none⟩ (.slice a' (vs.length + 1) c')) qx 31 (abtC x) := fun L hL => ⟨fun h => absurd (hL.symm.trans h) (by decide), hB11⟩
      refine ⟨hS11 _ (by kernel_rfl), ?_⟩
      refine wpAnyU_done (by kernel_rfl) ?_ _
      intro w12 hm12
      have hqb : w.heap.size + 1 ≤ q := hvbW.hq
      have hb8 : Below w.heap.size w w8 := hbW.trans ((Below.drewN' hm38).mono hbW.size)
      have hb9 : Below w.heap.size w w9 := hb8.trans (hG9.below (base := w.heap.size + 1) (fun k hk => (hvb8.kown.2 k hk).1) (by omega) hb8.size)
      have hb10 : Below w.heap.size w w10 := hb9.trans (hm10.mono hb9.size)
      have hb11 : Below w.heap.size w (w10.setCell ⟨q, 5, none⟩ (.slice a' (vs.length + 1) c')) := hb10.trans ⟨rfl, rfl, rfl, by simp, fun k hk => Below.heap_setCell w10 _ _ k (by show k ≠ q; omega)⟩
      have hb12 := Lib.hid (hb11.trans (hm12.mono hb11.size))
      have hR8 : Blk w8 w.heap.size 63 zV.toList := (show Blk (W.drewN 1) w.heap.size 63 zV.toList from hRW).below hm38
      have hR9 := (hG9.blk hR8 (fun e => by have := (hvb8.kown.2 _ e).1; omega)).1
      have hR11 : Blk (w10.setCell ⟨q, 5, none⟩ (.slice a' (vs.length + 1) c')) w.heap.size 63 zV.toList := by
        have := hR9.below hm10
        unfold Blk at *
        rw [Below.heap_setCell w10 ⟨q, 5, none⟩ _ w.heap.size (by show w.heap.size ≠ q; omega)]; exact this
      have hR12 := Lib.hid (hR11.below hm12)
      have hvb12 : Hid (∃ u', VB (w.heap.size + 1) q w12 (.mk 6 0 [] [] [] ((l.take (j + 1)).map abtV)) (.slice none 0 0) (.slice none 0 0) u') := by
        show ∃ _, _
        rw [hT.out]
        exact ⟨_, hvb11.keep hm12.size (fun b _ hlt => hm12.block b hlt)⟩
      clear hm12 hb11 hb10 hb9 hb8 hR11 hR9 hR8 hvb11 hS11 hB11 hVs10 d1 d2 hq10 hq9 hm10 hS9 hB9 hG9 hVs9 hrun hr8 hxV hvb8 hSw hSm hSi hS0 hST hxt
      go_wp2
      first
        | exact ⟨⟨j + 1, by omega, (by first | rfl | go_num | (congr 1; omega)), hvb12, hb12, hR12⟩, by simp [intOf] <;> omega⟩
        | (refine ⟨?_, by simp [intOf] <;> omega⟩; (repeat apply Exists.intro); exact ⟨⟨j + 1, by omega, (by first | rfl | go_num | (congr 1; omega)), hvb12, hb12, hR12⟩, rfl⟩)
    · obtain rfl : j = l.length := by omega
      have j1 : ¬ (l.length : Int) < (l.length : Int) := by omega
      obtain ⟨u, hvb⟩ := hV.out
      rw [List.take_length] at hvb
      have hqb : w.heap.size + 1 ≤ q := hvb.hq
      have hbase := hvb.le
      have hone := of_any 1
      clear hls jb j0
      go_upto_region 7 with (fail)
      have hSm : ∀ (L : Array Bool) (w1 w2 : World), Blk w1 q 63 (lstC u) → Mo w1 w2 → Blk w2 q 63 (lstC u) := fun L w1 w2 h hm => h.below hm
      have hSi : ∀ i, i ≠ 14 → ∀ (L : Array Bool) (w1 : World), Blk w1 q 63 (lstC u) ↔ Blk w1 q 63 (lstC u) := fun _ _ _ _ => Iff.rfl
      have hS0 : Blk (wr.drewN 1) q 63 (lstC u) := hvb.blk
      have hl6 : (lstC u).length = 6 := rfl
      have hvd := hvb.done
      refine wp_region_upN (S := fun _ w1 => Blk w1 q 63 (lstC u)) 6 rfl (by kernel_rfl) ?_
      refine wpAnyU_take (i := 1) (A := fun w1 => Blk w1 q 63 (lstC u)) (v := .agg (List.toArray (lstC u))) (a' := ⟨#[.slice a l.length c, undef, .pointer (some ⟨w.heap.size, 0, none⟩), .pointer (some ⟨q, 0, none⟩), undef, u5, .agg (List.toArray (lstC (.slice none 0 0))), .slice a l.length c, .int .i64 (l.length : Int), .int .i64 (l.length : Int), .bool false, u11, u12, u13, u14, u15, u16, u17, u18, u19, u20, u21, u22, u23, u24, u25, u26, u27, u28, u29, undef, .agg (List.toArray (lstC u)), undef, undef, undef], []⟩) hSm (hSi 1 (by decide)) (fun _ _ h => h) rfl (by kernel_rfl) (by kernel_rfl) (by kernel_rfl) (fun _ _ _ h => h) hS0 (Tame.val rfl (fun w' hA => run_ldOp (ldOp_all hA Try.underlying63 rfl (by rw [hl6]; exact sizeV)))) rfl ?_
      refine wpAnyU_take (i := 2) (A := fun _ => True) (v := .agg (List.toArray (numC 1))) (a' := ⟨#[.slice a l.length c, undef, .pointer (some ⟨w.heap.size, 0, none⟩), .pointer (some ⟨q, 0, none⟩), undef, u5, .agg (List.toArray (lstC (.slice none 0 0))), .slice a l.length c, .int .i64 (l.length : Int), .int .i64 (l.length : Int), .bool false, u11, u12, u13, u14, u15, u16, u17, u18, u19, u20, u21, u22, u23, u24, u25, u26, u27, u28, u29, undef, .agg (List.toArray (lstC u)), .agg (List.toArray (numC 1)), undef, undef], []⟩) hSm (hSi 2 (by decide)) (fun _ _ _ => trivial) rfl (by kernel_rfl) (by kernel_rfl) (by kernel_rfl) (fun _ _ _ h => h) hS0 (Tame.enter rfl (fun w' => by go_simp) (fun w' _ => hone w')) rfl ?_
      refine wpAnyU_all (rs := [0, 3]) (by kernel_rfl) (by decide) ?_
      intro w2 hm2 i hi
      rcases (by simpa using hi : i = 0 ∨ i = 3) with rfl | rfl
      · refine wpOp_val (v := .slice (some ⟨w2.heap.size, 0, none⟩) 2 2) (w' := w2.alloc (.cells #[.string { data := #[97] }, .string { data := #[118] }] 9)) (a' := ⟨#[.slice a l.length c, undef, .pointer (some ⟨w.heap.size, 0, none⟩), .pointer (some ⟨q, 0, none⟩), undef, u5, .agg (List.toArray (lstC (.slice none 0 0))), .slice a l.length c, .int .i64 (l.length : Int), .int .i64 (l.length : Int), .bool false, u11, u12, u13, u14, u15, u16, u17, u18, u19, u20, u21, u22, u23, u24, u25, u26, u27, u28, u29, .slice (some ⟨w2.heap.size, 0, none⟩) 2 2, .agg (List.toArray (lstC u)), .agg (List.toArray (numC 1)), undef, undef], []⟩) rfl rfl (by go_simp) rfl ?_
        have hB3 : Blk (w2.alloc (.cells #[.string { data := #[97] }, .string { data := #[118] }] 9)) w2.heap.size 9 [strV [97], strV [118]] := Blk.new _ _ _
        have hg3 : Mo w2 (w2.alloc (.cells #[.string { data := #[97] }, .string { data := #[118] }] 9)) := (Below.refl _ _).alloc (Nat.le_refl _) _
        have hc3 := Mo.trans hm2 hg3
        have hsgk : w.heap.size + 1 ≤ w2.heap.size := Nat.le_trans hbase (hm2).size
        refine ⟨hS0.below hc3, ?_⟩
        generalize w2.heap.size = gk at *
        generalize w2.alloc (.cells #[.string { data := #[97] }, .string { data := #[118] }] 9) = x3 at *
        refine wpAnyU_all (rs := [3]) (by kernel_rfl) (by decide) ?_
        intro w4 hm4 i hi
        obtain rfl : i = 3 := by simpa using hi
        refine wpOp_val (v := .slice (some ⟨w4.heap.size, 0, none⟩) 2 2) (w' := w4.alloc (.cells (List.toArray (List.flatten [lstC u, numC 1])) 63)) (a' := ⟨#[.slice a l.length c, undef, .pointer (some ⟨w.heap.size, 0, none⟩), .pointer (some ⟨q, 0, none⟩), undef, u5, .agg (List.toArray (lstC (.slice none 0 0))), .slice a l.length c, .int .i64 (l.length : Int), .int .i64 (l.length : Int), .bool false, u11, u12, u13, u14, u15, u16, u17, u18, u19, u20, u21, u22, u23, u24, u25, u26, u27, u28, u29, .slice (some ⟨gk, 0, none⟩) 2 2, .agg (List.toArray (lstC u)), .agg (List.toArray (numC 1)), .slice (some ⟨w4.heap.size, 0, none⟩) 2 2, undef], []⟩) rfl rfl (run_bsOp (vals := #[(0, .agg (List.toArray (lstC u))), (1, .agg (List.toArray (numC 1)))]) (by first | rfl | go_simp | simp [Act.eval]) (bsOp_rows (vs := [lstC u, numC 1]) Try.underlying61 infoV (by decide) rfl (by decide) (by decide) (by exact zV_size) (by simp [lstC, numC]) rfl)) rfl ?_
        have hB5 : Blk (w4.alloc (.cells (List.toArray (List.flatten [lstC u, numC 1])) 63)) w4.heap.size 63 (List.flatten [lstC u, numC 1]) := Blk.new _ _ _
        have hg5 : Mo w4 (w4.alloc (.cells (List.toArray (List.flatten [lstC u, numC 1])) 63)) := (Below.refl _ _).alloc (Nat.le_refl _) _
        have hc5 := Mo.trans (Mo.trans hc3 hm4) hg5
        have hsgv : w.heap.size + 1 ≤ w4.heap.size := Nat.le_trans hbase ((Mo.trans hc3 hm4)).size
        refine ⟨hS0.below hc5, ?_⟩
        generalize w4.heap.size = gv at *
        generalize w4.alloc (.cells (List.toArray (List.flatten [lstC u, numC 1])) 63) = x5 at *
        refine wpAnyU_take (i := 4) (A := fun _ => True) (v := .agg #[.int .i64 7, .int .i64 0, .slice none 0 0, .string { data := #[] }, .slice (some ⟨gk, 0, none⟩) 2 2, .slice (some ⟨gv, 0, none⟩) 2 2]) (a' := ⟨#[.slice a l.length c, undef, .pointer (some ⟨w.heap.size, 0, none⟩), .pointer (some ⟨q, 0, none⟩), undef, u5, .agg (List.toArray (lstC (.slice none 0 0))), .slice a l.length c, .int .i64 (l.length : Int), .int .i64 (l.length : Int), .bool false, u11, u12, u13, u14, u15, u16, u17, u18, u19, u20, u21, u22, u23, u24, u25, u26, u27, u28, u29, .slice (some ⟨gk, 0, none⟩) 2 2, .agg (List.toArray (lstC u)), .agg (List.toArray (numC 1)), .slice (some ⟨gv, 0, none⟩) 2 2, .agg #[.int .i64 7, .int .i64 0, .slice none 0 0, .string { data := #[] }, .slice (some ⟨gk, 0, none⟩) 2 2, .slice (some ⟨gv, 0, none⟩) 2 2]], []⟩) hSm (hSi 4 (by decide)) (fun _ _ _ => trivial) rfl (by kernel_rfl) (by kernel_rfl) (by kernel_rfl) (fun _ _ _ h => h) (hS0.below hc5) (Tame.val rfl (fun w' hA => by go_simp)) rfl ?_
        refine wpAnyU_all (rs := [5]) (by kernel_rfl) (by decide) ?_
        intro wz hmz i hi
        obtain rfl : i = 5 := by simpa using hi
        have hcz := Mo.trans hc5 hmz
        have hRz : Blk wz w.heap.size 63 zV.toList := (show Blk (wr.drewN 1) w.heap.size 63 zV.toList from hR.out).below hcz
        have hz0 := hB3.below (Mo.trans (Mo.trans hm4 hg5) hmz)
        have hz3 := hB5.below hmz
        refine wpOp_skip (w' := wz.setRow w.heap.size #[.int .i64 7, .int .i64 0, .slice none 0 0, .string { data := #[] }, .slice (some ⟨gk, 0, none⟩) 2 2, .slice (some ⟨gv, 0, none⟩) 2 2]) (a' := ⟨#[.slice a l.length c, undef, .pointer (some ⟨w.heap.size, 0, none⟩), .pointer (some ⟨q, 0, none⟩), undef, u5, .agg (List.toArray (lstC (.slice none 0 0))), .slice a l.length c, .int .i64 (l.length : Int), .int .i64 (l.length : Int), .bool false, u11, u12, u13, u14, u15, u16, u17, u18, u19, u20, u21, u22, u23, u24, u25, u26, u27, u28, u29, .slice (some ⟨gk, 0, none⟩) 2 2, .agg (List.toArray (lstC u)), .agg (List.toArray (numC 1)), .slice (some ⟨gv, 0, none⟩) 2 2, .agg #[.int .i64 7, .int .i64 0, .slice none 0 0, .string { data := #[] }, .slice (some ⟨gk, 0, none⟩) 2 2, .slice (some ⟨gv, 0, none⟩) 2 2]], []⟩) rfl rfl (run_stoOp (st_row hRz (by rfl) _ rfl (by unfold OneC; simp [Value.oneCell']))) rfl ?_
        have hgr := setRow_gr wz w.heap.size #[.int .i64 7, .int .i64 0, .slice none 0 0, .string { data := #[] }, .slice (some ⟨gk, 0, none⟩) 2 2, .slice (some ⟨gv, 0, none⟩) 2 2]
        have hBr : Blk (wz.setRow w.heap.size #[.int .i64 7, .int .i64 0, .slice none 0 0, .string { data := #[] }, .slice (some ⟨gk, 0, none⟩) 2 2, .slice (some ⟨gv, 0, none⟩) 2 2]) w.heap.size 63 [.int .i64 7, .int .i64 0, .slice none 0 0, strV [], .slice (some ⟨gk, 0, none⟩) 2 2, .slice (some ⟨gv, 0, none⟩) 2 2] := setRow_blk hRz [.int .i64 7, .int .i64 0, .slice none 0 0, strV [], .slice (some ⟨gk, 0, none⟩) 2 2, .slice (some ⟨gv, 0, none⟩) 2 2]
        have hk1 := hz0.grown hgr (by omega)
        have hv1 := hz3.grown hgr (by omega)
        have hq1 := (hS0.below hcz).grown hgr (by omega)
        have hvd1 := ((hvd.same (w' := wz) (fun b _ hlt => hcz.block b hlt)).same (w' := wz.setRow w.heap.size #[.int .i64 7, .int .i64 0, .slice none 0 0, .string { data := #[] }, .slice (some ⟨gk, 0, none⟩) 2 2, .slice (some ⟨gv, 0, none⟩) 2 2]) (fun b hb hlt => hgr.block b hlt (by simp; omega)))
        have hbz : Below w.heap.size w wz := hb.out.trans ((Below.drewN' hcz).mono hb.out.size)
        have hbr : Below w.heap.size w (wz.setRow w.heap.size #[.int .i64 7, .int .i64 0, .slice none 0 0, .string { data := #[] }, .slice (some ⟨gk, 0, none⟩) 2 2, .slice (some ⟨gv, 0, none⟩) 2 2]) := hbz.trans ⟨hgr.os, hgr.tape, hgr.output, hgr.size, fun k hk => hgr.block k (Nat.lt_of_lt_of_le hk hbz.size) (by simp; omega)⟩
        refine ⟨hq1, ?_⟩
        generalize wz.setRow w.heap.size #[.int .i64 7, .int .i64 0, .slice none 0 0, .string { data := #[] }, .slice (some ⟨gk, 0, none⟩) 2 2, .slice (some ⟨gv, 0, none⟩) 2 2] = we at *
        refine wpAnyU_done (by kernel_rfl) ?_ _
        intro wf hmf
        have hRes : VAtP (fun b => w.heap.size ≤ b) wf [.int .i64 7, .int .i64 0, .slice none 0 0, strV [], .slice (some ⟨gk, 0, none⟩) 2 2, .slice (some ⟨gv, 0, none⟩) 2 2] (listV l) := by
          refine VAtP.map (ks := [[97], [118]]) (css := [lstC u, numC 1]) (l := [pList (l.map abtV), pNum 1]) (hk1.below hmf).row (by simp) (by unfold maxLen; omega) (by simp [maxLen]) (fun _ => by show w.heap.size ≤ gk; omega) (hv1.below hmf).row (by simp) (by unfold maxLen; simp) rfl (by simp [lstC, numC]) (fun _ => by show w.heap.size ≤ gv; omega) ?_
          intro i c v hc hv
          match i with
          | 0 =>
            simp at hc hv; subst hc hv
            exact ((hvd1.grow hmf).mono (fun b hb _ => by omega))
          | 1 => simp at hc hv; subst hc hv; exact VAtP.numb wf (by unfold in64; omega)
          | i + 2 => simp at hc
        have hBf := hBr.below hmf
        have hF := Lib.hid (And.intro hRes (hbr.trans (hmf.mono hbr.size)))
        clear hRes hbr hbz hvd1 hq1 hv1 hk1 hBr hz0 hz3 hRz hSm hSi hS0 hvd hvb hV
        go_wp2
        refine bodyPost_ret (results_cell_row (fn := Try.f30) (by rfl) _ _ w.heap.size 63 _ (0, 0) _ (by rfl) hBf Try.underlying63 rfl sizeV) rfl ?_
        exact ⟨_, rfl, hF.out.1, hF.out.2⟩
      · refine wpOp_val (v := .slice (some ⟨w2.heap.size, 0, none⟩) 2 2) (w' := w2.alloc (.cells (List.toArray (List.flatten [lstC u, numC 1])) 63)) (a' := ⟨#[.slice a l.length c, undef, .pointer (some ⟨w.heap.size, 0, none⟩), .pointer (some ⟨q, 0, none⟩), undef, u5, .agg (List.toArray (lstC (.slice none 0 0))), .slice a l.length c, .int .i64 (l.length : Int), .int .i64 (l.length : Int), .bool false, u11, u12, u13, u14, u15, u16, u17, u18, u19, u20, u21, u22, u23, u24, u25, u26, u27, u28, u29, undef, .agg (List.toArray (lstC u)), .agg (List.toArray (numC 1)), .slice (some ⟨w2.heap.size, 0, none⟩) 2 2, undef], []⟩) rfl rfl (run_bsOp (vals := #[(0, .agg (List.toArray (lstC u))), (1, .agg (List.toArray (numC 1)))]) (by first | rfl | go_simp | simp [Act.eval]) (bsOp_rows (vs := [lstC u, numC 1]) Try.underlying61 infoV (by decide) rfl (by decide) (by decide) (by exact zV_size) (by simp [lstC, numC]) rfl)) rfl ?_
        have hB3 : Blk (w2.alloc (.cells (List.toArray (List.flatten [lstC u, numC 1])) 63)) w2.heap.size 63 (List.flatten [lstC u, numC 1]) := Blk.new _ _ _
        have hg3 : Mo w2 (w2.alloc (.cells (List.toArray (List.flatten [lstC u, numC 1])) 63)) := (Below.refl _ _).alloc (Nat.le_refl _) _
        have hc3 := Mo.trans hm2 hg3
        have hsgv : w.heap.size + 1 ≤ w2.heap.size := Nat.le_trans hbase (hm2).size
        refine ⟨hS0.below hc3, ?_⟩
        generalize w2.heap.size = gv at *
        generalize w2.alloc (.cells (List.toArray (List.flatten [lstC u, numC 1])) 63) = x3 at *
        refine wpAnyU_all (rs := [0]) (by kernel_rfl) (by decide) ?_
        intro w4 hm4 i hi
        obtain rfl : i = 0 := by simpa using hi
        refine wpOp_val (v := .slice (some ⟨w4.heap.size, 0, none⟩) 2 2) (w' := w4.alloc (.cells #[.string { data := #[97] }, .string { data := #[118] }] 9)) (a' := ⟨#[.slice a l.length c, undef, .pointer (some ⟨w.heap.size, 0, none⟩), .pointer (some ⟨q, 0, none⟩), undef, u5, .agg (List.toArray (lstC (.slice none 0 0))), .slice a l.length c, .int .i64 (l.length : Int), .int .i64 (l.length : Int), .bool false, u11, u12, u13, u14, u15, u16, u17, u18, u19, u20, u21, u22, u23, u24, u25, u26, u27, u28, u29, .slice (some ⟨w4.heap.size, 0, none⟩) 2 2, .agg (List.toArray (lstC u)), .agg (List.toArray (numC 1)), .slice (some ⟨gv, 0, none⟩) 2 2, undef], []⟩) rfl rfl (by go_simp) rfl ?_
        have hB5 : Blk (w4.alloc (.cells #[.string { data := #[97] }, .string { data := #[118] }] 9)) w4.heap.size 9 [strV [97], strV [118]] := Blk.new _ _ _
        have hg5 : Mo w4 (w4.alloc (.cells #[.string { data := #[97] }, .string { data := #[118] }] 9)) := (Below.refl _ _).alloc (Nat.le_refl _) _
        have hc5 := Mo.trans (Mo.trans hc3 hm4) hg5
        have hsgk : w.heap.size + 1 ≤ w4.heap.size := Nat.le_trans hbase ((Mo.trans hc3 hm4)).size
        refine ⟨hS0.below hc5, ?_⟩
        generalize w4.heap.size = gk at *
        generalize w4.alloc (.cells #[.string { data := #[97] }, .string { data := #[118] }] 9) = x5 at *
        refine wpAnyU_take (i := 4) (A := fun _ => True) (v := .agg #[.int .i64 7, .int .i64 0, .slice none 0 0, .string { data := #[] }, .slice (some ⟨gk, 0, none⟩) 2 2, .slice (some ⟨gv, 0, none⟩) 2 2]) (a' := ⟨#[.slice a l.length c, undef, .pointer (some ⟨w.heap.size, 0, none⟩), .pointer (some ⟨q, 0, none⟩), undef, u5, .agg (List.toArray (lstC (.slice none 0 0))), .slice a l.length c, .int .i64 (l.length : Int), .int .i64 (l.length : Int), .bool false, u11, u12, u13, u14, u15, u16, u17, u18, u19, u20, u21, u22, u23, u24, u25, u26, u27, u28, u29, .slice (some ⟨gk, 0, none⟩) 2 2, .agg (List.toArray (lstC u)), .agg (List.toArray (numC 1)), .slice (some ⟨gv, 0, none⟩) 2 2, .agg #[.int .i64 7, .int .i64 0, .slice none 0 0, .string { data := #[] }, .slice (some ⟨gk, 0, none⟩) 2 2, .slice (some ⟨gv, 0, none⟩) 2 2]], []⟩) hSm (hSi 4 (by decide)) (fun _ _ _ => trivial) rfl (by kernel_rfl) (by kernel_rfl) (by kernel_rfl) (fun _ _ _ h => h) (hS0.below hc5) (Tame.val rfl (fun w' hA => by go_simp)) rfl ?_
        refine wpAnyU_all (rs := [5]) (by kernel_rfl) (by decide) ?_
        intro wz hmz i hi
        obtain rfl : i = 5 := by simpa using hi
        have hcz := Mo.trans hc5 hmz
        have hRz : Blk wz w.heap.size 63 zV.toList := (show Blk (wr.drewN 1) w.heap.size 63 zV.toList from hR.out).below hcz
        have hz3 := hB3.below (Mo.trans (Mo.trans hm4 hg5) hmz)
        have hz0 := hB5.below hmz
        refine wpOp_skip (w' := wz.setRow w.heap.size #[.int .i64 7, .int .i64 0, .slice none 0 0, .string { data := #[] }, .slice (some ⟨gk, 0, none⟩) 2 2, .slice (some ⟨gv, 0, none⟩) 2 2]) (a' := ⟨#[.slice a l.length c, undef, .pointer (some ⟨w.heap.size, 0, none⟩), .pointer (some ⟨q, 0, none⟩), undef, u5, .agg (List.toArray (lstC (.slice none 0 0))), .slice a l.length c, .int .i64 (l.length : Int), .int .i64 (l.length : Int), .bool false, u11, u12, u13, u14, u15, u16, u17, u18, u19, u20, u21, u22, u23, u24, u25, u26, u27, u28, u29, .slice (some ⟨gk, 0, none⟩) 2 2, .agg (List.toArray (lstC u)), .agg (List.toArray (numC 1)), .slice (some ⟨gv, 0, none⟩) 2 2, .agg #[.int .i64 7, .int .i64 0, .slice none 0 0, .string { data := #[] }, .slice (some ⟨gk, 0, none⟩) 2 2, .slice (some ⟨gv, 0, none⟩) 2 2]], []⟩) rfl rfl (run_stoOp (st_row hRz (by rfl) _ rfl (by unfold OneC; simp [Value.oneCell']))) rfl ?_
        have hgr := setRow_gr wz w.heap.size #[.int .i64 7, .int .i64 0, .slice none 0 0, .string { data := #[] }, .slice (some ⟨gk, 0, none⟩) 2 2, .slice (some ⟨gv, 0, none⟩) 2 2]
        have hBr : Blk (wz.setRow w.heap.size #[.int .i64 7, .int .i64 0, .slice none 0 0, .string { data := #[] }, .slice (some ⟨gk, 0, none⟩) 2 2, .slice (some ⟨gv, 0, none⟩) 2 2]) w.heap.size 63 [.int .i64 7, .int .i64 0, .slice none 0 0, strV [], .slice (some ⟨gk, 0, none⟩) 2 2, .slice (some ⟨gv, 0, none⟩) 2 2] := setRow_blk hRz [.int .i64 7, .int .i64 0, .slice none 0 0, strV [], .slice (some ⟨gk, 0, none⟩) 2 2, .slice (some ⟨gv, 0, none⟩) 2 2]
        have hk1 := hz0.grown hgr (by omega)
        have hv1 := hz3.grown hgr (by omega)
        have hq1 := (hS0.below hcz).grown hgr (by omega)
        have hvd1 := ((hvd.same (w' := wz) (fun b _ hlt => hcz.block b hlt)).same (w' := wz.setRow w.heap.size #[.int .i64 7, .int .i64 0, .slice none 0 0, .string { data := #[] }, .slice (some ⟨gk, 0, none⟩) 2 2, .slice (some ⟨gv, 0, none⟩) 2 2]) (fun b hb hlt => hgr.block b hlt (by simp; omega)))
        have hbz : Below w.heap.size w wz := hb.out.trans ((Below.drewN' hcz).mono hb.out.size)
        have hbr : Below w.heap.size w (wz.setRow w.heap.size #[.int .i64 7, .int .i64 0, .slice none 0 0, .string { data := #[] }, .slice (some ⟨gk, 0, none⟩) 2 2, .slice (some ⟨gv, 0, none⟩) 2 2]) := hbz.trans ⟨hgr.os, hgr.tape, hgr.output, hgr.size, fun k hk => hgr.block k (Nat.lt_of_lt_of_le hk hbz.size) (by simp; omega)⟩
        refine ⟨hq1, ?_⟩
        generalize wz.setRow w.heap.size #[.int .i64 7, .int .i64 0, .slice none 0 0, .string { data := #[] }, .slice (some ⟨gk, 0, none⟩) 2 2, .slice (some ⟨gv, 0, none⟩) 2 2] = we at *
        refine wpAnyU_done (by kernel_rfl) ?_ _
        intro wf hmf
        have hRes : VAtP (fun b => w.heap.size ≤ b) wf [.int .i64 7, .int .i64 0, .slice none 0 0, strV [], .slice (some ⟨gk, 0, none⟩) 2 2, .slice (some ⟨gv, 0, none⟩) 2 2] (listV l) := by
          refine VAtP.map (ks := [[97], [118]]) (css := [lstC u, numC 1]) (l := [pList (l.map abtV), pNum 1]) (hk1.below hmf).row (by simp) (by unfold maxLen; omega) (by simp [maxLen]) (fun _ => by show w.heap.size ≤ gk; omega) (hv1.below hmf).row (by simp) (by unfold maxLen; simp) rfl (by simp [lstC, numC]) (fun _ => by show w.heap.size ≤ gv; omega) ?_
          intro i c v hc hv
          match i with
          | 0 =>
            simp at hc hv; subst hc hv
            exact ((hvd1.grow hmf).mono (fun b hb _ => by omega))
          | 1 => simp at hc hv; subst hc hv; exact VAtP.numb wf (by unfold in64; omega)
          | i + 2 => simp at hc
        have hBf := hBr.below hmf
        have hF := Lib.hid (And.intro hRes (hbr.trans (hmf.mono hbr.size)))
        clear hRes hbr hbz hvd1 hq1 hv1 hk1 hBr hz0 hz3 hRz hSm hSi hS0 hvd hvb hV
        go_wp2
        refine bodyPost_ret (results_cell_row (fn := Try.f30) (by rfl) _ _ w.heap.size 63 _ (0, 0) _ (by rfl) hBf Try.underlying63 rfl sizeV) rfl ?_
        exact ⟨_, rfl, hF.out.1, hF.out.2⟩
end Go.Proofs.Ytakliplkabgmbaa
set_option maxRecDepth 20000
namespace Go.Hd
open Go Go.RowKit
/-! The order. -/
theorem bl_irrefl : ∀ x : List UInt8, Op.bytesLess x x = false
  | [] => rfl
  | c :: x => by simp [Op.bytesLess, bl_irrefl x]
theorem bl_total : ∀ x y : List UInt8, x ≠ y → Op.bytesLess x y = true ∨ Op.bytesLess y x = true
  | [], [], h => absurd rfl h
  | [], _ :: _, _ => .inl rfl
  | _ :: _, [], _ => .inr rfl
  | a :: x, b :: y, h => by
    simp only [Op.bytesLess, Bool.or_eq_true, decide_eq_true_eq, Bool.and_eq_true, beq_iff_eq]
    rcases UInt8.lt_or_lt_of_ne (a := a) (b := b) |> fun f => (Decidable.em (a = b)) with hab | hab
    · subst hab
      rcases bl_total x y (fun e => h (by rw [e])) with h1 | h1
      · exact .inl (.inr ⟨rfl, h1⟩)
      · exact .inr (.inr ⟨rfl, h1⟩)
    · rcases UInt8.lt_or_lt_of_ne hab with h1 | h1
      · exact .inl (.inl h1)
      · exact .inr (.inl h1)
theorem bl_trans : ∀ x y z : List UInt8, Op.bytesLess x y = true → Op.bytesLess y z = true → Op.bytesLess x z = true
  | _, _, [], _, h => by cases ‹List UInt8› <;> simp [Op.bytesLess] at h
  | _, [], _ :: _, h, _ => by cases ‹List UInt8› <;> simp [Op.bytesLess] at h
  | [], _ :: _, _ :: _, _, _ => rfl
  | a :: x, b :: y, c :: z, h1, h2 => by
    simp only [Op.bytesLess, Bool.or_eq_true, decide_eq_true_eq, Bool.and_eq_true, beq_iff_eq] at h1 h2 ⊢
    rcases h1 with h1 | ⟨rfl, h1⟩
    · rcases h2 with h2 | ⟨rfl, h2⟩
      · exact .inl (UInt8.lt_trans h1 h2)
      · exact .inl h1
    · rcases h2 with h2 | ⟨rfl, h2⟩
      · exact .inl h2
      · exact .inr ⟨rfl, bl_trans x y z h1 h2⟩
theorem bl_asymm {x y : List UInt8} (h : Op.bytesLess x y = true) : Op.bytesLess y x = false := by
  rcases Bool.eq_false_or_eq_true (Op.bytesLess y x) with h2 | h2
  · have := bl_trans _ _ _ h h2
    rw [bl_irrefl] at this; cases this
  · exact h2
end Go.Hd
set_option maxRecDepth 20000
namespace Go.Hd
def scanE : List Abt → Int
  | [] => 0
  | x :: l => if nameB x.name = true then (if timelyB x.time = true then scanE l else 2) else 7
def checkL (l : List Abt) : Int := if 64 < l.length then 16 else if scanE l ≠ 0 then scanE l else if risesT (l.map (·.name)) = true then 0 else 18
end Go.Hd
namespace Go.Proofs.Ytakliplkabgmbaa
open Go.RowKit Go.Hd
attribute [local go_sem ↓] h_ldV h_stV h_alV h_ldID h_stID h_alID h_ldAB h_stAB h_alAB
attribute [local go_sem] r_ldV r_stV r_alV r_ldID r_stID r_alID r_ldAB r_stAB r_alAB
theorem leT_not (b a : List UInt8) : leT b a = !Op.bytesLess (str a).toList (str b).toList := by
  unfold leT
  generalize (str a).toList = A
  generalize (str b).toList = B
  by_cases h : B = A
  · subst h; rw [bl_irrefl]; simp
  · have hne : (B == A) = false := by simpa using h
    rw [hne, Bool.or_false]
    rcases bl_total B A h with h2 | h2
    · rw [h2, bl_asymm h2]; rfl
    · rw [h2, bl_asymm h2]; rfl
theorem cell_field {w : World} {a : Addr} {i j : Nat} {v : Value} (h : w.cell? (a.add (i + j)) = some v) : w.cell? ⟨(a.add i).block, (a.add i).off + j, none⟩ = some v := by
  unfold World.cell? Addr.add at *
  by_cases hi : i = 0 <;> by_cases hj : j = 0 <;> simp [hi, hj, Nat.add_assoc] at h ⊢
  · cases hb : w.heap[a.block]? with
    | none => rw [hb] at h; cases h
    | some o =>
      rw [hb] at h
      cases o with
      | cells c e f =>
        simp only at h ⊢
        split at h
        · cases h
        · exact h
      | _ => cases h
  all_goals exact h
theorem cell_fld {w : World} {a : Addr} {i j : Nat} {v : Value} (h : w.cell? ((a.add i).add j) = some v) : w.cell? ⟨(a.add i).block, (a.add i).off + j, none⟩ = some v := cell_field (by rwa [add_add] at h)
theorem addr_add0 (x : Addr) : x.add 0 = x := by unfold Addr.add; simp
theorem abts37 {l : List Abt} (hok : ∀ x ∈ l, AbtOk x) : ∀ x ∈ l.map abtC, x.length = 37 := fun x hx => by
  obtain ⟨y, hy, rfl⟩ := List.mem_map.1 hx
  exact abtC_len (hok y hy)
theorem abt_cell {w : World} {a : Option Addr} {l : List Abt} (hr : Row w a (l.map abtC).flatten) (hok : ∀ x ∈ l, AbtOk x) {j : Nat} (hj : j < l.length) {k : Nat} {v : Value} (h : (abtC l[j])[k]? = some v) : w.cell? (((hd a).add (j * 37)).add k) = some v :=
  hr.elem (s := 37) (abts37 hok) (i := j) (c := abtC l[j]) (by simp [hj]) k v h
set_option maxHeartbeats 2000000 in
theorem checkList_any {a : Option Addr} {n c : Nat} {l : List Abt} {w : World} (hn : n = l.length) (hr : Row w a (l.map abtC).flatten) (hok : ∀ x ∈ l, AbtOk x) (hl : l.length ≤ 1000) :
    Calls Try.prog 28 #[.slice a n c] w fun e w' => e = .returned (.int .i64 (checkL l)) ∧ Below w.heap.size w w' := by
  subst hn
  have za := zAB_size
  have HC : Hid (checkL l = if 64 < l.length then 16 else if scanE l ≠ 0 then scanE l else if risesT (l.map (·.name)) = true then 0 else 18) := rfl
  have HL := Lib.hid hl
  have HOK := Lib.hid hok
  clear hl hok
  by_cases h64 : 64 < l.length
  · have i1 : (64 : Int) < (l.length : Int) := by omega
    have hR : Hid (checkL l = 16) := by show _ = _; rw [HC.out, if_pos h64]
    clear h64 HC
    go_enter Try.func28, Try.ntmps28
    go_wp2
    go_ret
    exact ⟨by rw [hR.out] <;> rfl, Below.refl _ _⟩
  have i1 : ¬ (64 : Int) < (l.length : Int) := by omega
  have HC2 : Hid (checkL l = if scanE l ≠ 0 then scanE l else if risesT (l.map (·.name)) = true then 0 else 18) := by show _ = _; rw [HC.out, if_neg h64]
  have HS0 : Hid (scanE (l.drop 0) = scanE l) := rfl
  generalize checkL l = R at *
  generalize scanE l = SE at *
  clear HC h64
  go_enter Try.func28, Try.ntmps28
  go_upto_block 0 with (fail)
  go_cut [12] (fun _ wx => SE = 0 ∧ Below w.heap.size w wx)
  case first =>
    go_wp2
    go_loopw [12] (fun i wr => ∃ j : Nat, j ≤ l.length ∧ i = .int .i64 j ∧ Hid (scanE (l.drop j) = SE) ∧ Hid (Below w.heap.size w wr)) (fun i _ => l.length - (intOf i).toNat)
    case atStart => exact ⟨0, Nat.zero_le _, rfl, HS0, Lib.hid (Below.refl _ _)⟩
    case round =>
      obtain ⟨j, hj, rfl, hE, hb⟩ := hrel
      have j0 : (0 : Int) ≤ (j : Int) := by omega
      have jb : IntKind.i64.wrap ((j : Int) + 1) = (j : Int) + 1 := IntWalk.i64_in _ (by have := HL.out; omega)
      clear HS0
      by_cases hlt : j < l.length
      · have j1 : (j : Int) < (l.length : Int) := by omega
        have hr2 := hr.below hb.out
        have s1 := hr2.elemSome (s := 37) (abts37 HOK.out) (by decide) (i := j) (by simpa using hlt)
        have hxo := HOK.out _ (List.getElem_mem hlt)
        have q1 := ldOp_at (P := Try.prog) (ty := 31) (hr2.elem (s := 37) (abts37 HOK.out) (i := j) (c := abtC l[j]) (by simp [hlt])) Try.underlying31 rfl (by rw [abtC_len hxo]; exact sizeAB)
        have hE2 : Hid ((if nameB l[j].name = true then (if timelyB l[j].time = true then scanE (l.drop (j + 1)) else 2) else 7) = SE) := by
          show _ = _
          rw [← hE.out, List.drop_eq_getElem_cons hlt]; rfl
        generalize l[j] = x at *
        have x1 : (List.toArray (abtC x)).size = 37 := by simpa using abtC_len hxo
        have x2 : OneC (List.toArray (abtC x)) := all_oneCell_toArray (abtC_one x)
        clear hr2 hE
        go_upto_region 6 with (fail)
        have hxB : Blk (wr.alloc (.cells (List.toArray (abtC x)) 31)) wr.heap.size 31 (abtC x) := Blk.new wr 31 _
        have hb0x : Below wr.heap.size wr (wr.alloc (.cells (List.toArray (abtC x)) 31)) := (Below.refl _ _).alloc (Nat.le_refl _) _
        have hbW := Lib.hid (hb.out.trans (hb0x.mono hb.out.size))
        generalize wr.alloc (.cells (List.toArray (abtC x)) 31) = W at *
        generalize wr.heap.size = qx at *
        have d0 : W.cell? ⟨qx, 0, none⟩ = some (.string (str x.name)) := hxB.cell (abtC_0 x)
        have hcn := checkName_any x.name W hxo.name
        have HF : Hid (nameE x.name = if nameB x.name then 0 else 7) := rfl
        clear q1 hb hb0x s1
        generalize nameB x.name = nb at *
        cases nb
        · have hE3 : Hid (7 = SE) := hE2.out
          have hn7 : nameE x.name = 7 := HF.out
          have hR : Hid (R = 7) := by show _ = _; rw [HC2.out, ← hE3.out]; rfl
          rw [hn7] at hcn
          clear hE2 HF HC2 hn7 hE3
          go_wp2_with fail
          refine hcn.mono ?_
          rintro e w2 ⟨rfl, hb2⟩
          go_wp2
          go_ret
          exact ⟨by rw [hR.out] <;> rfl, hbW.out.trans (hb2.mono hbW.out.size)⟩
        · have hE3 : Hid ((if timelyB x.time = true then scanE (l.drop (j + 1)) else 2) = SE) := hE2.out
          have hn7 : nameE x.name = 0 := HF.out
          rw [hn7] at hcn
          have htm := fun w' => timely_any x.time w'
          clear hE2 HF hn7
          go_wp2_with fail
          refine hcn.mono ?_
          rintro e w2 ⟨rfl, hb2⟩
          have d33 : w2.cell? ⟨qx, 33, none⟩ = some (.int .i64 x.time) := (hxB.below hb2).cell (abtC_33 hxo)
          have hbW2 := Lib.hid (hbW.out.trans (hb2.mono hbW.out.size))
          clear hb2 hbW hxB d0 hcn
          generalize timelyB x.time = tb at *
          cases tb
          · have hE4 : Hid (2 = SE) := hE3.out
            have hR : Hid (R = 2) := by show _ = _; rw [HC2.out, ← hE4.out]; rfl
            clear hE3 HC2 hE4
            go_wp2_with fail
            refine (htm _).mono ?_
            rintro e w3 ⟨rfl, hw3⟩
            subst hw3
            go_wp2
            go_ret
            exact ⟨by rw [hR.out] <;> rfl, hbW2.out⟩
          · have hE4 : Hid (scanE (l.drop (j + 1)) = SE) := hE3.out
            clear hE3
            go_wp2_with fail
            refine (htm _).mono ?_
            rintro e w3 ⟨rfl, hw3⟩
            subst hw3
            go_wp2
            first
              | exact ⟨⟨j + 1, by omega, (by first | rfl | go_num | (congr 1; omega)), hE4, hbW2⟩, by simp [intOf] <;> omega⟩
              | (refine ⟨?_, by simp [intOf] <;> omega⟩; (repeat apply Exists.intro); exact ⟨⟨j + 1, by omega, (by first | rfl | go_num | (congr 1; omega)), hE4, hbW2⟩, rfl⟩)
      · have hSE : SE = 0 := by rw [← hE.out, List.drop_eq_nil_of_le (by omega)]; rfl
        have j1 : ¬ (j : Int) < (l.length : Int) := by omega
        have hh := Lib.hid (And.intro hSE hb.out)
        clear hSE
        go_wp2
        go_meet
        exact hh.out
  case rest =>
    obtain ⟨hSE, hbc⟩ := hcut
    have HR : Hid (R = if risesT (l.map (·.name)) = true then 0 else 18) := by show _ = _; rw [HC2.out, if_neg (by rw [hSE]; simp)]
    have HB := Lib.hid hbc
    have hrc := hr.below hbc
    clear HC2 hSE HS0 hbc hr
    go_wp2
    go_loopw [6] (fun i wr => ∃ j : Nat, 1 ≤ j ∧ j ≤ l.length + 1 ∧ i = .int .i64 j ∧ Hid (risesT ((l.map (·.name)).take j) = true) ∧ Hid (∃ n, wr = wc.drewN n)) (fun i _ => l.length + 1 - (intOf i).toNat)
    case atStart => exact ⟨1, Nat.le_refl _, by omega, rfl, Lib.hid (risesT_one _), Lib.hid ⟨0, by rw [World.drewN_zero]⟩⟩
    case round =>
      obtain ⟨j, hj1, hj, rfl, hri, hwr⟩ := hrel
      obtain ⟨nn, hwr⟩ := hwr.out
      have j0 : (0 : Int) ≤ (j : Int) := by omega
      have jb : IntKind.i64.wrap ((j : Int) + 1) = (j : Int) + 1 := IntWalk.i64_in _ (by have := HL.out; omega)
      by_cases hlt : j < l.length
      · have j1 : (j : Int) < (l.length : Int) := by omega
        have hrw : Row wr a (l.map abtC).flatten := by rw [hwr]; exact hrc.drewN nn
        obtain ⟨k, hk⟩ : ∃ k, k = j - 1 := ⟨_, rfl⟩
        have hkl : k < l.length := by omega
        have im : IntKind.i64.wrap ((j : Int) - 1) = (k : Int) := by rw [IntWalk.i64_in _ (by have := HL.out; omega)]; omega
        have k0 : (0 : Int) ≤ (k : Int) := by omega
        have k1 : (k : Int) < (l.length : Int) := by omega
        have s1 := hrw.elemSome (s := 37) (abts37 HOK.out) (by decide) (i := j) (by simpa using hlt)
        have q1 := abt_cell hrw HOK.out hlt (abtC_0 l[j])
        have q2 := abt_cell hrw HOK.out hkl (abtC_0 l[k])
        have hbF : Hid (∀ n, Below w.heap.size w (wr.drewN n)) := fun n => by rw [hwr, World.drewN_drewN]; exact Below.drewN HB.out _
        have hNX : Hid (∀ n, ∃ m, wr.drewN n = wc.drewN m) := fun n => ⟨nn + n, by rw [hwr, World.drewN_drewN]⟩
        have hRT : Hid (risesT ((l.map (·.name)).take (j + 1)) = !leT (l[j]).name (l[k]).name) := by
          show _ = _
          obtain rfl : j = k + 1 := by omega
          rw [risesT_take _ k (by simpa using hlt), hri.out]
          simp
        have hNR : Hid (risesT ((l.map (·.name)).take (j + 1)) = false → risesT (l.map (·.name)) = false) := risesT_not
        unfold strV at q1 q2
        rw [addr_add0] at q1 q2
        generalize l[j].name = y at *
        generalize l[k].name = z at *
        clear hk hwr hrw hri
        go_wp2
        go_quiet (fail)
        have HLT := Lib.hid (leT_not y z)
        cases hg : Op.bytesLess (str z).toList (str y).toList
        · have hR : Hid (R = 18) := by
            show _ = _
            rw [HR.out, if_neg]
            rw [hNR.out (by rw [hRT.out, HLT.out, hg]; rfl)]; decide
          clear hRT hNR HR hNX HLT
          go_wp2
          go_ret
          exact ⟨by rw [hR.out] <;> rfl, hbF.out nq⟩
        · have hri2 : Hid (risesT ((l.map (·.name)).take (j + 1)) = true) := by show _ = _; rw [hRT.out, HLT.out, hg]; rfl
          have hnx := Lib.hid (hNX.out nq)
          clear hRT hNR hNX HLT hbF
          go_wp2
          first
            | exact ⟨⟨j + 1, by omega, by omega, (by first | rfl | go_num | (congr 1; omega)), hri2, hnx⟩, by simp [intOf] <;> omega⟩
            | (refine ⟨?_, by simp [intOf] <;> omega⟩; (repeat apply Exists.intro); exact ⟨⟨j + 1, by omega, by omega, (by first | rfl | go_num | (congr 1; omega)), hri2, hnx⟩, rfl⟩)
      · have hR : Hid (R = 0) := by
          show _ = _
          have h := hri.out
          rw [List.take_of_length_le (by simp; omega)] at h
          rw [HR.out, if_pos h]
        have hbF : Below w.heap.size w wr := by rw [hwr]; exact Below.drewN HB.out _
        have j1 : ¬ (j : Int) < (l.length : Int) := by omega
        clear hri HR hwr
        go_wp2
        go_ret
        exact ⟨by rw [hR.out] <;> rfl, hbF⟩
end Go.Proofs.Ytakliplkabgmbaa
