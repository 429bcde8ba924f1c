/- Joined: what one statement of this layer stands on, part 16 of 26; nothing is assumed. -/
import Derived.Deep.DeepCutAuto
import Derived.Deep.RegionHeld3
import Derived.Deep.RegionLaw
import Derived.Test.YtpchogicdnfggaaGreatDoorKI15
set_option maxRecDepth 20000
namespace Go.Proofs.YtpchogicdnfggaaGreatDoor
open Go.RowKit Go.Hd
section
variable (ρ : Operand → Value) (dst : Option Tmp) (ty : TypeId) (pos : String) (after : Array Edge) (guard : Option (Nat × Bool))
theorem h_bsLVn (n : Nat) (parts : Array (Nat × Operand)) : execOp ρ { dst, op := .buildSlice 48 n parts, type := ty, pos, after, guard } = (do pure (.value (← bsOp 48 n (parts.map fun (i, x) => (i, ρ x))))) := rfl
end
attribute [local go_sem ↓] h_ldV h_stV h_alV h_ldIT h_bsLVn
attribute [local go_sem] r_ldV r_stV r_alV r_bsV1
theorem rnum21_any (n : Int) (w : World) : Calls Tryz.prog 62 #[.int .i64 n] w fun e w' => e = .returned (.agg (List.toArray (numC n))) ∧ Below w.heap.size w w' := by
  have zs := zV_size
  have hO6 := oneC6
  have B3 : Blk (w.alloc (.cells (List.toArray (numC n)) 50)) w.heap.size 50 (numC n) := Blk.new _ _ _
  have hb : Below w.heap.size w (w.alloc (.cells (List.toArray (numC n)) 50)) := (Below.refl _ _).alloc (Nat.le_refl _) _
  go_enter Tryz.func62, Tryz.ntmps62
  go_wp2
  refine bodyPost_ret (results_cell_row (fn := Tryz.f62) (by rfl) _ _ w.heap.size 50 _ (0, 0) _ (by rfl) B3 Tryz.underlying50 rfl sizeV) rfl ⟨rfl, hb⟩
/-- The item's box as it was, new memory besides. -/
def SAr (W : World) (g : Nat) (X : List Value) (w1 : World) : Prop := Blk w1 g 40 X ∧ Below W.heap.size W w1
theorem SAr.stored {W w1 w2 : World} {g q : Nat} {X : List Value} (h : SAr W g X w1) (hg : w1.grownBy w2 (some q)) (hq : W.heap.size ≤ q ∧ g ≠ q) : SAr W g X w2 :=
  ⟨h.1.grown hg hq.2, h.2.trans ⟨hg.os, hg.tape, hg.output, hg.size, fun i hi => hg.block i (Nat.lt_of_lt_of_le hi h.2.size) (fun e => by cases e; omega)⟩⟩
theorem run_alV {ρ : Operand → Value} {dst : Option Tmp} {ty : TypeId} {pos : String} {after : Array Edge} {guard : Option (Nat × Bool)} {w : World} :
    (execOp ρ { dst, op := .alloc 50, type := ty, pos, after, guard }).run Tryz.prog w = .ok (.value (.pointer (some ⟨w.heap.size, 0, none⟩))) (w.alloc (.cells zV 50)) := by
  rw [h_alV, Sem.run_bind, r_alV]; rfl
/-- A value of rows, each a value of its own. -/
def Vs2 (ok : Nat → Prop) (w : World) : List (List Value) → List PV → Prop
  | [], [] => True
  | c :: cs, v :: vs => VAtP ok w c v ∧ Vs2 ok w cs vs
  | _, _ => False
theorem Vs2.at {ok : Nat → Prop} {w : World} : ∀ {css : List (List Value)} {vs : List PV}, Vs2 ok w css vs → ∀ (i : Nat) (c : List Value) (v : PV), css[i]? = some c → vs[i]? = some v → VAtP ok w c v
  | [], _, _, i, c, v, hc, _ => by simp at hc
  | _ :: _, [], h, _, _, _, _, _ => by exact h.elim
  | c0 :: cs, v0 :: vs, h, 0, c, v, hc, hv => by simp at hc hv; subst hc hv; exact h.1
  | c0 :: cs, v0 :: vs, h, i + 1, c, v, hc, hv => by simp at hc hv; exact Vs2.at h.2 i c v hc hv
theorem map_fin {w wz : World} {r gk gv n : Nat} {ks : List (List UInt8)} {css : List (List Value)} {vs : List PV} {old : List Value} (hR : Blk wz r 50 old) (ho : old.length = 6) (hr : w.heap.size ≤ r) (hK : Blk wz gk 9 (ks.map strV)) (hV : Blk wz gv 50 css.flatten)
    (hkn : ks.length = n) (hvn : vs.length = n) (hcs : css.length = n) (h6 : ∀ c ∈ css, c.length = 6) (hkt : ∀ x ∈ ks, x.length ≤ maxLen) (hn : n ≤ maxLen) (hgk : w.heap.size ≤ gk ∧ gk ≠ r) (hgv : w.heap.size ≤ gv ∧ gv ≠ r) (sub : Vs2 (fun b => w.heap.size ≤ b ∧ b ≠ r) wz css vs) (hb : Below w.heap.size w wz) :
    ResP w r wz [.int .i64 7, .int .i64 0, .slice none 0 0, .string { data := #[] }, .slice (some ⟨gk, 0, none⟩) n n, .slice (some ⟨gv, 0, none⟩) n n] (.mk 7 0 [] [] ks vs) := by
  subst hkn
  have h1 := VAtP.map (ok := fun b => w.heap.size ≤ b ∧ b ≠ r) (ak := some ⟨gk, 0, none⟩) (a := some ⟨gv, 0, none⟩) (c := ks.length) (l := vs) hK.row (Nat.le_refl _) hn hkt (fun _ => hgk) hV.row (Nat.le_of_eq hvn) hn (by rw [hcs, hvn]) h6 (fun _ => hgv) sub.at
  rw [hvn] at h1
  exact res_any hR ho hr h1 hb
theorem checkI_kind (x : Itm) (h : checkI x = 0) : x.kind = 1 ∨ x.kind = 2 ∨ x.kind = 3 := by
  by_cases h1 : x.kind = 1
  · exact .inl h1
  · by_cases h2 : x.kind = 2
    · exact .inr (.inl h2)
    · by_cases h3 : x.kind = 3
      · exact .inr (.inr h3)
      · exfalso
        unfold checkI at h
        have hf : fitsF x = false := by unfold fitsF; rw [if_neg h1, if_neg h2, if_neg h3]
        rw [hf] at h
        by_cases h0 : checkF x.path ≠ 0
        · rw [if_pos h0] at h; exact h0 h
        · rw [if_neg h0] at h
          split at h <;> simp at h
set_option maxHeartbeats 8000000 in
theorem rvalueI_any {x : Itm} {a : Option Addr} {c : Nat} {w : World} (hr : Row w a (x.parts.map prtC).flatten) (hok : ItmOk x) (hl : x.parts.length ≤ 1000) (hp : x.path.length ≤ 1000000) :
    Calls Tryz.prog 36 #[.agg (List.toArray (itC x a c))] w fun e w' => ∃ cs, e = .returned (.agg (List.toArray cs)) ∧ VAtP (fun b => w.heap.size ≤ b) w' cs (itV x) ∧ Below w.heap.size w w' := by
  have zs := zV_size
  have hO6 := oneC6
  obtain ⟨X, hX⟩ : ∃ X, X = itC x a c := ⟨_, rfl⟩
  rw [← hX]
  have hXl : X.length = 7 := by rw [hX]; rfl
  have hall : Hid (∀ W, W = (w.alloc (.cells (List.toArray X) 40)).alloc (.cells zV 50) → Blk W w.heap.size 40 X ∧ Blk W (w.heap.size + 1) 50 zV.toList ∧ Below w.heap.size w W ∧ W.heap.size = w.heap.size + 2) := by
    rintro W rfl
    refine ⟨?_, ?_, ((Below.refl _ _).alloc (Nat.le_refl _) _).alloc (by simp) _, by simp⟩
    · simpa using (Blk.new w 40 (List.toArray X)).alloc (.cells zV 50)
    · have := Blk.new (w.alloc (.cells (List.toArray X) 40)) 50 zV
      simpa using this
  have hck := fun w' (hb : Below w.heap.size w w') => rcheckI_any (x := x) (c := c) (hr.below hb) hok (by omega) hp
  rw [← hX] at hck
  have hE : Hid (itV x = if checkI x ≠ 0 then pv0
    else if x.kind = 1 then .mk 7 0 [] [] [[99], [107], [109], [112], [115], [116]] [pList (x.parts.map ptV), pNum x.kind, pNum x.mode, pTxt x.path, pNum x.size, pNum x.time]
    else if x.kind = 2 then .mk 7 0 [] [] [[107], [109], [112], [116]] [pNum x.kind, pNum x.mode, pTxt x.path, pNum x.time]
    else .mk 7 0 [] [] [[107], [108], [109], [112], [116]] [pNum x.kind, pTxt x.target, pNum x.mode, pTxt x.path, pNum x.time]) := rfl
  have hcell : ∀ w', Blk w' w.heap.size 40 X → w'.cell? ⟨w.heap.size, 0, none⟩ = some (.string (str x.path)) ∧ w'.cell? ⟨w.heap.size, 1, none⟩ = some (.int .i64 x.kind) ∧ w'.cell? ⟨w.heap.size, 2, none⟩ = some (.int .i64 x.mode) ∧ w'.cell? ⟨w.heap.size, 3, none⟩ = some (.int .i64 x.time) ∧ w'.cell? ⟨w.heap.size, 4, none⟩ = some (.string (str x.target)) ∧ w'.cell? ⟨w.heap.size, 5, none⟩ = some (.int .i64 x.size) ∧ w'.cell? ⟨w.heap.size, 6, none⟩ = some (.slice a x.parts.length c) := fun w' h => by
    rw [hX] at h
    exact ⟨h.cell rfl, h.cell rfl, h.cell rfl, h.cell rfl, h.cell rfl, h.cell rfl, h.cell rfl⟩
  have hpm := hok.path
  have htm := hok.target
  have hki := hok.kind
  have hmi := hok.mode
  have hti := hok.time
  have hsi := hok.size
  have hkk : checkI x = 0 → x.kind = 1 ∨ x.kind = 2 ∨ x.kind = 3 := checkI_kind x
  clear hX
  generalize hFV : itV x = FV at *
  generalize checkI x = CI at *
  clear hFV
  go_enter Tryz.func36, Tryz.ntmps36
  go_upto_region 1 with (fail)
  generalize hW : (w.alloc (.cells (List.toArray X) 40)).alloc (.cells zV 50) = W0 at *
  obtain ⟨A0, R0, hb0, S0⟩ := hall.out W0 rfl
  clear hall hW
  have q1 := ldOp_all (P := Tryz.prog) (ty := 40) A0 Tryz.underlying40 rfl (by rw [hXl]; exact sizeIT)
  go_wp2_with fail
  refine (hck _ hb0).mono ?_
  rintro e w2 ⟨rfl, hb2⟩
  have A2 := A0.below hb2
  have R2 := R0.below hb2
  have hb02 := hb0.trans (hb2.mono hb0.size)
  have hs2 : w.heap.size + 2 ≤ w2.heap.size := by have := hb2.size; omega
  clear q1 hb0 hb2 A0 R0 hck
  by_cases h0 : CI = 0
  case neg =>
    have e0 : (CI != 0) = true := by simpa using h0
    have hT : Hid (FV = pv0) := by show _ = _; rw [hE.out, if_pos h0]
    obtain ⟨Wz, z1, z2, z3, z4⟩ := res_zero (w := w) R2 (by rfl) (by omega) hb02
    go_wp2
    refine bodyPost_ret (results_cell_row (fn := Tryz.f36) (by rfl) _ _ (w.heap.size + 1) 50 _ (0, 0) _ (by rfl) z2 Tryz.underlying50 rfl sizeV) rfl ⟨_, rfl, by rw [hT.out]; exact z3, z4⟩
  case pos =>
  subst h0
  have hkk2 := hkk rfl
  clear hkk
  have hE2 : Hid (FV = if x.kind = 1 then .mk 7 0 [] [] [[99], [107], [109], [112], [115], [116]] [pList (x.parts.map ptV), pNum x.kind, pNum x.mode, pTxt x.path, pNum x.size, pNum x.time]
    else if x.kind = 2 then .mk 7 0 [] [] [[107], [109], [112], [116]] [pNum x.kind, pNum x.mode, pTxt x.path, pNum x.time]
    else .mk 7 0 [] [] [[107], [108], [109], [112], [116]] [pNum x.kind, pTxt x.target, pNum x.mode, pTxt x.path, pNum x.time]) := by show _ = _; rw [hE.out, if_neg (by simp)]
  clear hE
  go_upto_region 3 with (fail)
  go_cut [3, 4] (fun u3 u4 wx => ∃ p q : Nat, u3 = .pointer (some ⟨p, 0, none⟩) ∧ u4 = .pointer (some ⟨q, 0, none⟩) ∧ w2.heap.size ≤ p ∧ w2.heap.size ≤ q ∧ Blk wx p 50 (numC x.kind) ∧ Blk wx q 50 (numC x.mode) ∧ Below w2.heap.size w2 wx)
  case first =>
    --REGION3
    have hSm : ∀ (L : Array Bool) (v1 v2 : World), SAr w2 w.heap.size X v1 → Mo v1 v2 → SAr w2 w.heap.size X v2 := fun _ v1 v2 h hm => ⟨h.1.below hm, h.2.trans (hm.mono h.2.size)⟩
    have hSi : ∀ i, i ≠ 99 → ∀ (L : Array Bool) (v1 : World), SAr w2 w.heap.size X v1 ↔ SAr w2 w.heap.size X v1 := fun _ _ _ _ => Iff.rfl
    have hS0 : SAr w2 w.heap.size X (w2.drewN 1) := ⟨A2, Below.drewN (Below.refl _ _) 1⟩
    refine wp_region_upN (S := fun _ w1 => SAr w2 w.heap.size X w1) 10 rfl (by kernel_rfl) ?_
    refine wpAnyU_take (i := 0) (A := fun _ => True) (v := .pointer (some ⟨w.heap.size, 1, none⟩)) (a' := ⟨#[.agg (List.toArray X), .pointer (some ⟨w.heap.size, 0, none⟩), .pointer (some ⟨w.heap.size + 1, 0, none⟩), undef, undef, undef, undef, undef, undef, undef, undef, undef, .agg (List.toArray X), .int .i64 0, .bool false, undef, .pointer (some ⟨w.heap.size, 1, none⟩), undef, undef, undef, undef, undef, undef, undef, undef, undef, undef, undef, undef, undef, undef, undef, undef, undef, undef, undef, undef, undef, undef, undef, undef, undef, undef, undef, undef, undef, undef, undef, undef, undef, undef, undef, undef, undef, undef, undef, undef, undef, undef, undef, undef, undef, undef, undef, undef, undef, undef, undef, undef, undef, undef, undef, undef, undef, undef, undef, undef, undef, undef, undef, undef, undef, undef, undef, undef, undef, undef, undef, undef, undef, undef, undef, undef, undef, undef, undef, undef, undef, undef, undef, undef, undef], []⟩) hSm (hSi 0 (by decide)) (fun _ _ _ => trivial) rfl (by kernel_rfl) (by kernel_rfl) (by kernel_rfl) (fun _ _ _ h => h) hS0 (Tame.val rfl (fun w' hA => by go_simp)) rfl ?_
    refine wpAnyU_take (i := 1) (A := SAr w2 w.heap.size X) (v := .int .i64 x.kind) (a' := ⟨#[.agg (List.toArray X), .pointer (some ⟨w.heap.size, 0, none⟩), .pointer (some ⟨w.heap.size + 1, 0, none⟩), undef, undef, undef, undef, undef, undef, undef, undef, undef, .agg (List.toArray X), .int .i64 0, .bool false, undef, .pointer (some ⟨w.heap.size, 1, none⟩), .int .i64 x.kind, undef, undef, undef, undef, undef, undef, undef, undef, undef, undef, undef, undef, undef, undef, undef, undef, undef, undef, undef, undef, undef, undef, undef, undef, undef, undef, undef, undef, undef, undef, undef, undef, undef, undef, undef, undef, undef, undef, undef, undef, undef, undef, undef, undef, undef, undef, undef, undef, undef, undef, undef, undef, undef, undef, undef, undef, undef, undef, undef, undef, undef, undef, undef, undef, undef, undef, undef, undef, undef, undef, undef, undef, undef, undef, undef, undef, undef, undef, undef, undef, undef, undef, undef, undef], []⟩) hSm (hSi 1 (by decide)) (fun _ _ h => h) rfl (by kernel_rfl) (by kernel_rfl) (by kernel_rfl) (fun _ _ _ h => h) hS0 (Tame.val rfl (fun w' hA => by have h1 := (hcell _ hA.1).2.1; go_simp)) rfl ?_
    refine wpAnyU_take (i := 2) (A := fun _ => True) (v := .agg (List.toArray (numC x.kind))) (a' := ⟨#[.agg (List.toArray X), .pointer (some ⟨w.heap.size, 0, none⟩), .pointer (some ⟨w.heap.size + 1, 0, none⟩), undef, undef, undef, undef, undef, undef, undef, undef, undef, .agg (List.toArray X), .int .i64 0, .bool false, undef, .pointer (some ⟨w.heap.size, 1, none⟩), .int .i64 x.kind, .agg (List.toArray (numC x.kind)), undef, undef, undef, undef, undef, undef, undef, undef, undef, undef, undef, undef, undef, undef, undef, undef, undef, undef, undef, undef, undef, undef, undef, undef, undef, undef, undef, undef, undef, undef, undef, undef, undef, undef, undef, undef, undef, undef, undef, undef, undef, undef, undef, undef, undef, undef, undef, undef, undef, undef, undef, undef, undef, undef, undef, undef, undef, undef, undef, undef, undef, undef, undef, undef, undef, undef, undef, undef, undef, undef, undef, undef, undef, undef, undef, undef, undef, undef, undef, undef, undef, undef, undef], []⟩) hSm (hSi 2 (by decide)) (fun _ _ _ => trivial) rfl (by kernel_rfl) (by kernel_rfl) (by kernel_rfl) (fun _ _ _ h => h) hS0 (Tame.enter rfl (fun w' => by go_simp) (fun w' _ => rnum21_any _ w')) rfl ?_
    refine wpAnyU_take (i := 3) (A := fun _ => True) (v := .pointer (some ⟨w.heap.size, 2, none⟩)) (a' := ⟨#[.agg (List.toArray X), .pointer (some ⟨w.heap.size, 0, none⟩), .pointer (some ⟨w.heap.size + 1, 0, none⟩), undef, undef, undef, undef, undef, undef, undef, undef, undef, .agg (List.toArray X), .int .i64 0, .bool false, undef, .pointer (some ⟨w.heap.size, 1, none⟩), .int .i64 x.kind, .agg (List.toArray (numC x.kind)), .pointer (some ⟨w.heap.size, 2, none⟩), undef, undef, undef, undef, undef, undef, undef, undef, undef, undef, undef, undef, undef, undef, undef, undef, undef, undef, undef, undef, undef, undef, undef, undef, undef, undef, undef, undef, undef, undef, undef, undef, undef, undef, undef, undef, undef, undef, undef, undef, undef, undef, undef, undef, undef, undef, undef, undef, undef, undef, undef, undef, undef, undef, undef, undef, undef, undef, undef, undef, undef, undef, undef, undef, undef, undef, undef, undef, undef, undef, undef, undef, undef, undef, undef, undef, undef, undef, undef, undef, undef, undef], []⟩) hSm (hSi 3 (by decide)) (fun _ _ _ => trivial) rfl (by kernel_rfl) (by kernel_rfl) (by kernel_rfl) (fun _ _ _ h => h) hS0 (Tame.val rfl (fun w' hA => by go_simp)) rfl ?_
    refine wpAnyU_take (i := 4) (A := SAr w2 w.heap.size X) (v := .int .i64 x.mode) (a' := ⟨#[.agg (List.toArray X), .pointer (some ⟨w.heap.size, 0, none⟩), .pointer (some ⟨w.heap.size + 1, 0, none⟩), undef, undef, undef, undef, undef, undef, undef, undef, undef, .agg (List.toArray X), .int .i64 0, .bool false, undef, .pointer (some ⟨w.heap.size, 1, none⟩), .int .i64 x.kind, .agg (List.toArray (numC x.kind)), .pointer (some ⟨w.heap.size, 2, none⟩), .int .i64 x.mode, undef, undef, undef, undef, undef, undef, undef, undef, undef, undef, undef, undef, undef, undef, undef, undef, undef, undef, undef, undef, undef, undef, undef, undef, undef, undef, undef, undef, undef, undef, undef, undef, undef, undef, undef, undef, undef, undef, undef, undef, undef, undef, undef, undef, undef, undef, undef, undef, undef, undef, undef, undef, undef, undef, undef, undef, undef, undef, undef, undef, undef, undef, undef, undef, undef, undef, undef, undef, undef, undef, undef, undef, undef, undef, undef, undef, undef, undef, undef, undef, undef], []⟩) hSm (hSi 4 (by decide)) (fun _ _ h => h) rfl (by kernel_rfl) (by kernel_rfl) (by kernel_rfl) (fun _ _ _ h => h) hS0 (Tame.val rfl (fun w' hA => by have h1 := (hcell _ hA.1).2.2.1; go_simp)) rfl ?_
    refine wpAnyU_take (i := 5) (A := fun _ => True) (v := .agg (List.toArray (numC x.mode))) (a' := ⟨#[.agg (List.toArray X), .pointer (some ⟨w.heap.size, 0, none⟩), .pointer (some ⟨w.heap.size + 1, 0, none⟩), undef, undef, undef, undef, undef, undef, undef, undef, undef, .agg (List.toArray X), .int .i64 0, .bool false, undef, .pointer (some ⟨w.heap.size, 1, none⟩), .int .i64 x.kind, .agg (List.toArray (numC x.kind)), .pointer (some ⟨w.heap.size, 2, none⟩), .int .i64 x.mode, .agg (List.toArray (numC x.mode)), undef, undef, undef, undef, undef, undef, undef, undef, undef, undef, undef, undef, undef, undef, undef, undef, undef, undef, undef, undef, undef, undef, undef, undef, undef, undef, undef, undef, undef, undef, undef, undef, undef, undef, undef, undef, undef, undef, undef, undef, undef, undef, undef, undef, undef, undef, undef, undef, undef, undef, undef, undef, undef, undef, undef, undef, undef, undef, undef, undef, undef, undef, undef, undef, undef, undef, undef, undef, undef, undef, undef, undef, undef, undef, undef, undef, undef, undef, undef, undef], []⟩) hSm (hSi 5 (by decide)) (fun _ _ _ => trivial) rfl (by kernel_rfl) (by kernel_rfl) (by kernel_rfl) (fun _ _ _ h => h) hS0 (Tame.enter rfl (fun w' => by go_simp) (fun w' _ => rnum21_any _ w')) rfl ?_
    refine wpAnyU_all (rs := [6, 7]) (by kernel_rfl) (by decide) ?_
    intro wA hmA i hi
    obtain hi | hi : i = 6 ∨ i = 7 := by simpa using hi
    · subst hi
      refine wpOp_val (v := .pointer (some ⟨wA.heap.size, 0, none⟩)) (w' := wA.alloc (.cells zV 50)) (a' := ⟨#[.agg (List.toArray X), .pointer (some ⟨w.heap.size, 0, none⟩), .pointer (some ⟨w.heap.size + 1, 0, none⟩), .pointer (some ⟨wA.heap.size, 0, none⟩), undef, undef, undef, undef, undef, undef, undef, undef, .agg (List.toArray X), .int .i64 0, .bool false, undef, .pointer (some ⟨w.heap.size, 1, none⟩), .int .i64 x.kind, .agg (List.toArray (numC x.kind)), .pointer (some ⟨w.heap.size, 2, none⟩), .int .i64 x.mode, .agg (List.toArray (numC x.mode)), undef, undef, undef, undef, undef, undef, undef, undef, undef, undef, undef, undef, undef, undef, undef, undef, undef, undef, undef, undef, undef, undef, undef, undef, undef, undef, undef, undef, undef, undef, undef, undef, undef, undef, undef, undef, undef, undef, undef, undef, undef, undef, undef, undef, undef, undef, undef, undef, undef, undef, undef, undef, undef, undef, undef, undef, undef, undef, undef, undef, undef, undef, undef, undef, undef, undef, undef, undef, undef, undef, undef, undef, undef, undef, undef, undef, undef, undef, undef, undef], []⟩) rfl rfl (run_alV) rfl ?_
      have hSA := hSm #[] _ _ hS0 hmA
      have hmB : Mo wA (wA.alloc (.cells zV 50)) := (Below.refl _ _).alloc (Nat.le_refl _) _
      have hSB := hSm #[] _ _ hSA hmB
      refine ⟨hSB, ?_⟩
      have hBB : Blk (wA.alloc (.cells zV 50)) wA.heap.size 50 zV.toList := Blk.new _ _ _
      have hgB : w2.heap.size ≤ wA.heap.size := hSA.2.size
      have hgB2 : wA.heap.size < (wA.alloc (.cells zV 50)).heap.size := hBB.lt
      generalize wA.alloc (.cells zV 50) = wB at *
      generalize wA.heap.size = gB at *
      refine wpAnyU_all (rs := [7]) (by kernel_rfl) (by decide) ?_
      intro wC hmC i hi
      obtain rfl : i = 7 := by simpa using hi
      refine wpOp_val (v := .pointer (some ⟨wC.heap.size, 0, none⟩)) (w' := wC.alloc (.cells zV 50)) (a' := ⟨#[.agg (List.toArray X), .pointer (some ⟨w.heap.size, 0, none⟩), .pointer (some ⟨w.heap.size + 1, 0, none⟩), .pointer (some ⟨gB, 0, none⟩), .pointer (some ⟨wC.heap.size, 0, none⟩), undef, undef, undef, undef, undef, undef, undef, .agg (List.toArray X), .int .i64 0, .bool false, undef, .pointer (some ⟨w.heap.size, 1, none⟩), .int .i64 x.kind, .agg (List.toArray (numC x.kind)), .pointer (some ⟨w.heap.size, 2, none⟩), .int .i64 x.mode, .agg (List.toArray (numC x.mode)), undef, undef, undef, undef, undef, undef, undef, undef, undef, undef, undef, undef, undef, undef, undef, undef, undef, undef, undef, undef, undef, undef, undef, undef, undef, undef, undef, undef, undef, undef, undef, undef, undef, undef, undef, undef, undef, undef, undef, undef, undef, undef, undef, undef, undef, undef, undef, undef, undef, undef, undef, undef, undef, undef, undef, undef, undef, undef, undef, undef, undef, undef, undef, undef, undef, undef, undef, undef, undef, undef, undef, undef, undef, undef, undef, undef, undef, undef, undef, undef], []⟩) rfl rfl (run_alV) rfl ?_
      have hSC := hSm #[] _ _ hSB hmC
      have hmD : Mo wC (wC.alloc (.cells zV 50)) := (Below.refl _ _).alloc (Nat.le_refl _) _
      have hSD := hSm #[] _ _ hSC hmD
      refine ⟨hSD, ?_⟩
      have hBD : Blk (wC.alloc (.cells zV 50)) wC.heap.size 50 zV.toList := Blk.new _ _ _
      have hBB2 := (hBB.below hmC).below hmD
      have hgD : w2.heap.size ≤ wC.heap.size := hSC.2.size
      have hgBD : gB < wC.heap.size := Nat.lt_of_lt_of_le hgB2 hmC.size'
      generalize wC.alloc (.cells zV 50) = wD at *
      generalize wC.heap.size = gD at *
      refine wpAnyU_all (rs := [8]) (by kernel_rfl) (by decide) ?_
      intro wE hmE i hi
      obtain rfl : i = 8 := by simpa using hi
      obtain ⟨wF, qsF, hBF, hgF⟩ := stOp_blk (P := Tryz.prog) (ty := 50) (o := 0) (cs := (numC x.kind)) (hBB2.below hmE) (by simp [zV, numC, txtS]) sizeV (by intro u hu; simp [numC, txtS] at hu; rcases hu with rfl | rfl | rfl | rfl | rfl | rfl <;> rfl)
      rw [show zV.toList.take 0 ++ (numC x.kind) ++ zV.toList.drop (0 + ((numC x.kind) : List Value).length) = (numC x.kind) by simp [zV, numC, txtS]] at hBF
      refine wpOp_skip (w' := wF) (a' := ⟨#[.agg (List.toArray X), .pointer (some ⟨w.heap.size, 0, none⟩), .pointer (some ⟨w.heap.size + 1, 0, none⟩), .pointer (some ⟨gB, 0, none⟩), .pointer (some ⟨gD, 0, none⟩), undef, undef, undef, undef, undef, undef, undef, .agg (List.toArray X), .int .i64 0, .bool false, undef, .pointer (some ⟨w.heap.size, 1, none⟩), .int .i64 x.kind, .agg (List.toArray (numC x.kind)), .pointer (some ⟨w.heap.size, 2, none⟩), .int .i64 x.mode, .agg (List.toArray (numC x.mode)), undef, undef, undef, undef, undef, undef, undef, undef, undef, undef, undef, undef, undef, undef, undef, undef, undef, undef, undef, undef, undef, undef, undef, undef, undef, undef, undef, undef, undef, undef, undef, undef, undef, undef, undef, undef, undef, undef, undef, undef, undef, undef, undef, undef, undef, undef, undef, undef, undef, undef, undef, undef, undef, undef, undef, undef, undef, undef, undef, undef, undef, undef, undef, undef, undef, undef, undef, undef, undef, undef, undef, undef, undef, undef, undef, undef, undef, undef, undef, undef], []⟩) rfl rfl (run_stoOp qsF) rfl ?_
      have hSE := hSm #[] _ _ hSD hmE
      have hSF : SAr w2 w.heap.size X wF := hSE.stored hgF (by omega)
      refine ⟨hSF, ?_⟩
      have hO2 := (hBD.below hmE).grown hgF (by omega)
      refine wpAnyU_all (rs := [9]) (by kernel_rfl) (by decide) ?_
      intro wG hmG i hi
      obtain rfl : i = 9 := by simpa using hi
      obtain ⟨wH, qsH, hBH, hgH⟩ := stOp_blk (P := Tryz.prog) (ty := 50) (o := 0) (cs := (numC x.mode)) (hO2.below hmG) (by simp [zV, numC, txtS]) sizeV (by intro u hu; simp [numC, txtS] at hu; rcases hu with rfl | rfl | rfl | rfl | rfl | rfl <;> rfl)
      rw [show zV.toList.take 0 ++ (numC x.mode) ++ zV.toList.drop (0 + ((numC x.mode) : List Value).length) = (numC x.mode) by simp [zV, numC, txtS]] at hBH
      refine wpOp_skip (w' := wH) (a' := ⟨#[.agg (List.toArray X), .pointer (some ⟨w.heap.size, 0, none⟩), .pointer (some ⟨w.heap.size + 1, 0, none⟩), .pointer (some ⟨gB, 0, none⟩), .pointer (some ⟨gD, 0, none⟩), undef, undef, undef, undef, undef, undef, undef, .agg (List.toArray X), .int .i64 0, .bool false, undef, .pointer (some ⟨w.heap.size, 1, none⟩), .int .i64 x.kind, .agg (List.toArray (numC x.kind)), .pointer (some ⟨w.heap.size, 2, none⟩), .int .i64 x.mode, .agg (List.toArray (numC x.mode)), undef, undef, undef, undef, undef, undef, undef, undef, undef, undef, undef, undef, undef, undef, undef, undef, undef, undef, undef, undef, undef, undef, undef, undef, undef, undef, undef, undef, undef, undef, undef, undef, undef, undef, undef, undef, undef, undef, undef, undef, undef, undef, undef, undef, undef, undef, undef, undef, undef, undef, undef, undef, undef, undef, undef, undef, undef, undef, undef, undef, undef, undef, undef, undef, undef, undef, undef, undef, undef, undef, undef, undef, undef, undef, undef, undef, undef, undef, undef, undef], []⟩) rfl rfl (run_stoOp qsH) rfl ?_
      have hSG := hSm #[] _ _ hSF hmG
      have hSH : SAr w2 w.heap.size X wH := hSG.stored hgH (by omega)
      refine ⟨hSH, ?_⟩
      have hBF2 := (hBF.below hmG).grown hgH (by omega)
      refine wpAnyU_done (by kernel_rfl) ?_ _
      intro wZ hmZ
      have hSZ := hSm #[] _ _ hSH hmZ
      have hfin : ∃ p q : Nat, Value.pointer (some ⟨gB, 0, none⟩) = .pointer (some ⟨p, 0, none⟩) ∧ Value.pointer (some ⟨gD, 0, none⟩) = .pointer (some ⟨q, 0, none⟩) ∧ w2.heap.size ≤ p ∧ w2.heap.size ≤ q ∧ Blk wZ p 50 (numC x.kind) ∧ Blk wZ q 50 (numC x.mode) ∧ Below w2.heap.size w2 wZ := ⟨gB, gD, rfl, rfl, by omega, by omega, hBF2.below hmZ, hBH.below hmZ, hSZ.2⟩
      go_wp2_with fail
      go_meet
      exact hfin
    · subst hi
      refine wpOp_val (v := .pointer (some ⟨wA.heap.size, 0, none⟩)) (w' := wA.alloc (.cells zV 50)) (a' := ⟨#[.agg (List.toArray X), .pointer (some ⟨w.heap.size, 0, none⟩), .pointer (some ⟨w.heap.size + 1, 0, none⟩), undef, .pointer (some ⟨wA.heap.size, 0, none⟩), undef, undef, undef, undef, undef, undef, undef, .agg (List.toArray X), .int .i64 0, .bool false, undef, .pointer (some ⟨w.heap.size, 1, none⟩), .int .i64 x.kind, .agg (List.toArray (numC x.kind)), .pointer (some ⟨w.heap.size, 2, none⟩), .int .i64 x.mode, .agg (List.toArray (numC x.mode)), undef, undef, undef, undef, undef, undef, undef, undef, undef, undef, undef, undef, undef, undef, undef, undef, undef, undef, undef, undef, undef, undef, undef, undef, undef, undef, undef, undef, undef, undef, undef, undef, undef, undef, undef, undef, undef, undef, undef, undef, undef, undef, undef, undef, undef, undef, undef, undef, undef, undef, undef, undef, undef, undef, undef, undef, undef, undef, undef, undef, undef, undef, undef, undef, undef, undef, undef, undef, undef, undef, undef, undef, undef, undef, undef, undef, undef, undef, undef, undef], []⟩) rfl rfl (run_alV) rfl ?_
      have hSA := hSm #[] _ _ hS0 hmA
      have hmB : Mo wA (wA.alloc (.cells zV 50)) := (Below.refl _ _).alloc (Nat.le_refl _) _
      have hSB := hSm #[] _ _ hSA hmB
      refine ⟨hSB, ?_⟩
      have hBB : Blk (wA.alloc (.cells zV 50)) wA.heap.size 50 zV.toList := Blk.new _ _ _
      have hgB : w2.heap.size ≤ wA.heap.size := hSA.2.size
      have hgB2 : wA.heap.size < (wA.alloc (.cells zV 50)).heap.size := hBB.lt
      generalize wA.alloc (.cells zV 50) = wB at *
      generalize wA.heap.size = gB at *
      refine wpAnyU_all (rs := [6]) (by kernel_rfl) (by decide) ?_
      intro wC hmC i hi
      obtain rfl : i = 6 := by simpa using hi
      refine wpOp_val (v := .pointer (some ⟨wC.heap.size, 0, none⟩)) (w' := wC.alloc (.cells zV 50)) (a' := ⟨#[.agg (List.toArray X), .pointer (some ⟨w.heap.size, 0, none⟩), .pointer (some ⟨w.heap.size + 1, 0, none⟩), .pointer (some ⟨wC.heap.size, 0, none⟩), .pointer (some ⟨gB, 0, none⟩), undef, undef, undef, undef, undef, undef, undef, .agg (List.toArray X), .int .i64 0, .bool false, undef, .pointer (some ⟨w.heap.size, 1, none⟩), .int .i64 x.kind, .agg (List.toArray (numC x.kind)), .pointer (some ⟨w.heap.size, 2, none⟩), .int .i64 x.mode, .agg (List.toArray (numC x.mode)), undef, undef, undef, undef, undef, undef, undef, undef, undef, undef, undef, undef, undef, undef, undef, undef, undef, undef, undef, undef, undef, undef, undef, undef, undef, undef, undef, undef, undef, undef, undef, undef, undef, undef, undef, undef, undef, undef, undef, undef, undef, undef, undef, undef, undef, undef, undef, undef, undef, undef, undef, undef, undef, undef, undef, undef, undef, undef, undef, undef, undef, undef, undef, undef, undef, undef, undef, undef, undef, undef, undef, undef, undef, undef, undef, undef, undef, undef, undef, undef], []⟩) rfl rfl (run_alV) rfl ?_
      have hSC := hSm #[] _ _ hSB hmC
      have hmD : Mo wC (wC.alloc (.cells zV 50)) := (Below.refl _ _).alloc (Nat.le_refl _) _
      have hSD := hSm #[] _ _ hSC hmD
      refine ⟨hSD, ?_⟩
      have hBD : Blk (wC.alloc (.cells zV 50)) wC.heap.size 50 zV.toList := Blk.new _ _ _
      have hBB2 := (hBB.below hmC).below hmD
      have hgD : w2.heap.size ≤ wC.heap.size := hSC.2.size
      have hgBD : gB < wC.heap.size := Nat.lt_of_lt_of_le hgB2 hmC.size'
      generalize wC.alloc (.cells zV 50) = wD at *
      generalize wC.heap.size = gD at *
      refine wpAnyU_all (rs := [8]) (by kernel_rfl) (by decide) ?_
      intro wE hmE i hi
      obtain rfl : i = 8 := by simpa using hi
      obtain ⟨wF, qsF, hBF, hgF⟩ := stOp_blk (P := Tryz.prog) (ty := 50) (o := 0) (cs := (numC x.kind)) (hBD.below hmE) (by simp [zV, numC, txtS]) sizeV (by intro u hu; simp [numC, txtS] at hu; rcases hu with rfl | rfl | rfl | rfl | rfl | rfl <;> rfl)
      rw [show zV.toList.take 0 ++ (numC x.kind) ++ zV.toList.drop (0 + ((numC x.kind) : List Value).length) = (numC x.kind) by simp [zV, numC, txtS]] at hBF
      refine wpOp_skip (w' := wF) (a' := ⟨#[.agg (List.toArray X), .pointer (some ⟨w.heap.size, 0, none⟩), .pointer (some ⟨w.heap.size + 1, 0, none⟩), .pointer (some ⟨gD, 0, none⟩), .pointer (some ⟨gB, 0, none⟩), undef, undef, undef, undef, undef, undef, undef, .agg (List.toArray X), .int .i64 0, .bool false, undef, .pointer (some ⟨w.heap.size, 1, none⟩), .int .i64 x.kind, .agg (List.toArray (numC x.kind)), .pointer (some ⟨w.heap.size, 2, none⟩), .int .i64 x.mode, .agg (List.toArray (numC x.mode)), undef, undef, undef, undef, undef, undef, undef, undef, undef, undef, undef, undef, undef, undef, undef, undef, undef, undef, undef, undef, undef, undef, undef, undef, undef, undef, undef, undef, undef, undef, undef, undef, undef, undef, undef, undef, undef, undef, undef, undef, undef, undef, undef, undef, undef, undef, undef, undef, undef, undef, undef, undef, undef, undef, undef, undef, undef, undef, undef, undef, undef, undef, undef, undef, undef, undef, undef, undef, undef, undef, undef, undef, undef, undef, undef, undef, undef, undef, undef, undef], []⟩) rfl rfl (run_stoOp qsF) rfl ?_
      have hSE := hSm #[] _ _ hSD hmE
      have hSF : SAr w2 w.heap.size X wF := hSE.stored hgF (by omega)
      refine ⟨hSF, ?_⟩
      have hO2 := (hBB2.below hmE).grown hgF (by omega)
      refine wpAnyU_all (rs := [9]) (by kernel_rfl) (by decide) ?_
      intro wG hmG i hi
      obtain rfl : i = 9 := by simpa using hi
      obtain ⟨wH, qsH, hBH, hgH⟩ := stOp_blk (P := Tryz.prog) (ty := 50) (o := 0) (cs := (numC x.mode)) (hO2.below hmG) (by simp [zV, numC, txtS]) sizeV (by intro u hu; simp [numC, txtS] at hu; rcases hu with rfl | rfl | rfl | rfl | rfl | rfl <;> rfl)
      rw [show zV.toList.take 0 ++ (numC x.mode) ++ zV.toList.drop (0 + ((numC x.mode) : List Value).length) = (numC x.mode) by simp [zV, numC, txtS]] at hBH
      refine wpOp_skip (w' := wH) (a' := ⟨#[.agg (List.toArray X), .pointer (some ⟨w.heap.size, 0, none⟩), .pointer (some ⟨w.heap.size + 1, 0, none⟩), .pointer (some ⟨gD, 0, none⟩), .pointer (some ⟨gB, 0, none⟩), undef, undef, undef, undef, undef, undef, undef, .agg (List.toArray X), .int .i64 0, .bool false, undef, .pointer (some ⟨w.heap.size, 1, none⟩), .int .i64 x.kind, .agg (List.toArray (numC x.kind)), .pointer (some ⟨w.heap.size, 2, none⟩), .int .i64 x.mode, .agg (List.toArray (numC x.mode)), undef, undef, undef, undef, undef, undef, undef, undef, undef, undef, undef, undef, undef, undef, undef, undef, undef, undef, undef, undef, undef, undef, undef, undef, undef, undef, undef, undef, undef, undef, undef, undef, undef, undef, undef, undef, undef, undef, undef, undef, undef, undef, undef, undef, undef, undef, undef, undef, undef, undef, undef, undef, undef, undef, undef, undef, undef, undef, undef, undef, undef, undef, undef, undef, undef, undef, undef, undef, undef, undef, undef, undef, undef, undef, undef, undef, undef, undef, undef, undef], []⟩) rfl rfl (run_stoOp qsH) rfl ?_
      have hSG := hSm #[] _ _ hSF hmG
      have hSH : SAr w2 w.heap.size X wH := hSG.stored hgH (by omega)
      refine ⟨hSH, ?_⟩
      have hBF2 := (hBF.below hmG).grown hgH (by omega)
      refine wpAnyU_done (by kernel_rfl) ?_ _
      intro wZ hmZ
      have hSZ := hSm #[] _ _ hSH hmZ
      have hfin : ∃ p q : Nat, Value.pointer (some ⟨gD, 0, none⟩) = .pointer (some ⟨p, 0, none⟩) ∧ Value.pointer (some ⟨gB, 0, none⟩) = .pointer (some ⟨q, 0, none⟩) ∧ w2.heap.size ≤ p ∧ w2.heap.size ≤ q ∧ Blk wZ p 50 (numC x.kind) ∧ Blk wZ q 50 (numC x.mode) ∧ Below w2.heap.size w2 wZ := ⟨gD, gB, rfl, rfl, by omega, by omega, hBF2.below hmZ, hBH.below hmZ, hSZ.2⟩
      go_wp2_with fail
      go_meet
      exact hfin
    --END3
  case rest =>
  obtain ⟨p3, p4, rfl, rfl, hp3, hp4, B3, B4, hbc⟩ := hcut
  generalize wc = w3 at *
  have A3 := A2.below hbc
  have R3 := R2.below hbc
  have hb3 := hb02.trans (hbc.mono hb02.size)
  have hs3 := hbc.size
  clear A2 R2 hb02
  go_upto_region 4 with (fail)
  go_cut [5, 6] (fun u5 u6 wx => ∃ p q : Nat, u5 = .pointer (some ⟨p, 0, none⟩) ∧ u6 = .pointer (some ⟨q, 0, none⟩) ∧ w3.heap.size ≤ p ∧ w3.heap.size ≤ q ∧ Blk wx p 50 (txtS x.path) ∧ Blk wx q 50 (numC x.time) ∧ Below w3.heap.size w3 wx)
  case first =>
    --REGION4
    have hSm : ∀ (L : Array Bool) (v1 v2 : World), SAr w3 w.heap.size X v1 → Mo v1 v2 → SAr w3 w.heap.size X v2 := fun _ v1 v2 h hm => ⟨h.1.below hm, h.2.trans (hm.mono h.2.size)⟩
    have hSi : ∀ i, i ≠ 99 → ∀ (L : Array Bool) (v1 : World), SAr w3 w.heap.size X v1 ↔ SAr w3 w.heap.size X v1 := fun _ _ _ _ => Iff.rfl
    have hS0 : SAr w3 w.heap.size X (w3.drewN 1) := ⟨A3, Below.drewN (Below.refl _ _) 1⟩
    refine wp_region_upN (S := fun _ w1 => SAr w3 w.heap.size X w1) 10 rfl (by kernel_rfl) ?_
    refine wpAnyU_take (i := 0) (A := fun _ => True) (v := .pointer (some ⟨w.heap.size, 0, none⟩)) (a' := ⟨#[.agg (List.toArray X), .pointer (some ⟨w.heap.size, 0, none⟩), .pointer (some ⟨w.heap.size + 1, 0, none⟩), .pointer (some ⟨p3, 0, none⟩), .pointer (some ⟨p4, 0, none⟩), undef, undef, undef, undef, undef, undef, undef, u12, u13, u14, u15, u16, u17, u18, u19, u20, u21, .pointer (some ⟨w.heap.size, 0, none⟩), u23, u24, u25, u26, u27, u28, u29, u30, u31, u32, u33, u34, u35, u36, u37, u38, u39, u40, u41, u42, u43, u44, u45, u46, u47, u48, u49, u50, u51, u52, u53, u54, u55, u56, u57, u58, u59, u60, u61, u62, u63, u64, u65, u66, u67, u68, u69, u70, u71, u72, u73, u74, u75, u76, u77, u78, u79, u80, u81, u82, u83, u84, u85, u86, u87, u88, u89, u90, u91, u92, u93, u94, u95, u96, u97, u98, u99, u100, u101], []⟩) hSm (hSi 0 (by decide)) (fun _ _ _ => trivial) rfl (by kernel_rfl) (by kernel_rfl) (by kernel_rfl) (fun _ _ _ h => h) hS0 (Tame.val rfl (fun w' hA => by go_simp)) rfl ?_
    refine wpAnyU_take (i := 1) (A := SAr w3 w.heap.size X) (v := .string (str x.path)) (a' := ⟨#[.agg (List.toArray X), .pointer (some ⟨w.heap.size, 0, none⟩), .pointer (some ⟨w.heap.size + 1, 0, none⟩), .pointer (some ⟨p3, 0, none⟩), .pointer (some ⟨p4, 0, none⟩), undef, undef, undef, undef, undef, undef, undef, u12, u13, u14, u15, u16, u17, u18, u19, u20, u21, .pointer (some ⟨w.heap.size, 0, none⟩), .string (str x.path), u24, u25, u26, u27, u28, u29, u30, u31, u32, u33, u34, u35, u36, u37, u38, u39, u40, u41, u42, u43, u44, u45, u46, u47, u48, u49, u50, u51, u52, u53, u54, u55, u56, u57, u58, u59, u60, u61, u62, u63, u64, u65, u66, u67, u68, u69, u70, u71, u72, u73, u74, u75, u76, u77, u78, u79, u80, u81, u82, u83, u84, u85, u86, u87, u88, u89, u90, u91, u92, u93, u94, u95, u96, u97, u98, u99, u100, u101], []⟩) hSm (hSi 1 (by decide)) (fun _ _ h => h) rfl (by kernel_rfl) (by kernel_rfl) (by kernel_rfl) (fun _ _ _ h => h) hS0 (Tame.val rfl (fun w' hA => by have h1 := (hcell _ hA.1).1; go_simp)) rfl ?_
    refine wpAnyU_take (i := 2) (A := fun _ => True) (v := .agg (List.toArray (txtS x.path))) (a' := ⟨#[.agg (List.toArray X), .pointer (some ⟨w.heap.size, 0, none⟩), .pointer (some ⟨w.heap.size + 1, 0, none⟩), .pointer (some ⟨p3, 0, none⟩), .pointer (some ⟨p4, 0, none⟩), undef, undef, undef, undef, undef, undef, undef, u12, u13, u14, u15, u16, u17, u18, u19, u20, u21, .pointer (some ⟨w.heap.size, 0, none⟩), .string (str x.path), .agg (List.toArray (txtS x.path)), u25, u26, u27, u28, u29, u30, u31, u32, u33, u34, u35, u36, u37, u38, u39, u40, u41, u42, u43, u44, u45, u46, u47, u48, u49, u50, u51, u52, u53, u54, u55, u56, u57, u58, u59, u60, u61, u62, u63, u64, u65, u66, u67, u68, u69, u70, u71, u72, u73, u74, u75, u76, u77, u78, u79, u80, u81, u82, u83, u84, u85, u86, u87, u88, u89, u90, u91, u92, u93, u94, u95, u96, u97, u98, u99, u100, u101], []⟩) hSm (hSi 2 (by decide)) (fun _ _ _ => trivial) rfl (by kernel_rfl) (by kernel_rfl) (by kernel_rfl) (fun _ _ _ h => h) hS0 (Tame.val rfl (fun w' hA => by go_simp; rfl)) rfl ?_
    refine wpAnyU_take (i := 3) (A := fun _ => True) (v := .pointer (some ⟨w.heap.size, 3, none⟩)) (a' := ⟨#[.agg (List.toArray X), .pointer (some ⟨w.heap.size, 0, none⟩), .pointer (some ⟨w.heap.size + 1, 0, none⟩), .pointer (some ⟨p3, 0, none⟩), .pointer (some ⟨p4, 0, none⟩), undef, undef, undef, undef, undef, undef, undef, u12, u13, u14, u15, u16, u17, u18, u19, u20, u21, .pointer (some ⟨w.heap.size, 0, none⟩), .string (str x.path), .agg (List.toArray (txtS x.path)), .pointer (some ⟨w.heap.size, 3, none⟩), u26, u27, u28, u29, u30, u31, u32, u33, u34, u35, u36, u37, u38, u39, u40, u41, u42, u43, u44, u45, u46, u47, u48, u49, u50, u51, u52, u53, u54, u55, u56, u57, u58, u59, u60, u61, u62, u63, u64, u65, u66, u67, u68, u69, u70, u71, u72, u73, u74, u75, u76, u77, u78, u79, u80, u81, u82, u83, u84, u85, u86, u87, u88, u89, u90, u91, u92, u93, u94, u95, u96, u97, u98, u99, u100, u101], []⟩) hSm (hSi 3 (by decide)) (fun _ _ _ => trivial) rfl (by kernel_rfl) (by kernel_rfl) (by kernel_rfl) (fun _ _ _ h => h) hS0 (Tame.val rfl (fun w' hA => by go_simp)) rfl ?_
    refine wpAnyU_take (i := 4) (A := SAr w3 w.heap.size X) (v := .int .i64 x.time) (a' := ⟨#[.agg (List.toArray X), .pointer (some ⟨w.heap.size, 0, none⟩), .pointer (some ⟨w.heap.size + 1, 0, none⟩), .pointer (some ⟨p3, 0, none⟩), .pointer (some ⟨p4, 0, none⟩), undef, undef, undef, undef, undef, undef, undef, u12, u13, u14, u15, u16, u17, u18, u19, u20, u21, .pointer (some ⟨w.heap.size, 0, none⟩), .string (str x.path), .agg (List.toArray (txtS x.path)), .pointer (some ⟨w.heap.size, 3, none⟩), .int .i64 x.time, u27, u28, u29, u30, u31, u32, u33, u34, u35, u36, u37, u38, u39, u40, u41, u42, u43, u44, u45, u46, u47, u48, u49, u50, u51, u52, u53, u54, u55, u56, u57, u58, u59, u60, u61, u62, u63, u64, u65, u66, u67, u68, u69, u70, u71, u72, u73, u74, u75, u76, u77, u78, u79, u80, u81, u82, u83, u84, u85, u86, u87, u88, u89, u90, u91, u92, u93, u94, u95, u96, u97, u98, u99, u100, u101], []⟩) hSm (hSi 4 (by decide)) (fun _ _ h => h) rfl (by kernel_rfl) (by kernel_rfl) (by kernel_rfl) (fun _ _ _ h => h) hS0 (Tame.val rfl (fun w' hA => by have h1 := (hcell _ hA.1).2.2.2.1; go_simp)) rfl ?_
    refine wpAnyU_take (i := 5) (A := fun _ => True) (v := .agg (List.toArray (numC x.time))) (a' := ⟨#[.agg (List.toArray X), .pointer (some ⟨w.heap.size, 0, none⟩), .pointer (some ⟨w.heap.size + 1, 0, none⟩), .pointer (some ⟨p3, 0, none⟩), .pointer (some ⟨p4, 0, none⟩), undef, undef, undef, undef, undef, undef, undef, u12, u13, u14, u15, u16, u17, u18, u19, u20, u21, .pointer (some ⟨w.heap.size, 0, none⟩), .string (str x.path), .agg (List.toArray (txtS x.path)), .pointer (some ⟨w.heap.size, 3, none⟩), .int .i64 x.time, .agg (List.toArray (numC x.time)), u28, u29, u30, u31, u32, u33, u34, u35, u36, u37, u38, u39, u40, u41, u42, u43, u44, u45, u46, u47, u48, u49, u50, u51, u52, u53, u54, u55, u56, u57, u58, u59, u60, u61, u62, u63, u64, u65, u66, u67, u68, u69, u70, u71, u72, u73, u74, u75, u76, u77, u78, u79, u80, u81, u82, u83, u84, u85, u86, u87, u88, u89, u90, u91, u92, u93, u94, u95, u96, u97, u98, u99, u100, u101], []⟩) hSm (hSi 5 (by decide)) (fun _ _ _ => trivial) rfl (by kernel_rfl) (by kernel_rfl) (by kernel_rfl) (fun _ _ _ h => h) hS0 (Tame.enter rfl (fun w' => by go_simp) (fun w' _ => rnum21_any _ w')) rfl ?_
    refine wpAnyU_all (rs := [6, 7]) (by kernel_rfl) (by decide) ?_
    intro wA hmA i hi
    obtain hi | hi : i = 6 ∨ i = 7 := by simpa using hi
    · subst hi
      refine wpOp_val (v := .pointer (some ⟨wA.heap.size, 0, none⟩)) (w' := wA.alloc (.cells zV 50)) (a' := ⟨#[.agg (List.toArray X), .pointer (some ⟨w.heap.size, 0, none⟩), .pointer (some ⟨w.heap.size + 1, 0, none⟩), .pointer (some ⟨p3, 0, none⟩), .pointer (some ⟨p4, 0, none⟩), .pointer (some ⟨wA.heap.size, 0, none⟩), undef, undef, undef, undef, undef, undef, u12, u13, u14, u15, u16, u17, u18, u19, u20, u21, .pointer (some ⟨w.heap.size, 0, none⟩), .string (str x.path), .agg (List.toArray (txtS x.path)), .pointer (some ⟨w.heap.size, 3, none⟩), .int .i64 x.time, .agg (List.toArray (numC x.time)), u28, u29, u30, u31, u32, u33, u34, u35, u36, u37, u38, u39, u40, u41, u42, u43, u44, u45, u46, u47, u48, u49, u50, u51, u52, u53, u54, u55, u56, u57, u58, u59, u60, u61, u62, u63, u64, u65, u66, u67, u68, u69, u70, u71, u72, u73, u74, u75, u76, u77, u78, u79, u80, u81, u82, u83, u84, u85, u86, u87, u88, u89, u90, u91, u92, u93, u94, u95, u96, u97, u98, u99, u100, u101], []⟩) rfl rfl (run_alV) rfl ?_
      have hSA := hSm #[] _ _ hS0 hmA
      have hmB : Mo wA (wA.alloc (.cells zV 50)) := (Below.refl _ _).alloc (Nat.le_refl _) _
      have hSB := hSm #[] _ _ hSA hmB
      refine ⟨hSB, ?_⟩
      have hBB : Blk (wA.alloc (.cells zV 50)) wA.heap.size 50 zV.toList := Blk.new _ _ _
      have hgB : w3.heap.size ≤ wA.heap.size := hSA.2.size
      have hgB2 : wA.heap.size < (wA.alloc (.cells zV 50)).heap.size := hBB.lt
      generalize wA.alloc (.cells zV 50) = wB at *
      generalize wA.heap.size = gB at *
      refine wpAnyU_all (rs := [7]) (by kernel_rfl) (by decide) ?_
      intro wC hmC i hi
      obtain rfl : i = 7 := by simpa using hi
      refine wpOp_val (v := .pointer (some ⟨wC.heap.size, 0, none⟩)) (w' := wC.alloc (.cells zV 50)) (a' := ⟨#[.agg (List.toArray X), .pointer (some ⟨w.heap.size, 0, none⟩), .pointer (some ⟨w.heap.size + 1, 0, none⟩), .pointer (some ⟨p3, 0, none⟩), .pointer (some ⟨p4, 0, none⟩), .pointer (some ⟨gB, 0, none⟩), .pointer (some ⟨wC.heap.size, 0, none⟩), undef, undef, undef, undef, undef, u12, u13, u14, u15, u16, u17, u18, u19, u20, u21, .pointer (some ⟨w.heap.size, 0, none⟩), .string (str x.path), .agg (List.toArray (txtS x.path)), .pointer (some ⟨w.heap.size, 3, none⟩), .int .i64 x.time, .agg (List.toArray (numC x.time)), u28, u29, u30, u31, u32, u33, u34, u35, u36, u37, u38, u39, u40, u41, u42, u43, u44, u45, u46, u47, u48, u49, u50, u51, u52, u53, u54, u55, u56, u57, u58, u59, u60, u61, u62, u63, u64, u65, u66, u67, u68, u69, u70, u71, u72, u73, u74, u75, u76, u77, u78, u79, u80, u81, u82, u83, u84, u85, u86, u87, u88, u89, u90, u91, u92, u93, u94, u95, u96, u97, u98, u99, u100, u101], []⟩) rfl rfl (run_alV) rfl ?_
      have hSC := hSm #[] _ _ hSB hmC
      have hmD : Mo wC (wC.alloc (.cells zV 50)) := (Below.refl _ _).alloc (Nat.le_refl _) _
      have hSD := hSm #[] _ _ hSC hmD
      refine ⟨hSD, ?_⟩
      have hBD : Blk (wC.alloc (.cells zV 50)) wC.heap.size 50 zV.toList := Blk.new _ _ _
      have hBB2 := (hBB.below hmC).below hmD
      have hgD : w3.heap.size ≤ wC.heap.size := hSC.2.size
      have hgBD : gB < wC.heap.size := Nat.lt_of_lt_of_le hgB2 hmC.size'
      generalize wC.alloc (.cells zV 50) = wD at *
      generalize wC.heap.size = gD at *
      refine wpAnyU_all (rs := [8]) (by kernel_rfl) (by decide) ?_
      intro wE hmE i hi
      obtain rfl : i = 8 := by simpa using hi
      obtain ⟨wF, qsF, hBF, hgF⟩ := stOp_blk (P := Tryz.prog) (ty := 50) (o := 0) (cs := (txtS x.path)) (hBB2.below hmE) (by simp [zV, numC, txtS]) sizeV (by intro u hu; simp [numC, txtS] at hu; rcases hu with rfl | rfl | rfl | rfl | rfl | rfl <;> rfl)
      rw [show zV.toList.take 0 ++ (txtS x.path) ++ zV.toList.drop (0 + ((txtS x.path) : List Value).length) = (txtS x.path) by simp [zV, numC, txtS]] at hBF
      refine wpOp_skip (w' := wF) (a' := ⟨#[.agg (List.toArray X), .pointer (some ⟨w.heap.size, 0, none⟩), .pointer (some ⟨w.heap.size + 1, 0, none⟩), .pointer (some ⟨p3, 0, none⟩), .pointer (some ⟨p4, 0, none⟩), .pointer (some ⟨gB, 0, none⟩), .pointer (some ⟨gD, 0, none⟩), undef, undef, undef, undef, undef, u12, u13, u14, u15, u16, u17, u18, u19, u20, u21, .pointer (some ⟨w.heap.size, 0, none⟩), .string (str x.path), .agg (List.toArray (txtS x.path)), .pointer (some ⟨w.heap.size, 3, none⟩), .int .i64 x.time, .agg (List.toArray (numC x.time)), u28, u29, u30, u31, u32, u33, u34, u35, u36, u37, u38, u39, u40, u41, u42, u43, u44, u45, u46, u47, u48, u49, u50, u51, u52, u53, u54, u55, u56, u57, u58, u59, u60, u61, u62, u63, u64, u65, u66, u67, u68, u69, u70, u71, u72, u73, u74, u75, u76, u77, u78, u79, u80, u81, u82, u83, u84, u85, u86, u87, u88, u89, u90, u91, u92, u93, u94, u95, u96, u97, u98, u99, u100, u101], []⟩) rfl rfl (run_stoOp qsF) rfl ?_
      have hSE := hSm #[] _ _ hSD hmE
      have hSF : SAr w3 w.heap.size X wF := hSE.stored hgF (by omega)
      refine ⟨hSF, ?_⟩
      have hO2 := (hBD.below hmE).grown hgF (by omega)
      refine wpAnyU_all (rs := [9]) (by kernel_rfl) (by decide) ?_
      intro wG hmG i hi
      obtain rfl : i = 9 := by simpa using hi
      obtain ⟨wH, qsH, hBH, hgH⟩ := stOp_blk (P := Tryz.prog) (ty := 50) (o := 0) (cs := (numC x.time)) (hO2.below hmG) (by simp [zV, numC, txtS]) sizeV (by intro u hu; simp [numC, txtS] at hu; rcases hu with rfl | rfl | rfl | rfl | rfl | rfl <;> rfl)
      rw [show zV.toList.take 0 ++ (numC x.time) ++ zV.toList.drop (0 + ((numC x.time) : List Value).length) = (numC x.time) by simp [zV, numC, txtS]] at hBH
      refine wpOp_skip (w' := wH) (a' := ⟨#[.agg (List.toArray X), .pointer (some ⟨w.heap.size, 0, none⟩), .pointer (some ⟨w.heap.size + 1, 0, none⟩), .pointer (some ⟨p3, 0, none⟩), .pointer (some ⟨p4, 0, none⟩), .pointer (some ⟨gB, 0, none⟩), .pointer (some ⟨gD, 0, none⟩), undef, undef, undef, undef, undef, u12, u13, u14, u15, u16, u17, u18, u19, u20, u21, .pointer (some ⟨w.heap.size, 0, none⟩), .string (str x.path), .agg (List.toArray (txtS x.path)), .pointer (some ⟨w.heap.size, 3, none⟩), .int .i64 x.time, .agg (List.toArray (numC x.time)), u28, u29, u30, u31, u32, u33, u34, u35, u36, u37, u38, u39, u40, u41, u42, u43, u44, u45, u46, u47, u48, u49, u50, u51, u52, u53, u54, u55, u56, u57, u58, u59, u60, u61, u62, u63, u64, u65, u66, u67, u68, u69, u70, u71, u72, u73, u74, u75, u76, u77, u78, u79, u80, u81, u82, u83, u84, u85, u86, u87, u88, u89, u90, u91, u92, u93, u94, u95, u96, u97, u98, u99, u100, u101], []⟩) rfl rfl (run_stoOp qsH) rfl ?_
      have hSG := hSm #[] _ _ hSF hmG
      have hSH : SAr w3 w.heap.size X wH := hSG.stored hgH (by omega)
      refine ⟨hSH, ?_⟩
      have hBF2 := (hBF.below hmG).grown hgH (by omega)
      refine wpAnyU_done (by kernel_rfl) ?_ _
      intro wZ hmZ
      have hSZ := hSm #[] _ _ hSH hmZ
      have hfin : ∃ p q : Nat, Value.pointer (some ⟨gB, 0, none⟩) = .pointer (some ⟨p, 0, none⟩) ∧ Value.pointer (some ⟨gD, 0, none⟩) = .pointer (some ⟨q, 0, none⟩) ∧ w3.heap.size ≤ p ∧ w3.heap.size ≤ q ∧ Blk wZ p 50 (txtS x.path) ∧ Blk wZ q 50 (numC x.time) ∧ Below w3.heap.size w3 wZ := ⟨gB, gD, rfl, rfl, by omega, by omega, hBF2.below hmZ, hBH.below hmZ, hSZ.2⟩
      go_wp2_with fail
      go_meet
      exact hfin
    · subst hi
      refine wpOp_val (v := .pointer (some ⟨wA.heap.size, 0, none⟩)) (w' := wA.alloc (.cells zV 50)) (a' := ⟨#[.agg (List.toArray X), .pointer (some ⟨w.heap.size, 0, none⟩), .pointer (some ⟨w.heap.size + 1, 0, none⟩), .pointer (some ⟨p3, 0, none⟩), .pointer (some ⟨p4, 0, none⟩), undef, .pointer (some ⟨wA.heap.size, 0, none⟩), undef, undef, undef, undef, undef, u12, u13, u14, u15, u16, u17, u18, u19, u20, u21, .pointer (some ⟨w.heap.size, 0, none⟩), .string (str x.path), .agg (List.toArray (txtS x.path)), .pointer (some ⟨w.heap.size, 3, none⟩), .int .i64 x.time, .agg (List.toArray (numC x.time)), u28, u29, u30, u31, u32, u33, u34, u35, u36, u37, u38, u39, u40, u41, u42, u43, u44, u45, u46, u47, u48, u49, u50, u51, u52, u53, u54, u55, u56, u57, u58, u59, u60, u61, u62, u63, u64, u65, u66, u67, u68, u69, u70, u71, u72, u73, u74, u75, u76, u77, u78, u79, u80, u81, u82, u83, u84, u85, u86, u87, u88, u89, u90, u91, u92, u93, u94, u95, u96, u97, u98, u99, u100, u101], []⟩) rfl rfl (run_alV) rfl ?_
      have hSA := hSm #[] _ _ hS0 hmA
      have hmB : Mo wA (wA.alloc (.cells zV 50)) := (Below.refl _ _).alloc (Nat.le_refl _) _
      have hSB := hSm #[] _ _ hSA hmB
      refine ⟨hSB, ?_⟩
      have hBB : Blk (wA.alloc (.cells zV 50)) wA.heap.size 50 zV.toList := Blk.new _ _ _
      have hgB : w3.heap.size ≤ wA.heap.size := hSA.2.size
      have hgB2 : wA.heap.size < (wA.alloc (.cells zV 50)).heap.size := hBB.lt
      generalize wA.alloc (.cells zV 50) = wB at *
      generalize wA.heap.size = gB at *
      refine wpAnyU_all (rs := [6]) (by kernel_rfl) (by decide) ?_
      intro wC hmC i hi
      obtain rfl : i = 6 := by simpa using hi
      refine wpOp_val (v := .pointer (some ⟨wC.heap.size, 0, none⟩)) (w' := wC.alloc (.cells zV 50)) (a' := ⟨#[.agg (List.toArray X), .pointer (some ⟨w.heap.size, 0, none⟩), .pointer (some ⟨w.heap.size + 1, 0, none⟩), .pointer (some ⟨p3, 0, none⟩), .pointer (some ⟨p4, 0, none⟩), .pointer (some ⟨wC.heap.size, 0, none⟩), .pointer (some ⟨gB, 0, none⟩), undef, undef, undef, undef, undef, u12, u13, u14, u15, u16, u17, u18, u19, u20, u21, .pointer (some ⟨w.heap.size, 0, none⟩), .string (str x.path), .agg (List.toArray (txtS x.path)), .pointer (some ⟨w.heap.size, 3, none⟩), .int .i64 x.time, .agg (List.toArray (numC x.time)), u28, u29, u30, u31, u32, u33, u34, u35, u36, u37, u38, u39, u40, u41, u42, u43, u44, u45, u46, u47, u48, u49, u50, u51, u52, u53, u54, u55, u56, u57, u58, u59, u60, u61, u62, u63, u64, u65, u66, u67, u68, u69, u70, u71, u72, u73, u74, u75, u76, u77, u78, u79, u80, u81, u82, u83, u84, u85, u86, u87, u88, u89, u90, u91, u92, u93, u94, u95, u96, u97, u98, u99, u100, u101], []⟩) rfl rfl (run_alV) rfl ?_
      have hSC := hSm #[] _ _ hSB hmC
      have hmD : Mo wC (wC.alloc (.cells zV 50)) := (Below.refl _ _).alloc (Nat.le_refl _) _
      have hSD := hSm #[] _ _ hSC hmD
      refine ⟨hSD, ?_⟩
      have hBD : Blk (wC.alloc (.cells zV 50)) wC.heap.size 50 zV.toList := Blk.new _ _ _
      have hBB2 := (hBB.below hmC).below hmD
      have hgD : w3.heap.size ≤ wC.heap.size := hSC.2.size
      have hgBD : gB < wC.heap.size := Nat.lt_of_lt_of_le hgB2 hmC.size'
      generalize wC.alloc (.cells zV 50) = wD at *
      generalize wC.heap.size = gD at *
      refine wpAnyU_all (rs := [8]) (by kernel_rfl) (by decide) ?_
      intro wE hmE i hi
      obtain rfl : i = 8 := by simpa using hi
      obtain ⟨wF, qsF, hBF, hgF⟩ := stOp_blk (P := Tryz.prog) (ty := 50) (o := 0) (cs := (txtS x.path)) (hBD.below hmE) (by simp [zV, numC, txtS]) sizeV (by intro u hu; simp [numC, txtS] at hu; rcases hu with rfl | rfl | rfl | rfl | rfl | rfl <;> rfl)
      rw [show zV.toList.take 0 ++ (txtS x.path) ++ zV.toList.drop (0 + ((txtS x.path) : List Value).length) = (txtS x.path) by simp [zV, numC, txtS]] at hBF
      refine wpOp_skip (w' := wF) (a' := ⟨#[.agg (List.toArray X), .pointer (some ⟨w.heap.size, 0, none⟩), .pointer (some ⟨w.heap.size + 1, 0, none⟩), .pointer (some ⟨p3, 0, none⟩), .pointer (some ⟨p4, 0, none⟩), .pointer (some ⟨gD, 0, none⟩), .pointer (some ⟨gB, 0, none⟩), undef, undef, undef, undef, undef, u12, u13, u14, u15, u16, u17, u18, u19, u20, u21, .pointer (some ⟨w.heap.size, 0, none⟩), .string (str x.path), .agg (List.toArray (txtS x.path)), .pointer (some ⟨w.heap.size, 3, none⟩), .int .i64 x.time, .agg (List.toArray (numC x.time)), u28, u29, u30, u31, u32, u33, u34, u35, u36, u37, u38, u39, u40, u41, u42, u43, u44, u45, u46, u47, u48, u49, u50, u51, u52, u53, u54, u55, u56, u57, u58, u59, u60, u61, u62, u63, u64, u65, u66, u67, u68, u69, u70, u71, u72, u73, u74, u75, u76, u77, u78, u79, u80, u81, u82, u83, u84, u85, u86, u87, u88, u89, u90, u91, u92, u93, u94, u95, u96, u97, u98, u99, u100, u101], []⟩) rfl rfl (run_stoOp qsF) rfl ?_
      have hSE := hSm #[] _ _ hSD hmE
      have hSF : SAr w3 w.heap.size X wF := hSE.stored hgF (by omega)
      refine ⟨hSF, ?_⟩
      have hO2 := (hBB2.below hmE).grown hgF (by omega)
      refine wpAnyU_all (rs := [9]) (by kernel_rfl) (by decide) ?_
      intro wG hmG i hi
      obtain rfl : i = 9 := by simpa using hi
      obtain ⟨wH, qsH, hBH, hgH⟩ := stOp_blk (P := Tryz.prog) (ty := 50) (o := 0) (cs := (numC x.time)) (hO2.below hmG) (by simp [zV, numC, txtS]) sizeV (by intro u hu; simp [numC, txtS] at hu; rcases hu with rfl | rfl | rfl | rfl | rfl | rfl <;> rfl)
      rw [show zV.toList.take 0 ++ (numC x.time) ++ zV.toList.drop (0 + ((numC x.time) : List Value).length) = (numC x.time) by simp [zV, numC, txtS]] at hBH
      refine wpOp_skip (w' := wH) (a' := ⟨#[.agg (List.toArray X), .pointer (some ⟨w.heap.size, 0, none⟩), .pointer (some ⟨w.heap.size + 1, 0, none⟩), .pointer (some ⟨p3, 0, none⟩), .pointer (some ⟨p4, 0, none⟩), .pointer (some ⟨gD, 0, none⟩), .pointer (some ⟨gB, 0, none⟩), undef, undef, undef, undef, undef, u12, u13, u14, u15, u16, u17, u18, u19, u20, u21, .pointer (some ⟨w.heap.size, 0, none⟩), .string (str x.path), .agg (List.toArray (txtS x.path)), .pointer (some ⟨w.heap.size, 3, none⟩), .int .i64 x.time, .agg (List.toArray (numC x.time)), u28, u29, u30, u31, u32, u33, u34, u35, u36, u37, u38, u39, u40, u41, u42, u43, u44, u45, u46, u47, u48, u49, u50, u51, u52, u53, u54, u55, u56, u57, u58, u59, u60, u61, u62, u63, u64, u65, u66, u67, u68, u69, u70, u71, u72, u73, u74, u75, u76, u77, u78, u79, u80, u81, u82, u83, u84, u85, u86, u87, u88, u89, u90, u91, u92, u93, u94, u95, u96, u97, u98, u99, u100, u101], []⟩) rfl rfl (run_stoOp qsH) rfl ?_
      have hSG := hSm #[] _ _ hSF hmG
      have hSH : SAr w3 w.heap.size X wH := hSG.stored hgH (by omega)
      refine ⟨hSH, ?_⟩
      have hBF2 := (hBF.below hmG).grown hgH (by omega)
      refine wpAnyU_done (by kernel_rfl) ?_ _
      intro wZ hmZ
      have hSZ := hSm #[] _ _ hSH hmZ
      have hfin : ∃ p q : Nat, Value.pointer (some ⟨gD, 0, none⟩) = .pointer (some ⟨p, 0, none⟩) ∧ Value.pointer (some ⟨gB, 0, none⟩) = .pointer (some ⟨q, 0, none⟩) ∧ w3.heap.size ≤ p ∧ w3.heap.size ≤ q ∧ Blk wZ p 50 (txtS x.path) ∧ Blk wZ q 50 (numC x.time) ∧ Below w3.heap.size w3 wZ := ⟨gD, gB, rfl, rfl, by omega, by omega, hBF2.below hmZ, hBH.below hmZ, hSZ.2⟩
      go_wp2_with fail
      go_meet
      exact hfin
    --END4
  case rest =>
  obtain ⟨p5, p6, rfl, rfl, hp5, hp6, B5, B6, hbc⟩ := hcut
  generalize wc = w4 at *
  have A4 := A3.below hbc
  have R4 := R3.below hbc
  have B3' := B3.below hbc
  have B4' := B4.below hbc
  have hb4 := hb3.trans (hbc.mono hb3.size)
  have hs4 := hbc.size
  have l3 := B3.lt
  have l4 := B4.lt
  have l5 := B5.lt
  have l6 := B6.lt
  obtain ⟨d0, d1, d2, d3, d4, d5, d6⟩ := hcell _ A4
  have nC : ∀ n : Int, (List.toArray (numC n)).size = 6 := fun _ => rfl
  have tC : ∀ t : List UInt8, (List.toArray (txtS t)).size = 6 := fun _ => rfl
  clear A3 R3 B3 B4 hb3
  by_cases h2 : x.kind = 2
  · have hT : Hid (FV = .mk 7 0 [] [] [[107], [109], [112], [116]] [pNum x.kind, pNum x.mode, pTxt x.path, pNum x.time]) := by show _ = _; rw [hE2.out, if_neg (by omega), if_pos h2]
    have e2 : (x.kind == 2) = true := by simpa using h2
    clear hE2 h2 hkk2
    go_upto_region 6 with (fail)
    have hbK : Below w4.heap.size w4 (w4.alloc (.cells #[.string { data := #[107] }, .string { data := #[109] }, .string { data := #[112] }, .string { data := #[116] }] 9)) := (Below.refl _ _).alloc (Nat.le_refl _) _
    have hK : Blk (w4.alloc (.cells #[.string { data := #[107] }, .string { data := #[109] }, .string { data := #[112] }, .string { data := #[116] }] 9)) w4.heap.size 9 ([[107], [109], [112], [116]].map strV) := Blk.new _ _ _
    have hKs : w4.heap.size < (w4.alloc (.cells #[.string { data := #[107] }, .string { data := #[109] }, .string { data := #[112] }, .string { data := #[116] }] 9)).heap.size := by simp
    have hbs : ∀ {w : World}, (bsOp 48 4 #[(0, .agg (List.toArray (numC x.kind))), (1, .agg (List.toArray (numC x.mode))), (2, .agg (List.toArray (txtS x.path))), (3, .agg (List.toArray (numC x.time)))]).run Tryz.prog w = .ok (.slice (some ⟨w.heap.size, 0, none⟩) 4 4) (w.alloc (.cells (List.toArray (numC x.kind ++ (numC x.mode ++ (txtS x.path ++ numC x.time)))) 50)) := fun {w} => by
      have h := bsOp_rows (w := w) (n := 4) (vs := [numC x.kind, numC x.mode, txtS x.path, numC x.time]) (parts := #[(0, .agg (List.toArray (numC x.kind))), (1, .agg (List.toArray (numC x.mode))), (2, .agg (List.toArray (txtS x.path))), (3, .agg (List.toArray (numC x.time)))]) Tryz.underlying48 infoV (by decide) rfl (by decide) (by decide) (by exact zV_size) (by simp [numC, txtS]) rfl
      rw [show (List.flatten [numC x.kind, numC x.mode, txtS x.path, numC x.time]) = (numC x.kind ++ (numC x.mode ++ (txtS x.path ++ numC x.time))) by simp] at h
      exact h
    have A5 := A4.below hbK
    have R5 := R4.below hbK
    have q3 := ldOp_all (P := Tryz.prog) (ty := 50) (B3'.below hbK) Tryz.underlying50 rfl sizeV
    have q4 := ldOp_all (P := Tryz.prog) (ty := 50) (B4'.below hbK) Tryz.underlying50 rfl sizeV
    have q5 := ldOp_all (P := Tryz.prog) (ty := 50) (B5.below hbK) Tryz.underlying50 rfl sizeV
    have q6 := ldOp_all (P := Tryz.prog) (ty := 50) (B6.below hbK) Tryz.underlying50 rfl sizeV
    have hb5 := hb4.trans (hbK.mono hb4.size)
    obtain ⟨f0, f1, f2, f3, f4, f5, f6⟩ := hcell _ A5
    have hbV : Below (w4.alloc (.cells #[.string { data := #[107] }, .string { data := #[109] }, .string { data := #[112] }, .string { data := #[116] }] 9)).heap.size (w4.alloc (.cells #[.string { data := #[107] }, .string { data := #[109] }, .string { data := #[112] }, .string { data := #[116] }] 9)) ((w4.alloc (.cells #[.string { data := #[107] }, .string { data := #[109] }, .string { data := #[112] }, .string { data := #[116] }] 9)).alloc (.cells (List.toArray (numC x.kind ++ (numC x.mode ++ (txtS x.path ++ numC x.time)))) 50)) := (Below.refl _ _).alloc (Nat.le_refl _) _
    have hV5 : Blk ((w4.alloc (.cells #[.string { data := #[107] }, .string { data := #[109] }, .string { data := #[112] }, .string { data := #[116] }] 9)).alloc (.cells (List.toArray (numC x.kind ++ (numC x.mode ++ (txtS x.path ++ numC x.time)))) 50)) (w4.heap.size + 1) 50 (List.flatten [numC x.kind, numC x.mode, txtS x.path, numC x.time]) := by
      rw [show (List.flatten [numC x.kind, numC x.mode, txtS x.path, numC x.time]) = (numC x.kind ++ (numC x.mode ++ (txtS x.path ++ numC x.time))) by simp]
      have h := Blk.new (w4.alloc (.cells #[.string { data := #[107] }, .string { data := #[109] }, .string { data := #[112] }, .string { data := #[116] }] 9)) 50 (List.toArray (numC x.kind ++ (numC x.mode ++ (txtS x.path ++ numC x.time))))
      simpa using h
    have hfin := map_fin (w := w) (n := 4) (ks := [[107], [109], [112], [116]]) (css := [numC x.kind, numC x.mode, txtS x.path, numC x.time]) (vs := [pNum x.kind, pNum x.mode, pTxt x.path, pNum x.time]) (R5.below hbV) rfl (by omega) (hK.below hbV) hV5 rfl rfl rfl (by simp [numC, txtS]) (by simp [maxLen]) (by decide) (by omega) (by omega) ⟨VAtP.numb _ hki, VAtP.numb _ hmi, VAtP.txtS _ hpm, VAtP.numb _ hti, trivial⟩ (hb5.trans (hbV.mono hb5.size))
    obtain ⟨Wz, z1, z2, z3, z4⟩ := hfin
    clear R5 A5 hV5 hK
    go_wp2
    refine bodyPost_ret (results_cell_row (fn := Tryz.f36) (by rfl) _ _ (w.heap.size + 1) 50 _ (0, 0) _ (by rfl) z2 Tryz.underlying50 rfl sizeV) rfl ⟨_, rfl, by rw [hT.out]; exact z3, z4⟩
  have e2 : (x.kind == 2) = false := by simpa using h2
  by_cases h3 : x.kind = 3
  · have hT : Hid (FV = .mk 7 0 [] [] [[107], [108], [109], [112], [116]] [pNum x.kind, pTxt x.target, pNum x.mode, pTxt x.path, pNum x.time]) := by show _ = _; rw [hE2.out, if_neg (by omega), if_neg h2]
    have e3 : (x.kind == 3) = true := by simpa using h3
    clear hE2 h2 h3 hkk2
    go_upto_region 8 with (fail)
    have hbK : Below w4.heap.size w4 (w4.alloc (.cells #[.string { data := #[107] }, .string { data := #[108] }, .string { data := #[109] }, .string { data := #[112] }, .string { data := #[116] }] 9)) := (Below.refl _ _).alloc (Nat.le_refl _) _
    have hK : Blk (w4.alloc (.cells #[.string { data := #[107] }, .string { data := #[108] }, .string { data := #[109] }, .string { data := #[112] }, .string { data := #[116] }] 9)) w4.heap.size 9 ([[107], [108], [109], [112], [116]].map strV) := Blk.new _ _ _
    have hKs : w4.heap.size < (w4.alloc (.cells #[.string { data := #[107] }, .string { data := #[108] }, .string { data := #[109] }, .string { data := #[112] }, .string { data := #[116] }] 9)).heap.size := by simp
    have hbs : ∀ {w : World}, (bsOp 48 5 #[(0, .agg (List.toArray (numC x.kind))), (1, .agg #[.int .i64 5, .int .i64 0, .slice none 0 0, .string (str x.target), .slice none 0 0, .slice none 0 0]), (2, .agg (List.toArray (numC x.mode))), (3, .agg (List.toArray (txtS x.path))), (4, .agg (List.toArray (numC x.time)))]).run Tryz.prog w = .ok (.slice (some ⟨w.heap.size, 0, none⟩) 5 5) (w.alloc (.cells (List.toArray (numC x.kind ++ (txtS x.target ++ (numC x.mode ++ (txtS x.path ++ numC x.time))))) 50)) := fun {w} => by
      have h := bsOp_rows (w := w) (n := 5) (vs := [numC x.kind, txtS x.target, numC x.mode, txtS x.path, numC x.time]) (parts := #[(0, .agg (List.toArray (numC x.kind))), (1, .agg #[.int .i64 5, .int .i64 0, .slice none 0 0, .string (str x.target), .slice none 0 0, .slice none 0 0]), (2, .agg (List.toArray (numC x.mode))), (3, .agg (List.toArray (txtS x.path))), (4, .agg (List.toArray (numC x.time)))]) Tryz.underlying48 infoV (by decide) rfl (by decide) (by decide) (by exact zV_size) (by simp [numC, txtS]) rfl
      rw [show (List.flatten [numC x.kind, txtS x.target, numC x.mode, txtS x.path, numC x.time]) = (numC x.kind ++ (txtS x.target ++ (numC x.mode ++ (txtS x.path ++ numC x.time)))) by simp] at h
      exact h
    have A5 := A4.below hbK
    have R5 := R4.below hbK
    have q3 := ldOp_all (P := Tryz.prog) (ty := 50) (B3'.below hbK) Tryz.underlying50 rfl sizeV
    have q4 := ldOp_all (P := Tryz.prog) (ty := 50) (B4'.below hbK) Tryz.underlying50 rfl sizeV
    have q5 := ldOp_all (P := Tryz.prog) (ty := 50) (B5.below hbK) Tryz.underlying50 rfl sizeV
    have q6 := ldOp_all (P := Tryz.prog) (ty := 50) (B6.below hbK) Tryz.underlying50 rfl sizeV
    have hb5 := hb4.trans (hbK.mono hb4.size)
    obtain ⟨f0, f1, f2, f3, f4, f5, f6⟩ := hcell _ A5
    have hbV : Below (w4.alloc (.cells #[.string { data := #[107] }, .string { data := #[108] }, .string { data := #[109] }, .string { data := #[112] }, .string { data := #[116] }] 9)).heap.size (w4.alloc (.cells #[.string { data := #[107] }, .string { data := #[108] }, .string { data := #[109] }, .string { data := #[112] }, .string { data := #[116] }] 9)) ((w4.alloc (.cells #[.string { data := #[107] }, .string { data := #[108] }, .string { data := #[109] }, .string { data := #[112] }, .string { data := #[116] }] 9)).alloc (.cells (List.toArray (numC x.kind ++ (txtS x.target ++ (numC x.mode ++ (txtS x.path ++ numC x.time))))) 50)) := (Below.refl _ _).alloc (Nat.le_refl _) _
    have hV5 : Blk ((w4.alloc (.cells #[.string { data := #[107] }, .string { data := #[108] }, .string { data := #[109] }, .string { data := #[112] }, .string { data := #[116] }] 9)).alloc (.cells (List.toArray (numC x.kind ++ (txtS x.target ++ (numC x.mode ++ (txtS x.path ++ numC x.time))))) 50)) (w4.heap.size + 1) 50 (List.flatten [numC x.kind, txtS x.target, numC x.mode, txtS x.path, numC x.time]) := by
      rw [show (List.flatten [numC x.kind, txtS x.target, numC x.mode, txtS x.path, numC x.time]) = (numC x.kind ++ (txtS x.target ++ (numC x.mode ++ (txtS x.path ++ numC x.time)))) by simp]
      have h := Blk.new (w4.alloc (.cells #[.string { data := #[107] }, .string { data := #[108] }, .string { data := #[109] }, .string { data := #[112] }, .string { data := #[116] }] 9)) 50 (List.toArray (numC x.kind ++ (txtS x.target ++ (numC x.mode ++ (txtS x.path ++ numC x.time)))))
      simpa using h
    have hfin := map_fin (w := w) (n := 5) (ks := [[107], [108], [109], [112], [116]]) (css := [numC x.kind, txtS x.target, numC x.mode, txtS x.path, numC x.time]) (vs := [pNum x.kind, pTxt x.target, pNum x.mode, pTxt x.path, pNum x.time]) (R5.below hbV) rfl (by omega) (hK.below hbV) hV5 rfl rfl rfl (by simp [numC, txtS]) (by simp [maxLen]) (by decide) (by omega) (by omega) ⟨VAtP.numb _ hki, VAtP.txtS _ htm, VAtP.numb _ hmi, VAtP.txtS _ hpm, VAtP.numb _ hti, trivial⟩ (hb5.trans (hbV.mono hb5.size))
    obtain ⟨Wz, z1, z2, z3, z4⟩ := hfin
    clear R5 A5 hV5 hK
    go_wp2
    refine bodyPost_ret (results_cell_row (fn := Tryz.f36) (by rfl) _ _ (w.heap.size + 1) 50 _ (0, 0) _ (by rfl) z2 Tryz.underlying50 rfl sizeV) rfl ⟨_, rfl, by rw [hT.out]; exact z3, z4⟩
  have e3 : (x.kind == 3) = false := by simpa using h3
  have h1 : x.kind = 1 := by omega
  have hT : Hid (FV = .mk 7 0 [] [] [[99], [107], [109], [112], [115], [116]] [pList (x.parts.map ptV), pNum x.kind, pNum x.mode, pTxt x.path, pNum x.size, pNum x.time]) := by show _ = _; rw [hE2.out, if_pos h1]
  clear hE2 h2 h3 hkk2 h1
  go_upto_block 0 with (fail)
  have hVB0 : VB w4.heap.size w4.heap.size (w4.alloc (.cells #[.int .i64 6, .int .i64 0, .slice none 0 0, .string { data := #[] }, .slice none 0 0, .slice none 0 0] 50)) (.mk 6 0 [] [] [] ((x.parts.take 0).map ptV)) (.slice none 0 0) (.slice none 0 0) (.slice none 0 0) := by
    have hB := Blk.new w4 50 #[.int .i64 6, .int .i64 0, .slice none 0 0, .string { data := #[] }, .slice none 0 0, .slice none 0 0]
    exact VB.new (b := []) (t := []) (ab := none) hB (Nat.le_refl _) (by simp) (by unfold in64; omega) (by unfold in64; omega) (Nat.zero_le _) ⟨Nat.le_refl _, Nat.zero_le _⟩ (Row.nil _ _) (by simp)
  have hbW : Below w4.heap.size w4 (w4.alloc (.cells #[.int .i64 6, .int .i64 0, .slice none 0 0, .string { data := #[] }, .slice none 0 0, .slice none 0 0] 50)) := (Below.refl _ _).alloc (Nat.le_refl _) _
  have HVB := Lib.hid hVB0
  have HBW := Lib.hid hbW
  clear hVB0 hbW
  generalize w4.alloc (.cells #[.int .i64 6, .int .i64 0, .slice none 0 0, .string { data := #[] }, .slice none 0 0, .slice none 0 0] 50) = W at *
  go_cut [] (fun wx => ∃ u, VB w4.heap.size w4.heap.size wx (.mk 6 0 [] [] [] (x.parts.map ptV)) (.slice none 0 0) (.slice none 0 0) u ∧ Below w4.heap.size w4 wx)
  case first =>
    have HA4 := Lib.hid A4
    have HRow := Lib.hid hr
    have HB4 := Lib.hid hb4
    have HL := Lib.hid hl
    have HOK := Lib.hid hok.parts
    have hw4 : w.heap.size < w4.heap.size := A4.lt
    clear hT A4 R4 B3' B4' B5 B6 hb4 hr hl hok hp l3 l4 l5 l6 d0 d1 d2 d3 d4 d5 d6 hbc hs4 hp3 hp4 hp5 hp6 hs3 hs2 hki hmi hti hsi hpm htm
    go_wp2
    go_loopw [8] (fun i wr => ∃ j : Nat, j ≤ x.parts.length ∧ i = .int .i64 j ∧ Hid (∃ u, VB w4.heap.size w4.heap.size wr (.mk 6 0 [] [] [] ((x.parts.take j).map ptV)) (.slice none 0 0) (.slice none 0 0) u) ∧ Hid (Below w4.heap.size w4 wr)) (fun i _ => x.parts.length - (intOf i).toNat)
    case atStart => exact ⟨0, Nat.zero_le _, rfl, Lib.hid ⟨_, HVB.out⟩, HBW⟩
    case round =>
      clear HVB HBW
      obtain ⟨j, hj, rfl, hV, hb⟩ := hrel
      generalize wr = v0 at *
      have j0 : (0 : Int) ≤ (j : Int) := by omega
      have jb : IntKind.i64.wrap ((j : Int) + 1) = (j : Int) + 1 := IntWalk.i64_in _ (by have := HL.out; omega)
      have d6 := (hcell _ (HA4.out.below hb.out)).2.2.2.2.2.2
      by_cases hlt : j < x.parts.length
      · have j1 : (j : Int) < (x.parts.length : Int) := by omega
        have hrw := HRow.out.below (HB4.out.trans (hb.out.mono HB4.out.size))
        have s1 := hrw.elemSome (s := 33) (prts33I HOK.out) (by decide) (i := j) (by simpa using hlt)
        have hpo := HOK.out _ (List.getElem_mem hlt)
        have hT2 : Hid ((x.parts.take (j + 1)).map ptV = (x.parts.take j).map ptV ++ [ptV x.parts[j]]) := by
          show _ = _
          rw [List.take_succ_eq_append_getElem hlt, List.map_append]; rfl
        have HP := Lib.hid (fun (w' : World) (hb' : Below v0.heap.size v0 w') (k : Nat) (v : Value) (h : (prtC x.parts[j])[k]? = some v) => prt_cellI (hrw.below hb') HOK.out hlt h)
        have hbv := Lib.hid hb.out
        generalize x.parts[j] = p at *
        go_upto_block 2 with (fail)
        go_cut [9] (fun u9 wx => wx.ownsRow v0.heap.size 5 1 u9 p.id.length (p.id.map b8) ∧ Below v0.heap.size v0 wx)
        case first =>
          have hV0 := hV
          clear hV hT2
          go_wp2
          go_loopw [9, 10] (fun u i wr => ∃ n : Nat, n ≤ 32 ∧ i = .int .i64 n ∧ Hid (wr.ownsRow v0.heap.size 5 1 u (p.id.take n).length ((p.id.take n).map b8)) ∧ Hid (Below v0.heap.size v0 wr)) (fun _ i _ => 32 - (intOf i).toNat)
          case atStart => exact ⟨0, Nat.zero_le _, rfl, Lib.hid (World.ownsRow_nil _ _ _ _), Lib.hid (Below.refl _ _)⟩
          case round =>
            obtain ⟨n, hn, rfl, hO, hbi⟩ := hrel
            have n0 : (0 : Int) ≤ (n : Int) := by omega
            have nb : IntKind.i64.wrap ((n : Int) + 1) = (n : Int) + 1 := IntWalk.i64_in _ (by omega)
            have hid := hpo.id
            by_cases hn2 : n < 32
            · have n1 : (n : Int) < 32 := by omega
              have d6 := (hcell _ (HA4.out.below (hb.out.trans (hbi.out.mono hb.out.size)))).2.2.2.2.2.2
              have q1 := cell_fld (HP.out _ hbi.out n (b8 (p.id[n]'(by omega))) (by
                unfold prtC
                rw [List.getElem?_append_left (by simp; omega)]
                simp [show n < p.id.length by omega]))
              have hTk : Hid (p.id.take (n + 1) = p.id.take n ++ [p.id[n]'(by omega)]) := List.take_succ_eq_append_getElem (by omega)
              have q2 := HP.out _ hbi.out n (b8 (p.id[n]'(by omega))) (by
                unfold prtC
                rw [List.getElem?_append_left (by simp; omega)]
                simp [show n < p.id.length by omega])
              generalize p.id[n]'(by omega) = cc at *
              have s1' := s1
              obtain ⟨a', c', w3, happ, hO3, hG3⟩ := own_app1 (ty := 22) eB hO.out (b8 cc) rfl (by simp [maxLen]; omega) (by simp; omega) hbi.out.size
              have hb3 := Lib.hid (hbi.out.trans (hG3.below (base := v0.heap.size) (old := v0.heap.size) (own_lt hO.out) (Nat.le_refl _) hbi.out.size))
              have hO4 : Hid (w3.ownsRow v0.heap.size 5 1 (.slice a' ((p.id.take n).length + 1) c') (p.id.take (n + 1)).length ((p.id.take (n + 1)).map b8)) := by
                show World.ownsRow _ _ _ _ _ _ _
                rw [hTk.out, List.map_append, List.length_append]
                exact hO3
              rw [show (p.id.take n).length = n by simp; omega] at happ hO4
              unfold b8 at happ q1 q2
              clear hO3 hG3 hO hbi hTk
              go_wp2_with (at_builtin; refine wpList_append_run happ rfl rfl rfl rfl ?_)
              first
                | exact ⟨⟨n + 1, by omega, (by first | rfl | go_num | (congr 1; omega)), hO4, hb3⟩, by simp [intOf] <;> omega⟩
                | (refine ⟨?_, by simp [intOf] <;> omega⟩; (repeat apply Exists.intro); exact ⟨⟨n + 1, by omega, (by first | rfl | go_num | (congr 1; omega)), hO4, hb3⟩, rfl⟩)
            · have hn3 : n = 32 := by omega
              have hfin : Hid (wr.ownsRow v0.heap.size 5 1 u9 p.id.length (p.id.map b8) ∧ Below v0.heap.size v0 wr) := by
                have h := hO.out
                rw [List.take_of_length_le (by omega)] at h
                exact ⟨h, hbi.out⟩
              have n1 : ¬ (n : Int) < 32 := by omega
              go_wp2
              go_meet
              exact hfin.out
        case rest =>
          obtain ⟨hOid, hbc⟩ := hcut
          have hid := hpo.id
          obtain ⟨a1, c1, rfl, k1, k2, hr1, hat1⟩ := owns_rowN hOid (by decide)
          have hat2 : v0.heap.size ≤ (hd a1).block := (hat1 (by simp; omega)).2.1
          obtain ⟨u, hvb⟩ := hV.out
          obtain ⟨vs, hvs⟩ : ∃ vs, vs = (x.parts.take j).map ptV := ⟨_, rfl⟩
          have hvl : vs.length ≤ 1000000000 := by
            have h1 := HL.out
            have h2 : vs.length ≤ x.parts.length := by rw [hvs, List.length_map, List.length_take]; omega
            omega
          rw [← hvs] at hvb
          rw [← hvs] at hT2
          have huW : ∀ b, u.ownBlock = some b → b < v0.heap.size := fun b hb => (hvb.kown.2 b hb).2
          have hvc := hvb.keep hbc.size (fun b _ hlt => hbc.block b hlt)
          have e5 : wc.cell? ⟨w4.heap.size, 5, none⟩ = some u := hvc.blk.cell rfl
          have d6 := (hcell _ (HA4.out.below (hb.out.trans (hbc.mono hb.out.size)))).2.2.2.2.2.2
          have q32 := cell_fld (HP.out _ hbc 32 (.int .i64 p.size) (prtC_32 hpo))
          rw [hid] at k1 ⊢
          have hq4 : w4.heap.size < v0.heap.size := hvb.blk.lt
          clear hOid hvs hat1 hvb
          go_wp2_with fail
          refine (rnum21_any p.size _).mono ?_
          rintro e w6 ⟨rfl, hb6⟩
          have hbs : ∀ {w : World}, (bsOp 48 2 #[(0, .agg #[.int .i64 4, .int .i64 0, .slice a1 32 c1, .string { data := #[] }, .slice none 0 0, .slice none 0 0]), (1, .agg (List.toArray (numC p.size)))]).run Tryz.prog w = .ok (.slice (some ⟨w.heap.size, 0, none⟩) 2 2) (w.alloc (.cells (List.toArray (bytC (.slice a1 32 c1) ++ numC p.size)) 50)) := fun {w} => by
            have h := bsOp_rows (w := w) (n := 2) (vs := [bytC (.slice a1 32 c1), numC p.size]) (parts := #[(0, .agg #[.int .i64 4, .int .i64 0, .slice a1 32 c1, .string { data := #[] }, .slice none 0 0, .slice none 0 0]), (1, .agg (List.toArray (numC p.size)))]) Tryz.underlying48 infoV (by decide) rfl (by decide) (by decide) (by exact zV_size) (by simp [numC, bytC]) rfl
            rw [show List.flatten [bytC (.slice a1 32 c1), numC p.size] = bytC (.slice a1 32 c1) ++ numC p.size by simp] at h
            exact h
          have hB5 : Blk ((w6.alloc (.cells (List.toArray (bytC (.slice a1 32 c1) ++ numC p.size)) 50)).alloc (.cells #[.int .i64 6, .int .i64 0, .slice none 0 0, .string { data := #[] }, .slice none 0 0, .slice (some ⟨w6.heap.size, 0, none⟩) 2 2] 50)) w6.heap.size 50 (bytC (.slice a1 32 c1) ++ numC p.size) := by
            have h := (Blk.new w6 50 (List.toArray (bytC (.slice a1 32 c1) ++ numC p.size))).alloc (.cells #[.int .i64 6, .int .i64 0, .slice none 0 0, .string { data := #[] }, .slice none 0 0, .slice (some ⟨w6.heap.size, 0, none⟩) 2 2] 50)
            simpa using h
          have hB7 : Blk ((w6.alloc (.cells (List.toArray (bytC (.slice a1 32 c1) ++ numC p.size)) 50)).alloc (.cells #[.int .i64 6, .int .i64 0, .slice none 0 0, .string { data := #[] }, .slice none 0 0, .slice (some ⟨w6.heap.size, 0, none⟩) 2 2] 50)) (w6.heap.size + 1) 50 (lstC (.slice (some ⟨w6.heap.size, 0, none⟩) 2 2)) := by
            have h := Blk.new (w6.alloc (.cells (List.toArray (bytC (.slice a1 32 c1) ++ numC p.size)) 50)) 50 #[.int .i64 6, .int .i64 0, .slice none 0 0, .string { data := #[] }, .slice none 0 0, .slice (some ⟨w6.heap.size, 0, none⟩) 2 2]
            rw [show (w6.alloc (.cells (List.toArray (bytC (.slice a1 32 c1) ++ numC p.size)) 50)).heap.size = w6.heap.size + 1 by simp] at h
            exact h
          have hb68 : Below w6.heap.size w6 ((w6.alloc (.cells (List.toArray (bytC (.slice a1 32 c1) ++ numC p.size)) 50)).alloc (.cells #[.int .i64 6, .int .i64 0, .slice none 0 0, .string { data := #[] }, .slice none 0 0, .slice (some ⟨w6.heap.size, 0, none⟩) 2 2] 50)) := ((Below.refl _ _).alloc (Nat.le_refl _) _).alloc (by simp) _
          have hbs6 := hb6.size
          have hbsc := hbc.size
          generalize hW8 : ((w6.alloc (.cells (List.toArray (bytC (.slice a1 32 c1) ++ numC p.size)) 50)).alloc (.cells #[.int .i64 6, .int .i64 0, .slice none 0 0, .string { data := #[] }, .slice none 0 0, .slice (some ⟨w6.heap.size, 0, none⟩) 2 2] 50)) = w8 at *
          have hbc8 : Below wc.heap.size wc w8 := hb6.trans (hb68.mono hb6.size)
          have hb08 : Below v0.heap.size v0 w8 := hbc.trans (hbc8.mono hbc.size)
          have hvb8 : VB w4.heap.size w4.heap.size w8 (.mk 6 0 [] [] [] vs) (.slice none 0 0) (.slice none 0 0) u := hvc.keep hbc8.size (fun b _ hlt => hbc8.block b hlt)
          have hxV : VAtP (okB w4.heap.size w4.heap.size (.slice none 0 0) u) w8 (lstC (.slice (some ⟨w6.heap.size, 0, none⟩) 2 2)) (ptV p) := by
            have hrb8 : Row w8 a1 (p.id.map b8) := hr1.below hbc8
            have fresh : ∀ b, v0.heap.size ≤ b → okB w4.heap.size w4.heap.size (.slice none 0 0) u b := fun b hbb => ⟨by omega, by omega, by simp [Value.ownBlock], fun e => by have := huW b e; omega⟩
            refine VAtP.lst (css := [bytC (.slice a1 32 c1), numC p.size]) (l := [pByt p.id, pNum p.size]) (by simpa using hB5.row) (by simp) (by unfold maxLen; simp) rfl (by simp [bytC, numC]) (fun _ => fresh _ (by show v0.heap.size ≤ w6.heap.size; omega)) ?_
            intro i c v hc hv
            match i with
            | 0 =>
              simp at hc hv; subst hc hv
              have := VAtP.bytS (ok := (okB w4.heap.size w4.heap.size (.slice none 0 0) u)) (c := c1) hrb8 (by rw [hid]; exact k1) k2 (fun _ => fresh _ hat2)
              rwa [hid] at this
            | 1 => simp at hc hv; subst hc hv; exact VAtP.numb w8 hpo.size
            | i + 2 => simp at hc
          obtain ⟨a', c', w9, hrun, hVs9, hG9⟩ := VsAt.appR (ty := 48) (c2 := 1) (ok' := fun z => okB w4.heap.size w4.heap.size (.slice none 0 0) u z ∧ z < w8.heap.size) hvb8.list (fun z hz => hz.2.2.2) hxV (fun z hz hlt => ⟨hz, hlt⟩) hvl hvb8.le hB7.row
          have hq9 := hG9.blk hvb8.blk hvb8.lq
          have g1 : w9.cell? ⟨w4.heap.size, 5, none⟩ = some u := hq9.1.cell rfl
          have g2 : w9.frozen? ⟨w4.heap.size, 5, none⟩ = false := hq9.1.free 5
          have hVs10 : VsAt (okB w4.heap.size w4.heap.size (.slice none 0 0) (.slice a' (vs.length + 1) c')) w4.heap.size w9 (.slice a' (vs.length + 1) c') (vs ++ [ptV p]) :=
            hVs9.same (Nat.le_refl _) (fun b hb => rfl) (fun b hb hlt => ⟨rfl, hb.1.1, hb.1.2.1, hb.1.2.2.1, fun e => by
              rcases hG9.own b e with h | h
              · exact hb.1.2.2.2 h
              · omega⟩)
          have hvb11 := hvb8.addL hVs10 hG9
          have hb8 : Below w4.heap.size w4 w8 := hb.out.trans (hb08.mono hb.out.size)
          have hb9 : Below w4.heap.size w4 w9 := hb8.trans (hG9.below (base := w4.heap.size) (fun k hk => (hvb8.kown.2 k hk).1) (Nat.le_refl _) hb8.size)
          have hb11 : Hid (Below w4.heap.size w4 (w9.setCell ⟨w4.heap.size, 5, none⟩ (.slice a' (vs.length + 1) c'))) := hb9.trans (set_below (by omega))
          have hvb12 : Hid (∃ u', VB w4.heap.size w4.heap.size (w9.setCell ⟨w4.heap.size, 5, none⟩ (.slice a' (vs.length + 1) c')) (.mk 6 0 [] [] [] ((x.parts.take (j + 1)).map ptV)) (.slice none 0 0) (.slice none 0 0) u') := by
            show ∃ _, _
            rw [hT2.out]
            exact ⟨_, hvb11⟩
          subst hW8
          clear hVs9 hVs10 hvb11 hvb8 hxV hG9 hq9 hb8 hb9 hB5 hB7 hb68 hbc8 hb08 hvc
          go_wp2_with (at_builtin; refine wpList_append_run hrun rfl rfl rfl rfl ?_)
          first
            | exact ⟨⟨j + 1, by omega, (by first | rfl | go_num | (congr 1; omega)), hvb12, hb11⟩, by simp [intOf] <;> omega⟩
            | (refine ⟨?_, by simp [intOf] <;> omega⟩; (repeat apply Exists.intro); exact ⟨⟨j + 1, by omega, (by first | rfl | go_num | (congr 1; omega)), hvb12, hb11⟩, rfl⟩)
      · obtain rfl : j = x.parts.length := by omega
        have j1 : ¬ (x.parts.length : Int) < (x.parts.length : Int) := by omega
        obtain ⟨u, hvb⟩ := hV.out
        rw [List.take_length] at hvb
        have hfin : Hid (∃ u, VB w4.heap.size w4.heap.size v0 (.mk 6 0 [] [] [] (x.parts.map ptV)) (.slice none 0 0) (.slice none 0 0) u ∧ Below w4.heap.size w4 v0) := ⟨u, hvb, hb.out⟩
        clear hvb hV
        go_wp2
        go_meet
        exact hfin.out
  case rest =>
    clear HVB HBW
    obtain ⟨u, hvb, hbx⟩ := hcut
    have AC := A4.below hbx
    have RC := R4.below hbx
    have C3 := B3'.below hbx
    have C4 := B4'.below hbx
    have C5 := B5.below hbx
    have C6 := B6.below hbx
    have CU : Blk wc w4.heap.size 50 (lstC u) := hvb.blk
    have hqC := CU.lt
    have hvd := (hvb.done).mono (ok' := fun b => w.heap.size ≤ b ∧ b ≠ w.heap.size + 1) (fun b hb _ => ⟨by omega, by omega⟩)
    have hbC := hb4.trans (hbx.mono hb4.size)
    clear A4 R4 B3' B4' B5 B6
    go_upto_region 20 with (fail)
    --REGION20
    have hSx : ∀ (L : Array Bool) (v1 v2 : World), Below wc.heap.size wc v1 → Mo v1 v2 → Below wc.heap.size wc v2 := fun _ v1 v2 h hm => h.trans (hm.mono h.size)
    have hSm : ∀ (L : Array Bool) (v1 v2 : World), (L.getD 11 false = false → Below wc.heap.size wc v1) → Mo v1 v2 → (L.getD 11 false = false → Below wc.heap.size wc v2) := fun L v1 v2 h hm hL => hSx L _ _ (h hL) hm
    have hSi : ∀ i, i ≠ 11 → ∀ (L : Array Bool) (v1 : World), ((L.setIfInBounds i true).getD 11 false = false → Below wc.heap.size wc v1) ↔ (L.getD 11 false = false → Below wc.heap.size wc v1) := fun i hi L v1 => by
      rw [getD_set_ne false hi]
    have hS0 : Below wc.heap.size wc (wc.drewN 1) := Below.drewN (Below.refl _ _) 1
    refine wp_region_upN (S := fun L v1 => (L.getD 11 false = false → Below wc.heap.size wc v1)) 12 rfl (by kernel_rfl) ?_
    refine wpAnyU_takeK (i := 1) 11 (A := fun v => Below wc.heap.size wc v) (v := .agg (List.toArray (lstC u))) (a' := ⟨#[.agg (List.toArray X), .pointer (some ⟨w.heap.size, 0, none⟩), .pointer (some ⟨w.heap.size + 1, 0, none⟩), .pointer (some ⟨p3, 0, none⟩), .pointer (some ⟨p4, 0, none⟩), .pointer (some ⟨p5, 0, none⟩), .pointer (some ⟨p6, 0, none⟩), .pointer (some ⟨w4.heap.size, 0, none⟩), u8, u9, u10, u11, u12, u13, u14, u15, u16, u17, u18, u19, u20, u21, u22, u23, u24, u25, u26, u27, .pointer (some ⟨w.heap.size, 1, none⟩), .int .i64 x.kind, .bool false, u31, u32, u33, u34, u35, u36, u37, .pointer (some ⟨w.heap.size, 1, none⟩), .int .i64 x.kind, .bool false, u41, u42, u43, u44, u45, u46, u47, u48, u49, u50, .agg #[.int .i64 6, .int .i64 0, .slice none 0 0, .string { data := #[] }, .slice none 0 0, .slice none 0 0], u52, u53, u54, u55, u56, u57, u58, u59, u60, u61, u62, u63, u64, u65, u66, u67, u68, u69, u70, u71, u72, u73, u74, u75, u76, u77, u78, u79, u80, u81, u82, u83, u84, u85, u86, u87, u88, u89, u90, u91, .agg (List.toArray (lstC u)), u93, u94, u95, u96, u97, u98, u99, u100, u101], []⟩) hSm (hSi 1 (by decide)) (fun _ _ h h2 => h h2) rfl rfl (by kernel_rfl) (by kernel_rfl) (by kernel_rfl) (by kernel_rfl) (by kernel_rfl) (fun _ _ _ h => h) (fun _ => hS0) (Tame.val rfl (fun w' hA => run_ldOp (ldOp_all (CU.below hA) Tryz.underlying50 rfl sizeV))) rfl ?_
    refine wpAnyU_takeK (i := 2) 11 (A := fun v => Below wc.heap.size wc v) (v := .agg (List.toArray (numC x.kind))) (a' := ⟨#[.agg (List.toArray X), .pointer (some ⟨w.heap.size, 0, none⟩), .pointer (some ⟨w.heap.size + 1, 0, none⟩), .pointer (some ⟨p3, 0, none⟩), .pointer (some ⟨p4, 0, none⟩), .pointer (some ⟨p5, 0, none⟩), .pointer (some ⟨p6, 0, none⟩), .pointer (some ⟨w4.heap.size, 0, none⟩), u8, u9, u10, u11, u12, u13, u14, u15, u16, u17, u18, u19, u20, u21, u22, u23, u24, u25, u26, u27, .pointer (some ⟨w.heap.size, 1, none⟩), .int .i64 x.kind, .bool false, u31, u32, u33, u34, u35, u36, u37, .pointer (some ⟨w.heap.size, 1, none⟩), .int .i64 x.kind, .bool false, u41, u42, u43, u44, u45, u46, u47, u48, u49, u50, .agg #[.int .i64 6, .int .i64 0, .slice none 0 0, .string { data := #[] }, .slice none 0 0, .slice none 0 0], u52, u53, u54, u55, u56, u57, u58, u59, u60, u61, u62, u63, u64, u65, u66, u67, u68, u69, u70, u71, u72, u73, u74, u75, u76, u77, u78, u79, u80, u81, u82, u83, u84, u85, u86, u87, u88, u89, u90, u91, .agg (List.toArray (lstC u)), .agg (List.toArray (numC x.kind)), u94, u95, u96, u97, u98, u99, u100, u101], []⟩) hSm (hSi 2 (by decide)) (fun _ _ h h2 => h h2) rfl rfl (by kernel_rfl) (by kernel_rfl) (by kernel_rfl) (by kernel_rfl) (by kernel_rfl) (fun _ _ _ h => h) (fun _ => hS0) (Tame.val rfl (fun w' hA => run_ldOp (ldOp_all (C3.below hA) Tryz.underlying50 rfl sizeV))) rfl ?_
    refine wpAnyU_takeK (i := 3) 11 (A := fun v => Below wc.heap.size wc v) (v := .agg (List.toArray (numC x.mode))) (a' := ⟨#[.agg (List.toArray X), .pointer (some ⟨w.heap.size, 0, none⟩), .pointer (some ⟨w.heap.size + 1, 0, none⟩), .pointer (some ⟨p3, 0, none⟩), .pointer (some ⟨p4, 0, none⟩), .pointer (some ⟨p5, 0, none⟩), .pointer (some ⟨p6, 0, none⟩), .pointer (some ⟨w4.heap.size, 0, none⟩), u8, u9, u10, u11, u12, u13, u14, u15, u16, u17, u18, u19, u20, u21, u22, u23, u24, u25, u26, u27, .pointer (some ⟨w.heap.size, 1, none⟩), .int .i64 x.kind, .bool false, u31, u32, u33, u34, u35, u36, u37, .pointer (some ⟨w.heap.size, 1, none⟩), .int .i64 x.kind, .bool false, u41, u42, u43, u44, u45, u46, u47, u48, u49, u50, .agg #[.int .i64 6, .int .i64 0, .slice none 0 0, .string { data := #[] }, .slice none 0 0, .slice none 0 0], u52, u53, u54, u55, u56, u57, u58, u59, u60, u61, u62, u63, u64, u65, u66, u67, u68, u69, u70, u71, u72, u73, u74, u75, u76, u77, u78, u79, u80, u81, u82, u83, u84, u85, u86, u87, u88, u89, u90, u91, .agg (List.toArray (lstC u)), .agg (List.toArray (numC x.kind)), .agg (List.toArray (numC x.mode)), u95, u96, u97, u98, u99, u100, u101], []⟩) hSm (hSi 3 (by decide)) (fun _ _ h h2 => h h2) rfl rfl (by kernel_rfl) (by kernel_rfl) (by kernel_rfl) (by kernel_rfl) (by kernel_rfl) (fun _ _ _ h => h) (fun _ => hS0) (Tame.val rfl (fun w' hA => run_ldOp (ldOp_all (C4.below hA) Tryz.underlying50 rfl sizeV))) rfl ?_
    refine wpAnyU_takeK (i := 4) 11 (A := fun v => Below wc.heap.size wc v) (v := .agg (List.toArray (txtS x.path))) (a' := ⟨#[.agg (List.toArray X), .pointer (some ⟨w.heap.size, 0, none⟩), .pointer (some ⟨w.heap.size + 1, 0, none⟩), .pointer (some ⟨p3, 0, none⟩), .pointer (some ⟨p4, 0, none⟩), .pointer (some ⟨p5, 0, none⟩), .pointer (some ⟨p6, 0, none⟩), .pointer (some ⟨w4.heap.size, 0, none⟩), u8, u9, u10, u11, u12, u13, u14, u15, u16, u17, u18, u19, u20, u21, u22, u23, u24, u25, u26, u27, .pointer (some ⟨w.heap.size, 1, none⟩), .int .i64 x.kind, .bool false, u31, u32, u33, u34, u35, u36, u37, .pointer (some ⟨w.heap.size, 1, none⟩), .int .i64 x.kind, .bool false, u41, u42, u43, u44, u45, u46, u47, u48, u49, u50, .agg #[.int .i64 6, .int .i64 0, .slice none 0 0, .string { data := #[] }, .slice none 0 0, .slice none 0 0], u52, u53, u54, u55, u56, u57, u58, u59, u60, u61, u62, u63, u64, u65, u66, u67, u68, u69, u70, u71, u72, u73, u74, u75, u76, u77, u78, u79, u80, u81, u82, u83, u84, u85, u86, u87, u88, u89, u90, u91, .agg (List.toArray (lstC u)), .agg (List.toArray (numC x.kind)), .agg (List.toArray (numC x.mode)), .agg (List.toArray (txtS x.path)), u96, u97, u98, u99, u100, u101], []⟩) hSm (hSi 4 (by decide)) (fun _ _ h h2 => h h2) rfl rfl (by kernel_rfl) (by kernel_rfl) (by kernel_rfl) (by kernel_rfl) (by kernel_rfl) (fun _ _ _ h => h) (fun _ => hS0) (Tame.val rfl (fun w' hA => run_ldOp (ldOp_all (C5.below hA) Tryz.underlying50 rfl sizeV))) rfl ?_
    refine wpAnyU_take (i := 5) (A := fun _ => True) (v := .pointer (some ⟨w.heap.size, 5, none⟩)) (a' := ⟨#[.agg (List.toArray X), .pointer (some ⟨w.heap.size, 0, none⟩), .pointer (some ⟨w.heap.size + 1, 0, none⟩), .pointer (some ⟨p3, 0, none⟩), .pointer (some ⟨p4, 0, none⟩), .pointer (some ⟨p5, 0, none⟩), .pointer (some ⟨p6, 0, none⟩), .pointer (some ⟨w4.heap.size, 0, none⟩), u8, u9, u10, u11, u12, u13, u14, u15, u16, u17, u18, u19, u20, u21, u22, u23, u24, u25, u26, u27, .pointer (some ⟨w.heap.size, 1, none⟩), .int .i64 x.kind, .bool false, u31, u32, u33, u34, u35, u36, u37, .pointer (some ⟨w.heap.size, 1, none⟩), .int .i64 x.kind, .bool false, u41, u42, u43, u44, u45, u46, u47, u48, u49, u50, .agg #[.int .i64 6, .int .i64 0, .slice none 0 0, .string { data := #[] }, .slice none 0 0, .slice none 0 0], u52, u53, u54, u55, u56, u57, u58, u59, u60, u61, u62, u63, u64, u65, u66, u67, u68, u69, u70, u71, u72, u73, u74, u75, u76, u77, u78, u79, u80, u81, u82, u83, u84, u85, u86, u87, u88, u89, u90, u91, .agg (List.toArray (lstC u)), .agg (List.toArray (numC x.kind)), .agg (List.toArray (numC x.mode)), .agg (List.toArray (txtS x.path)), .pointer (some ⟨w.heap.size, 5, none⟩), u97, u98, u99, u100, u101], []⟩) hSm (hSi 5 (by decide)) (fun _ _ _ => trivial) rfl (by kernel_rfl) (by kernel_rfl) (by kernel_rfl) (fun _ _ _ h => h) (fun _ => hS0) (Tame.val rfl (fun w' hA => by go_simp)) rfl ?_
    refine wpAnyU_takeK (i := 6) 11 (A := fun v => Below wc.heap.size wc v) (v := .int .i64 x.size) (a' := ⟨#[.agg (List.toArray X), .pointer (some ⟨w.heap.size, 0, none⟩), .pointer (some ⟨w.heap.size + 1, 0, none⟩), .pointer (some ⟨p3, 0, none⟩), .pointer (some ⟨p4, 0, none⟩), .pointer (some ⟨p5, 0, none⟩), .pointer (some ⟨p6, 0, none⟩), .pointer (some ⟨w4.heap.size, 0, none⟩), u8, u9, u10, u11, u12, u13, u14, u15, u16, u17, u18, u19, u20, u21, u22, u23, u24, u25, u26, u27, .pointer (some ⟨w.heap.size, 1, none⟩), .int .i64 x.kind, .bool false, u31, u32, u33, u34, u35, u36, u37, .pointer (some ⟨w.heap.size, 1, none⟩), .int .i64 x.kind, .bool false, u41, u42, u43, u44, u45, u46, u47, u48, u49, u50, .agg #[.int .i64 6, .int .i64 0, .slice none 0 0, .string { data := #[] }, .slice none 0 0, .slice none 0 0], u52, u53, u54, u55, u56, u57, u58, u59, u60, u61, u62, u63, u64, u65, u66, u67, u68, u69, u70, u71, u72, u73, u74, u75, u76, u77, u78, u79, u80, u81, u82, u83, u84, u85, u86, u87, u88, u89, u90, u91, .agg (List.toArray (lstC u)), .agg (List.toArray (numC x.kind)), .agg (List.toArray (numC x.mode)), .agg (List.toArray (txtS x.path)), .pointer (some ⟨w.heap.size, 5, none⟩), .int .i64 x.size, u98, u99, u100, u101], []⟩) hSm (hSi 6 (by decide)) (fun _ _ h h2 => h h2) rfl rfl (by kernel_rfl) (by kernel_rfl) (by kernel_rfl) (by kernel_rfl) (by kernel_rfl) (fun _ _ _ h => h) (fun _ => hS0) (Tame.val rfl (fun w' hA => by have h1 := (hcell _ (AC.below hA)).2.2.2.2.2.1; go_simp)) rfl ?_
    refine wpAnyU_take (i := 7) (A := fun _ => True) (v := .agg (List.toArray (numC x.size))) (a' := ⟨#[.agg (List.toArray X), .pointer (some ⟨w.heap.size, 0, none⟩), .pointer (some ⟨w.heap.size + 1, 0, none⟩), .pointer (some ⟨p3, 0, none⟩), .pointer (some ⟨p4, 0, none⟩), .pointer (some ⟨p5, 0, none⟩), .pointer (some ⟨p6, 0, none⟩), .pointer (some ⟨w4.heap.size, 0, none⟩), u8, u9, u10, u11, u12, u13, u14, u15, u16, u17, u18, u19, u20, u21, u22, u23, u24, u25, u26, u27, .pointer (some ⟨w.heap.size, 1, none⟩), .int .i64 x.kind, .bool false, u31, u32, u33, u34, u35, u36, u37, .pointer (some ⟨w.heap.size, 1, none⟩), .int .i64 x.kind, .bool false, u41, u42, u43, u44, u45, u46, u47, u48, u49, u50, .agg #[.int .i64 6, .int .i64 0, .slice none 0 0, .string { data := #[] }, .slice none 0 0, .slice none 0 0], u52, u53, u54, u55, u56, u57, u58, u59, u60, u61, u62, u63, u64, u65, u66, u67, u68, u69, u70, u71, u72, u73, u74, u75, u76, u77, u78, u79, u80, u81, u82, u83, u84, u85, u86, u87, u88, u89, u90, u91, .agg (List.toArray (lstC u)), .agg (List.toArray (numC x.kind)), .agg (List.toArray (numC x.mode)), .agg (List.toArray (txtS x.path)), .pointer (some ⟨w.heap.size, 5, none⟩), .int .i64 x.size, .agg (List.toArray (numC x.size)), u99, u100, u101], []⟩) hSm (hSi 7 (by decide)) (fun _ _ _ => trivial) rfl (by kernel_rfl) (by kernel_rfl) (by kernel_rfl) (fun _ _ _ h => h) (fun _ => hS0) (Tame.enter rfl (fun w' => by go_simp) (fun w' _ => rnum21_any _ w')) rfl ?_
    refine wpAnyU_takeK (i := 8) 11 (A := fun v => Below wc.heap.size wc v) (v := .agg (List.toArray (numC x.time))) (a' := ⟨#[.agg (List.toArray X), .pointer (some ⟨w.heap.size, 0, none⟩), .pointer (some ⟨w.heap.size + 1, 0, none⟩), .pointer (some ⟨p3, 0, none⟩), .pointer (some ⟨p4, 0, none⟩), .pointer (some ⟨p5, 0, none⟩), .pointer (some ⟨p6, 0, none⟩), .pointer (some ⟨w4.heap.size, 0, none⟩), u8, u9, u10, u11, u12, u13, u14, u15, u16, u17, u18, u19, u20, u21, u22, u23, u24, u25, u26, u27, .pointer (some ⟨w.heap.size, 1, none⟩), .int .i64 x.kind, .bool false, u31, u32, u33, u34, u35, u36, u37, .pointer (some ⟨w.heap.size, 1, none⟩), .int .i64 x.kind, .bool false, u41, u42, u43, u44, u45, u46, u47, u48, u49, u50, .agg #[.int .i64 6, .int .i64 0, .slice none 0 0, .string { data := #[] }, .slice none 0 0, .slice none 0 0], u52, u53, u54, u55, u56, u57, u58, u59, u60, u61, u62, u63, u64, u65, u66, u67, u68, u69, u70, u71, u72, u73, u74, u75, u76, u77, u78, u79, u80, u81, u82, u83, u84, u85, u86, u87, u88, u89, u90, u91, .agg (List.toArray (lstC u)), .agg (List.toArray (numC x.kind)), .agg (List.toArray (numC x.mode)), .agg (List.toArray (txtS x.path)), .pointer (some ⟨w.heap.size, 5, none⟩), .int .i64 x.size, .agg (List.toArray (numC x.size)), .agg (List.toArray (numC x.time)), u100, u101], []⟩) hSm (hSi 8 (by decide)) (fun _ _ h h2 => h h2) rfl rfl (by kernel_rfl) (by kernel_rfl) (by kernel_rfl) (by kernel_rfl) (by kernel_rfl) (fun _ _ _ h => h) (fun _ => hS0) (Tame.val rfl (fun w' hA => run_ldOp (ldOp_all (C6.below hA) Tryz.underlying50 rfl sizeV))) rfl ?_
    refine wpAnyU_all (rs := [0, 9]) (by kernel_rfl) (by decide) ?_
    intro wA hmA i hi
    obtain hi | hi : i = 0 ∨ i = 9 := by simpa using hi
    · subst hi
      have hSA := hSx #[] _ _ hS0 hmA
      refine wpOp_val (v := .slice (some ⟨wA.heap.size, 0, none⟩) 6 6) (w' := wA.alloc (.cells #[.string { data := #[99] }, .string { data := #[107] }, .string { data := #[109] }, .string { data := #[112] }, .string { data := #[115] }, .string { data := #[116] }] 9)) (a' := ⟨#[.agg (List.toArray X), .pointer (some ⟨w.heap.size, 0, none⟩), .pointer (some ⟨w.heap.size + 1, 0, none⟩), .pointer (some ⟨p3, 0, none⟩), .pointer (some ⟨p4, 0, none⟩), .pointer (some ⟨p5, 0, none⟩), .pointer (some ⟨p6, 0, none⟩), .pointer (some ⟨w4.heap.size, 0, none⟩), u8, u9, u10, u11, u12, u13, u14, u15, u16, u17, u18, u19, u20, u21, u22, u23, u24, u25, u26, u27, .pointer (some ⟨w.heap.size, 1, none⟩), .int .i64 x.kind, .bool false, u31, u32, u33, u34, u35, u36, u37, .pointer (some ⟨w.heap.size, 1, none⟩), .int .i64 x.kind, .bool false, u41, u42, u43, u44, u45, u46, u47, u48, u49, u50, .agg #[.int .i64 6, .int .i64 0, .slice none 0 0, .string { data := #[] }, .slice none 0 0, .slice none 0 0], u52, u53, u54, u55, u56, u57, u58, u59, u60, u61, u62, u63, u64, u65, u66, u67, u68, u69, u70, u71, u72, u73, u74, u75, u76, u77, u78, u79, u80, u81, u82, u83, u84, u85, u86, u87, u88, u89, u90, .slice (some ⟨wA.heap.size, 0, none⟩) 6 6, .agg (List.toArray (lstC u)), .agg (List.toArray (numC x.kind)), .agg (List.toArray (numC x.mode)), .agg (List.toArray (txtS x.path)), .pointer (some ⟨w.heap.size, 5, none⟩), .int .i64 x.size, .agg (List.toArray (numC x.size)), .agg (List.toArray (numC x.time)), u100, u101], []⟩) rfl rfl (by go_simp) rfl ?_
      have hmK : Mo wA (wA.alloc (.cells #[.string { data := #[99] }, .string { data := #[107] }, .string { data := #[109] }, .string { data := #[112] }, .string { data := #[115] }, .string { data := #[116] }] 9)) := (Below.refl _ _).alloc (Nat.le_refl _) _
      have hSK := hSx #[] _ _ hSA hmK
      refine ⟨fun _ => hSK, ?_⟩
      have hBK : Blk (wA.alloc (.cells #[.string { data := #[99] }, .string { data := #[107] }, .string { data := #[109] }, .string { data := #[112] }, .string { data := #[115] }, .string { data := #[116] }] 9)) wA.heap.size 9 ([[99], [107], [109], [112], [115], [116]].map strV) := Blk.new _ _ _
      have hgK : wc.heap.size ≤ wA.heap.size := hSA.size
      generalize (wA.alloc (.cells #[.string { data := #[99] }, .string { data := #[107] }, .string { data := #[109] }, .string { data := #[112] }, .string { data := #[115] }, .string { data := #[116] }] 9)) = wK at *
      generalize wA.heap.size = gK at *
      refine wpAnyU_all (rs := [9]) (by kernel_rfl) (by decide) ?_
      intro wB hmB i hi
      obtain rfl : i = 9 := by simpa using hi
      have hSB := hSx #[] _ _ hSK hmB
      refine wpOp_val (v := .slice (some ⟨wB.heap.size, 0, none⟩) 6 6) (w' := (wB.alloc (.cells (List.toArray (List.flatten [lstC u, numC x.kind, numC x.mode, txtS x.path, numC x.size, numC x.time])) 50))) (a' := ⟨#[.agg (List.toArray X), .pointer (some ⟨w.heap.size, 0, none⟩), .pointer (some ⟨w.heap.size + 1, 0, none⟩), .pointer (some ⟨p3, 0, none⟩), .pointer (some ⟨p4, 0, none⟩), .pointer (some ⟨p5, 0, none⟩), .pointer (some ⟨p6, 0, none⟩), .pointer (some ⟨w4.heap.size, 0, none⟩), u8, u9, u10, u11, u12, u13, u14, u15, u16, u17, u18, u19, u20, u21, u22, u23, u24, u25, u26, u27, .pointer (some ⟨w.heap.size, 1, none⟩), .int .i64 x.kind, .bool false, u31, u32, u33, u34, u35, u36, u37, .pointer (some ⟨w.heap.size, 1, none⟩), .int .i64 x.kind, .bool false, u41, u42, u43, u44, u45, u46, u47, u48, u49, u50, .agg #[.int .i64 6, .int .i64 0, .slice none 0 0, .string { data := #[] }, .slice none 0 0, .slice none 0 0], u52, u53, u54, u55, u56, u57, u58, u59, u60, u61, u62, u63, u64, u65, u66, u67, u68, u69, u70, u71, u72, u73, u74, u75, u76, u77, u78, u79, u80, u81, u82, u83, u84, u85, u86, u87, u88, u89, u90, .slice (some ⟨gK, 0, none⟩) 6 6, .agg (List.toArray (lstC u)), .agg (List.toArray (numC x.kind)), .agg (List.toArray (numC x.mode)), .agg (List.toArray (txtS x.path)), .pointer (some ⟨w.heap.size, 5, none⟩), .int .i64 x.size, .agg (List.toArray (numC x.size)), .agg (List.toArray (numC x.time)), .slice (some ⟨wB.heap.size, 0, none⟩) 6 6, u101], []⟩) rfl rfl (run_bsOp (vals := #[(0, .agg (List.toArray (lstC u))), (1, .agg (List.toArray (numC x.kind))), (2, .agg (List.toArray (numC x.mode))), (3, .agg (List.toArray (txtS x.path))), (4, .agg (List.toArray (numC x.size))), (5, .agg (List.toArray (numC x.time)))]) (by first | rfl | go_simp | simp [Act.eval]) (bsOp_rows (vs := [lstC u, numC x.kind, numC x.mode, txtS x.path, numC x.size, numC x.time]) Tryz.underlying48 infoV (by decide) rfl (by decide) (by decide) (by exact zV_size) (by simp [numC, txtS, lstC]) rfl)) rfl ?_
      have hmV : Mo wB (wB.alloc (.cells (List.toArray (List.flatten [lstC u, numC x.kind, numC x.mode, txtS x.path, numC x.size, numC x.time])) 50)) := (Below.refl _ _).alloc (Nat.le_refl _) _
      have hSV := hSx #[] _ _ hSB hmV
      refine ⟨fun _ => hSV, ?_⟩
      have hBV : Blk (wB.alloc (.cells (List.toArray (List.flatten [lstC u, numC x.kind, numC x.mode, txtS x.path, numC x.size, numC x.time])) 50)) wB.heap.size 50 (List.flatten [lstC u, numC x.kind, numC x.mode, txtS x.path, numC x.size, numC x.time]) := Blk.new _ _ _
      have hgV : wc.heap.size ≤ wB.heap.size := hSB.size
      generalize (wB.alloc (.cells (List.toArray (List.flatten [lstC u, numC x.kind, numC x.mode, txtS x.path, numC x.size, numC x.time])) 50)) = wV at *
      generalize wB.heap.size = gV at *
      refine wpAnyU_take (i := 10) (A := fun _ => True) (v := .agg #[.int .i64 7, .int .i64 0, .slice none 0 0, .string { data := #[] }, .slice (some ⟨gK, 0, none⟩) 6 6, .slice (some ⟨gV, 0, none⟩) 6 6]) (a' := ⟨#[.agg (List.toArray X), .pointer (some ⟨w.heap.size, 0, none⟩), .pointer (some ⟨w.heap.size + 1, 0, none⟩), .pointer (some ⟨p3, 0, none⟩), .pointer (some ⟨p4, 0, none⟩), .pointer (some ⟨p5, 0, none⟩), .pointer (some ⟨p6, 0, none⟩), .pointer (some ⟨w4.heap.size, 0, none⟩), u8, u9, u10, u11, u12, u13, u14, u15, u16, u17, u18, u19, u20, u21, u22, u23, u24, u25, u26, u27, .pointer (some ⟨w.heap.size, 1, none⟩), .int .i64 x.kind, .bool false, u31, u32, u33, u34, u35, u36, u37, .pointer (some ⟨w.heap.size, 1, none⟩), .int .i64 x.kind, .bool false, u41, u42, u43, u44, u45, u46, u47, u48, u49, u50, .agg #[.int .i64 6, .int .i64 0, .slice none 0 0, .string { data := #[] }, .slice none 0 0, .slice none 0 0], u52, u53, u54, u55, u56, u57, u58, u59, u60, u61, u62, u63, u64, u65, u66, u67, u68, u69, u70, u71, u72, u73, u74, u75, u76, u77, u78, u79, u80, u81, u82, u83, u84, u85, u86, u87, u88, u89, u90, .slice (some ⟨gK, 0, none⟩) 6 6, .agg (List.toArray (lstC u)), .agg (List.toArray (numC x.kind)), .agg (List.toArray (numC x.mode)), .agg (List.toArray (txtS x.path)), .pointer (some ⟨w.heap.size, 5, none⟩), .int .i64 x.size, .agg (List.toArray (numC x.size)), .agg (List.toArray (numC x.time)), .slice (some ⟨gV, 0, none⟩) 6 6, .agg #[.int .i64 7, .int .i64 0, .slice none 0 0, .string { data := #[] }, .slice (some ⟨gK, 0, none⟩) 6 6, .slice (some ⟨gV, 0, none⟩) 6 6]], []⟩) hSm (hSi 10 (by decide)) (fun _ _ _ => trivial) rfl (by kernel_rfl) (by kernel_rfl) (by kernel_rfl) (fun _ _ _ h => h) (fun _ => hSV) (Tame.val rfl (fun w' hA => by go_simp)) rfl ?_
      refine wpAnyU_all (rs := [11]) (by kernel_rfl) (by decide) ?_
      intro wE hmE i hi
      obtain rfl : i = 11 := by simpa using hi
      have hSE := hSx #[] _ _ hSV hmE
      have hfin := map_fin (w := w) (n := 6) (ks := [[99], [107], [109], [112], [115], [116]]) (css := [lstC u, numC x.kind, numC x.mode, txtS x.path, numC x.size, numC x.time]) (vs := [pList (x.parts.map ptV), pNum x.kind, pNum x.mode, pTxt x.path, pNum x.size, pNum x.time]) (RC.below hSE) rfl (by omega) (((hBK.below hmB).below hmV).below hmE) (hBV.below hmE) rfl rfl rfl (by simp [numC, txtS, lstC]) (by simp [maxLen]) (by decide) (by omega) (by omega) ⟨hvd.grow hSE, VAtP.numb _ hki, VAtP.numb _ hmi, VAtP.txtS _ hpm, VAtP.numb _ hsi, VAtP.numb _ hti, trivial⟩ (hbC.trans (hSE.mono hbC.size))
      obtain ⟨Wz, z1, z2, z3, z4⟩ := hfin
      refine wpOp_skip (w' := Wz) (a' := ⟨#[.agg (List.toArray X), .pointer (some ⟨w.heap.size, 0, none⟩), .pointer (some ⟨w.heap.size + 1, 0, none⟩), .pointer (some ⟨p3, 0, none⟩), .pointer (some ⟨p4, 0, none⟩), .pointer (some ⟨p5, 0, none⟩), .pointer (some ⟨p6, 0, none⟩), .pointer (some ⟨w4.heap.size, 0, none⟩), u8, u9, u10, u11, u12, u13, u14, u15, u16, u17, u18, u19, u20, u21, u22, u23, u24, u25, u26, u27, .pointer (some ⟨w.heap.size, 1, none⟩), .int .i64 x.kind, .bool false, u31, u32, u33, u34, u35, u36, u37, .pointer (some ⟨w.heap.size, 1, none⟩), .int .i64 x.kind, .bool false, u41, u42, u43, u44, u45, u46, u47, u48, u49, u50, .agg #[.int .i64 6, .int .i64 0, .slice none 0 0, .string { data := #[] }, .slice none 0 0, .slice none 0 0], u52, u53, u54, u55, u56, u57, u58, u59, u60, u61, u62, u63, u64, u65, u66, u67, u68, u69, u70, u71, u72, u73, u74, u75, u76, u77, u78, u79, u80, u81, u82, u83, u84, u85, u86, u87, u88, u89, u90, .slice (some ⟨gK, 0, none⟩) 6 6, .agg (List.toArray (lstC u)), .agg (List.toArray (numC x.kind)), .agg (List.toArray (numC x.mode)), .agg (List.toArray (txtS x.path)), .pointer (some ⟨w.heap.size, 5, none⟩), .int .i64 x.size, .agg (List.toArray (numC x.size)), .agg (List.toArray (numC x.time)), .slice (some ⟨gV, 0, none⟩) 6 6, .agg #[.int .i64 7, .int .i64 0, .slice none 0 0, .string { data := #[] }, .slice (some ⟨gK, 0, none⟩) 6 6, .slice (some ⟨gV, 0, none⟩) 6 6]], []⟩) rfl rfl (run_stoOp z1) rfl ?_
      refine ⟨fun hL => absurd hL (by decide +kernel), ?_⟩
      refine wpAnyU_done (by kernel_rfl) ?_ _
      intro wZ hmZ
      have y2 := z2.below hmZ
      have y3 := z3.grow hmZ
      have y4 := z4.trans (hmZ.mono z4.size)
      go_wp2_with fail
      refine bodyPost_ret (results_cell_row (fn := Tryz.f36) (by rfl) _ _ (w.heap.size + 1) 50 _ (0, 0) _ (by rfl) y2 Tryz.underlying50 rfl sizeV) rfl ⟨_, rfl, by rw [hT.out]; exact y3, y4⟩
    · subst hi
      have hSA := hSx #[] _ _ hS0 hmA
      refine wpOp_val (v := .slice (some ⟨wA.heap.size, 0, none⟩) 6 6) (w' := (wA.alloc (.cells (List.toArray (List.flatten [lstC u, numC x.kind, numC x.mode, txtS x.path, numC x.size, numC x.time])) 50))) (a' := ⟨#[.agg (List.toArray X), .pointer (some ⟨w.heap.size, 0, none⟩), .pointer (some ⟨w.heap.size + 1, 0, none⟩), .pointer (some ⟨p3, 0, none⟩), .pointer (some ⟨p4, 0, none⟩), .pointer (some ⟨p5, 0, none⟩), .pointer (some ⟨p6, 0, none⟩), .pointer (some ⟨w4.heap.size, 0, none⟩), u8, u9, u10, u11, u12, u13, u14, u15, u16, u17, u18, u19, u20, u21, u22, u23, u24, u25, u26, u27, .pointer (some ⟨w.heap.size, 1, none⟩), .int .i64 x.kind, .bool false, u31, u32, u33, u34, u35, u36, u37, .pointer (some ⟨w.heap.size, 1, none⟩), .int .i64 x.kind, .bool false, u41, u42, u43, u44, u45, u46, u47, u48, u49, u50, .agg #[.int .i64 6, .int .i64 0, .slice none 0 0, .string { data := #[] }, .slice none 0 0, .slice none 0 0], u52, u53, u54, u55, u56, u57, u58, u59, u60, u61, u62, u63, u64, u65, u66, u67, u68, u69, u70, u71, u72, u73, u74, u75, u76, u77, u78, u79, u80, u81, u82, u83, u84, u85, u86, u87, u88, u89, u90, u91, .agg (List.toArray (lstC u)), .agg (List.toArray (numC x.kind)), .agg (List.toArray (numC x.mode)), .agg (List.toArray (txtS x.path)), .pointer (some ⟨w.heap.size, 5, none⟩), .int .i64 x.size, .agg (List.toArray (numC x.size)), .agg (List.toArray (numC x.time)), .slice (some ⟨wA.heap.size, 0, none⟩) 6 6, u101], []⟩) rfl rfl (run_bsOp (vals := #[(0, .agg (List.toArray (lstC u))), (1, .agg (List.toArray (numC x.kind))), (2, .agg (List.toArray (numC x.mode))), (3, .agg (List.toArray (txtS x.path))), (4, .agg (List.toArray (numC x.size))), (5, .agg (List.toArray (numC x.time)))]) (by first | rfl | go_simp | simp [Act.eval]) (bsOp_rows (vs := [lstC u, numC x.kind, numC x.mode, txtS x.path, numC x.size, numC x.time]) Tryz.underlying48 infoV (by decide) rfl (by decide) (by decide) (by exact zV_size) (by simp [numC, txtS, lstC]) rfl)) rfl ?_
      have hmV : Mo wA (wA.alloc (.cells (List.toArray (List.flatten [lstC u, numC x.kind, numC x.mode, txtS x.path, numC x.size, numC x.time])) 50)) := (Below.refl _ _).alloc (Nat.le_refl _) _
      have hSV := hSx #[] _ _ hSA hmV
      refine ⟨fun _ => hSV, ?_⟩
      have hBV : Blk (wA.alloc (.cells (List.toArray (List.flatten [lstC u, numC x.kind, numC x.mode, txtS x.path, numC x.size, numC x.time])) 50)) wA.heap.size 50 (List.flatten [lstC u, numC x.kind, numC x.mode, txtS x.path, numC x.size, numC x.time]) := Blk.new _ _ _
      have hgV : wc.heap.size ≤ wA.heap.size := hSA.size
      generalize (wA.alloc (.cells (List.toArray (List.flatten [lstC u, numC x.kind, numC x.mode, txtS x.path, numC x.size, numC x.time])) 50)) = wV at *
      generalize wA.heap.size = gV at *
      refine wpAnyU_all (rs := [0]) (by kernel_rfl) (by decide) ?_
      intro wB hmB i hi
      obtain rfl : i = 0 := by simpa using hi
      have hSB := hSx #[] _ _ hSV hmB
      refine wpOp_val (v := .slice (some ⟨wB.heap.size, 0, none⟩) 6 6) (w' := wB.alloc (.cells #[.string { data := #[99] }, .string { data := #[107] }, .string { data := #[109] }, .string { data := #[112] }, .string { data := #[115] }, .string { data := #[116] }] 9)) (a' := ⟨#[.agg (List.toArray X), .pointer (some ⟨w.heap.size, 0, none⟩), .pointer (some ⟨w.heap.size + 1, 0, none⟩), .pointer (some ⟨p3, 0, none⟩), .pointer (some ⟨p4, 0, none⟩), .pointer (some ⟨p5, 0, none⟩), .pointer (some ⟨p6, 0, none⟩), .pointer (some ⟨w4.heap.size, 0, none⟩), u8, u9, u10, u11, u12, u13, u14, u15, u16, u17, u18, u19, u20, u21, u22, u23, u24, u25, u26, u27, .pointer (some ⟨w.heap.size, 1, none⟩), .int .i64 x.kind, .bool false, u31, u32, u33, u34, u35, u36, u37, .pointer (some ⟨w.heap.size, 1, none⟩), .int .i64 x.kind, .bool false, u41, u42, u43, u44, u45, u46, u47, u48, u49, u50, .agg #[.int .i64 6, .int .i64 0, .slice none 0 0, .string { data := #[] }, .slice none 0 0, .slice none 0 0], u52, u53, u54, u55, u56, u57, u58, u59, u60, u61, u62, u63, u64, u65, u66, u67, u68, u69, u70, u71, u72, u73, u74, u75, u76, u77, u78, u79, u80, u81, u82, u83, u84, u85, u86, u87, u88, u89, u90, .slice (some ⟨wB.heap.size, 0, none⟩) 6 6, .agg (List.toArray (lstC u)), .agg (List.toArray (numC x.kind)), .agg (List.toArray (numC x.mode)), .agg (List.toArray (txtS x.path)), .pointer (some ⟨w.heap.size, 5, none⟩), .int .i64 x.size, .agg (List.toArray (numC x.size)), .agg (List.toArray (numC x.time)), .slice (some ⟨gV, 0, none⟩) 6 6, u101], []⟩) rfl rfl (by go_simp) rfl ?_
      have hmK : Mo wB (wB.alloc (.cells #[.string { data := #[99] }, .string { data := #[107] }, .string { data := #[109] }, .string { data := #[112] }, .string { data := #[115] }, .string { data := #[116] }] 9)) := (Below.refl _ _).alloc (Nat.le_refl _) _
      have hSK := hSx #[] _ _ hSB hmK
      refine ⟨fun _ => hSK, ?_⟩
      have hBK : Blk (wB.alloc (.cells #[.string { data := #[99] }, .string { data := #[107] }, .string { data := #[109] }, .string { data := #[112] }, .string { data := #[115] }, .string { data := #[116] }] 9)) wB.heap.size 9 ([[99], [107], [109], [112], [115], [116]].map strV) := Blk.new _ _ _
      have hgK : wc.heap.size ≤ wB.heap.size := hSB.size
      generalize (wB.alloc (.cells #[.string { data := #[99] }, .string { data := #[107] }, .string { data := #[109] }, .string { data := #[112] }, .string { data := #[115] }, .string { data := #[116] }] 9)) = wK at *
      generalize wB.heap.size = gK at *
      refine wpAnyU_take (i := 10) (A := fun _ => True) (v := .agg #[.int .i64 7, .int .i64 0, .slice none 0 0, .string { data := #[] }, .slice (some ⟨gK, 0, none⟩) 6 6, .slice (some ⟨gV, 0, none⟩) 6 6]) (a' := ⟨#[.agg (List.toArray X), .pointer (some ⟨w.heap.size, 0, none⟩), .pointer (some ⟨w.heap.size + 1, 0, none⟩), .pointer (some ⟨p3, 0, none⟩), .pointer (some ⟨p4, 0, none⟩), .pointer (some ⟨p5, 0, none⟩), .pointer (some ⟨p6, 0, none⟩), .pointer (some ⟨w4.heap.size, 0, none⟩), u8, u9, u10, u11, u12, u13, u14, u15, u16, u17, u18, u19, u20, u21, u22, u23, u24, u25, u26, u27, .pointer (some ⟨w.heap.size, 1, none⟩), .int .i64 x.kind, .bool false, u31, u32, u33, u34, u35, u36, u37, .pointer (some ⟨w.heap.size, 1, none⟩), .int .i64 x.kind, .bool false, u41, u42, u43, u44, u45, u46, u47, u48, u49, u50, .agg #[.int .i64 6, .int .i64 0, .slice none 0 0, .string { data := #[] }, .slice none 0 0, .slice none 0 0], u52, u53, u54, u55, u56, u57, u58, u59, u60, u61, u62, u63, u64, u65, u66, u67, u68, u69, u70, u71, u72, u73, u74, u75, u76, u77, u78, u79, u80, u81, u82, u83, u84, u85, u86, u87, u88, u89, u90, .slice (some ⟨gK, 0, none⟩) 6 6, .agg (List.toArray (lstC u)), .agg (List.toArray (numC x.kind)), .agg (List.toArray (numC x.mode)), .agg (List.toArray (txtS x.path)), .pointer (some ⟨w.heap.size, 5, none⟩), .int .i64 x.size, .agg (List.toArray (numC x.size)), .agg (List.toArray (numC x.time)), .slice (some ⟨gV, 0, none⟩) 6 6, .agg #[.int .i64 7, .int .i64 0, .slice none 0 0, .string { data := #[] }, .slice (some ⟨gK, 0, none⟩) 6 6, .slice (some ⟨gV, 0, none⟩) 6 6]], []⟩) hSm (hSi 10 (by decide)) (fun _ _ _ => trivial) rfl (by kernel_rfl) (by kernel_rfl) (by kernel_rfl) (fun _ _ _ h => h) (fun _ => hSK) (Tame.val rfl (fun w' hA => by go_simp)) rfl ?_
      refine wpAnyU_all (rs := [11]) (by kernel_rfl) (by decide) ?_
      intro wE hmE i hi
      obtain rfl : i = 11 := by simpa using hi
      have hSE := hSx #[] _ _ hSK hmE
      have hfin := map_fin (w := w) (n := 6) (ks := [[99], [107], [109], [112], [115], [116]]) (css := [lstC u, numC x.kind, numC x.mode, txtS x.path, numC x.size, numC x.time]) (vs := [pList (x.parts.map ptV), pNum x.kind, pNum x.mode, pTxt x.path, pNum x.size, pNum x.time]) (RC.below hSE) rfl (by omega) (hBK.below hmE) (((hBV.below hmB).below hmK).below hmE) rfl rfl rfl (by simp [numC, txtS, lstC]) (by simp [maxLen]) (by decide) (by omega) (by omega) ⟨hvd.grow hSE, VAtP.numb _ hki, VAtP.numb _ hmi, VAtP.txtS _ hpm, VAtP.numb _ hsi, VAtP.numb _ hti, trivial⟩ (hbC.trans (hSE.mono hbC.size))
      obtain ⟨Wz, z1, z2, z3, z4⟩ := hfin
      refine wpOp_skip (w' := Wz) (a' := ⟨#[.agg (List.toArray X), .pointer (some ⟨w.heap.size, 0, none⟩), .pointer (some ⟨w.heap.size + 1, 0, none⟩), .pointer (some ⟨p3, 0, none⟩), .pointer (some ⟨p4, 0, none⟩), .pointer (some ⟨p5, 0, none⟩), .pointer (some ⟨p6, 0, none⟩), .pointer (some ⟨w4.heap.size, 0, none⟩), u8, u9, u10, u11, u12, u13, u14, u15, u16, u17, u18, u19, u20, u21, u22, u23, u24, u25, u26, u27, .pointer (some ⟨w.heap.size, 1, none⟩), .int .i64 x.kind, .bool false, u31, u32, u33, u34, u35, u36, u37, .pointer (some ⟨w.heap.size, 1, none⟩), .int .i64 x.kind, .bool false, u41, u42, u43, u44, u45, u46, u47, u48, u49, u50, .agg #[.int .i64 6, .int .i64 0, .slice none 0 0, .string { data := #[] }, .slice none 0 0, .slice none 0 0], u52, u53, u54, u55, u56, u57, u58, u59, u60, u61, u62, u63, u64, u65, u66, u67, u68, u69, u70, u71, u72, u73, u74, u75, u76, u77, u78, u79, u80, u81, u82, u83, u84, u85, u86, u87, u88, u89, u90, .slice (some ⟨gK, 0, none⟩) 6 6, .agg (List.toArray (lstC u)), .agg (List.toArray (numC x.kind)), .agg (List.toArray (numC x.mode)), .agg (List.toArray (txtS x.path)), .pointer (some ⟨w.heap.size, 5, none⟩), .int .i64 x.size, .agg (List.toArray (numC x.size)), .agg (List.toArray (numC x.time)), .slice (some ⟨gV, 0, none⟩) 6 6, .agg #[.int .i64 7, .int .i64 0, .slice none 0 0, .string { data := #[] }, .slice (some ⟨gK, 0, none⟩) 6 6, .slice (some ⟨gV, 0, none⟩) 6 6]], []⟩) rfl rfl (run_stoOp z1) rfl ?_
      refine ⟨fun hL => absurd hL (by decide +kernel), ?_⟩
      refine wpAnyU_done (by kernel_rfl) ?_ _
      intro wZ hmZ
      have y2 := z2.below hmZ
      have y3 := z3.grow hmZ
      have y4 := z4.trans (hmZ.mono z4.size)
      go_wp2_with fail
      refine bodyPost_ret (results_cell_row (fn := Tryz.f36) (by rfl) _ _ (w.heap.size + 1) 50 _ (0, 0) _ (by rfl) y2 Tryz.underlying50 rfl sizeV) rfl ⟨_, rfl, by rw [hT.out]; exact y3, y4⟩
    --END20
end Go.Proofs.YtpchogicdnfggaaGreatDoor
