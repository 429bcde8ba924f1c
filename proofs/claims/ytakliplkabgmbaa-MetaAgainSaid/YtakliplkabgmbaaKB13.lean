/- Joined: what one statement of this layer stands on, part 13 of 19; nothing is assumed. -/
import Derived.ChangeMaps5
import Derived.Deep.Strs
import Derived.Test.YtakliplkabgmbaaKB4
import Derived.Test.YtakliplkabgmbaaKB10
import Derived.Test.YtakliplkabgmbaaKB11
import Derived.Test.YtakliplkabgmbaaKB12
set_option maxRecDepth 20000
namespace Go.Hd
/-- Names and times, one by one. -/
def scanE : List Abt → Int
  | [] => 0
  | x :: l => if nameB x.name = true then (if timelyB x.time = true then scanE l else 2) else 7
def checkL (l : List Abt) : Int := if 64 < l.length then 16 else if scanE l ≠ 0 then scanE l else if risesT (l.map (·.name)) = true then 0 else 18
end Go.Hd
namespace Go.Proofs.Ytakliplkabgmbaa
open Go.RowKit Go.Hd
attribute [local go_sem ↓] h_ldV h_stV h_alV h_ldID h_stID h_alID h_ldAB h_stAB h_alAB
attribute [local go_sem] r_ldV r_stV r_alV r_ldID r_stID r_alID r_ldAB r_stAB r_alAB

theorem leT_not (b a : List UInt8) : leT b a = !Op.bytesLess (str a).toList (str b).toList := by
  unfold leT
  generalize (str a).toList = A
  generalize (str b).toList = B
  by_cases h : B = A
  · subst h; rw [bl_irrefl]; simp
  · have hne : (B == A) = false := by simpa using h
    rw [hne, Bool.or_false]
    rcases bl_total B A h with h2 | h2
    · rw [h2, bl_asymm h2]; rfl
    · rw [h2, bl_asymm h2]; rfl
theorem cell_field {w : World} {a : Addr} {i j : Nat} {v : Value} (h : w.cell? (a.add (i + j)) = some v) : w.cell? ⟨(a.add i).block, (a.add i).off + j, none⟩ = some v := by
  unfold World.cell? Addr.add at *
  by_cases hi : i = 0 <;> by_cases hj : j = 0 <;> simp [hi, hj, Nat.add_assoc] at h ⊢
  · cases hb : w.heap[a.block]? with
    | none => rw [hb] at h; cases h
    | some o =>
      rw [hb] at h
      cases o with
      | cells c e f =>
        simp only at h ⊢
        split at h
        · cases h
        · exact h
      | _ => cases h
  all_goals exact h
theorem cell_fld {w : World} {a : Addr} {i j : Nat} {v : Value} (h : w.cell? ((a.add i).add j) = some v) : w.cell? ⟨(a.add i).block, (a.add i).off + j, none⟩ = some v := cell_field (by rwa [add_add] at h)
theorem addr_add0 (x : Addr) : x.add 0 = x := by unfold Addr.add; simp
theorem abts37 {l : List Abt} (hok : ∀ x ∈ l, AbtOk x) : ∀ x ∈ l.map abtC, x.length = 37 := fun x hx => by
  obtain ⟨y, hy, rfl⟩ := List.mem_map.1 hx
  exact abtC_len (hok y hy)
/-- One field of an archive in a row. -/
theorem abt_cell {w : World} {a : Option Addr} {l : List Abt} (hr : Row w a (l.map abtC).flatten) (hok : ∀ x ∈ l, AbtOk x) {j : Nat} (hj : j < l.length) {k : Nat} {v : Value} (h : (abtC l[j])[k]? = some v) : w.cell? (((hd a).add (j * 37)).add k) = some v :=
  hr.elem (s := 37) (abts37 hok) (i := j) (c := abtC l[j]) (by simp [hj]) k v h
set_option maxHeartbeats 2000000 in
theorem checkList_any {a : Option Addr} {n c : Nat} {l : List Abt} {w : World} (hn : n = l.length) (hr : Row w a (l.map abtC).flatten) (hok : ∀ x ∈ l, AbtOk x) (hl : l.length ≤ 1000) :
    Calls Try.prog 28 #[.slice a n c] w fun e w' => e = .returned (.int .i64 (checkL l)) ∧ Below w.heap.size w w' := by
  subst hn
  have za := zAB_size
  have HC : Hid (checkL l = if 64 < l.length then 16 else if scanE l ≠ 0 then scanE l else if risesT (l.map (·.name)) = true then 0 else 18) := rfl
  have HL := Lib.hid hl
  have HOK := Lib.hid hok
  clear hl hok
  by_cases h64 : 64 < l.length
  · have i1 : (64 : Int) < (l.length : Int) := by omega
    have hR : Hid (checkL l = 16) := by show _ = _; rw [HC.out, if_pos h64]
    clear h64 HC
    go_enter Try.func28, Try.ntmps28
    go_wp2
    go_ret
    exact ⟨by rw [hR.out] <;> rfl, Below.refl _ _⟩
  have i1 : ¬ (64 : Int) < (l.length : Int) := by omega
  have HC2 : Hid (checkL l = if scanE l ≠ 0 then scanE l else if risesT (l.map (·.name)) = true then 0 else 18) := by show _ = _; rw [HC.out, if_neg h64]
  have HS0 : Hid (scanE (l.drop 0) = scanE l) := rfl
  generalize checkL l = R at *
  generalize scanE l = SE at *
  clear HC h64
  go_enter Try.func28, Try.ntmps28
  go_upto_block 0 with (fail)
  go_cut [12] (fun _ wx => SE = 0 ∧ Below w.heap.size w wx)
  case first =>
    go_wp2
    go_loopw [12] (fun i wr => ∃ j : Nat, j ≤ l.length ∧ i = .int .i64 j ∧ Hid (scanE (l.drop j) = SE) ∧ Hid (Below w.heap.size w wr)) (fun i _ => l.length - (intOf i).toNat)
    case atStart => exact ⟨0, Nat.zero_le _, rfl, HS0, Lib.hid (Below.refl _ _)⟩
    case round =>
      obtain ⟨j, hj, rfl, hE, hb⟩ := hrel
      have j0 : (0 : Int) ≤ (j : Int) := by omega
      have jb : IntKind.i64.wrap ((j : Int) + 1) = (j : Int) + 1 := IntWalk.i64_in _ (by have := HL.out; omega)
      clear HS0
      by_cases hlt : j < l.length
      · have j1 : (j : Int) < (l.length : Int) := by omega
        have hr2 := hr.below hb.out
        have s1 := hr2.elemSome (s := 37) (abts37 HOK.out) (by decide) (i := j) (by simpa using hlt)
        have hxo := HOK.out _ (List.getElem_mem hlt)
        have q1 := ldOp_at (P := Try.prog) (ty := 31) (hr2.elem (s := 37) (abts37 HOK.out) (i := j) (c := abtC l[j]) (by simp [hlt])) Try.underlying31 rfl (by rw [abtC_len hxo]; exact sizeAB)
        have hE2 : Hid ((if nameB l[j].name = true then (if timelyB l[j].time = true then scanE (l.drop (j + 1)) else 2) else 7) = SE) := by
          show _ = _
          rw [← hE.out, List.drop_eq_getElem_cons hlt]; rfl
        generalize l[j] = x at *
        have x1 : (List.toArray (abtC x)).size = 37 := by simpa using abtC_len hxo
        have x2 : OneC (List.toArray (abtC x)) := all_oneCell_toArray (abtC_one x)
        clear hr2 hE
        go_upto_region 6 with (fail)
        have hxB : Blk (wr.alloc (.cells (List.toArray (abtC x)) 31)) wr.heap.size 31 (abtC x) := Blk.new wr 31 _
        have hb0x : Below wr.heap.size wr (wr.alloc (.cells (List.toArray (abtC x)) 31)) := (Below.refl _ _).alloc (Nat.le_refl _) _
        have hbW := Lib.hid (hb.out.trans (hb0x.mono hb.out.size))
        generalize wr.alloc (.cells (List.toArray (abtC x)) 31) = W at *
        generalize wr.heap.size = qx at *
        have d0 : W.cell? ⟨qx, 0, none⟩ = some (.string (str x.name)) := hxB.cell (abtC_0 x)
        have hcn := checkName_any x.name W hxo.name
        have HF : Hid (nameE x.name = if nameB x.name then 0 else 7) := rfl
        clear q1 hb hb0x s1
        generalize nameB x.name = nb at *
        cases nb
        · have hE3 : Hid (7 = SE) := hE2.out
          have hn7 : nameE x.name = 7 := HF.out
          have hR : Hid (R = 7) := by show _ = _; rw [HC2.out, ← hE3.out]; rfl
          rw [hn7] at hcn
          clear hE2 HF HC2 hn7 hE3
          go_wp2_with fail
          refine hcn.mono ?_
          rintro e w2 ⟨rfl, hb2⟩
          go_wp2
          go_ret
          exact ⟨by rw [hR.out] <;> rfl, hbW.out.trans (hb2.mono hbW.out.size)⟩
        · have hE3 : Hid ((if timelyB x.time = true then scanE (l.drop (j + 1)) else 2) = SE) := hE2.out
          have hn7 : nameE x.name = 0 := HF.out
          rw [hn7] at hcn
          have htm := fun w' => timely_any x.time w'
          clear hE2 HF hn7
          go_wp2_with fail
          refine hcn.mono ?_
          rintro e w2 ⟨rfl, hb2⟩
          have d33 : w2.cell? ⟨qx, 33, none⟩ = some (.int .i64 x.time) := (hxB.below hb2).cell (abtC_33 hxo)
          have hbW2 := Lib.hid (hbW.out.trans (hb2.mono hbW.out.size))
          clear hb2 hbW hxB d0 hcn
          generalize timelyB x.time = tb at *
          cases tb
          · have hE4 : Hid (2 = SE) := hE3.out
            have hR : Hid (R = 2) := by show _ = _; rw [HC2.out, ← hE4.out]; rfl
            clear hE3 HC2 hE4
            go_wp2_with fail
            refine (htm _).mono ?_
            rintro e w3 ⟨rfl, hw3⟩
            subst hw3
            go_wp2
            go_ret
            exact ⟨by rw [hR.out] <;> rfl, hbW2.out⟩
          · have hE4 : Hid (scanE (l.drop (j + 1)) = SE) := hE3.out
            clear hE3
            go_wp2_with fail
            refine (htm _).mono ?_
            rintro e w3 ⟨rfl, hw3⟩
            subst hw3
            go_wp2
            first
              | exact ⟨⟨j + 1, by omega, (by first | rfl | go_num | (congr 1; omega)), hE4, hbW2⟩, by simp [intOf] <;> omega⟩
              | (refine ⟨?_, by simp [intOf] <;> omega⟩; (repeat apply Exists.intro); exact ⟨⟨j + 1, by omega, (by first | rfl | go_num | (congr 1; omega)), hE4, hbW2⟩, rfl⟩)
      · have hSE : SE = 0 := by rw [← hE.out, List.drop_eq_nil_of_le (by omega)]; rfl
        have j1 : ¬ (j : Int) < (l.length : Int) := by omega
        have hh := Lib.hid (And.intro hSE hb.out)
        clear hSE
        go_wp2
        go_meet
        exact hh.out
  case rest =>
    obtain ⟨hSE, hbc⟩ := hcut
    have HR : Hid (R = if risesT (l.map (·.name)) = true then 0 else 18) := by show _ = _; rw [HC2.out, if_neg (by rw [hSE]; simp)]
    have HB := Lib.hid hbc
    have hrc := hr.below hbc
    clear HC2 hSE HS0 hbc hr
    go_wp2
    go_loopw [6] (fun i wr => ∃ j : Nat, 1 ≤ j ∧ j ≤ l.length + 1 ∧ i = .int .i64 j ∧ Hid (risesT ((l.map (·.name)).take j) = true) ∧ Hid (∃ n, wr = wc.drewN n)) (fun i _ => l.length + 1 - (intOf i).toNat)
    case atStart => exact ⟨1, Nat.le_refl _, by omega, rfl, Lib.hid (risesT_one _), Lib.hid ⟨0, by rw [World.drewN_zero]⟩⟩
    case round =>
      obtain ⟨j, hj1, hj, rfl, hri, hwr⟩ := hrel
      obtain ⟨nn, hwr⟩ := hwr.out
      have j0 : (0 : Int) ≤ (j : Int) := by omega
      have jb : IntKind.i64.wrap ((j : Int) + 1) = (j : Int) + 1 := IntWalk.i64_in _ (by have := HL.out; omega)
      by_cases hlt : j < l.length
      · have j1 : (j : Int) < (l.length : Int) := by omega
        have hrw : Row wr a (l.map abtC).flatten := by rw [hwr]; exact hrc.drewN nn
        obtain ⟨k, hk⟩ : ∃ k, k = j - 1 := ⟨_, rfl⟩
        have hkl : k < l.length := by omega
        have im : IntKind.i64.wrap ((j : Int) - 1) = (k : Int) := by rw [IntWalk.i64_in _ (by have := HL.out; omega)]; omega
        have k0 : (0 : Int) ≤ (k : Int) := by omega
        have k1 : (k : Int) < (l.length : Int) := by omega
        have s1 := hrw.elemSome (s := 37) (abts37 HOK.out) (by decide) (i := j) (by simpa using hlt)
        have q1 := abt_cell hrw HOK.out hlt (abtC_0 l[j])
        have q2 := abt_cell hrw HOK.out hkl (abtC_0 l[k])
        have hbF : Hid (∀ n, Below w.heap.size w (wr.drewN n)) := fun n => by rw [hwr, World.drewN_drewN]; exact Below.drewN HB.out _
        have hNX : Hid (∀ n, ∃ m, wr.drewN n = wc.drewN m) := fun n => ⟨nn + n, by rw [hwr, World.drewN_drewN]⟩
        have hRT : Hid (risesT ((l.map (·.name)).take (j + 1)) = !leT (l[j]).name (l[k]).name) := by
          show _ = _
          obtain rfl : j = k + 1 := by omega
          rw [risesT_take _ k (by simpa using hlt), hri.out]
          simp
        have hNR : Hid (risesT ((l.map (·.name)).take (j + 1)) = false → risesT (l.map (·.name)) = false) := risesT_not
        unfold strV at q1 q2
        rw [addr_add0] at q1 q2
        generalize l[j].name = y at *
        generalize l[k].name = z at *
        clear hk hwr hrw hri
        go_wp2
        go_quiet (fail)
        have HLT := Lib.hid (leT_not y z)
        cases hg : Op.bytesLess (str z).toList (str y).toList
        · have hR : Hid (R = 18) := by
            show _ = _
            rw [HR.out, if_neg]
            rw [hNR.out (by rw [hRT.out, HLT.out, hg]; rfl)]; decide
          clear hRT hNR HR hNX HLT
          go_wp2
          go_ret
          exact ⟨by rw [hR.out] <;> rfl, hbF.out nq⟩
        · have hri2 : Hid (risesT ((l.map (·.name)).take (j + 1)) = true) := by show _ = _; rw [hRT.out, HLT.out, hg]; rfl
          have hnx := Lib.hid (hNX.out nq)
          clear hRT hNR hNX HLT hbF
          go_wp2
          first
            | exact ⟨⟨j + 1, by omega, by omega, (by first | rfl | go_num | (congr 1; omega)), hri2, hnx⟩, by simp [intOf] <;> omega⟩
            | (refine ⟨?_, by simp [intOf] <;> omega⟩; (repeat apply Exists.intro); exact ⟨⟨j + 1, by omega, by omega, (by first | rfl | go_num | (congr 1; omega)), hri2, hnx⟩, rfl⟩)
      · have hR : Hid (R = 0) := by
          show _ = _
          have h := hri.out
          rw [List.take_of_length_le (by simp; omega)] at h
          rw [HR.out, if_pos h]
        have hbF : Below w.heap.size w wr := by rw [hwr]; exact Below.drewN HB.out _
        have j1 : ¬ (j : Int) < (l.length : Int) := by omega
        clear hri HR hwr
        go_wp2
        go_ret
        exact ⟨by rw [hR.out] <;> rfl, hbF⟩
end Go.Proofs.Ytakliplkabgmbaa
set_option maxRecDepth 20000
namespace Go.Proofs.Ytakliplkabgmbaa
open Go.RowKit Go.Hd
theorem Rs.inv {α β : Type} {s : Rs α} {f : α → List UInt8 → Rs β} {y : β} {r : List UInt8} (h : s.bind f = .ok y r) : ∃ x q, s = .ok x q ∧ f x q = .ok y r := by
  cases s with
  | ok x q => exact ⟨x, q, rfl, h⟩
  | no c => cases h
theorem text_sm {c : Nat} {l t r : List UInt8} (h : textR c l = .ok t r) : t.length ≤ 65536 := by
  unfold textR at h
  split at h
  · have := (takeR_inv h).2; omega
  · split at h
    · obtain ⟨x, q, h1, h2⟩ := Rs.inv h
      have := (takeR_inv h2).2
      have := (leastR_inv h1).2.1
      omega
    · obtain ⟨x, q, h1, h2⟩ := Rs.inv h
      have := (takeR_inv h2).2
      have := (leastR_inv h1).2.1
      omega
theorem list_sm {f : List UInt8 → Rs PV} (hf : ∀ l v r, f l = .ok v r → Sm v) : ∀ (n : Nat) (l : List UInt8) (vs : List PV) (r : List UInt8), listR f n l = .ok vs r → vs.length = n ∧ ∀ x ∈ vs, Sm x
  | 0, l, vs, r, h => by
    simp only [listR, Rs.ok.injEq] at h
    obtain ⟨rfl, rfl⟩ := h
    exact ⟨rfl, by simp⟩
  | n + 1, l, vs, r, h => by
    rw [listR] at h
    obtain ⟨x, q, h1, h2⟩ := Rs.inv h
    obtain ⟨xs, q2, h3, h4⟩ := Rs.inv h2
    obtain ⟨k1, k2⟩ := list_sm hf n _ _ _ h3
    simp only [Rs.ok.injEq] at h4
    obtain ⟨rfl, rfl⟩ := h4
    exact ⟨by simp [k1], fun y hy => (List.mem_cons.1 hy).elim (fun e => e ▸ hf _ _ _ h1) (k2 y)⟩
theorem dict_sm {f : List UInt8 → Rs PV} (hf : ∀ l v r, f l = .ok v r → Sm v) : ∀ (n : Nat) (prev : Option (List UInt8)) (l : List UInt8) (vs : List (List UInt8 × PV)) (r : List UInt8), dictR f n prev l = .ok vs r → vs.length = n ∧ ∀ x ∈ vs, Sm x.2
  | 0, prev, l, vs, r, h => by
    simp only [dictR, Rs.ok.injEq] at h
    obtain ⟨rfl, rfl⟩ := h
    exact ⟨rfl, by simp⟩
  | n + 1, prev, l, vs, r, h => by
    rw [dictR] at h
    obtain ⟨k, q, h1, h2⟩ := Rs.inv h
    obtain ⟨x, q2, h3, h4⟩ := Rs.inv h2
    obtain ⟨xs, q3, h5, h6⟩ := Rs.inv h4
    obtain ⟨k1, k2⟩ := dict_sm hf n _ _ _ _ h5
    simp only [Rs.ok.injEq] at h6
    obtain ⟨rfl, rfl⟩ := h6
    exact ⟨by simp [k1], fun y hy => (List.mem_cons.1 hy).elim (fun e => e ▸ hf _ _ _ h3) (k2 y)⟩
theorem sm_plain (k n : Int) (t : List UInt8) (h : t.length ≤ 65536) : Sm (.mk k n [] t [] []) := .mk (by simp) (by simp) (by simp) (by simp) h
theorem sm_byt (b : List UInt8) (h : b.length ≤ 65536) : Sm (pByt b) := .mk h (by simp) (by simp) (by simp) (by simp)
theorem sm_list (l : List PV) (h : l.length ≤ 65536) (hs : ∀ x ∈ l, Sm x) : Sm (pList l) := .mk (by simp) (by simp) h hs (by simp)
theorem sm_dict (l : List (List UInt8 × PV)) (h : l.length ≤ 65536) (hs : ∀ x ∈ l, Sm x.2) : Sm (pDict l) := .mk (by simp) (by simpa using h) (by simpa using h) (by
  intro x hx
  obtain ⟨y, hy, rfl⟩ := List.mem_map.1 hx
  exact hs y hy) (by simp)
def ASm (f : List UInt8 → Rs PV) : Prop := ∀ l v r, f l = .ok v r → Sm v
theorem ASm.ite {c : Prop} [Decidable c] {f g : List UInt8 → Rs PV} (hf : ASm f) (hg : ASm g) : ASm (fun l => if c then f l else g l) := by
  intro l v r h
  by_cases hc : c
  · exact hf l v r (by simpa [hc] using h)
  · exact hg l v r (by simpa [hc] using h)
theorem ASm.bind {α : Type} {s : List UInt8 → Rs α} {f : α → List UInt8 → Rs PV} (hf : ∀ l x q, s l = .ok x q → ASm (f x)) : ASm (fun l => (s l).bind f) := by
  intro l v r h
  obtain ⟨x, q, h1, h2⟩ := Rs.inv h
  exact hf l x q h1 _ _ _ h2
theorem ASm.pure {v : PV} (h : Sm v) : ASm (fun r => .ok v r) := by
  intro l x r h1
  cases h1; exact h
theorem ASm.no {c : Int} : ASm (fun _ => .no c) := by
  intro l x r h1
  cases h1
theorem bytes_sm {s : List UInt8 → Rs Nat} (hs : ∀ l x q, s l = .ok x q → x ≤ 65536) : ∀ l x q, ((s l).bind takeR) = .ok x q → x.length ≤ 65536 := by
  intro l x q h
  obtain ⟨n, q2, h3, h4⟩ := Rs.inv h
  have := (takeR_inv h4).2
  have := hs _ _ _ h3
  omega
theorem lead_sm {f : List UInt8 → Rs PV} (hf : ASm f) (c : Nat) : ASm (leadR f c) := by
  unfold leadR
  refine ASm.ite (ASm.bind fun l x q h => ASm.pure (sm_plain _ _ _ (text_sm h))) ?_
  refine ASm.ite (ASm.pure (sm_plain _ _ _ (by simp))) ?_
  refine ASm.ite (ASm.bind fun l x q h => ASm.pure (by obtain ⟨k1, k2⟩ := list_sm hf _ _ _ _ h; exact sm_list _ (by omega) k2)) ?_
  refine ASm.ite (ASm.bind fun l x q h => ASm.pure (by obtain ⟨k1, k2⟩ := dict_sm hf _ _ _ _ _ h; exact sm_dict _ (by omega) k2)) ?_
  refine ASm.ite (ASm.bind fun l x q h => ASm.pure (sm_plain _ _ _ (by simp))) ?_
  refine ASm.ite (ASm.pure (sm_plain _ _ _ (by simp))) ?_
  refine ASm.ite (ASm.pure (sm_plain _ _ _ (by simp))) ?_
  refine ASm.ite (ASm.pure (sm_plain _ _ _ (by simp))) ?_
  refine ASm.ite (ASm.bind fun l x q h => ASm.pure (sm_byt _ (bytes_sm (fun l x q h => by have := (bigR_inv h).2; omega) _ _ _ h))) ?_
  refine ASm.ite (ASm.bind fun l x q h => ASm.pure (sm_byt _ (bytes_sm (fun l x q h => by have := (leastR_inv h).2.1; omega) _ _ _ h))) ?_
  refine ASm.ite (ASm.bind fun l n q h => ASm.bind fun l x q h2 => ASm.pure (by have := (leastR_inv h).2.1; obtain ⟨k1, k2⟩ := list_sm hf _ _ _ _ h2; exact sm_list _ (by omega) k2)) ?_
  refine ASm.ite (ASm.bind fun l n q h => ASm.bind fun l x q h2 => ASm.pure (by have := (leastR_inv h).2.1; obtain ⟨k1, k2⟩ := dict_sm hf _ _ _ _ _ h2; exact sm_dict _ (by omega) k2)) ?_
  exact ASm.no
theorem decV_sm : ∀ (d : Nat) (l : List UInt8) (v : PV) (r : List UInt8), decV d l = .ok v r → Sm v
  | 0, l, v, r, h => by
    unfold decV at h
    split at h <;> cases h
  | d + 1, [], v, r, h => by cases h
  | d + 1, c :: l, v, r, h => lead_sm (decV_sm d) _ l v r (show leadR (decV d) c.toNat l = .ok v r from h)
theorem sm_zero : Sm pv0 := sm_plain 0 0 [] (by simp)
theorem decF_sm (l : List UInt8) : Sm (decF l).1 := by
  unfold decF
  split
  · exact sm_zero
  · split
    · exact sm_zero
    · rename_i v r h
      split
      · exact decV_sm _ _ _ _ h
      · exact sm_zero
/-- What has been read is as plain as can be. -/
theorem decF_norm {l : List UInt8} (hok : OkV (decF l).1) (h : (decF l).2 = 0) : normV (decF l).1 = (decF l).1 := by
  have h1 : decF l = ((decF l).1, 0) := by rw [← h]
  have h2 := (decF_enc hok (encF_dec h1)).2.2.2.2
  rw [h1] at h2
  exact (congrArg Prod.fst h2).symm
theorem normL_all {l : List PV} (h : normL l = l) : ∀ x ∈ l, normV x = x := by
  intro x hx
  obtain ⟨i, hi, rfl⟩ := List.mem_iff_getElem.1 hx
  have h1 := normL_get l (j := i) (by rw [normL_len]; exact hi) hi
  rw [← h1]
  simp only [h]
theorem findK_mem : ∀ {ks : List (List UInt8)} {vs : List PV} {key : List UInt8} {x : PV}, findK ks vs key = some x → x ∈ vs
  | k :: ks, v :: vs, key, x, h => by
    rw [findK] at h
    split at h
    · cases h; exact List.mem_cons_self
    · exact List.mem_cons_of_mem _ (findK_mem h)
  | [], _, _, _, h => by cases h
  | _ :: _, [], _, _, h => by cases h
theorem fld_norm {v : PV} (h : normV v = v) (key : List UInt8) : getV v key = fldV v key := by
  cases v with
  | mk k n b t ks l =>
    rw [getV_mk, fldV_mk]
    by_cases h7 : k = 7
    · subst h7
      rw [if_pos rfl, if_pos rfl]
      cases hF : findK ks l key with
      | none => rfl
      | some x =>
        rw [normV_mk] at h
        have hl : normL l = l := by
          simp only [show ¬ (7 : Int) = 3 by omega, show ¬ (7 : Int) = 4 by omega, show ¬ (7 : Int) = 5 by omega, show ¬ (7 : Int) = 6 by omega, if_false, if_true, PV.mk.injEq] at h
          exact h.2.2.2.2.2
        have := normL_all hl x (findK_mem hF)
        show normV x = x
        exact this
    · rw [if_neg h7, if_neg h7]
end Go.Proofs.Ytakliplkabgmbaa
set_option maxRecDepth 20000
namespace Go.Hd
open Go Go.RowKit Go.ChangeShapes Go.WideShapes Go.ChangeAt
end Go.Hd
namespace Go.Proofs.Ytakliplkabgmbaa
open Go.RowKit Go.Hd Go.ChangeShapes Go.WideShapes Go.ChangeAt

def metaL (l : List Abt) : List UInt8 × Int := if checkL l ≠ 0 then ([], checkL l) else encF (listV l)
theorem mlist_any {a : Option Addr} {n c : Nat} {l : List Abt} {w : World} (hn : n = l.length) (hr : Row w a (l.map abtC).flatten) (hok : ∀ x ∈ l, AbtOk x) (hl : l.length ≤ 1000) :
    Calls Try.prog 14 #[.slice a n c] w fun e w' => ∃ u, e = .returned (.tuple #[u, .int .i64 (metaL l).2]) ∧ BRd w' u (metaL l).1 ∧ Below w.heap.size w w' := by
  subst hn
  have hck := checkList_any (c := c) rfl hr hok hl
  have hlv := fun w' (hb : Below w.heap.size w w') => listValue_any (c := c) rfl (hr.below hb) hok hl
  have HM : Hid (metaL l = if checkL l ≠ 0 then ([], checkL l) else encF (listV l)) := rfl
  generalize metaL l = R at *
  generalize listV l = v at *
  by_cases h0 : checkL l = 0
  · rw [h0] at hck
    have hR : Hid (R = encF v) := by show _ = _; rw [HM.out, if_neg (by rw [h0]; simp)]
    clear HM h0
    go_enter Try.func14, Try.ntmps14
    go_wp2_with fail
    refine hck.mono ?_
    rintro e w1 ⟨rfl, hb1⟩
    go_wp2_with fail
    refine (hlv _ hb1).mono ?_
    rintro e w2 ⟨cs, rfl, hv, hb2⟩
    have he := enc_any hv.at (Below.refl _ _)
    go_wp2_with fail
    refine he.mono ?_
    rintro e w3 ⟨u, rfl, hu, hb3⟩
    go_wp2
    go_ret2
    exact ⟨u, by rw [hR.out] <;> rfl, by rw [hR.out]; exact hu, Gr.trans hb1 (Gr.trans hb2 hb3)⟩
  · have e1 : (checkL l == 0) = false := by simpa using h0
    have e2 : (checkL l != 0) = true := by simpa using h0
    have hR : Hid (R = ([], checkL l)) := by show _ = _; rw [HM.out, if_pos h0]
    generalize checkL l = E at *
    clear HM h0
    go_enter Try.func14, Try.ntmps14
    go_wp2_with fail
    refine hck.mono ?_
    rintro e w1 ⟨rfl, hb1⟩
    go_wp2
    go_ret2
    exact ⟨.slice none 0 0, by rw [hR.out] <;> rfl, by rw [hR.out]; exact BRd.nil _, hb1⟩
theorem metaL_nil : metaL [] = ([130, 161, 97, 144, 161, 118, 1], 0) := by decide +kernel
theorem lives23_any (w : World) : Calls Try.prog 11 #[] w fun e w' => e = .returned (.bool true) ∧ Below w.heap.size w w' := by
  have hL := mlist_any (a := none) (n := 0) (c := 0) (l := []) (w := w) rfl (Row.nil _ _) (by simp) (by simp)
  rw [metaL_nil] at hL
  go_enter Try.func11, Try.ntmps11
  go_wp2_with fail
  refine hL.mono ?_
  rintro e w1 ⟨u, rfl, ⟨a, c, rfl, hc1, hc2, hr⟩, hb1⟩
  have hcv := run_convert_row (P := Try.prog) (src := 35) (e := 5) (dst := 9) (c := c) eB.ht Try.underlying5 Try.underlying9 rfl hr
  have hcn := checkName_any [97] w1 (by decide)
  rw [show nameE [97] = 0 by decide +kernel] at hcn
  rw [show str [97] = ⟨#[97]⟩ from rfl] at hcn
  change (convert 35 9 (.slice a 7 c)).run _ _ = .ok (.string ⟨#[130, 161, 97, 144, 161, 118, 1]⟩) _ at hcv
  go_wp2_with fail
  refine hcn.mono ?_
  rintro e w2 ⟨rfl, hb2⟩
  go_wp2
  go_ret
  exact ⟨rfl, Gr.trans hb1 hb2⟩
end Go.Proofs.Ytakliplkabgmbaa
set_option maxRecDepth 20000
namespace Go.Proofs.Ytakliplkabgmbaa
open Go.RowKit Go.Hd
section
variable (ρ : Operand → Value) (dst : Option Tmp) (ty : TypeId) (pos : String) (after : Array Edge) (guard : Option (Nat × Bool))
theorem h_bsLV (n : Nat) (parts : Array (Nat × Operand)) : execOp ρ { dst, op := .buildSlice 61 n parts, type := ty, pos, after, guard } = (do pure (.value (← bsOp 61 n (parts.map fun (i, x) => (i, ρ x))))) := rfl
end
attribute [local go_sem ↓] h_ldV h_stV h_alV h_ldID h_stID h_alID h_bsLV
attribute [local go_sem] r_ldV r_stV r_alV r_ldID r_stID r_alID

/-- The id of an archive in a row, loaded. -/
theorem abt_ldID {w : World} {a : Option Addr} {l : List Abt} (hr : Row w a (l.map abtC).flatten) (hok : ∀ x ∈ l, AbtOk x) {j : Nat} (hj : j < l.length) :
    (ldOp 29 (.pointer (some ⟨((hd a).add (j * 37)).block, ((hd a).add (j * 37)).off + 1, none⟩))).run Try.prog w = .ok (.agg (List.toArray (l[j].id.map b8))) w := by
  have hxo := hok _ (List.getElem_mem hj)
  refine ldOp_at (fun i v hv => ?_) Try.underlying29 rfl (by rw [List.length_map, hxo.id]; exact sizeID)
  rw [Addr.add_mid, Nat.add_assoc]
  refine cell_fld (abt_cell hr hok hj (k := 1 + i) ?_)
  rw [← abtC_id hxo] at hv
  rw [List.getElem?_take] at hv
  split at hv
  · rwa [List.getElem?_drop] at hv
  · cases hv
end Go.Proofs.Ytakliplkabgmbaa
set_option maxRecDepth 20000
namespace Go.Proofs.Ytakliplkabgmbaa
open Go.RowKit Go.Hd
def abtOf (x : PV) : Abt := ⟨(atV x 0).text, keyV (atV x 1).bytes, (atV x 2).int, [], 0, 0⟩
def lstOut (v : PV) : List Abt := ((fldV v [97]).list.take 70).map abtOf
def lstOk (v : PV) : Bool := decide (checkL (lstOut v) = 0) && sameV (listV (lstOut v)) v
/-- The list that bytes are, or why none. -/
def lstR (l : List UInt8) : List Abt × Int := if (decF l).2 ≠ 0 then ([], (decF l).2) else if lstOk (decF l).1 = true then (lstOut (decF l).1, 0) else ([], 4)
theorem norm_num (n : Int) : normV (pNum n) = pNum n := by unfold pNum; rw [normV_mk]; rfl
theorem norm_txt (t : List UInt8) : normV (pTxt t) = pTxt t := by unfold pTxt; rw [normV_mk]; rfl
theorem norm_byt (b : List UInt8) : normV (pByt b) = pByt b := by unfold pByt; rw [normV_mk]; rfl
theorem norm_list (l : List PV) : normV (pList l) = pList (normL l) := by unfold pList; rw [normV_mk]; rfl
theorem norm_abt (x : Abt) : normV (abtV x) = abtV x := by
  unfold abtV
  rw [norm_list]
  simp only [normL, norm_txt, norm_byt, norm_num]
theorem normL_id : ∀ {l : List PV}, (∀ x ∈ l, normV x = x) → normL l = l
  | [], _ => by simp [normL]
  | x :: l, h => by rw [normL, h x (by simp), normL_id (fun y hy => h y (by simp [hy]))]
theorem norm_listV (l : List Abt) : normV (listV l) = listV l := by
  unfold listV
  rw [normV_mk]
  show PV.mk 7 0 [] [] _ (normL _) = _
  rw [normL, normL, normL, norm_list, norm_num, normL_id (fun x hx => by obtain ⟨y, _, rfl⟩ := List.mem_map.1 hx; exact norm_abt y)]
theorem same_list {l : List Abt} {v : PV} (hn : normV v = v) (h : sameV (listV l) v = true) : v = listV l := by
  have := (sameV_norm _ _).1 h
  rw [norm_listV, hn] at this
  exact this.symm
theorem fld_listV (l : List Abt) : fldV (listV l) [97] = pList (l.map abtV) := by
  unfold listV
  rw [fldV_mk, if_pos rfl, findK, if_pos rfl]
  rfl
theorem isV_abt {x : Abt} (h : x.id.length = 32) : isV (abtV x) [5, 4, 3] = true := by
  simp [isV, abtV, pList, isL, pTxt, pByt, pNum, PV.kind, PV.list, PV.bytes, h]
theorem lstOut_ids (v : PV) : ∀ x ∈ lstOut v, x.id.length = 32 := fun x hx => by
  obtain ⟨y, _, rfl⟩ := List.mem_map.1 hx
  exact keyV_len _
theorem checkL_long {l : List Abt} (h : 64 < l.length) : checkL l = 16 := by unfold checkL; rw [if_pos h]
theorem lstOk_short {v : PV} (h : lstOk v = true) : (fldV v [97]).list.length ≤ 64 := by
  unfold lstOk at h
  rw [Bool.and_eq_true, decide_eq_true_eq] at h
  by_cases h1 : 64 < (lstOut v).length
  · rw [checkL_long h1] at h; exact absurd h.1 (by omega)
  · have : (lstOut v).length = min 70 (fldV v [97]).list.length := by simp [lstOut]
    omega
/-- Some element is not of these kinds: no list. -/
theorem rd_bad {v : PV} (hn : normV v = v) {x : PV} (hx : x ∈ (fldV v [97]).list) (hb : isV x [5, 4, 3] = false) : lstOk v = false := by
  by_cases h : lstOk v = true
  · have h64 := lstOk_short h
    have hv : v = listV (lstOut v) := by
      unfold lstOk at h
      rw [Bool.and_eq_true] at h
      exact same_list hn h.2
    have h1 : (fldV v [97]).list = (lstOut v).map abtV := by
      have := fld_listV (lstOut v)
      rw [← hv] at this
      rw [this]; rfl
    rw [h1] at hx
    obtain ⟨y, hy, rfl⟩ := List.mem_map.1 hx
    rw [isV_abt (lstOut_ids v y hy)] at hb
    cases hb
  · simpa using h
theorem lstOut_all {v : PV} (h : (fldV v [97]).list.length ≤ 70) : lstOut v = (fldV v [97]).list.map abtOf := by
  unfold lstOut; rw [List.take_of_length_le h]
/-- All are read, more than 70 perhaps: as told of the first 70. -/
theorem lstOk_all (v : PV) : lstOk v = (decide (checkL ((fldV v [97]).list.map abtOf) = 0) && sameV (listV ((fldV v [97]).list.map abtOf)) v) := by
  by_cases h : (fldV v [97]).list.length ≤ 70
  · unfold lstOk; rw [lstOut_all h]
  · unfold lstOk
    rw [checkL_long (l := lstOut v) (by simp [lstOut]; omega), checkL_long (l := (fldV v [97]).list.map abtOf) (by simp; omega)]
    simp
theorem isV_parts {x : PV} (h : isV x [5, 4, 3] = true) : ∃ x0 x1 x2, x.list = [x0, x1, x2] ∧ x1.bytes.length = 32 := by
  unfold isV at h
  rw [Bool.and_eq_true, Bool.and_eq_true, decide_eq_true_eq, decide_eq_true_eq] at h
  obtain ⟨⟨_, h1⟩, h2⟩ := h
  match hx : x.list, h1 with
  | [x0, x1, x2], _ =>
    rw [hx] at h2
    simp [isL] at h2
    exact ⟨x0, x1, x2, rfl, h2.2.1.2⟩
end Go.Proofs.Ytakliplkabgmbaa
set_option maxRecDepth 20000
namespace Go.Hd
def sizeB (p : Prt) : Bool := decide (1 ≤ p.size) && decide (p.size ≤ 8192)
def limB (x : Abt) (n : Nat) : Bool := decide (x.comment.length ≤ 100) && timelyB x.time && decide (0 ≤ x.items) && decide (x.items ≤ 100) && decide (0 ≤ x.bytes) && decide (x.bytes ≤ 26214400) && decide (n ≤ 64)
def checkA (x : Abt) (ps : List Prt) : Int := if nameB x.name = true then (if limB x ps.length = true then (if ps.all sizeB = true then 0 else 2) else 2) else 7
end Go.Hd
namespace Go.Proofs.Ytakliplkabgmbaa
open Go.RowKit Go.Hd
attribute [local go_sem ↓] h_ldAB h_stAB h_alAB h_ldPA h_stPA h_alPA
attribute [local go_sem] r_ldAB r_stAB r_alAB r_ldPA r_stPA r_alPA

theorem prts33 {l : List Prt} (hok : ∀ x ∈ l, PrtOk x) : ∀ x ∈ l.map prtC, x.length = 33 := fun x hx => by
  obtain ⟨y, hy, rfl⟩ := List.mem_map.1 hx
  exact prtC_len (hok y hy)
/-- The seven limits, as the walks decide them. -/
theorem lim_cases (x : Abt) (n : Nat) (P : Prop) (h1 : ¬ x.comment.length ≤ 100 → P) (h2 : x.comment.length ≤ 100 → timelyB x.time = false → P) (h3 : x.comment.length ≤ 100 → timelyB x.time = true → x.items < 0 → P)
    (h4 : x.comment.length ≤ 100 → timelyB x.time = true → ¬ x.items < 0 → 100 < x.items → P) (h5 : x.comment.length ≤ 100 → timelyB x.time = true → ¬ x.items < 0 → ¬ 100 < x.items → x.bytes < 0 → P)
    (h6 : x.comment.length ≤ 100 → timelyB x.time = true → ¬ x.items < 0 → ¬ 100 < x.items → ¬ x.bytes < 0 → 26214400 < x.bytes → P)
    (h7 : x.comment.length ≤ 100 → timelyB x.time = true → ¬ x.items < 0 → ¬ 100 < x.items → ¬ x.bytes < 0 → ¬ 26214400 < x.bytes → ¬ n ≤ 64 → P)
    (h8 : x.comment.length ≤ 100 → timelyB x.time = true → ¬ x.items < 0 → ¬ 100 < x.items → ¬ x.bytes < 0 → ¬ 26214400 < x.bytes → n ≤ 64 → P) : P := by
  by_cases c1 : x.comment.length ≤ 100
  · cases c2 : timelyB x.time
    · exact h2 c1 c2
    · by_cases c3 : x.items < 0
      · exact h3 c1 c2 c3
      · by_cases c4 : 100 < x.items
        · exact h4 c1 c2 c3 c4
        · by_cases c5 : x.bytes < 0
          · exact h5 c1 c2 c3 c4 c5
          · by_cases c6 : 26214400 < x.bytes
            · exact h6 c1 c2 c3 c4 c5 c6
            · by_cases c7 : n ≤ 64
              · exact h8 c1 c2 c3 c4 c5 c6 c7
              · exact h7 c1 c2 c3 c4 c5 c6 c7
  · exact h1 c1
theorem limB_eq (x : Abt) (n : Nat) : limB x n = (decide (x.comment.length ≤ 100) && timelyB x.time && decide (0 ≤ x.items) && decide (x.items ≤ 100) && decide (0 ≤ x.bytes) && decide (x.bytes ≤ 26214400) && decide (n ≤ 64)) := rfl
set_option maxHeartbeats 4000000 in
theorem checkArchive_wide {a : Option Addr} {n c : Nat} {x : Abt} {l : List Prt} {w : World} (hn : n = l.length) (hr : Row w a (l.map prtC).flatten) (hok : ∀ p ∈ l, PrtOk p) (hx : AbtOk x) (hl : l.length ≤ 100000) :
    Calls Try.prog 34 #[.agg (List.toArray (abtC x)), .slice a n c] w fun e w' => e = .returned (.int .i64 (checkA x l)) ∧ Below w.heap.size w w' := by
  subst hn
  have zp := zPA_size
  have HC : Hid (checkA x l = if nameB x.name = true then (if limB x l.length = true then (if l.all sizeB = true then 0 else 2) else 2) else 7) := rfl
  have HL := Lib.hid hl
  have HOK := Lib.hid hok
  have x1 : (List.toArray (abtC x)).size = 37 := by simpa using abtC_len hx
  have x2 : OneC (List.toArray (abtC x)) := all_oneCell_toArray (abtC_one x)
  have hall : Hid (∀ W, W = w.alloc (.cells (List.toArray (abtC x)) 31) → Blk W w.heap.size 31 (abtC x) ∧ Below w.heap.size w W) := by
    rintro W rfl
    exact ⟨Blk.new w 31 _, (Below.refl _ _).alloc (Nat.le_refl _) _⟩
  have HX := Lib.hid hx
  have HR := Lib.hid hr
  generalize checkA x l = R at *
  have HF : Hid (nameE x.name = if nameB x.name then 0 else 7) := rfl
  clear hl hok hr hx
  go_enter Try.func34, Try.ntmps34
  go_upto_region 1 with (fail)
  generalize hW : w.alloc (.cells (List.toArray (abtC x)) 31) = W at *
  obtain ⟨hxB, hbW⟩ := hall.out W rfl
  clear hall hW
  have d0 : W.cell? ⟨w.heap.size, 0, none⟩ = some (.string (str x.name)) := hxB.cell (abtC_0 x)
  have hcn := checkName_any x.name W HX.out.name
  generalize nameB x.name = nb at *
  cases nb
  · have hR : Hid (R = 7) := HC.out
    have hn7 : nameE x.name = 7 := HF.out
    rw [hn7] at hcn
    clear HF HC hn7
    go_wp2_with fail
    refine hcn.mono ?_
    rintro e w2 ⟨rfl, hb2⟩
    go_wp2
    go_ret
    exact ⟨by rw [hR.out] <;> rfl, hbW.trans (hb2.mono hbW.size)⟩
  have HC2 : Hid (R = if limB x l.length = true then (if l.all sizeB = true then 0 else 2) else 2) := HC.out
  have hn7 : nameE x.name = 0 := HF.out
  rw [hn7] at hcn
  clear HF HC hn7
  go_wp2_with fail
  refine hcn.mono ?_
  rintro e w2 ⟨rfl, hb2⟩
  have hxB2 := hxB.below hb2
  have hbW2 := Lib.hid (hbW.trans (hb2.mono hbW.size))
  have e33 : w2.cell? ⟨w.heap.size, 33, none⟩ = some (.int .i64 x.time) := hxB2.cell (abtC_33 HX.out)
  have e34 : w2.cell? ⟨w.heap.size, 34, none⟩ = some (.string (str x.comment)) := hxB2.cell (abtC_34 HX.out)
  have e35 : w2.cell? ⟨w.heap.size, 35, none⟩ = some (.int .i64 x.items) := hxB2.cell (abtC_35 HX.out)
  have e36 : w2.cell? ⟨w.heap.size, 36, none⟩ = some (.int .i64 x.bytes) := hxB2.cell (abtC_36 HX.out)
  have hzc : (str x.comment).size = x.comment.length := str_size _
  have htm := fun w' => timely_any x.time w'
  have HLB := Lib.hid (limB_eq x l.length)
  clear hcn hb2 hbW d0 hxB hxB2
  go_upto_region 4 with (fail)
  go_cut [48] (fun u wx => u = .bool (!limB x l.length) ∧ wx = w2)
  case first =>
    refine lim_cases x l.length _ ?_ ?_ ?_ ?_ ?_ ?_ ?_ ?_
    · intro c1
      have i1 : (100 : Int) < (x.comment.length : Int) := by omega
      have hv : Hid ((!limB x l.length) = true) := by show _ = _; rw [HLB.out, decide_eq_false c1]; simp
      clear c1 HLB HC2
      go_wp2
      go_meet
      exact ⟨by (rw [hv.out] <;> first | rfl | (congr 1; simp only [Bool.or_eq_false_iff, decide_eq_false_iff_not]; omega)), rfl⟩
    · intro c1 c2
      have i1 : ¬ (100 : Int) < (x.comment.length : Int) := by omega
      have hv : Hid ((!limB x l.length) = true) := by show _ = _; rw [HLB.out, decide_eq_true c1, c2]; simp
      have htm2 := htm w2
      rw [c2] at htm2
      clear c1 HLB HC2 c2
      go_wp2_with fail
      refine htm2.mono ?_
      rintro e w3 ⟨rfl, hw3⟩
      subst hw3
      go_wp2
      go_meet
      exact ⟨by (rw [hv.out] <;> first | rfl | (congr 1; simp only [Bool.or_eq_false_iff, decide_eq_false_iff_not]; omega)), rfl⟩
    · intro c1 c2 c3
      have i1 : ¬ (100 : Int) < (x.comment.length : Int) := by omega
      have hv : Hid ((!limB x l.length) = true) := by show _ = _; rw [HLB.out, decide_eq_true c1, c2, decide_eq_false (p := 0 ≤ x.items) (by omega)]; simp
      have htm2 := htm w2
      rw [c2] at htm2
      clear c1 HLB HC2 c2
      go_wp2_with fail
      refine htm2.mono ?_
      rintro e w3 ⟨rfl, hw3⟩
      subst hw3
      go_wp2
      go_meet
      exact ⟨by (rw [hv.out] <;> first | rfl | (congr 1; simp only [Bool.or_eq_false_iff, decide_eq_false_iff_not]; omega)), rfl⟩
    · intro c1 c2 c3 c4
      have i1 : ¬ (100 : Int) < (x.comment.length : Int) := by omega
      have hv : Hid ((!limB x l.length) = true) := by show _ = _; rw [HLB.out, decide_eq_true c1, c2, decide_eq_true (p := 0 ≤ x.items) (by omega), decide_eq_false (p := x.items ≤ 100) (by omega)]; simp
      have htm2 := htm w2
      rw [c2] at htm2
      clear c1 HLB HC2 c2
      go_wp2_with fail
      refine htm2.mono ?_
      rintro e w3 ⟨rfl, hw3⟩
      subst hw3
      go_wp2
      go_meet
      exact ⟨by (rw [hv.out] <;> first | rfl | (congr 1; simp only [Bool.or_eq_false_iff, decide_eq_false_iff_not]; omega)), rfl⟩
    · intro c1 c2 c3 c4 c5
      have i1 : ¬ (100 : Int) < (x.comment.length : Int) := by omega
      have hv : Hid ((!limB x l.length) = true) := by show _ = _; rw [HLB.out, decide_eq_true c1, c2, decide_eq_true (p := 0 ≤ x.items) (by omega), decide_eq_true (p := x.items ≤ 100) (by omega), decide_eq_false (p := 0 ≤ x.bytes) (by omega)]; simp
      have htm2 := htm w2
      rw [c2] at htm2
      clear c1 HLB HC2 c2
      go_wp2_with fail
      refine htm2.mono ?_
      rintro e w3 ⟨rfl, hw3⟩
      subst hw3
      go_wp2
      go_meet
      exact ⟨by (rw [hv.out] <;> first | rfl | (congr 1; simp only [Bool.or_eq_false_iff, decide_eq_false_iff_not]; omega)), rfl⟩
    · intro c1 c2 c3 c4 c5 c6
      have i1 : ¬ (100 : Int) < (x.comment.length : Int) := by omega
      have hv : Hid ((!limB x l.length) = true) := by show _ = _; rw [HLB.out, decide_eq_true c1, c2, decide_eq_true (p := 0 ≤ x.items) (by omega), decide_eq_true (p := x.items ≤ 100) (by omega), decide_eq_true (p := 0 ≤ x.bytes) (by omega), decide_eq_false (p := x.bytes ≤ 26214400) (by omega)]; simp
      have htm2 := htm w2
      rw [c2] at htm2
      clear c1 HLB HC2 c2
      go_wp2_with fail
      refine htm2.mono ?_
      rintro e w3 ⟨rfl, hw3⟩
      subst hw3
      go_wp2
      go_meet
      exact ⟨by (rw [hv.out] <;> first | rfl | (congr 1; simp only [Bool.or_eq_false_iff, decide_eq_false_iff_not]; omega)), rfl⟩
    · intro c1 c2 c3 c4 c5 c6 c7
      have i1 : ¬ (100 : Int) < (x.comment.length : Int) := by omega
      have i7 : (64 : Int) < (l.length : Int) := by omega
      have hv : Hid ((!limB x l.length) = true) := by show _ = _; rw [HLB.out, decide_eq_true c1, c2, decide_eq_true (p := 0 ≤ x.items) (by omega), decide_eq_true (p := x.items ≤ 100) (by omega), decide_eq_true (p := 0 ≤ x.bytes) (by omega), decide_eq_true (p := x.bytes ≤ 26214400) (by omega), decide_eq_false (p := l.length ≤ 64) c7]; simp
      have htm2 := htm w2
      rw [c2] at htm2
      clear c1 HLB HC2 c2 c7
      go_wp2_with fail
      refine htm2.mono ?_
      rintro e w3 ⟨rfl, hw3⟩
      subst hw3
      go_wp2
      go_meet
      exact ⟨by (rw [hv.out] <;> first | rfl | (congr 1; simp only [Bool.or_eq_false_iff, decide_eq_false_iff_not]; omega)), rfl⟩
    · intro c1 c2 c3 c4 c5 c6 c7
      have i1 : ¬ (100 : Int) < (x.comment.length : Int) := by omega
      have i7 : ¬ (64 : Int) < (l.length : Int) := by omega
      have hv : Hid ((!limB x l.length) = false) := by show _ = _; rw [HLB.out, decide_eq_true c1, c2, decide_eq_true (p := 0 ≤ x.items) (by omega), decide_eq_true (p := x.items ≤ 100) (by omega), decide_eq_true (p := 0 ≤ x.bytes) (by omega), decide_eq_true (p := x.bytes ≤ 26214400) (by omega), decide_eq_true (p := l.length ≤ 64) c7]; simp
      have htm2 := htm w2
      rw [c2] at htm2
      clear c1 HLB HC2 c2 c7
      go_wp2_with fail
      refine htm2.mono ?_
      rintro e w3 ⟨rfl, hw3⟩
      subst hw3
      go_wp2
      go_meet
      exact ⟨by (rw [hv.out] <;> first | rfl | (congr 1; simp only [Bool.or_eq_false_iff, decide_eq_false_iff_not]; omega)), rfl⟩
  case rest =>
    obtain ⟨rfl, hwc⟩ := hcut
    subst hwc
    clear e33 e34 e35 e36 htm HLB
    generalize limB x l.length = lb at *
    cases lb
    · have hR : Hid (R = 2) := HC2.out
      clear HC2
      go_wp2
      go_ret
      exact ⟨by rw [hR.out] <;> rfl, hbW2.out⟩
    have HC3 : Hid (R = if l.all sizeB = true then 0 else 2) := HC2.out
    clear HC2
    go_wp2
    go_loopw [51] (fun i wr => ∃ j : Nat, j ≤ l.length ∧ i = .int .i64 j ∧ Hid ((l.take j).all sizeB = true) ∧ Hid (Below w.heap.size w wr)) (fun i _ => l.length - (intOf i).toNat)
    case atStart => exact ⟨0, Nat.zero_le _, rfl, Lib.hid rfl, hbW2⟩
    case round =>
      obtain ⟨j, hj, rfl, hall, hb⟩ := hrel
      have j0 : (0 : Int) ≤ (j : Int) := by omega
      have jb : IntKind.i64.wrap ((j : Int) + 1) = (j : Int) + 1 := IntWalk.i64_in _ (by have := HL.out; omega)
      clear hbW2
      by_cases hlt : j < l.length
      · have j1 : (j : Int) < (l.length : Int) := by omega
        have hr2 := HR.out.below hb.out
        have s1 := hr2.elemSome (s := 33) (prts33 HOK.out) (by decide) (i := j) (by simpa using hlt)
        have hpo := HOK.out _ (List.getElem_mem hlt)
        have q1 := ldOp_at (P := Try.prog) (ty := 83) (hr2.elem (s := 33) (prts33 HOK.out) (i := j) (c := prtC l[j]) (by simp [hlt])) Try.underlying83 rfl (by rw [prtC_len hpo]; exact sizePA)
        have hA : Hid (sizeB l[j] = true → (l.take (j + 1)).all sizeB = true) := fun h => by
          rw [List.take_succ_eq_append_getElem hlt, List.all_append, hall.out]; simp [h]
        have hN : Hid (sizeB l[j] = false → R = 2) := fun h => by
          rw [HC3.out, if_neg]
          intro h2
          rw [List.all_eq_true.1 h2 _ (List.getElem_mem hlt)] at h; cases h
        generalize l[j] = p at *
        have y1 : (List.toArray (prtC p)).size = 33 := by simpa using prtC_len hpo
        have y2 : OneC (List.toArray (prtC p)) := all_oneCell_toArray (prtC_one p)
        have hSB : Hid (sizeB p = (decide (1 ≤ p.size) && decide (p.size ≤ 8192))) := rfl
        clear hr2 hall HC3
        go_upto_region 9 with (fail)
        have hpB : Blk (wr.alloc (.cells (List.toArray (prtC p)) 83)) wr.heap.size 83 (prtC p) := Blk.new wr 83 _
        have hb0p : Below wr.heap.size wr (wr.alloc (.cells (List.toArray (prtC p)) 83)) := (Below.refl _ _).alloc (Nat.le_refl _) _
        have hbP := Lib.hid (hb.out.trans (hb0p.mono hb.out.size))
        generalize wr.alloc (.cells (List.toArray (prtC p)) 83) = W2 at *
        generalize wr.heap.size = qp at *
        have d32 : W2.cell? ⟨qp, 32, none⟩ = some (.int .i64 p.size) := hpB.cell (prtC_32 hpo)
        clear q1 hb hb0p s1 hpB
        by_cases c1 : p.size < 1
        · have hR := Lib.hid (hN.out (by rw [hSB.out, decide_eq_false (by omega)]; rfl))
          clear hA hN hSB
          go_wp2
          go_ret
          exact ⟨by rw [hR.out] <;> rfl, hbP.out⟩
        · by_cases c2 : 8192 < p.size
          · have hR := Lib.hid (hN.out (by rw [hSB.out, decide_eq_false (p := p.size ≤ 8192) (by omega)]; simp))
            clear hA hN hSB
            go_wp2
            go_ret
            exact ⟨by rw [hR.out] <;> rfl, hbP.out⟩
          · have hA2 := Lib.hid (hA.out (by rw [hSB.out, decide_eq_true (show 1 ≤ p.size by omega), decide_eq_true (show p.size ≤ 8192 by omega)]; rfl))
            clear hA hN hSB
            go_wp2
            first
              | exact ⟨⟨j + 1, by omega, (by first | rfl | go_num | (congr 1; omega)), hA2, hbP⟩, by simp [intOf] <;> omega⟩
              | (refine ⟨?_, by simp [intOf] <;> omega⟩; (repeat apply Exists.intro); exact ⟨⟨j + 1, by omega, (by first | rfl | go_num | (congr 1; omega)), hA2, hbP⟩, rfl⟩)
      · have hR : Hid (R = 0) := by
          show _ = _
          have h := hall.out
          rw [show j = l.length by omega, List.take_length] at h
          rw [HC3.out, if_pos h]
        have j1 : ¬ (j : Int) < (l.length : Int) := by omega
        clear hall HC3
        go_wp2
        go_ret
        exact ⟨by rw [hR.out] <;> rfl, hb.out⟩
theorem checkArchive_any {a : Option Addr} {n c : Nat} {x : Abt} {l : List Prt} {w : World} (hn : n = l.length) (hr : Row w a (l.map prtC).flatten) (hok : ∀ p ∈ l, PrtOk p) (hx : AbtOk x) (hl : l.length ≤ 1000) :
    Calls Try.prog 34 #[.agg (List.toArray (abtC x)), .slice a n c] w fun e w' => e = .returned (.int .i64 (checkA x l)) ∧ Below w.heap.size w w' :=
  checkArchive_wide hn hr hok hx (by omega)
end Go.Proofs.Ytakliplkabgmbaa
