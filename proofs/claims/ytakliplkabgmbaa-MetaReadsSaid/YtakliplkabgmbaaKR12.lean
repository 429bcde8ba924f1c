/- Joined: what one statement of this layer stands on, part 12 of 25; nothing is assumed. -/
import Derived.ChangeMaps5
import Derived.Deep.Strs
import Derived.Test.YtakliplkabgmbaaKR4
import Derived.Test.YtakliplkabgmbaaKR10
import Derived.Test.YtakliplkabgmbaaKR11
set_option maxRecDepth 20000
namespace Go.Proofs.Ytakliplkabgmbaa
open Go.RowKit Go.Hd
theorem Rs.inv {α β : Type} {s : Rs α} {f : α → List UInt8 → Rs β} {y : β} {r : List UInt8} (h : s.bind f = .ok y r) : ∃ x q, s = .ok x q ∧ f x q = .ok y r := by
  cases s with
  | ok x q => exact ⟨x, q, rfl, h⟩
  | no c => cases h
theorem text_sm {c : Nat} {l t r : List UInt8} (h : textR c l = .ok t r) : t.length ≤ 65536 := by
  unfold textR at h
  split at h
  · have := (takeR_inv h).2; omega
  · split at h
    · obtain ⟨x, q, h1, h2⟩ := Rs.inv h
      have := (takeR_inv h2).2
      have := (leastR_inv h1).2.1
      omega
    · obtain ⟨x, q, h1, h2⟩ := Rs.inv h
      have := (takeR_inv h2).2
      have := (leastR_inv h1).2.1
      omega
theorem list_sm {f : List UInt8 → Rs PV} (hf : ∀ l v r, f l = .ok v r → Sm v) : ∀ (n : Nat) (l : List UInt8) (vs : List PV) (r : List UInt8), listR f n l = .ok vs r → vs.length = n ∧ ∀ x ∈ vs, Sm x
  | 0, l, vs, r, h => by
    simp only [listR, Rs.ok.injEq] at h
    obtain ⟨rfl, rfl⟩ := h
    exact ⟨rfl, by simp⟩
  | n + 1, l, vs, r, h => by
    rw [listR] at h
    obtain ⟨x, q, h1, h2⟩ := Rs.inv h
    obtain ⟨xs, q2, h3, h4⟩ := Rs.inv h2
    obtain ⟨k1, k2⟩ := list_sm hf n _ _ _ h3
    simp only [Rs.ok.injEq] at h4
    obtain ⟨rfl, rfl⟩ := h4
    exact ⟨by simp [k1], fun y hy => (List.mem_cons.1 hy).elim (fun e => e ▸ hf _ _ _ h1) (k2 y)⟩
theorem dict_sm {f : List UInt8 → Rs PV} (hf : ∀ l v r, f l = .ok v r → Sm v) : ∀ (n : Nat) (prev : Option (List UInt8)) (l : List UInt8) (vs : List (List UInt8 × PV)) (r : List UInt8), dictR f n prev l = .ok vs r → vs.length = n ∧ ∀ x ∈ vs, Sm x.2
  | 0, prev, l, vs, r, h => by
    simp only [dictR, Rs.ok.injEq] at h
    obtain ⟨rfl, rfl⟩ := h
    exact ⟨rfl, by simp⟩
  | n + 1, prev, l, vs, r, h => by
    rw [dictR] at h
    obtain ⟨k, q, h1, h2⟩ := Rs.inv h
    obtain ⟨x, q2, h3, h4⟩ := Rs.inv h2
    obtain ⟨xs, q3, h5, h6⟩ := Rs.inv h4
    obtain ⟨k1, k2⟩ := dict_sm hf n _ _ _ _ h5
    simp only [Rs.ok.injEq] at h6
    obtain ⟨rfl, rfl⟩ := h6
    exact ⟨by simp [k1], fun y hy => (List.mem_cons.1 hy).elim (fun e => e ▸ hf _ _ _ h3) (k2 y)⟩
theorem sm_plain (k n : Int) (t : List UInt8) (h : t.length ≤ 65536) : Sm (.mk k n [] t [] []) := .mk (by simp) (by simp) (by simp) (by simp) h
theorem sm_byt (b : List UInt8) (h : b.length ≤ 65536) : Sm (pByt b) := .mk h (by simp) (by simp) (by simp) (by simp)
theorem sm_list (l : List PV) (h : l.length ≤ 65536) (hs : ∀ x ∈ l, Sm x) : Sm (pList l) := .mk (by simp) (by simp) h hs (by simp)
theorem sm_dict (l : List (List UInt8 × PV)) (h : l.length ≤ 65536) (hs : ∀ x ∈ l, Sm x.2) : Sm (pDict l) := .mk (by simp) (by simpa using h) (by simpa using h) (by
  intro x hx
  obtain ⟨y, hy, rfl⟩ := List.mem_map.1 hx
  exact hs y hy) (by simp)
def ASm (f : List UInt8 → Rs PV) : Prop := ∀ l v r, f l = .ok v r → Sm v
theorem ASm.ite {c : Prop} [Decidable c] {f g : List UInt8 → Rs PV} (hf : ASm f) (hg : ASm g) : ASm (fun l => if c then f l else g l) := by
  intro l v r h
  by_cases hc : c
  · exact hf l v r (by simpa [hc] using h)
  · exact hg l v r (by simpa [hc] using h)
theorem ASm.bind {α : Type} {s : List UInt8 → Rs α} {f : α → List UInt8 → Rs PV} (hf : ∀ l x q, s l = .ok x q → ASm (f x)) : ASm (fun l => (s l).bind f) := by
  intro l v r h
  obtain ⟨x, q, h1, h2⟩ := Rs.inv h
  exact hf l x q h1 _ _ _ h2
theorem ASm.pure {v : PV} (h : Sm v) : ASm (fun r => .ok v r) := by
  intro l x r h1
  cases h1; exact h
theorem ASm.no {c : Int} : ASm (fun _ => .no c) := by
  intro l x r h1
  cases h1
theorem bytes_sm {s : List UInt8 → Rs Nat} (hs : ∀ l x q, s l = .ok x q → x ≤ 65536) : ∀ l x q, ((s l).bind takeR) = .ok x q → x.length ≤ 65536 := by
  intro l x q h
  obtain ⟨n, q2, h3, h4⟩ := Rs.inv h
  have := (takeR_inv h4).2
  have := hs _ _ _ h3
  omega
theorem lead_sm {f : List UInt8 → Rs PV} (hf : ASm f) (c : Nat) : ASm (leadR f c) := by
  unfold leadR
  refine ASm.ite (ASm.bind fun l x q h => ASm.pure (sm_plain _ _ _ (text_sm h))) ?_
  refine ASm.ite (ASm.pure (sm_plain _ _ _ (by simp))) ?_
  refine ASm.ite (ASm.bind fun l x q h => ASm.pure (by obtain ⟨k1, k2⟩ := list_sm hf _ _ _ _ h; exact sm_list _ (by omega) k2)) ?_
  refine ASm.ite (ASm.bind fun l x q h => ASm.pure (by obtain ⟨k1, k2⟩ := dict_sm hf _ _ _ _ _ h; exact sm_dict _ (by omega) k2)) ?_
  refine ASm.ite (ASm.bind fun l x q h => ASm.pure (sm_plain _ _ _ (by simp))) ?_
  refine ASm.ite (ASm.pure (sm_plain _ _ _ (by simp))) ?_
  refine ASm.ite (ASm.pure (sm_plain _ _ _ (by simp))) ?_
  refine ASm.ite (ASm.pure (sm_plain _ _ _ (by simp))) ?_
  refine ASm.ite (ASm.bind fun l x q h => ASm.pure (sm_byt _ (bytes_sm (fun l x q h => by have := (bigR_inv h).2; omega) _ _ _ h))) ?_
  refine ASm.ite (ASm.bind fun l x q h => ASm.pure (sm_byt _ (bytes_sm (fun l x q h => by have := (leastR_inv h).2.1; omega) _ _ _ h))) ?_
  refine ASm.ite (ASm.bind fun l n q h => ASm.bind fun l x q h2 => ASm.pure (by have := (leastR_inv h).2.1; obtain ⟨k1, k2⟩ := list_sm hf _ _ _ _ h2; exact sm_list _ (by omega) k2)) ?_
  refine ASm.ite (ASm.bind fun l n q h => ASm.bind fun l x q h2 => ASm.pure (by have := (leastR_inv h).2.1; obtain ⟨k1, k2⟩ := dict_sm hf _ _ _ _ _ h2; exact sm_dict _ (by omega) k2)) ?_
  exact ASm.no
theorem decV_sm : ∀ (d : Nat) (l : List UInt8) (v : PV) (r : List UInt8), decV d l = .ok v r → Sm v
  | 0, l, v, r, h => by
    unfold decV at h
    split at h <;> cases h
  | d + 1, [], v, r, h => by cases h
  | d + 1, c :: l, v, r, h => lead_sm (decV_sm d) _ l v r (show leadR (decV d) c.toNat l = .ok v r from h)
theorem sm_zero : Sm pv0 := sm_plain 0 0 [] (by simp)
theorem decF_sm (l : List UInt8) : Sm (decF l).1 := by
  unfold decF
  split
  · exact sm_zero
  · split
    · exact sm_zero
    · rename_i v r h
      split
      · exact decV_sm _ _ _ _ h
      · exact sm_zero
theorem decF_norm {l : List UInt8} (hok : OkV (decF l).1) (h : (decF l).2 = 0) : normV (decF l).1 = (decF l).1 := by
  have h1 : decF l = ((decF l).1, 0) := by rw [← h]
  have h2 := (decF_enc hok (encF_dec h1)).2.2.2.2
  rw [h1] at h2
  exact (congrArg Prod.fst h2).symm
theorem normL_all {l : List PV} (h : normL l = l) : ∀ x ∈ l, normV x = x := by
  intro x hx
  obtain ⟨i, hi, rfl⟩ := List.mem_iff_getElem.1 hx
  have h1 := normL_get l (j := i) (by rw [normL_len]; exact hi) hi
  rw [← h1]
  simp only [h]
theorem findK_mem : ∀ {ks : List (List UInt8)} {vs : List PV} {key : List UInt8} {x : PV}, findK ks vs key = some x → x ∈ vs
  | k :: ks, v :: vs, key, x, h => by
    rw [findK] at h
    split at h
    · cases h; exact List.mem_cons_self
    · exact List.mem_cons_of_mem _ (findK_mem h)
  | [], _, _, _, h => by cases h
  | _ :: _, [], _, _, h => by cases h
theorem fld_norm {v : PV} (h : normV v = v) (key : List UInt8) : getV v key = fldV v key := by
  cases v with
  | mk k n b t ks l =>
    rw [getV_mk, fldV_mk]
    by_cases h7 : k = 7
    · subst h7
      rw [if_pos rfl, if_pos rfl]
      cases hF : findK ks l key with
      | none => rfl
      | some x =>
        rw [normV_mk] at h
        have hl : normL l = l := by
          simp only [show ¬ (7 : Int) = 3 by omega, show ¬ (7 : Int) = 4 by omega, show ¬ (7 : Int) = 5 by omega, show ¬ (7 : Int) = 6 by omega, if_false, if_true, PV.mk.injEq] at h
          exact h.2.2.2.2.2
        have := normL_all hl x (findK_mem hF)
        show normV x = x
        exact this
    · rw [if_neg h7, if_neg h7]
end Go.Proofs.Ytakliplkabgmbaa
set_option maxRecDepth 20000
namespace Go.Hd
open Go Go.RowKit Go.ChangeShapes Go.WideShapes Go.ChangeAt
end Go.Hd
namespace Go.Proofs.Ytakliplkabgmbaa
open Go.RowKit Go.Hd Go.ChangeShapes Go.WideShapes Go.ChangeAt
def metaL (l : List Abt) : List UInt8 × Int := if checkL l ≠ 0 then ([], checkL l) else encF (listV l)
theorem mlist_any {a : Option Addr} {n c : Nat} {l : List Abt} {w : World} (hn : n = l.length) (hr : Row w a (l.map abtC).flatten) (hok : ∀ x ∈ l, AbtOk x) (hl : l.length ≤ 1000) :
    Calls Try.prog 14 #[.slice a n c] w fun e w' => ∃ u, e = .returned (.tuple #[u, .int .i64 (metaL l).2]) ∧ BRd w' u (metaL l).1 ∧ Below w.heap.size w w' := by
  subst hn
  have hck := checkList_any (c := c) rfl hr hok hl
  have hlv := fun w' (hb : Below w.heap.size w w') => listValue_any (c := c) rfl (hr.below hb) hok hl
  have HM : Hid (metaL l = if checkL l ≠ 0 then ([], checkL l) else encF (listV l)) := rfl
  generalize metaL l = R at *
  generalize listV l = v at *
  by_cases h0 : checkL l = 0
  · rw [h0] at hck
    have hR : Hid (R = encF v) := by show _ = _; rw [HM.out, if_neg (by rw [h0]; simp)]
    clear HM h0
    go_enter Try.func14, Try.ntmps14
    go_wp2_with fail
    refine hck.mono ?_
    rintro e w1 ⟨rfl, hb1⟩
    go_wp2_with fail
    refine (hlv _ hb1).mono ?_
    rintro e w2 ⟨cs, rfl, hv, hb2⟩
    have he := enc_any hv.at (Below.refl _ _)
    go_wp2_with fail
    refine he.mono ?_
    rintro e w3 ⟨u, rfl, hu, hb3⟩
    go_wp2
    go_ret2
    exact ⟨u, by rw [hR.out] <;> rfl, by rw [hR.out]; exact hu, Gr.trans hb1 (Gr.trans hb2 hb3)⟩
  · have e1 : (checkL l == 0) = false := by simpa using h0
    have e2 : (checkL l != 0) = true := by simpa using h0
    have hR : Hid (R = ([], checkL l)) := by show _ = _; rw [HM.out, if_pos h0]
    generalize checkL l = E at *
    clear HM h0
    go_enter Try.func14, Try.ntmps14
    go_wp2_with fail
    refine hck.mono ?_
    rintro e w1 ⟨rfl, hb1⟩
    go_wp2
    go_ret2
    exact ⟨.slice none 0 0, by rw [hR.out] <;> rfl, by rw [hR.out]; exact BRd.nil _, hb1⟩
theorem metaL_nil : metaL [] = ([130, 161, 97, 144, 161, 118, 1], 0) := by decide +kernel
theorem lives23_any (w : World) : Calls Try.prog 11 #[] w fun e w' => e = .returned (.bool true) ∧ Below w.heap.size w w' := by
  have hL := mlist_any (a := none) (n := 0) (c := 0) (l := []) (w := w) rfl (Row.nil _ _) (by simp) (by simp)
  rw [metaL_nil] at hL
  go_enter Try.func11, Try.ntmps11
  go_wp2_with fail
  refine hL.mono ?_
  rintro e w1 ⟨u, rfl, ⟨a, c, rfl, hc1, hc2, hr⟩, hb1⟩
  have hcv := run_convert_row (P := Try.prog) (src := 35) (e := 5) (dst := 9) (c := c) eB.ht Try.underlying5 Try.underlying9 rfl hr
  have hcn := checkName_any [97] w1 (by decide)
  rw [show nameE [97] = 0 by decide +kernel] at hcn
  rw [show str [97] = ⟨#[97]⟩ from rfl] at hcn
  change (convert 35 9 (.slice a 7 c)).run _ _ = .ok (.string ⟨#[130, 161, 97, 144, 161, 118, 1]⟩) _ at hcv
  go_wp2_with fail
  refine hcn.mono ?_
  rintro e w2 ⟨rfl, hb2⟩
  go_wp2
  go_ret
  exact ⟨rfl, Gr.trans hb1 hb2⟩
end Go.Proofs.Ytakliplkabgmbaa
set_option maxRecDepth 20000
namespace Go.Proofs.Ytakliplkabgmbaa
open Go.RowKit Go.Hd
attribute [local go_sem ↓] h_ldV h_stV h_alV h_ldID h_stID h_alID
attribute [local go_sem] r_ldV r_stV r_alV r_ldID r_stID r_alID
set_option maxHeartbeats 2000000 in
theorem rid_any (id : List UInt8) (w : World) (hi : id.length = 32) : Calls Try.prog 59 #[.agg (List.toArray (id.map b8))] w (BlobP id w) := by
  have zs := zV_size
  have hO6 := oneC6
  have zi : (List.toArray (id.map b8)).size = 32 := by simp [hi]
  have HI := Lib.hid hi
  go_enter Try.func59, Try.ntmps59
  go_upto_region 1 with (fail)
  have hall : Hid (∀ W, W = (w.alloc (.cells (List.toArray (id.map b8)) 29)).alloc (.cells zV 63) → Blk W w.heap.size 29 (id.map b8) ∧ Blk W (w.heap.size + 1) 63 zV.toList ∧ Below w.heap.size w W ∧ W.heap.size = w.heap.size + 2) := by
    rintro W rfl
    refine ⟨(Blk.new w 29 _).alloc _, ?_, ((Below.refl _ _).alloc (Nat.le_refl _) _).alloc (by simp) _, by simp⟩
    have := Blk.new (w.alloc (.cells (List.toArray (id.map b8)) 29)) 63 zV
    simpa using this
  generalize hW : (w.alloc (.cells (List.toArray (id.map b8)) 29)).alloc (.cells zV 63) = W at *
  obtain ⟨g1, g2, g3, g4⟩ := hall.out W rfl
  have G1 := Lib.hid g1
  have G2 := Lib.hid g2
  have G3 := Lib.hid g3
  have G4 := Lib.hid g4
  clear hall hW g1 g2 g3 g4 hi
  go_wp2
  go_loopw [3, 4] (fun u i wr => ∃ j : Nat, j ≤ 32 ∧ i = .int .i64 j ∧ Hid (wr.ownsRow (w.heap.size + 2) 5 1 u j ((id.take j).map b8)) ∧ Hid (Below W.heap.size W wr)) (fun _ i _ => 32 - (intOf i).toNat)
  case atStart => exact ⟨0, by omega, rfl, Lib.hid (World.ownsRow_nil _ _ _ _), Lib.hid (Below.refl _ _)⟩
  case round =>
    obtain ⟨j, hj, rfl, hO, hb⟩ := hrel
    have j0 : (0 : Int) ≤ (j : Int) := by omega
    have jb : IntKind.i64.wrap ((j : Int) + 1) = (j : Int) + 1 := IntWalk.i64_in _ (by omega)
    obtain ⟨au, cu, rfl, hcu1, hcu2, hru, hou⟩ := owns_rowN hO.out (by decide)
    have HU := Lib.hid (And.intro hcu1 (And.intro hcu2 (And.intro hru hou)))
    clear hcu1 hcu2 hru hou
    by_cases hlt : j < 32
    · have j1 : (j : Int) < 32 := by omega
      have hjl : j < id.length := by rw [HI.out]; exact hlt
      have q1 : wr.cell? ⟨w.heap.size, j, none⟩ = some (.int .u8 ((id[j]'hjl).toNat : Int)) := (G1.out.below hb.out).cell (by rw [List.getElem?_map, List.getElem?_eq_getElem hjl]; rfl)
      have hsz : w.heap.size + 2 ≤ wr.heap.size := by have := hb.out.size; have := G4.out; omega
      obtain ⟨a', c', w', hrun, ho', hG⟩ := own_app1 (ty := 35) eB hO.out (.int .u8 ((id[j]'hjl).toNat : Int)) rfl (by unfold maxLen; omega) (by omega) hsz
      have hlt' := World.ownsRow.lt hO.out
      have hb' : Hid (Below W.heap.size W w') := hb.out.trans (hG.below (base := w.heap.size + 2) (fun k hk => (hlt' k hk).1) (by have := G4.out; omega) hb.out.size)
      have hO' : Hid (w'.ownsRow (w.heap.size + 2) 5 1 (.slice a' (j + 1) c') (j + 1) ((id.take (j + 1)).map b8)) := by
        show World.ownsRow _ _ _ _ _ _ _
        rw [List.take_succ_eq_append_getElem hjl, List.map_append]
        exact ho'
      generalize (id[j]'hjl).toNat = y at *
      clear ho' hG hlt' hO hb HU G1 G2 G3
      go_wp2_with (at_builtin; refine wpList_append_run hrun rfl rfl rfl rfl ?_)
      first
        | exact ⟨⟨j + 1, by omega, (by first | rfl | go_num | (congr 1; omega)), hO', hb'⟩, by simp [intOf] <;> omega⟩
        | (refine ⟨?_, by simp [intOf] <;> omega⟩; (repeat apply Exists.intro); exact ⟨⟨j + 1, by omega, (by first | rfl | go_num | (congr 1; omega)), hO', hb'⟩, rfl⟩)
    · obtain rfl : j = 32 := by omega
      obtain ⟨hcu1, hcu2, hru, hou⟩ := HU.out
      rw [show id.take 32 = id from List.take_of_length_le (by rw [HI.out]; exact Nat.le_refl _)] at hru hou
      have hat := hou (by rw [List.length_map, HI.out]; decide)
      have g5 := G2.out.below hb.out
      have hst2 := st_row g5 (by rfl) (List.toArray (bytC (.slice au 32 cu))) (by rfl) (by unfold OneC bytC; simp [Value.oneCell', strV])
      have hgr := setRow_gr wr (w.heap.size + 1) (List.toArray (bytC (.slice au 32 cu)))
      have hR : Hid (BlobP id w (.returned (.agg (List.toArray (bytC (.slice au 32 cu))))) (wr.setRow (w.heap.size + 1) (List.toArray (bytC (.slice au 32 cu))))) := by
        have hrne : (hd au).block ≠ w.heap.size + 1 := by omega
        refine ⟨au, cu, rfl, hru.grown hgr (fun _ => hrne), hcu1, hcu2, by omega, ?_⟩
        have hb2 : Below w.heap.size w wr := G3.out.trans (hb.out.mono (by have := G4.out; omega))
        exact hb2.trans ⟨hgr.os, hgr.tape, hgr.output, hgr.size, fun k hk => hgr.block k (Nat.lt_of_lt_of_le hk hb2.size) (by simp; omega)⟩
      have hB := setRow_blk g5 (bytC (.slice au 32 cu))
      clear hat hgr G1 G2 G3 G4 g5 hO hb HU hcu1 hcu2 hru hou
      change (stoOp 63 _ (.agg #[.int .i64 4, .int .i64 0, .slice au 32 cu, .string { data := #[] }, .slice none 0 0, .slice none 0 0])).run _ _ = .ok () (wr.setRow _ #[.int .i64 4, .int .i64 0, .slice au 32 cu, .string { data := #[] }, .slice none 0 0, .slice none 0 0]) at hst2
      change Hid (BlobP id w _ (wr.setRow _ #[.int .i64 4, .int .i64 0, .slice au 32 cu, .string { data := #[] }, .slice none 0 0, .slice none 0 0])) at hR
      change Blk (wr.setRow _ #[.int .i64 4, .int .i64 0, .slice au 32 cu, .string { data := #[] }, .slice none 0 0, .slice none 0 0]) _ _ _ at hB
      go_wp2
      refine bodyPost_ret (results_cell_row (fn := Try.f59) (by rfl) _ _ (w.heap.size + 1) 63 _ (0, 0) _ (by rfl) hB Try.underlying63 rfl sizeV) rfl hR.out
set_option maxHeartbeats 2000000 in
theorem rCheckList_any {a : Option Addr} {n c : Nat} {l : List Abt} {w : World} (hn : n = l.length) (hr : Row w a (l.map abtC).flatten) (hok : ∀ x ∈ l, AbtOk x) (hln : ∀ x ∈ l, x.name.length ≤ 100000) (hl : l.length ≤ 1000) :
    Calls Try.prog 31 #[.slice a n c] w fun e w' => e = .returned (.int .i64 (checkL l)) ∧ Below w.heap.size w w' := by
  subst hn
  have HC : Hid (checkL l = if 64 < l.length then 16 else if scanE l ≠ 0 then scanE l else if risesT (l.map (·.name)) = true then 0 else 18) := rfl
  have HL := Lib.hid hl
  have HOK := Lib.hid hok
  have HLN := Lib.hid hln
  clear hl hok hln
  by_cases h64 : 64 < l.length
  · have i1 : (64 : Int) < (l.length : Int) := by omega
    have hR : Hid (checkL l = 16) := by show _ = _; rw [HC.out, if_pos h64]
    clear h64 HC
    go_enter Try.func31, Try.ntmps31
    go_wp2
    go_ret
    exact ⟨by rw [hR.out] <;> rfl, Below.refl _ _⟩
  have i1 : ¬ (64 : Int) < (l.length : Int) := by omega
  have HC2 : Hid (checkL l = if scanE l ≠ 0 then scanE l else if risesT (l.map (·.name)) = true then 0 else 18) := by show _ = _; rw [HC.out, if_neg h64]
  have HS0 : Hid (scanE (l.drop 0) = scanE l) := rfl
  generalize checkL l = R at *
  generalize scanE l = SE at *
  clear HC h64
  go_enter Try.func31, Try.ntmps31
  go_upto_block 0 with (fail)
  go_cut [3] (fun _ wx => SE = 0 ∧ wx = w)
  case first =>
    go_wp2
    go_loopw [3] (fun i wr => ∃ j : Nat, j ≤ l.length ∧ i = .int .i64 j ∧ Hid (scanE (l.drop j) = SE) ∧ Hid (wr = w)) (fun i _ => l.length - (intOf i).toNat)
    case atStart => exact ⟨0, Nat.zero_le _, rfl, HS0, Lib.hid rfl⟩
    case round =>
      obtain ⟨j, hj, rfl, hE, hwr⟩ := hrel
      have hwr := hwr.out
      subst hwr
      have j0 : (0 : Int) ≤ (j : Int) := by omega
      have jb : IntKind.i64.wrap ((j : Int) + 1) = (j : Int) + 1 := IntWalk.i64_in _ (by have := HL.out; omega)
      clear HS0
      by_cases hlt : j < l.length
      · have j1 : (j : Int) < (l.length : Int) := by omega
        have s1 := hr.elemSome (s := 37) (abts37 HOK.out) (by decide) (i := j) (by simpa using hlt)
        have hxo := HOK.out _ (List.getElem_mem hlt)
        have hxl := HLN.out _ (List.getElem_mem hlt)
        have q1 := abt_cell hr HOK.out hlt (abtC_0 l[j])
        have q2 := cell_fld (abt_cell hr HOK.out hlt (abtC_33 hxo))
        rw [addr_add0] at q1
        unfold strV at q1
        have hE2 : Hid ((if nameB l[j].name = true then (if timelyB l[j].time = true then scanE (l.drop (j + 1)) else 2) else 7) = SE) := by
          show _ = _
          rw [← hE.out, List.drop_eq_getElem_cons hlt]; rfl
        have hnm := fun w' => rname_any l[j].name w' (by omega)
        have htm := fun w' => rtimely_any l[j].time w'
        generalize l[j] = x at *
        clear hE hxl hxo
        generalize nameB x.name = nb at *
        cases nb
        · have hE3 : Hid (7 = SE) := hE2.out
          have hR : Hid (R = 7) := by show _ = _; rw [HC2.out, ← hE3.out]; rfl
          clear hE2 HC2 hE3
          go_wp2_with fail
          refine (hnm _).mono ?_
          rintro e w2 ⟨rfl, hw2⟩
          subst hw2
          go_wp2
          go_ret
          exact ⟨by rw [hR.out] <;> rfl, Below.refl _ _⟩
        · have hE3 : Hid ((if timelyB x.time = true then scanE (l.drop (j + 1)) else 2) = SE) := hE2.out
          clear hE2
          go_wp2_with fail
          refine (hnm _).mono ?_
          rintro e w2 ⟨rfl, hw2⟩
          subst hw2
          generalize timelyB x.time = tb at *
          cases tb
          · have hE4 : Hid (2 = SE) := hE3.out
            have hR : Hid (R = 2) := by show _ = _; rw [HC2.out, ← hE4.out]; rfl
            clear hE3 HC2 hE4
            go_wp2_with fail
            refine (htm _).mono ?_
            rintro e w3 ⟨rfl, hw3⟩
            subst hw3
            go_wp2
            go_ret
            exact ⟨by rw [hR.out] <;> rfl, Below.refl _ _⟩
          · have hE4 : Hid (scanE (l.drop (j + 1)) = SE) := hE3.out
            clear hE3
            go_wp2_with fail
            refine (htm _).mono ?_
            rintro e w3 ⟨rfl, hw3⟩
            subst hw3
            go_wp2
            first
              | exact ⟨⟨j + 1, by omega, (by first | rfl | go_num | (congr 1; omega)), hE4, (by first | exact Lib.hid rfl | exact Lib.hid trivial)⟩, by simp [intOf] <;> omega⟩
              | (refine ⟨?_, by simp [intOf] <;> omega⟩; (repeat apply Exists.intro); exact ⟨⟨j + 1, by omega, (by first | rfl | go_num | (congr 1; omega)), hE4, (by first | exact Lib.hid rfl | exact Lib.hid trivial)⟩, rfl⟩)
      · have hSE : SE = 0 := by rw [← hE.out, List.drop_eq_nil_of_le (by omega)]; rfl
        have j1 : ¬ (j : Int) < (l.length : Int) := by omega
        have hh := Lib.hid hSE
        clear hSE
        go_wp2
        go_meet
        exact ⟨hh.out, rfl⟩
  case rest =>
    obtain ⟨hSE, hwc⟩ := hcut
    subst hwc
    have HR : Hid (R = if risesT (l.map (·.name)) = true then 0 else 18) := by show _ = _; rw [HC2.out, if_neg (by rw [hSE]; simp)]
    clear HC2 hSE HS0
    go_wp2
    go_loopw [4] (fun i wr => ∃ j : Nat, 1 ≤ j ∧ j ≤ l.length + 1 ∧ i = .int .i64 j ∧ Hid (risesT ((l.map (·.name)).take j) = true) ∧ Hid (∃ n, wr = wc.drewN n)) (fun i _ => l.length + 1 - (intOf i).toNat)
    case atStart => exact ⟨1, Nat.le_refl _, by omega, rfl, Lib.hid (risesT_one _), Lib.hid ⟨0, by rw [World.drewN_zero]⟩⟩
    case round =>
      obtain ⟨j, hj1, hj, rfl, hri, hwr⟩ := hrel
      obtain ⟨nn, hwr⟩ := hwr.out
      have j0 : (0 : Int) ≤ (j : Int) := by omega
      have jb : IntKind.i64.wrap ((j : Int) + 1) = (j : Int) + 1 := IntWalk.i64_in _ (by have := HL.out; omega)
      by_cases hlt : j < l.length
      · have j1 : (j : Int) < (l.length : Int) := by omega
        have hrw : Row wr a (l.map abtC).flatten := by rw [hwr]; exact hr.drewN nn
        obtain ⟨k, hk⟩ : ∃ k, k = j - 1 := ⟨_, rfl⟩
        have hkl : k < l.length := by omega
        have im : IntKind.i64.wrap ((j : Int) - 1) = (k : Int) := by rw [IntWalk.i64_in _ (by have := HL.out; omega)]; omega
        have k0 : (0 : Int) ≤ (k : Int) := by omega
        have k1 : (k : Int) < (l.length : Int) := by omega
        have s1 := hrw.elemSome (s := 37) (abts37 HOK.out) (by decide) (i := j) (by simpa using hlt)
        have q1 := abt_cell hrw HOK.out hlt (abtC_0 l[j])
        have q2 := abt_cell hrw HOK.out hkl (abtC_0 l[k])
        have hbF : Hid (∀ n, Below wc.heap.size wc (wr.drewN n)) := fun n => by rw [hwr, World.drewN_drewN]; exact Below.drewN (Below.refl _ _) _
        have hNX : Hid (∀ n, ∃ m, wr.drewN n = wc.drewN m) := fun n => ⟨nn + n, by rw [hwr, World.drewN_drewN]⟩
        have hRT : Hid (risesT ((l.map (·.name)).take (j + 1)) = !leT (l[j]).name (l[k]).name) := by
          show _ = _
          obtain rfl : j = k + 1 := by omega
          rw [risesT_take _ k (by simpa using hlt), hri.out]
          simp
        have hNR : Hid (risesT ((l.map (·.name)).take (j + 1)) = false → risesT (l.map (·.name)) = false) := risesT_not
        unfold strV at q1 q2
        rw [addr_add0] at q1 q2
        generalize l[j].name = y at *
        generalize l[k].name = z at *
        clear hk hwr hrw hri
        go_wp2
        go_quiet (fail)
        have HLT : Hid (leT y z = (Op.bytesLess (str y).toList (str z).toList || (str y).toList == (str z).toList)) := rfl
        have fin18 : Hid (leT y z = true → R = 18) := fun h => by
          rw [HR.out, if_neg]
          rw [hNR.out (by rw [hRT.out, h]; rfl)]; decide
        have fin0 : Hid (leT y z = false → risesT ((l.map (·.name)).take (j + 1)) = true) := fun h => by rw [hRT.out, h]; rfl
        have hnx := Lib.hid (hNX.out nq)
        clear hRT hNR hNX HR
        obtain ⟨gg, hgg⟩ : ∃ gg : Bool, gg = (Op.bytesLess (str y).toList (str z).toList || (str y).toList == (str z).toList) := ⟨_, rfl⟩
        rw [← hgg] at HLT ⊢
        clear hgg q1 q2
        cases gg
        · have hri2 := Lib.hid (fin0.out HLT.out)
          clear fin18 fin0 HLT hbF
          go_wp2
          first
            | exact ⟨⟨j + 1, by omega, by omega, (by first | rfl | go_num | (congr 1; omega)), hri2, hnx⟩, by simp [intOf] <;> omega⟩
            | (refine ⟨?_, by simp [intOf] <;> omega⟩; (repeat apply Exists.intro); exact ⟨⟨j + 1, by omega, by omega, (by first | rfl | go_num | (congr 1; omega)), hri2, hnx⟩, rfl⟩)
        · have hR := Lib.hid (fin18.out HLT.out)
          clear fin18 fin0 HLT hnx
          go_wp2
          go_ret
          exact ⟨by rw [hR.out] <;> rfl, hbF.out nq⟩
      · have hR : Hid (R = 0) := by
          show _ = _
          have h := hri.out
          rw [List.take_of_length_le (by simp; omega)] at h
          rw [HR.out, if_pos h]
        have hbF : Below wc.heap.size wc wr := by rw [hwr]; exact Below.drewN (Below.refl _ _) _
        have j1 : ¬ (j : Int) < (l.length : Int) := by omega
        clear hri HR hwr
        go_wp2
        go_ret
        exact ⟨by rw [hR.out] <;> rfl, hbF⟩
end Go.Proofs.Ytakliplkabgmbaa
set_option maxRecDepth 20000
namespace Go.Proofs.Ytakliplkabgmbaa
open Go.RowKit Go.Hd
section
variable (ρ : Operand → Value) (dst : Option Tmp) (ty : TypeId) (pos : String) (after : Array Edge) (guard : Option (Nat × Bool))
theorem h_bsLV (n : Nat) (parts : Array (Nat × Operand)) : execOp ρ { dst, op := .buildSlice 61 n parts, type := ty, pos, after, guard } = (do pure (.value (← bsOp 61 n (parts.map fun (i, x) => (i, ρ x))))) := rfl
end
attribute [local go_sem ↓] h_ldV h_stV h_alV h_ldID h_stID h_alID h_bsLV
attribute [local go_sem] r_ldV r_stV r_alV r_ldID r_stID r_alID
theorem abt_ldID {w : World} {a : Option Addr} {l : List Abt} (hr : Row w a (l.map abtC).flatten) (hok : ∀ x ∈ l, AbtOk x) {j : Nat} (hj : j < l.length) :
    (ldOp 29 (.pointer (some ⟨((hd a).add (j * 37)).block, ((hd a).add (j * 37)).off + 1, none⟩))).run Try.prog w = .ok (.agg (List.toArray (l[j].id.map b8))) w := by
  have hxo := hok _ (List.getElem_mem hj)
  refine ldOp_at (fun i v hv => ?_) Try.underlying29 rfl (by rw [List.length_map, hxo.id]; exact sizeID)
  rw [Addr.add_mid, Nat.add_assoc]
  refine cell_fld (abt_cell hr hok hj (k := 1 + i) ?_)
  rw [← abtC_id hxo] at hv
  rw [List.getElem?_take] at hv
  split at hv
  · rwa [List.getElem?_drop] at hv
  · cases hv
theorem VsAt.lst {ok : Nat → Prop} {base : Nat} {w : World} {a : Option Addr} {n c : Nat} {vs : List PV} (h : VsAt ok base w (.slice a n c) vs) (hok : ∀ b, ok b → base ≤ b) : n = vs.length ∧ VAtP (fun b => base ≤ b) w (lstC (.slice a vs.length c)) (pList vs) := by
  obtain ⟨css, h1, h2, hO, hel⟩ := h
  obtain ⟨a', c', hv, e1, e2, hr, ho⟩ := owns_rowN hO (by decide)
  cases hv
  refine ⟨rfl, VAtP.lst (css := css) hr e1 e2 h1 h2 (fun h0 => (ho (by rw [flatten_len h2, h1]; exact Nat.mul_pos h0 (by decide))).2.1) (fun i c v hc hv => (hel i c v hc hv).mono (fun b hb _ => hok b hb))⟩
set_option maxHeartbeats 2000000 in
theorem rListValue_any {a : Option Addr} {n c : Nat} {l : List Abt} {w : World} (hn : n = l.length) (hr : Row w a (l.map abtC).flatten) (hok : ∀ x ∈ l, AbtOk x) (hl : l.length ≤ 1000) :
    Calls Try.prog 33 #[.slice a n c] w fun e w' => ∃ cs, e = .returned (.agg (List.toArray cs)) ∧ VAtP (fun b => w.heap.size ≤ b) w' cs (listV l) ∧ Below w.heap.size w w' := by
  subst hn
  have zs := zV_size
  have hO6 := oneC6
  have HL := Lib.hid hl
  have HOK := Lib.hid hok
  have HRow := Lib.hid hr
  have hb0 : Hid (Below w.heap.size w (w.alloc (.cells zV 63))) := (Below.refl _ _).alloc (Nat.le_refl _) _
  have R0 : Hid (Blk (w.alloc (.cells zV 63)) w.heap.size 63 zV.toList) := Blk.new _ _ _
  clear hl hok hr
  go_enter Try.func33, Try.ntmps33
  go_upto_region 1 with (fail)
  generalize w.alloc (.cells zV 63) = W0 at *
  go_wp2
  go_loopw [3, 4] (fun u i wr => ∃ j : Nat, j ≤ l.length ∧ i = .int .i64 j ∧ Hid (VsAt (fun b => w.heap.size + 1 ≤ b ∧ u.ownBlock ≠ some b) (w.heap.size + 1) wr u ((l.take j).map abtV)) ∧ Hid (Below w.heap.size w wr) ∧ Hid (Blk wr w.heap.size 63 zV.toList)) (fun _ i _ => l.length - (intOf i).toNat)
  case atStart => exact ⟨0, Nat.zero_le _, rfl, Lib.hid (VsAt.nil _ _ _), hb0, R0⟩
  case round =>
    obtain ⟨j, hj, rfl, hVs, hb, hR⟩ := hrel
    have j0 : (0 : Int) ≤ (j : Int) := by omega
    have jb : IntKind.i64.wrap ((j : Int) + 1) = (j : Int) + 1 := IntWalk.i64_in _ (by have := HL.out; omega)
    obtain ⟨vs, hvs⟩ : ∃ vs, vs = (l.take j).map abtV := ⟨_, rfl⟩
    rw [← hvs] at hVs
    obtain ⟨au, cu, rfl⟩ : ∃ au cu, u3 = .slice au vs.length cu := by
      obtain ⟨css, c1, c2, hO, _⟩ := hVs.out
      obtain ⟨a', c', h1, _⟩ := owns_rowN hO (by decide)
      exact ⟨a', c', h1⟩
    clear hb0 R0
    by_cases hlt : j < l.length
    · have j1 : (j : Int) < (l.length : Int) := by omega
      have hxo := HOK.out _ (List.getElem_mem hlt)
      have s1 := HRow.out.elemSome (s := 37) (abts37 HOK.out) (by decide) (i := j) (by simpa using hlt)
      have hT : Hid ((l.take (j + 1)).map abtV = vs ++ [abtV l[j]]) := by
        show _ = _
        rw [List.take_succ_eq_append_getElem hlt, List.map_append, hvs]; rfl
      have hxt : ∀ w', Below w.heap.size w w' → w'.cell? ((hd a).add (j * 37)) = some (.string (str l[j].name)) ∧ (ldOp 29 (.pointer (some ⟨((hd a).add (j * 37)).block, ((hd a).add (j * 37)).off + 1, none⟩))).run Try.prog w' = .ok (.agg (List.toArray (l[j].id.map b8))) w' ∧ w'.cell? ⟨((hd a).add (j * 37)).block, ((hd a).add (j * 37)).off + 33, none⟩ = some (.int .i64 l[j].time) := fun w' h => by
        have hr2 := HRow.out.below h
        refine ⟨?_, abt_ldID hr2 HOK.out hlt, cell_fld (abt_cell hr2 HOK.out hlt (abtC_33 hxo))⟩
        have := abt_cell hr2 HOK.out hlt (abtC_0 l[j])
        rwa [addr_add0] at this
      generalize l[j] = x at *
      have hvl : Hid (vs.length ≤ 1000000000) := by
        have h1 := HL.out
        have h2 : vs.length ≤ l.length := by rw [hvs, List.length_map, List.length_take]; omega
        show _ ≤ _
        omega
      clear hvs
      go_upto_region 5 with (fail)
      have hSm : ∀ (L : Array Bool) (w1 w2 : World), Below w.heap.size w w1 → Mo w1 w2 → Below w.heap.size w w2 := fun L w1 w2 h hm => h.trans (hm.mono h.size)
      have hSi : ∀ i, i ≠ 99 → ∀ (L : Array Bool) (w1 : World), Below w.heap.size w w1 ↔ Below w.heap.size w w1 := fun _ _ _ _ => Iff.rfl
      have hS0 : Below w.heap.size w (wr.drewN 1) := Below.drewN hb.out 1
      have hSw : ∀ w', Mo (wr.drewN 1) w' → Below w.heap.size w w' := fun w' hm => hSm #[] _ _ hS0 hm
      refine wp_region_upN (S := fun _ w1 => Below w.heap.size w w1) 24 rfl (by kernel_rfl) ?_
      refine wpAnyU_take (i := 0) (A := fun _ => True) (v := .slice au vs.length cu) (a' := ⟨#[.slice a l.length c, undef, .pointer (some ⟨w.heap.size, 0, none⟩), .slice au vs.length cu, .int .i64 (j : Int), .int .i64 (j : Int), .slice a l.length c, .int .i64 (l.length : Int), .bool true, u9, u10, .slice au vs.length cu, u12, u13, u14, u15, u16, u17, u18, u19, u20, u21, u22, u23, u24, u25, u26, u27, u28, u29, u30, u31, u32, u33, undef, undef, undef, undef, undef, undef], []⟩) hSm (hSi 0 (by decide)) (fun _ _ _ => trivial) rfl (by kernel_rfl) (by kernel_rfl) (by kernel_rfl) (fun _ _ _ h => h) hS0 (Tame.val rfl (fun w' hA => by go_simp)) rfl ?_
      refine wpAnyU_take (i := 1) (A := fun _ => True) (v := .slice a l.length c) (a' := ⟨#[.slice a l.length c, undef, .pointer (some ⟨w.heap.size, 0, none⟩), .slice au vs.length cu, .int .i64 (j : Int), .int .i64 (j : Int), .slice a l.length c, .int .i64 (l.length : Int), .bool true, u9, u10, .slice au vs.length cu, .slice a l.length c, u13, u14, u15, u16, u17, u18, u19, u20, u21, u22, u23, u24, u25, u26, u27, u28, u29, u30, u31, u32, u33, undef, undef, undef, undef, undef, undef], []⟩) hSm (hSi 1 (by decide)) (fun _ _ _ => trivial) rfl (by kernel_rfl) (by kernel_rfl) (by kernel_rfl) (fun _ _ _ h => h) hS0 (Tame.val rfl (fun w' hA => by go_simp)) rfl ?_
      refine wpAnyU_take (i := 2) (A := fun _ => True) (v := .int .i64 (j : Int)) (a' := ⟨#[.slice a l.length c, undef, .pointer (some ⟨w.heap.size, 0, none⟩), .slice au vs.length cu, .int .i64 (j : Int), .int .i64 (j : Int), .slice a l.length c, .int .i64 (l.length : Int), .bool true, u9, u10, .slice au vs.length cu, .slice a l.length c, .int .i64 (j : Int), u14, u15, u16, u17, u18, u19, u20, u21, u22, u23, u24, u25, u26, u27, u28, u29, u30, u31, u32, u33, undef, undef, undef, undef, undef, undef], []⟩) hSm (hSi 2 (by decide)) (fun _ _ _ => trivial) rfl (by kernel_rfl) (by kernel_rfl) (by kernel_rfl) (fun _ _ _ h => h) hS0 (Tame.val rfl (fun w' hA => by go_simp)) rfl ?_
      refine wpAnyU_take (i := 3) (A := fun _ => True) (v := .pointer (some ((hd a).add (j * 37)))) (a' := ⟨#[.slice a l.length c, undef, .pointer (some ⟨w.heap.size, 0, none⟩), .slice au vs.length cu, .int .i64 (j : Int), .int .i64 (j : Int), .slice a l.length c, .int .i64 (l.length : Int), .bool true, u9, u10, .slice au vs.length cu, .slice a l.length c, .int .i64 (j : Int), .pointer (some ((hd a).add (j * 37))), u15, u16, u17, u18, u19, u20, u21, u22, u23, u24, u25, u26, u27, u28, u29, u30, u31, u32, u33, undef, undef, undef, undef, undef, undef], []⟩) hSm (hSi 3 (by decide)) (fun _ _ _ => trivial) rfl (by kernel_rfl) (by kernel_rfl) (by kernel_rfl) (fun _ _ _ h => h) hS0 (Tame.val rfl (fun w' hA => by go_simp)) rfl ?_
      refine wpAnyU_take (i := 4) (A := fun _ => True) (v := .pointer (some ((hd a).add (j * 37)))) (a' := ⟨#[.slice a l.length c, undef, .pointer (some ⟨w.heap.size, 0, none⟩), .slice au vs.length cu, .int .i64 (j : Int), .int .i64 (j : Int), .slice a l.length c, .int .i64 (l.length : Int), .bool true, u9, u10, .slice au vs.length cu, .slice a l.length c, .int .i64 (j : Int), .pointer (some ((hd a).add (j * 37))), .pointer (some ((hd a).add (j * 37))), u16, u17, u18, u19, u20, u21, u22, u23, u24, u25, u26, u27, u28, u29, u30, u31, u32, u33, undef, undef, undef, undef, undef, undef], []⟩) hSm (hSi 4 (by decide)) (fun _ _ _ => trivial) rfl (by kernel_rfl) (by kernel_rfl) (by kernel_rfl) (fun _ _ _ h => h) hS0 (Tame.val rfl (fun w' hA => by go_simp)) rfl ?_
      refine wpAnyU_take (i := 5) (A := fun w1 => Below w.heap.size w w1) (v := .string (str x.name)) (a' := ⟨#[.slice a l.length c, undef, .pointer (some ⟨w.heap.size, 0, none⟩), .slice au vs.length cu, .int .i64 (j : Int), .int .i64 (j : Int), .slice a l.length c, .int .i64 (l.length : Int), .bool true, u9, u10, .slice au vs.length cu, .slice a l.length c, .int .i64 (j : Int), .pointer (some ((hd a).add (j * 37))), .pointer (some ((hd a).add (j * 37))), .string (str x.name), u17, u18, u19, u20, u21, u22, u23, u24, u25, u26, u27, u28, u29, u30, u31, u32, u33, undef, undef, undef, undef, undef, undef], []⟩) hSm (hSi 5 (by decide)) (fun _ _ h => h) rfl (by kernel_rfl) (by kernel_rfl) (by kernel_rfl) (fun _ _ _ h => h) hS0 (Tame.val rfl (fun w' hA => by have h1 := (hxt _ hA).1; go_simp)) rfl ?_
      refine wpAnyU_take (i := 6) (A := fun _ => True) (v := .agg (List.toArray (txtS x.name))) (a' := ⟨#[.slice a l.length c, undef, .pointer (some ⟨w.heap.size, 0, none⟩), .slice au vs.length cu, .int .i64 (j : Int), .int .i64 (j : Int), .slice a l.length c, .int .i64 (l.length : Int), .bool true, u9, u10, .slice au vs.length cu, .slice a l.length c, .int .i64 (j : Int), .pointer (some ((hd a).add (j * 37))), .pointer (some ((hd a).add (j * 37))), .string (str x.name), .agg (List.toArray (txtS x.name)), u18, u19, u20, u21, u22, u23, u24, u25, u26, u27, u28, u29, u30, u31, u32, u33, undef, undef, undef, undef, undef, undef], []⟩) hSm (hSi 6 (by decide)) (fun _ _ _ => trivial) rfl (by kernel_rfl) (by kernel_rfl) (by kernel_rfl) (fun _ _ _ h => h) hS0 (Tame.enter rfl (fun w' => by go_simp) (fun w' _ => rtext_any x.name w')) rfl ?_
      refine wpAnyU_take (i := 7) (A := fun _ => True) (v := .slice a l.length c) (a' := ⟨#[.slice a l.length c, undef, .pointer (some ⟨w.heap.size, 0, none⟩), .slice au vs.length cu, .int .i64 (j : Int), .int .i64 (j : Int), .slice a l.length c, .int .i64 (l.length : Int), .bool true, u9, u10, .slice au vs.length cu, .slice a l.length c, .int .i64 (j : Int), .pointer (some ((hd a).add (j * 37))), .pointer (some ((hd a).add (j * 37))), .string (str x.name), .agg (List.toArray (txtS x.name)), .slice a l.length c, u19, u20, u21, u22, u23, u24, u25, u26, u27, u28, u29, u30, u31, u32, u33, undef, undef, undef, undef, undef, undef], []⟩) hSm (hSi 7 (by decide)) (fun _ _ _ => trivial) rfl (by kernel_rfl) (by kernel_rfl) (by kernel_rfl) (fun _ _ _ h => h) hS0 (Tame.val rfl (fun w' hA => by go_simp)) rfl ?_
      refine wpAnyU_take (i := 8) (A := fun _ => True) (v := .int .i64 (j : Int)) (a' := ⟨#[.slice a l.length c, undef, .pointer (some ⟨w.heap.size, 0, none⟩), .slice au vs.length cu, .int .i64 (j : Int), .int .i64 (j : Int), .slice a l.length c, .int .i64 (l.length : Int), .bool true, u9, u10, .slice au vs.length cu, .slice a l.length c, .int .i64 (j : Int), .pointer (some ((hd a).add (j * 37))), .pointer (some ((hd a).add (j * 37))), .string (str x.name), .agg (List.toArray (txtS x.name)), .slice a l.length c, .int .i64 (j : Int), u20, u21, u22, u23, u24, u25, u26, u27, u28, u29, u30, u31, u32, u33, undef, undef, undef, undef, undef, undef], []⟩) hSm (hSi 8 (by decide)) (fun _ _ _ => trivial) rfl (by kernel_rfl) (by kernel_rfl) (by kernel_rfl) (fun _ _ _ h => h) hS0 (Tame.val rfl (fun w' hA => by go_simp)) rfl ?_
      refine wpAnyU_take (i := 9) (A := fun _ => True) (v := .pointer (some ((hd a).add (j * 37)))) (a' := ⟨#[.slice a l.length c, undef, .pointer (some ⟨w.heap.size, 0, none⟩), .slice au vs.length cu, .int .i64 (j : Int), .int .i64 (j : Int), .slice a l.length c, .int .i64 (l.length : Int), .bool true, u9, u10, .slice au vs.length cu, .slice a l.length c, .int .i64 (j : Int), .pointer (some ((hd a).add (j * 37))), .pointer (some ((hd a).add (j * 37))), .string (str x.name), .agg (List.toArray (txtS x.name)), .slice a l.length c, .int .i64 (j : Int), .pointer (some ((hd a).add (j * 37))), u21, u22, u23, u24, u25, u26, u27, u28, u29, u30, u31, u32, u33, undef, undef, undef, undef, undef, undef], []⟩) hSm (hSi 9 (by decide)) (fun _ _ _ => trivial) rfl (by kernel_rfl) (by kernel_rfl) (by kernel_rfl) (fun _ _ _ h => h) hS0 (Tame.val rfl (fun w' hA => by go_simp)) rfl ?_
      refine wpAnyU_take (i := 10) (A := fun _ => True) (v := .pointer (some ⟨((hd a).add (j * 37)).block, ((hd a).add (j * 37)).off + 1, none⟩)) (a' := ⟨#[.slice a l.length c, undef, .pointer (some ⟨w.heap.size, 0, none⟩), .slice au vs.length cu, .int .i64 (j : Int), .int .i64 (j : Int), .slice a l.length c, .int .i64 (l.length : Int), .bool true, u9, u10, .slice au vs.length cu, .slice a l.length c, .int .i64 (j : Int), .pointer (some ((hd a).add (j * 37))), .pointer (some ((hd a).add (j * 37))), .string (str x.name), .agg (List.toArray (txtS x.name)), .slice a l.length c, .int .i64 (j : Int), .pointer (some ((hd a).add (j * 37))), .pointer (some ⟨((hd a).add (j * 37)).block, ((hd a).add (j * 37)).off + 1, none⟩), u22, u23, u24, u25, u26, u27, u28, u29, u30, u31, u32, u33, undef, undef, undef, undef, undef, undef], []⟩) hSm (hSi 10 (by decide)) (fun _ _ _ => trivial) rfl (by kernel_rfl) (by kernel_rfl) (by kernel_rfl) (fun _ _ _ h => h) hS0 (Tame.val rfl (fun w' hA => by go_simp)) rfl ?_
      refine wpAnyU_take (i := 11) (A := fun w1 => Below w.heap.size w w1) (v := .agg (List.toArray (x.id.map b8))) (a' := ⟨#[.slice a l.length c, undef, .pointer (some ⟨w.heap.size, 0, none⟩), .slice au vs.length cu, .int .i64 (j : Int), .int .i64 (j : Int), .slice a l.length c, .int .i64 (l.length : Int), .bool true, u9, u10, .slice au vs.length cu, .slice a l.length c, .int .i64 (j : Int), .pointer (some ((hd a).add (j * 37))), .pointer (some ((hd a).add (j * 37))), .string (str x.name), .agg (List.toArray (txtS x.name)), .slice a l.length c, .int .i64 (j : Int), .pointer (some ((hd a).add (j * 37))), .pointer (some ⟨((hd a).add (j * 37)).block, ((hd a).add (j * 37)).off + 1, none⟩), .agg (List.toArray (x.id.map b8)), u23, u24, u25, u26, u27, u28, u29, u30, u31, u32, u33, undef, undef, undef, undef, undef, undef], []⟩) hSm (hSi 11 (by decide)) (fun _ _ h => h) rfl (by kernel_rfl) (by kernel_rfl) (by kernel_rfl) (fun _ _ _ h => h) hS0 (Tame.val rfl (fun w' hA => run_ldOp (hxt _ hA).2.1)) rfl ?_
      refine wpAnyU_take (i := 13) (A := fun _ => True) (v := .slice a l.length c) (a' := ⟨#[.slice a l.length c, undef, .pointer (some ⟨w.heap.size, 0, none⟩), .slice au vs.length cu, .int .i64 (j : Int), .int .i64 (j : Int), .slice a l.length c, .int .i64 (l.length : Int), .bool true, u9, u10, .slice au vs.length cu, .slice a l.length c, .int .i64 (j : Int), .pointer (some ((hd a).add (j * 37))), .pointer (some ((hd a).add (j * 37))), .string (str x.name), .agg (List.toArray (txtS x.name)), .slice a l.length c, .int .i64 (j : Int), .pointer (some ((hd a).add (j * 37))), .pointer (some ⟨((hd a).add (j * 37)).block, ((hd a).add (j * 37)).off + 1, none⟩), .agg (List.toArray (x.id.map b8)), u23, .slice a l.length c, u25, u26, u27, u28, u29, u30, u31, u32, u33, undef, undef, undef, undef, undef, undef], []⟩) hSm (hSi 13 (by decide)) (fun _ _ _ => trivial) rfl (by kernel_rfl) (by kernel_rfl) (by kernel_rfl) (fun _ _ _ h => h) hS0 (Tame.val rfl (fun w' hA => by go_simp)) rfl ?_
      refine wpAnyU_take (i := 14) (A := fun _ => True) (v := .int .i64 (j : Int)) (a' := ⟨#[.slice a l.length c, undef, .pointer (some ⟨w.heap.size, 0, none⟩), .slice au vs.length cu, .int .i64 (j : Int), .int .i64 (j : Int), .slice a l.length c, .int .i64 (l.length : Int), .bool true, u9, u10, .slice au vs.length cu, .slice a l.length c, .int .i64 (j : Int), .pointer (some ((hd a).add (j * 37))), .pointer (some ((hd a).add (j * 37))), .string (str x.name), .agg (List.toArray (txtS x.name)), .slice a l.length c, .int .i64 (j : Int), .pointer (some ((hd a).add (j * 37))), .pointer (some ⟨((hd a).add (j * 37)).block, ((hd a).add (j * 37)).off + 1, none⟩), .agg (List.toArray (x.id.map b8)), u23, .slice a l.length c, .int .i64 (j : Int), u26, u27, u28, u29, u30, u31, u32, u33, undef, undef, undef, undef, undef, undef], []⟩) hSm (hSi 14 (by decide)) (fun _ _ _ => trivial) rfl (by kernel_rfl) (by kernel_rfl) (by kernel_rfl) (fun _ _ _ h => h) hS0 (Tame.val rfl (fun w' hA => by go_simp)) rfl ?_
      refine wpAnyU_take (i := 15) (A := fun _ => True) (v := .pointer (some ((hd a).add (j * 37)))) (a' := ⟨#[.slice a l.length c, undef, .pointer (some ⟨w.heap.size, 0, none⟩), .slice au vs.length cu, .int .i64 (j : Int), .int .i64 (j : Int), .slice a l.length c, .int .i64 (l.length : Int), .bool true, u9, u10, .slice au vs.length cu, .slice a l.length c, .int .i64 (j : Int), .pointer (some ((hd a).add (j * 37))), .pointer (some ((hd a).add (j * 37))), .string (str x.name), .agg (List.toArray (txtS x.name)), .slice a l.length c, .int .i64 (j : Int), .pointer (some ((hd a).add (j * 37))), .pointer (some ⟨((hd a).add (j * 37)).block, ((hd a).add (j * 37)).off + 1, none⟩), .agg (List.toArray (x.id.map b8)), u23, .slice a l.length c, .int .i64 (j : Int), .pointer (some ((hd a).add (j * 37))), u27, u28, u29, u30, u31, u32, u33, undef, undef, undef, undef, undef, undef], []⟩) hSm (hSi 15 (by decide)) (fun _ _ _ => trivial) rfl (by kernel_rfl) (by kernel_rfl) (by kernel_rfl) (fun _ _ _ h => h) hS0 (Tame.val rfl (fun w' hA => by go_simp)) rfl ?_
      refine wpAnyU_take (i := 16) (A := fun _ => True) (v := .pointer (some ⟨((hd a).add (j * 37)).block, ((hd a).add (j * 37)).off + 33, none⟩)) (a' := ⟨#[.slice a l.length c, undef, .pointer (some ⟨w.heap.size, 0, none⟩), .slice au vs.length cu, .int .i64 (j : Int), .int .i64 (j : Int), .slice a l.length c, .int .i64 (l.length : Int), .bool true, u9, u10, .slice au vs.length cu, .slice a l.length c, .int .i64 (j : Int), .pointer (some ((hd a).add (j * 37))), .pointer (some ((hd a).add (j * 37))), .string (str x.name), .agg (List.toArray (txtS x.name)), .slice a l.length c, .int .i64 (j : Int), .pointer (some ((hd a).add (j * 37))), .pointer (some ⟨((hd a).add (j * 37)).block, ((hd a).add (j * 37)).off + 1, none⟩), .agg (List.toArray (x.id.map b8)), u23, .slice a l.length c, .int .i64 (j : Int), .pointer (some ((hd a).add (j * 37))), .pointer (some ⟨((hd a).add (j * 37)).block, ((hd a).add (j * 37)).off + 33, none⟩), u28, u29, u30, u31, u32, u33, undef, undef, undef, undef, undef, undef], []⟩) hSm (hSi 16 (by decide)) (fun _ _ _ => trivial) rfl (by kernel_rfl) (by kernel_rfl) (by kernel_rfl) (fun _ _ _ h => h) hS0 (Tame.val rfl (fun w' hA => by go_simp)) rfl ?_
      refine wpAnyU_take (i := 17) (A := fun w1 => Below w.heap.size w w1) (v := .int .i64 x.time) (a' := ⟨#[.slice a l.length c, undef, .pointer (some ⟨w.heap.size, 0, none⟩), .slice au vs.length cu, .int .i64 (j : Int), .int .i64 (j : Int), .slice a l.length c, .int .i64 (l.length : Int), .bool true, u9, u10, .slice au vs.length cu, .slice a l.length c, .int .i64 (j : Int), .pointer (some ((hd a).add (j * 37))), .pointer (some ((hd a).add (j * 37))), .string (str x.name), .agg (List.toArray (txtS x.name)), .slice a l.length c, .int .i64 (j : Int), .pointer (some ((hd a).add (j * 37))), .pointer (some ⟨((hd a).add (j * 37)).block, ((hd a).add (j * 37)).off + 1, none⟩), .agg (List.toArray (x.id.map b8)), u23, .slice a l.length c, .int .i64 (j : Int), .pointer (some ((hd a).add (j * 37))), .pointer (some ⟨((hd a).add (j * 37)).block, ((hd a).add (j * 37)).off + 33, none⟩), .int .i64 x.time, u29, u30, u31, u32, u33, undef, undef, undef, undef, undef, undef], []⟩) hSm (hSi 17 (by decide)) (fun _ _ h => h) rfl (by kernel_rfl) (by kernel_rfl) (by kernel_rfl) (fun _ _ _ h => h) hS0 (Tame.val rfl (fun w' hA => by have h1 := (hxt _ hA).2.2; go_simp)) rfl ?_
      refine wpAnyU_all (rs := [12]) (by kernel_rfl) (by decide) ?_
      intro w2 hm2 i hi
      obtain rfl : i = 12 := by simpa using hi
      refine wpOp_enter (f := 59) (args := #[.agg (List.toArray (x.id.map b8))]) rfl rfl (by go_simp) ((rid_any x.id w2 hxo.id).mono ?_)
      rintro e w3 ⟨ab, cb, rfl, hrb, hcb1, hcb2, hab, hb3⟩
      refine ⟨_, rfl, ?_⟩
      show _ ∧ wpAnyU _ _ _ _ _ _ _ (⟨#[.slice a l.length c, undef, .pointer (some ⟨w.heap.size, 0, none⟩), .slice au vs.length cu, .int .i64 (j : Int), .int .i64 (j : Int), .slice a l.length c, .int .i64 (l.length : Int), .bool true, u9, u10, .slice au vs.length cu, .slice a l.length c, .int .i64 (j : Int), .pointer (some ((hd a).add (j * 37))), .pointer (some ((hd a).add (j * 37))), .string (str x.name), .agg (List.toArray (txtS x.name)), .slice a l.length c, .int .i64 (j : Int), .pointer (some ((hd a).add (j * 37))), .pointer (some ⟨((hd a).add (j * 37)).block, ((hd a).add (j * 37)).off + 1, none⟩), .agg (List.toArray (x.id.map b8)), .agg (List.toArray (bytC (.slice ab 32 cb))), .slice a l.length c, .int .i64 (j : Int), .pointer (some ((hd a).add (j * 37))), .pointer (some ⟨((hd a).add (j * 37)).block, ((hd a).add (j * 37)).off + 33, none⟩), .int .i64 x.time, u29, u30, u31, u32, u33, undef, undef, undef, undef, undef, undef], []⟩ : Act) _
      have hm3 : Mo (wr.drewN 1) w3 := Mo.trans hm2 hb3
      refine ⟨hSw _ hm3, ?_⟩
      refine wpAnyU_take (i := 18) (A := fun _ => True) (v := .agg (List.toArray (numC x.time))) (a' := ⟨#[.slice a l.length c, undef, .pointer (some ⟨w.heap.size, 0, none⟩), .slice au vs.length cu, .int .i64 (j : Int), .int .i64 (j : Int), .slice a l.length c, .int .i64 (l.length : Int), .bool true, u9, u10, .slice au vs.length cu, .slice a l.length c, .int .i64 (j : Int), .pointer (some ((hd a).add (j * 37))), .pointer (some ((hd a).add (j * 37))), .string (str x.name), .agg (List.toArray (txtS x.name)), .slice a l.length c, .int .i64 (j : Int), .pointer (some ((hd a).add (j * 37))), .pointer (some ⟨((hd a).add (j * 37)).block, ((hd a).add (j * 37)).off + 1, none⟩), .agg (List.toArray (x.id.map b8)), .agg (List.toArray (bytC (.slice ab 32 cb))), .slice a l.length c, .int .i64 (j : Int), .pointer (some ((hd a).add (j * 37))), .pointer (some ⟨((hd a).add (j * 37)).block, ((hd a).add (j * 37)).off + 33, none⟩), .int .i64 x.time, .agg (List.toArray (numC x.time)), u30, u31, u32, u33, undef, undef, undef, undef, undef, undef], []⟩) hSm (hSi 18 (by decide)) (fun _ _ _ => trivial) rfl (by kernel_rfl) (by kernel_rfl) (by kernel_rfl) (fun _ _ _ h => h) (hSw _ hm3) (Tame.enter rfl (fun w' => by go_simp) (fun w' _ => rnum_any x.time w')) rfl ?_
      refine wpAnyU_all (rs := [19]) (by kernel_rfl) (by decide) ?_
      intro w4 hm4 i hi
      obtain rfl : i = 19 := by simpa using hi
      refine wpOp_val (v := .slice (some ⟨w4.heap.size, 0, none⟩) 3 3) (w' := w4.alloc (.cells (List.toArray (List.flatten [txtS x.name, bytC (.slice ab 32 cb), numC x.time])) 63)) (a' := ⟨#[.slice a l.length c, undef, .pointer (some ⟨w.heap.size, 0, none⟩), .slice au vs.length cu, .int .i64 (j : Int), .int .i64 (j : Int), .slice a l.length c, .int .i64 (l.length : Int), .bool true, u9, u10, .slice au vs.length cu, .slice a l.length c, .int .i64 (j : Int), .pointer (some ((hd a).add (j * 37))), .pointer (some ((hd a).add (j * 37))), .string (str x.name), .agg (List.toArray (txtS x.name)), .slice a l.length c, .int .i64 (j : Int), .pointer (some ((hd a).add (j * 37))), .pointer (some ⟨((hd a).add (j * 37)).block, ((hd a).add (j * 37)).off + 1, none⟩), .agg (List.toArray (x.id.map b8)), .agg (List.toArray (bytC (.slice ab 32 cb))), .slice a l.length c, .int .i64 (j : Int), .pointer (some ((hd a).add (j * 37))), .pointer (some ⟨((hd a).add (j * 37)).block, ((hd a).add (j * 37)).off + 33, none⟩), .int .i64 x.time, .agg (List.toArray (numC x.time)), .slice (some ⟨w4.heap.size, 0, none⟩) 3 3, u31, u32, u33, undef, undef, undef, undef, undef, undef], []⟩) rfl rfl (run_bsOp (vals := #[(0, .agg (List.toArray (txtS x.name))), (1, .agg (List.toArray (bytC (.slice ab 32 cb)))), (2, .agg (List.toArray (numC x.time)))]) (by first | rfl | go_simp | simp [Act.eval]) (bsOp_rows (vs := [txtS x.name, bytC (.slice ab 32 cb), numC x.time]) Try.underlying61 infoV (by decide) rfl (by decide) (by decide) (by exact zV_size) (by simp [txtS, bytC, numC]) rfl)) rfl ?_
      have hm5 : Mo w4 (w4.alloc (.cells (List.toArray (List.flatten [txtS x.name, bytC (.slice ab 32 cb), numC x.time])) 63)) := (Below.refl _ _).alloc (Nat.le_refl _) _
      have hm35 := Mo.trans (Mo.trans hm3 hm4) hm5
      have hB5 : Blk (w4.alloc (.cells (List.toArray (List.flatten [txtS x.name, bytC (.slice ab 32 cb), numC x.time])) 63)) w4.heap.size 63 (List.flatten [txtS x.name, bytC (.slice ab 32 cb), numC x.time]) := Blk.new _ _ _
      have hg4 : wr.heap.size ≤ w4.heap.size := (Mo.trans hm3 hm4).size
      have hrb5 := hrb.below (Mo.trans hm4 hm5)
      refine ⟨hSw _ hm35, ?_⟩
      generalize hgg : w4.heap.size = g at *
      generalize hw5 : w4.alloc (.cells (List.toArray (List.flatten [txtS x.name, bytC (.slice ab 32 cb), numC x.time])) 63) = w5 at *
      clear hw5 hm4 hm5
      refine wpAnyU_take (i := 20) (A := fun _ => True) (v := .agg #[.int .i64 6, .int .i64 0, .slice none 0 0, .string { data := #[] }, .slice none 0 0, .slice (some ⟨g, 0, none⟩) 3 3]) (a' := ⟨#[.slice a l.length c, undef, .pointer (some ⟨w.heap.size, 0, none⟩), .slice au vs.length cu, .int .i64 (j : Int), .int .i64 (j : Int), .slice a l.length c, .int .i64 (l.length : Int), .bool true, u9, u10, .slice au vs.length cu, .slice a l.length c, .int .i64 (j : Int), .pointer (some ((hd a).add (j * 37))), .pointer (some ((hd a).add (j * 37))), .string (str x.name), .agg (List.toArray (txtS x.name)), .slice a l.length c, .int .i64 (j : Int), .pointer (some ((hd a).add (j * 37))), .pointer (some ⟨((hd a).add (j * 37)).block, ((hd a).add (j * 37)).off + 1, none⟩), .agg (List.toArray (x.id.map b8)), .agg (List.toArray (bytC (.slice ab 32 cb))), .slice a l.length c, .int .i64 (j : Int), .pointer (some ((hd a).add (j * 37))), .pointer (some ⟨((hd a).add (j * 37)).block, ((hd a).add (j * 37)).off + 33, none⟩), .int .i64 x.time, .agg (List.toArray (numC x.time)), .slice (some ⟨g, 0, none⟩) 3 3, .agg #[.int .i64 6, .int .i64 0, .slice none 0 0, .string { data := #[] }, .slice none 0 0, .slice (some ⟨g, 0, none⟩) 3 3], u32, u33, undef, undef, undef, undef, undef, undef], []⟩) hSm (hSi 20 (by decide)) (fun _ _ _ => trivial) rfl (by kernel_rfl) (by kernel_rfl) (by kernel_rfl) (fun _ _ _ h => h) (hSw _ hm35) (Tame.val rfl (fun w' hA => by go_simp)) rfl ?_
      refine wpAnyU_all (rs := [21]) (by kernel_rfl) (by decide) ?_
      intro w6 hm6 i hi
      obtain rfl : i = 21 := by simpa using hi
      refine wpOp_val (v := .slice (some ⟨w6.heap.size, 0, none⟩) 1 1) (w' := w6.alloc (.cells (List.toArray (lstC (.slice (some ⟨g, 0, none⟩) 3 3))) 63)) (a' := ⟨#[.slice a l.length c, undef, .pointer (some ⟨w.heap.size, 0, none⟩), .slice au vs.length cu, .int .i64 (j : Int), .int .i64 (j : Int), .slice a l.length c, .int .i64 (l.length : Int), .bool true, u9, u10, .slice au vs.length cu, .slice a l.length c, .int .i64 (j : Int), .pointer (some ((hd a).add (j * 37))), .pointer (some ((hd a).add (j * 37))), .string (str x.name), .agg (List.toArray (txtS x.name)), .slice a l.length c, .int .i64 (j : Int), .pointer (some ((hd a).add (j * 37))), .pointer (some ⟨((hd a).add (j * 37)).block, ((hd a).add (j * 37)).off + 1, none⟩), .agg (List.toArray (x.id.map b8)), .agg (List.toArray (bytC (.slice ab 32 cb))), .slice a l.length c, .int .i64 (j : Int), .pointer (some ((hd a).add (j * 37))), .pointer (some ⟨((hd a).add (j * 37)).block, ((hd a).add (j * 37)).off + 33, none⟩), .int .i64 x.time, .agg (List.toArray (numC x.time)), .slice (some ⟨g, 0, none⟩) 3 3, .agg #[.int .i64 6, .int .i64 0, .slice none 0 0, .string { data := #[] }, .slice none 0 0, .slice (some ⟨g, 0, none⟩) 3 3], .slice (some ⟨w6.heap.size, 0, none⟩) 1 1, u33, undef, undef, undef, undef, undef, undef], []⟩) rfl rfl (run_bsOp (vals := #[(0, .agg #[.int .i64 6, .int .i64 0, .slice none 0 0, .string { data := #[] }, .slice none 0 0, .slice (some ⟨g, 0, none⟩) 3 3])]) (by first | rfl | go_simp | simp [Act.eval]) (bsOp_one (cs := List.toArray (lstC (.slice (some ⟨g, 0, none⟩) 3 3))) Try.underlying61 infoV (by decide) (by decide) (by exact zV_size) rfl)) rfl ?_
      have hm7 : Mo w6 (w6.alloc (.cells (List.toArray (lstC (.slice (some ⟨g, 0, none⟩) 3 3))) 63)) := (Below.refl _ _).alloc (Nat.le_refl _) _
      have hB7 : Blk (w6.alloc (.cells (List.toArray (lstC (.slice (some ⟨g, 0, none⟩) 3 3))) 63)) w6.heap.size 63 (lstC (.slice (some ⟨g, 0, none⟩) 3 3)) := Blk.new _ _ _
      have hm37 := Mo.trans (Mo.trans hm35 hm6) hm7
      have hm57 := Mo.trans hm6 hm7
      refine ⟨hSw _ hm37, ?_⟩
      generalize hgg2 : w6.heap.size = g2 at *
      generalize hw7 : w6.alloc (.cells (List.toArray (lstC (.slice (some ⟨g, 0, none⟩) 3 3))) 63) = w7 at *
      clear hw7 hm6 hm7
      refine wpAnyU_all (rs := [22]) (by kernel_rfl) (by decide) ?_
      intro w8 hm8 i hi
      obtain rfl : i = 22 := by simpa using hi
      have hm38 := Mo.trans hm37 hm8
      have hVs8 : VsAt (fun b => w.heap.size + 1 ≤ b ∧ (Value.slice au vs.length cu).ownBlock ≠ some b) (w.heap.size + 1) w8 (.slice au vs.length cu) vs :=
        hVs.out.same (show (wr.drewN 1).heap.size ≤ _ from Mo.size' hm38) (fun b hb => hm38.block b (by obtain ⟨_, _, _, hO, _⟩ := hVs.out; exact (World.ownsRow.lt hO b hb).2)) (fun b hb hlt => ⟨hm38.block b hlt, hb⟩)
      have hown : ∀ b, (Value.slice au vs.length cu).ownBlock = some b → w.heap.size + 1 ≤ b ∧ b < wr.heap.size := fun b hb => by
        obtain ⟨_, _, _, hO, _⟩ := hVs.out
        exact World.ownsRow.lt hO b hb
      have hbase : w.heap.size + 1 ≤ wr.heap.size := hR.out.lt
      have hxV : VAtP (fun b => w.heap.size + 1 ≤ b ∧ (Value.slice au vs.length cu).ownBlock ≠ some b) w8 (lstC (.slice (some ⟨g, 0, none⟩) 3 3)) (abtV x) := by
        have hB8 := hB5.below (Mo.trans hm57 hm8)
        have hrb8 := hrb5.below (Mo.trans hm57 hm8)
        have fresh : ∀ b, wr.heap.size ≤ b → w.heap.size + 1 ≤ b ∧ (Value.slice au vs.length cu).ownBlock ≠ some b := fun b hbb => ⟨by omega, fun e => by have := (hown b e).2; omega⟩
        refine VAtP.lst (css := [txtS x.name, bytC (.slice ab 32 cb), numC x.time]) (l := [pTxt x.name, pByt x.id, pNum x.time]) hB8.row (by simp) (by unfold maxLen; simp) rfl (by simp [txtS, bytC, numC]) (fun _ => fresh g (by omega)) ?_
        intro i c v hc hv
        match i with
        | 0 => simp at hc hv; subst hc hv; exact VAtP.txtS w8 hxo.name
        | 1 =>
          simp at hc hv; subst hc hv
          have := VAtP.bytS (ok := fun b => w.heap.size + 1 ≤ b ∧ (Value.slice au vs.length cu).ownBlock ≠ some b) (c := cb) hrb8 (by rw [hxo.id]; exact hcb1) hcb2 (fun _ => fresh _ (by have := hm2.size; have e : (wr.drewN 1).heap.size = wr.heap.size := rfl; omega))
          rwa [hxo.id] at this
        | 2 => simp at hc hv; subst hc hv; exact VAtP.numb w8 hxo.time
        | i + 3 => simp at hc
      have hr8 : Row w8 (some ⟨g2, 0, none⟩) (lstC (.slice (some ⟨g, 0, none⟩) 3 3)) := (hB7.below hm8).row
      obtain ⟨a', c', w9, hrun, hVs9, hG9⟩ := VsAt.appR (ty := 61) (c2 := 1) (ok' := fun z => (w.heap.size + 1 ≤ z ∧ (Value.slice au vs.length cu).ownBlock ≠ some z) ∧ z < w8.heap.size) hVs8 (fun z hz => hz.2) hxV (fun z hz hlt => ⟨hz, hlt⟩) hvl.out (Nat.le_trans hbase (show (wr.drewN 1).heap.size ≤ _ from Mo.size' hm38)) hr8
      have hb8 := hSw _ hm38
      have hb9 : Below w.heap.size w w9 := hb8.trans (hG9.below (base := w.heap.size + 1) (fun k hk => (hown k hk).1) (by omega) hb8.size)
      refine wpOp_val (v := .slice a' (vs.length + 1) c') (w' := w9) (a' := ⟨#[.slice a l.length c, undef, .pointer (some ⟨w.heap.size, 0, none⟩), .slice au vs.length cu, .int .i64 (j : Int), .int .i64 (j : Int), .slice a l.length c, .int .i64 (l.length : Int), .bool true, u9, u10, .slice au vs.length cu, .slice a l.length c, .int .i64 (j : Int), .pointer (some ((hd a).add (j * 37))), .pointer (some ((hd a).add (j * 37))), .string (str x.name), .agg (List.toArray (txtS x.name)), .slice a l.length c, .int .i64 (j : Int), .pointer (some ((hd a).add (j * 37))), .pointer (some ⟨((hd a).add (j * 37)).block, ((hd a).add (j * 37)).off + 1, none⟩), .agg (List.toArray (x.id.map b8)), .agg (List.toArray (bytC (.slice ab 32 cb))), .slice a l.length c, .int .i64 (j : Int), .pointer (some ((hd a).add (j * 37))), .pointer (some ⟨((hd a).add (j * 37)).block, ((hd a).add (j * 37)).off + 33, none⟩), .int .i64 x.time, .agg (List.toArray (numC x.time)), .slice (some ⟨g, 0, none⟩) 3 3, .agg #[.int .i64 6, .int .i64 0, .slice none 0 0, .string { data := #[] }, .slice none 0 0, .slice (some ⟨g, 0, none⟩) 3 3], .slice (some ⟨g2, 0, none⟩) 1 1, .slice a' (vs.length + 1) c', undef, undef, undef, undef, undef, undef], []⟩) rfl rfl (run_append hrun rfl rfl rfl) rfl ?_
      refine ⟨hb9, ?_⟩
      refine wpAnyU_take (i := 23) (A := fun _ => True) (v := .slice a' (vs.length + 1) c') (a' := ⟨#[.slice a l.length c, undef, .pointer (some ⟨w.heap.size, 0, none⟩), .slice a' (vs.length + 1) c', .int .i64 (j : Int), .int .i64 (j : Int), .slice a l.length c, .int .i64 (l.length : Int), .bool true, u9, u10, .slice au vs.length cu, .slice a l.length c, .int .i64 (j : Int), .pointer (some ((hd a).add (j * 37))), .pointer (some ((hd a).add (j * 37))), .string (str x.name), .agg (List.toArray (txtS x.name)), .slice a l.length c, .int .i64 (j : Int), .pointer (some ((hd a).add (j * 37))), .pointer (some ⟨((hd a).add (j * 37)).block, ((hd a).add (j * 37)).off + 1, none⟩), .agg (List.toArray (x.id.map b8)), .agg (List.toArray (bytC (.slice ab 32 cb))), .slice a l.length c, .int .i64 (j : Int), .pointer (some ((hd a).add (j * 37))), .pointer (some ⟨((hd a).add (j * 37)).block, ((hd a).add (j * 37)).off + 33, none⟩), .int .i64 x.time, .agg (List.toArray (numC x.time)), .slice (some ⟨g, 0, none⟩) 3 3, .agg #[.int .i64 6, .int .i64 0, .slice none 0 0, .string { data := #[] }, .slice none 0 0, .slice (some ⟨g, 0, none⟩) 3 3], .slice (some ⟨g2, 0, none⟩) 1 1, .slice a' (vs.length + 1) c', undef, undef, undef, undef, undef, undef], []⟩) hSm (hSi 23 (by decide)) (fun _ _ _ => trivial) rfl (by kernel_rfl) (by kernel_rfl) (by kernel_rfl) (fun _ _ _ h => h) hb9 (Tame.val rfl (fun w' hA => by go_simp)) rfl ?_
      refine wpAnyU_done (by kernel_rfl) ?_ _
      intro w12 hm12
      have hb12 := Lib.hid (hb9.trans (hm12.mono hb9.size))
      have hR8 : Blk w8 w.heap.size 63 zV.toList := (show Blk (wr.drewN 1) w.heap.size 63 zV.toList from hR.out).below hm38
      have hR9 := (hG9.blk hR8 (fun e => by have := (hown _ e).1; omega)).1
      have hR12 := Lib.hid (hR9.below hm12)
      have hVs12 : Hid (VsAt (fun b => w.heap.size + 1 ≤ b ∧ (Value.slice a' (vs.length + 1) c').ownBlock ≠ some b) (w.heap.size + 1) w12 (.slice a' (vs.length + 1) c') ((l.take (j + 1)).map abtV)) := by
        show VsAt _ _ _ _ _
        rw [hT.out]
        exact hVs9.same hm12.size (fun b hb => hm12.block b (by obtain ⟨_, _, _, hO, _⟩ := hVs9; exact (World.ownsRow.lt hO b hb).2)) (fun b hb hlt => ⟨hm12.block b hlt, hb.1.1, fun e => by
          rcases hG9.own b e with h | h
          · exact hb.1.2 h
          · omega⟩)
      clear hm12 hb9 hb8 hR9 hR8 hG9 hVs9 hrun hr8 hxV hVs8 hSw hSm hSi hS0 hxt hown
      go_wp2
      first
        | exact ⟨⟨j + 1, by omega, (by first | rfl | go_num | (congr 1; omega)), hVs12, hb12, hR12⟩, by simp [intOf] <;> omega⟩
        | (refine ⟨?_, by simp [intOf] <;> omega⟩; (repeat apply Exists.intro); exact ⟨⟨j + 1, by omega, (by first | rfl | go_num | (congr 1; omega)), hVs12, hb12, hR12⟩, rfl⟩)
    · obtain rfl : j = l.length := by omega
      have j1 : ¬ (l.length : Int) < (l.length : Int) := by omega
      have hLV : Hid (listV l = .mk 7 0 [] [] [[97], [118]] [pList vs, pNum 1]) := by
        show _ = _
        rw [hvs, List.take_length]; rfl
      clear hvs jb j0
      have hone := fun w' => rnum_any 1 w'
      go_wp2_with fail
      have hK : Blk (wr.alloc (.cells #[.string { data := #[97] }, .string { data := #[118] }] 9)) wr.heap.size 9 [strV [97], strV [118]] := Blk.new _ _ _
      have hm1 : Mo wr (wr.alloc (.cells #[.string { data := #[97] }, .string { data := #[118] }] 9)) := (Below.refl _ _).alloc (Nat.le_refl _) _
      generalize hwk : wr.alloc (.cells #[.string { data := #[97] }, .string { data := #[118] }] 9) = wk at *
      refine (hone _).mono ?_
      rintro e w2 ⟨rfl, hb2⟩
      have hm2 : Mo wr w2 := Mo.trans hm1 hb2
      have hVs2 : VsAt (fun b => w.heap.size + 1 ≤ b ∧ (Value.slice au vs.length cu).ownBlock ≠ some b) (w.heap.size + 1) w2 (.slice au vs.length cu) vs :=
        hVs.out.same hm2.size (fun b hb => hm2.block b (by obtain ⟨_, _, _, hO, _⟩ := hVs.out; exact (World.ownsRow.lt hO b hb).2)) (fun b hb hlt => ⟨hm2.block b hlt, hb⟩)
      have hLst := (VsAt.lst hVs2 (fun b hb => hb.1)).2
      have hbs := bsOp_rows (P := Try.prog) (w := w2) (n := 2) (vs := [lstC (.slice au vs.length cu), numC 1]) (parts := #[(0, .agg #[.int .i64 6, .int .i64 0, .slice none 0 0, .string { data := #[] }, .slice none 0 0, .slice au vs.length cu]), (1, .agg (List.toArray (numC 1)))]) Try.underlying61 infoV (by decide) rfl (by decide) (by decide) (by exact zV_size) (by simp [lstC, numC]) rfl
      have hV3 : Blk (w2.alloc (.cells (List.toArray (List.flatten [lstC (.slice au vs.length cu), numC 1])) 63)) w2.heap.size 63 (List.flatten [lstC (.slice au vs.length cu), numC 1]) := Blk.new _ _ _
      have hm3 : Mo w2 (w2.alloc (.cells (List.toArray (List.flatten [lstC (.slice au vs.length cu), numC 1])) 63)) := (Below.refl _ _).alloc (Nat.le_refl _) _
      generalize hw3 : w2.alloc (.cells (List.toArray (List.flatten [lstC (.slice au vs.length cu), numC 1])) 63) = w3 at *
      have hbase : w.heap.size + 1 ≤ wr.heap.size := hR.out.lt
      have hk3 := hK.below (Mo.trans hb2 hm3)
      have hR3 := hR.out.below (Mo.trans hm2 hm3)
      have hb3 : Below w.heap.size w w3 := hb.out.trans ((Mo.trans hm2 hm3).mono hb.out.size)
      have hL3 := hLst.grow hm3
      have hgk : w.heap.size + 1 ≤ wr.heap.size := hbase
      have hgv : w.heap.size + 1 ≤ w2.heap.size := Nat.le_trans hbase hm2.size
      generalize wr.heap.size = gk at *
      generalize w2.heap.size = gv at *
      have hst := st_row hR3 (by rfl) #[.int .i64 7, .int .i64 0, .slice none 0 0, .string { data := #[] }, .slice (some ⟨gk, 0, none⟩) 2 2, .slice (some ⟨gv, 0, none⟩) 2 2] rfl (by unfold OneC; simp [Value.oneCell'])
      have hgr := setRow_gr w3 w.heap.size #[.int .i64 7, .int .i64 0, .slice none 0 0, .string { data := #[] }, .slice (some ⟨gk, 0, none⟩) 2 2, .slice (some ⟨gv, 0, none⟩) 2 2]
      have hBr : Blk (w3.setRow w.heap.size #[.int .i64 7, .int .i64 0, .slice none 0 0, .string { data := #[] }, .slice (some ⟨gk, 0, none⟩) 2 2, .slice (some ⟨gv, 0, none⟩) 2 2]) w.heap.size 63 [.int .i64 7, .int .i64 0, .slice none 0 0, strV [], .slice (some ⟨gk, 0, none⟩) 2 2, .slice (some ⟨gv, 0, none⟩) 2 2] := setRow_blk hR3 [.int .i64 7, .int .i64 0, .slice none 0 0, strV [], .slice (some ⟨gk, 0, none⟩) 2 2, .slice (some ⟨gv, 0, none⟩) 2 2]
      have hF : Hid (VAtP (fun b => w.heap.size ≤ b) (w3.setRow w.heap.size #[.int .i64 7, .int .i64 0, .slice none 0 0, .string { data := #[] }, .slice (some ⟨gk, 0, none⟩) 2 2, .slice (some ⟨gv, 0, none⟩) 2 2]) [.int .i64 7, .int .i64 0, .slice none 0 0, strV [], .slice (some ⟨gk, 0, none⟩) 2 2, .slice (some ⟨gv, 0, none⟩) 2 2] (listV l) ∧ Below w.heap.size w (w3.setRow w.heap.size #[.int .i64 7, .int .i64 0, .slice none 0 0, .string { data := #[] }, .slice (some ⟨gk, 0, none⟩) 2 2, .slice (some ⟨gv, 0, none⟩) 2 2])) := by
        show _ ∧ _
        refine ⟨?_, hb3.trans ⟨hgr.os, hgr.tape, hgr.output, hgr.size, fun k hk => hgr.block k (Nat.lt_of_lt_of_le hk hb3.size) (by simp; omega)⟩⟩
        rw [hLV.out]
        refine VAtP.map (ks := [[97], [118]]) (css := [lstC (.slice au vs.length cu), numC 1]) (l := [pList vs, pNum 1]) (hk3.grown hgr (by omega)).row (by simp) (by unfold maxLen; simp) (by simp [maxLen]) (fun _ => by show w.heap.size ≤ gk; omega) (hV3.grown hgr (by omega)).row (by simp) (by unfold maxLen; simp) rfl (by simp [lstC, numC]) (fun _ => by show w.heap.size ≤ gv; omega) ?_
        intro i c v hc hv
        match i with
        | 0 =>
          simp at hc hv; subst hc hv
          exact ((hL3.same (fun b hb hlt => hgr.block b hlt (by simp; omega))).mono (fun b hb _ => by omega))
        | 1 => simp at hc hv; subst hc hv; exact VAtP.numb _ (by unfold in64; omega)
        | i + 2 => simp at hc
      clear hgr hL3 hLst hVs2 hVs hk3 hR3 hK hm1 hm2 hm3 hb2 hV3 hLV hone hR hb hb3
      go_wp2
      refine bodyPost_ret (results_cell_row (fn := Try.f33) (by rfl) _ _ w.heap.size 63 _ (0, 0) _ (by rfl) hBr Try.underlying63 rfl sizeV) rfl ?_
      exact ⟨_, rfl, hF.out.1, hF.out.2⟩
end Go.Proofs.Ytakliplkabgmbaa
