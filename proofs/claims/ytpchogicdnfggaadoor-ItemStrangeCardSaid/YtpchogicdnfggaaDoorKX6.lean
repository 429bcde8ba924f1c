/- Joined: what one statement of this layer stands on, part 6 of 17; nothing is assumed. -/
import Derived.ChangeOld
import Derived.Deep.CutBlock
import Derived.Deep.DeepCutAuto
import Derived.Deep.RegionHeld3
import Derived.Deep.Strs
import Derived.OpenShut
import Derived.OrdersHeld
import Derived.ProofKit
import Derived.StillTailTactics
import Derived.Test.YtpchogicdnfggaaDoorKX1
import Derived.Test.YtpchogicdnfggaaDoorKX2
import Derived.Test.YtpchogicdnfggaaDoorKX3
import Derived.Test.YtpchogicdnfggaaDoorKX4
import Derived.Test.YtpchogicdnfggaaDoorKX5
set_option maxRecDepth 20000
namespace Go.Hd
open Go Go.RowKit Go.ChangeShapes Go.WideShapes Go.ChangeAt
variable {H : Type} {enc : TypeId × Value → H} {P : Program}

theorem trodAll_below (hl : laidOutB P = true) {W W' : World} (hb : Below W.heap.size W W') : ∀ {ts : List TypeId} {vs : List Value} {ds : List (DataW H)} {ps : List MemPlace},
    (ts.all fun t => P.readableRec t && decide (t < P.types.size)) = true → DataW.TrodAll enc P W 0 (fun _ => true) true ts vs ds ps → (∀ x ∈ ps, x.block < W.heap.size) →
    DataW.TrodAll enc P W' 0 (fun b => decide (b < W.heap.size)) true ts vs ds ps
  | [], vs, ds, ps, _, h, _ => by
    obtain ⟨rfl, rfl, rfl⟩ := trodAll_nil h
    exact trodAll_mk0
  | t :: ts, vs, ds, ps, hr, h, hlt => by
    obtain ⟨v, vs', d, ds', p, q, rfl, rfl, rfl, h1, h2⟩ := trodAll_cons h
    simp only [List.all_cons, Bool.and_eq_true, decide_eq_true_eq] at hr
    exact trodAll_cons_mk (Below.trod hl hr.1.1 hr.1.2 h1 hb (fun x hx => hlt x (List.mem_append_left _ hx)))
      (trodAll_below hl hb (by simpa using hr.2) h2 (fun x hx => hlt x (List.mem_append_right _ hx)))

/-- A law's row: true, and nothing that was there is written. -/
theorem law_post {f : Func} {s : ChangeSpec} {W W' : World} {args : Array Value} {ds gs : List (DataW H)} {before : List MemPlace} {tb : TypeId}
    (hl : laidOutB P = true) (hr : (f.params.toList.all fun t => P.readableRec t && decide (t < P.types.size)) = true) (hres : f.resultTypes = #[tb]) (htb : P.underlying tb = some .bool) (hvars : s.vars = [])
    (hW : DataW.Whole enc P f.params.toList s.vars false W args.toList ds gs before) (hfn : s.fn H (ds ++ gs) = { results := [.lit (.bool true)], args := ds }) (bel : Below W.heap.size W W') :
    s.post enc P f false true false false W args (.bool true) W' := by
  have hW' := hW
  obtain ⟨p, q, hA, hV, rfl, _, _⟩ := hW
  refine ⟨ds, gs, p ++ q, [], p, [], hW', ?_, ?_, ?_, bel.frame _, fun h => by cases h⟩
  · rw [hfn, hres]
    exact trodAll_mk1 (shut_bool htb _)
  · rw [hfn]
    exact trodAll_below hl bel hr hA (fun x hx => hW'.lt x (List.mem_append_left _ hx))
  · rw [hvars, hfn]; rfl

theorem open_byt_cells {t e : TypeId} (ht : P.underlying t = some (.slice e)) (he : P.underlying e = some (.int .u8)) (hc : P.cellsOf e = 1) {W : World} {fuel : Nat} {cs : List Value} {y : DataW H × List MemPlace}
    (hf : DataW.trod enc P W 0 (fun _ => true) true fuel t cs = some y) : ∃ (a : Option Addr) (n c : Nat) (l : List UInt8), cs = [.slice a n c] ∧ n = l.length ∧ n ≤ c ∧ c ≤ maxLen ∧ Row W a (l.map b8) := by
  rcases open_ints ht he hc hf with ⟨hcs, _⟩ | ⟨x, l, c', zs, hcs, _, hl, hm, hz, _, hcell, hwz⟩
  · exact ⟨none, 0, 0, [], hcs, rfl, Nat.le_refl _, Nat.zero_le _, by simp, by simp⟩
  · have hzl : zs.length = c' := by simpa using hz
    refine ⟨some x, l, c', (zs.take l).map fun z => UInt8.ofNat z.toNat, hcs, by simp; omega, hl, hm, fun _ => rfl, fun i u hu => ?_⟩
    have hi : i < l := by
      rcases Nat.lt_or_ge i l with h | h
      · exact h
      · rw [List.getElem?_eq_none (by simp; omega)] at hu; cases hu
    have hiz : i < zs.length := by omega
    have hcl := hcell i (by omega)
    have hb := hwz (zs[i]) (List.getElem_mem hiz)
    have hbd : 0 ≤ zs[i] ∧ zs[i] ≤ 255 := by
      have h := hb
      simp [Lit.wf, IntKind.min, IntKind.max, IntKind.signed, IntKind.bits] at h
      omega
    rw [List.getElem?_map, List.getElem?_map, List.getElem?_take_of_lt hi, List.getElem?_eq_getElem hiz] at hu
    simp only [Option.map_some, Option.some.injEq] at hu
    subst hu
    rw [hd_some, hcl]
    simp only [List.getD_eq_getElem?_getD, List.getElem?_eq_getElem hiz, Option.getD_some]
    congr 2
    simp
    omega

theorem int_bd {k : IntKind} {n : Int} (h : (Lit.int k n).wf = true) : k.min ≤ n ∧ n ≤ k.max := by
  simpa [Lit.wf] using h
theorem i64_wf {n : Int} (h : (Lit.int .i64 n).wf = true) : -9223372036854775808 ≤ n ∧ n ≤ 9223372036854775807 := by
  have h := int_bd h
  simp [IntKind.min, IntKind.max, IntKind.signed, IntKind.bits] at h
  exact h
theorem u8_wf {n : Int} (h : (Lit.int .u8 n).wf = true) : 0 ≤ n ∧ n ≤ 255 := by
  have h := int_bd h
  simp [IntKind.min, IntKind.max, IntKind.signed, IntKind.bits] at h
  exact h

/-! A slice of anything: its elements' cells, one row. -/
theorem flatten_get {α : Type} {s : Nat} : ∀ {xs : List (List α)}, (∀ x ∈ xs, x.length = s) → ∀ {q : Nat} {u : α}, xs.flatten[q]? = some u → ∃ i j x, q = i * s + j ∧ j < s ∧ xs[i]? = some x ∧ x[j]? = some u
  | [], _, q, u, h => by simp at h
  | x :: xs, hs, q, u, h => by
    have hx := hs x (by simp)
    rw [List.flatten_cons] at h
    by_cases hq : q < s
    · rw [List.getElem?_append_left (by omega)] at h
      exact ⟨0, q, x, by simp, hq, by simp, h⟩
    · rw [List.getElem?_append_right (by omega), hx] at h
      obtain ⟨i, j, y, h1, h2, h3, h4⟩ := flatten_get (fun y hy => hs y (by simp [hy])) h
      exact ⟨i + 1, j, y, by rw [Nat.add_mul]; omega, h2, by simpa using h3, h4⟩

end Go.Hd
set_option maxRecDepth 20000
namespace Go.Proofs.YtpchogicdnfggaaDoor
open Go.RowKit Go.Hd Go.ChangeShapes Go.WideShapes Go.ChangeAt
section
variable {H : Type} {enc : TypeId × Value → H} {W : World}

/-- The cells of a slice of anything. -/
theorem open_rows_cells {t e : TypeId} {s : Nat} (ht : Tryd.prog.underlying t = some (.slice e)) (hc : Tryd.prog.cellsOf e = s) {fuel : Nat} {cs : List Value} {y : DataW H × List MemPlace} (h : DataW.trod enc Tryd.prog W 0 (fun _ => true) true fuel t cs = some y) :
    ∃ (a : Option Addr) (n c : Nat) (xs : List (List Value)), cs = [.slice a n c] ∧ n = xs.length ∧ n ≤ c ∧ c ≤ maxLen ∧ Row W a xs.flatten ∧ ∀ x ∈ xs, x.length = s ∧ ∃ m y, fuel = m + 1 ∧ DataW.trod enc Tryd.prog W 0 (fun _ => true) true m e x = some y := by
  rcases DataW.trod_slice ht h with ⟨rfl, _⟩ | ⟨x, len, cap, elems, rest, n0, hf0, rfl, _, hb, hl, hm, hlen, hel, _, _⟩
  · exact ⟨none, 0, 0, [], rfl, rfl, Nat.le_refl _, Nat.zero_le _, ⟨by simp, by simp⟩, by simp⟩
  · have each : ∀ i, i < len → ∃ cs, cs.length = s ∧ (∀ j u, cs[j]? = some u → W.cell? ((x.add (i * s)).add j) = some u) ∧ ∃ y, DataW.trod enc Tryd.prog W 0 (fun _ => true) true n0 e cs = some y := by
      intro i hi
      have h1 := hel i hi
      rw [List.getElem?_eq_getElem (by omega), Option.bind_eq_some_iff, hc] at h1
      obtain ⟨cs, h2, h3⟩ := h1
      obtain ⟨k1, k2, k3⟩ := World.cells?_some h2
      refine ⟨cs, k2, fun j u hu => ?_, _, h3⟩
      rw [k3 j (by rcases Nat.lt_or_ge j s with h | h; exact h; rw [List.getElem?_eq_none (by omega)] at hu; cases hu)]
      exact hu
    have build : ∀ m, m ≤ len → ∃ xs : List (List Value), xs.length = m ∧ ∀ i y, xs[i]? = some y → y.length = s ∧ (∀ j u, y[j]? = some u → W.cell? ((x.add (i * s)).add j) = some u) ∧ ∃ z, DataW.trod enc Tryd.prog W 0 (fun _ => true) true n0 e y = some z := by
      intro m
      induction m with
      | zero => intro _; exact ⟨[], rfl, by simp⟩
      | succ m ih =>
        intro hm
        obtain ⟨xs, hx, hy⟩ := ih (by omega)
        obtain ⟨cs, hcs⟩ := each m (by omega)
        refine ⟨xs ++ [cs], by simp [hx], fun i y hi => ?_⟩
        rcases Nat.lt_or_ge i m with h | h
        · rw [List.getElem?_append_left (by omega)] at hi; exact hy i y hi
        · rw [List.getElem?_append_right (by omega)] at hi
          have : i = m := by
            rcases Nat.lt_or_ge (i - xs.length) 1 with h | h
            · omega
            · rw [List.getElem?_eq_none (by simpa using h)] at hi; cases hi
          subst this
          rw [hx, Nat.sub_self] at hi
          simp at hi
          subst hi
          exact hcs
    obtain ⟨xs, hx, hy⟩ := build len (Nat.le_refl _)
    have hs : ∀ y ∈ xs, y.length = s := fun y hm => by
      obtain ⟨i, hi⟩ := List.getElem?_of_mem hm
      exact (hy i y hi).1
    refine ⟨some x, len, cap, xs, rfl, hx.symm, hl, hm, ⟨fun _ => rfl, fun q u hq => ?_⟩, fun y hm => ?_⟩
    · obtain ⟨i, j, y, rfl, hj, h1, h2⟩ := flatten_get hs hq
      have := (hy i y h1).2.1 j u h2
      rw [add_add] at this
      exact this
    · obtain ⟨i, hi⟩ := List.getElem?_of_mem hm
      obtain ⟨z, hz⟩ := (hy i y hi).2.2
      exact ⟨(hy i y hi).1, n0, z, hf0, hz⟩
/-- The cells of a slice of texts. -/
theorem open_texts {fuel : Nat} {cs : List Value} {y : DataW H × List MemPlace} (h : DataW.trod enc Tryd.prog W 0 (fun _ => true) true fuel 27 cs = some y) :
    ∃ (a : Option Addr) (n c : Nat) (ks : List (List UInt8)), cs = [.slice a n c] ∧ n = ks.length ∧ n ≤ c ∧ c ≤ maxLen ∧ Row W a (ks.map strV) ∧ ∀ x ∈ ks, x.length ≤ maxLen := by
  obtain ⟨a, n, c, xs, rfl, hn, hnc, hcm, hr, hx⟩ := open_rows_cells (s := 1) Tryd.underlying27 (by kernel_rfl) h
  have hk : ∃ ks : List (List UInt8), ks.length = xs.length ∧ xs.flatten = ks.map strV ∧ ∀ x ∈ ks, x.length ≤ maxLen := by
    clear hr hn
    induction xs with
    | nil => exact ⟨[], rfl, rfl, by simp⟩
    | cons x xs ih =>
      obtain ⟨ks, h1, h2, h3⟩ := ih (fun z hz => hx z (by simp [hz]))
      obtain ⟨_, m, z, _, hz⟩ := hx x (by simp)
      obtain ⟨s, hs, _, hsm⟩ := DataW.trod_string Tryd.underlying9 hz
      subst hs
      refine ⟨s.data.toList :: ks, by simp [h1], ?_, fun q hq => ?_⟩
      · rw [List.flatten_cons, h2, List.map_cons]
        unfold strV
        rw [str_of]; rfl
      · rcases List.mem_cons.1 hq with rfl | h
        · have : s.data.toList.length = s.size := Array.length_toList
          omega
        · exact h3 q h
  obtain ⟨ks, h1, h2, h3⟩ := hk
  exact ⟨a, n, c, ks, rfl, by omega, hnc, hcm, by rw [← h2]; exact hr, h3⟩
theorem cells_one (t : TypeId) (h : Tryd.prog.cellsOf t = 1) (cs : List Value) (i : Nat) : (cs.drop i).take (Tryd.prog.cellsOf t) = (cs.drop i).take 1 := by rw [h]
theorem drop_one {cs : List Value} {i : Nat} {v : Value} (h : (cs.drop i).take 1 = [v]) : cs[i]? = some v := by
  have h1 : ((cs.drop i).take 1)[0]? = some v := by rw [h]; rfl
  rw [List.getElem?_take_of_lt (by decide), List.getElem?_drop] at h1
  simpa using h1
theorem open_value : ∀ (fuel : Nat) {cs : List Value} {y : DataW H × List MemPlace}, DataW.trod enc Tryd.prog W 0 (fun _ => true) true fuel 30 cs = some y → ∃ v, VAt W cs v
  | 0, cs, y, h => by
    have h0 : DataW.trod enc Tryd.prog W 0 (fun _ => true) true 0 30 cs = none := rfl
    rw [h0] at h; cases h
  | fuel + 1, cs, y, h => by
    obtain ⟨xs, n, hf, rfl, hl, hlen, hfl⟩ := DataW.trod_struct Tryd.underlying30 h
    have hn : n = fuel := by omega
    subst hn
    have hc6 : Tryd.prog.cellsOf 30 = 6 := by kernel_rfl
    rw [hc6] at hl
    have x6 : xs.length = 6 := by rw [hlen]; rfl
    match xs, x6 with
    | [y0, y1, y2, y3, y4, y5], _ =>
      have f0 : DataW.trod enc Tryd.prog W 0 (fun _ => true) true n 3 ((cs.drop 0).take (Tryd.prog.cellsOf 3)) = some y0 := hfl 0 _ rfl
      rw [cells_one 3 (by kernel_rfl)] at f0
      have f1 : DataW.trod enc Tryd.prog W 0 (fun _ => true) true n 2 ((cs.drop 1).take (Tryd.prog.cellsOf 2)) = some y1 := hfl 1 _ rfl
      rw [cells_one 2 (by kernel_rfl)] at f1
      have f2 : DataW.trod enc Tryd.prog W 0 (fun _ => true) true n 26 ((cs.drop 2).take (Tryd.prog.cellsOf 26)) = some y2 := hfl 2 _ rfl
      rw [cells_one 26 (by kernel_rfl)] at f2
      have f3 : DataW.trod enc Tryd.prog W 0 (fun _ => true) true n 9 ((cs.drop 3).take (Tryd.prog.cellsOf 9)) = some y3 := hfl 3 _ rfl
      rw [cells_one 9 (by kernel_rfl)] at f3
      have f4 : DataW.trod enc Tryd.prog W 0 (fun _ => true) true n 27 ((cs.drop 4).take (Tryd.prog.cellsOf 27)) = some y4 := hfl 4 _ rfl
      rw [cells_one 27 (by kernel_rfl)] at f4
      have f5 : DataW.trod enc Tryd.prog W 0 (fun _ => true) true n 28 ((cs.drop 5).take (Tryd.prog.cellsOf 28)) = some y5 := hfl 5 _ rfl
      rw [cells_one 28 (by kernel_rfl)] at f5
      obtain ⟨z0, e0, _, w0⟩ := DataW.trod_int Tryd.underlying3 f0
      obtain ⟨z1, e1, _, w1⟩ := DataW.trod_int Tryd.underlying2 f1
      obtain ⟨a2, n2, c2, l2, e2, h21, h22, h23, h24⟩ := open_byt_cells Tryd.underlying26 Tryd.underlying5 (by kernel_rfl) f2
      obtain ⟨s3, e3, _, h3⟩ := DataW.trod_string Tryd.underlying9 f3
      obtain ⟨a4, n4, c4, l4, e4, h41, h42, h43, h44, h45⟩ := open_texts f4
      obtain ⟨a5, n5, c5, css, e5, h51, h52, h53, h54, h55⟩ := open_rows_cells (s := 6) Tryd.underlying28 hc6 f5
      have hvs : ∃ vs : List PV, vs.length = css.length ∧ ∀ (i : Nat) (c : List Value) (v : PV), css[i]? = some c → vs[i]? = some v → VAt W c v := by
        clear h54 h51 e5
        induction css with
        | nil => exact ⟨[], rfl, by simp⟩
        | cons x css ih =>
          obtain ⟨vs, g1, g2⟩ := ih (fun z hz => h55 z (by simp [hz]))
          obtain ⟨_, m, z, hm, hz⟩ := h55 x (by simp)
          have hlt : m < n + 1 := by omega
          obtain ⟨v, hv⟩ := open_value m hz
          refine ⟨v :: vs, by simp [g1], fun i c w hc hw => ?_⟩
          cases i with
          | zero => simp at hc hw; subst hc hw; exact hv
          | succ i => exact g2 i c w (by simpa using hc) (by simpa using hw)
      obtain ⟨vs, hv1, hv2⟩ := hvs
      have hcs : cs = [.int .i64 z0, .int .i64 z1, .slice a2 n2 c2, .string s3, .slice a4 n4 c4, .slice a5 n5 c5] := by
        have k0 := drop_one e0
        have k1 := drop_one e1
        have k2 := drop_one e2
        have k3 := drop_one e3
        have k4 := drop_one e4
        have k5 := drop_one e5
        match cs, hl with
        | [u0, u1, u2, u3, u4, u5], _ => simp at k0 k1 k2 k3 k4 k5; rw [k0, k1, k2, k3, k4, k5]
      have es : strV s3.data.toList = .string s3 := by unfold strV; rw [str_of]
      subst h21 h41
      refine ⟨.mk z0 z1 l2 s3.data.toList l4 vs, ?_⟩
      rw [hcs, ← es]
      have hn5 : n5 = vs.length := by omega
      subst hn5
      exact .mk css (i64_wf w0) (i64_wf w1) h24 ⟨h22, h23⟩ (by have : s3.data.toList.length = s3.size := Array.length_toList; omega) h44 ⟨h42, h43⟩ h45 h54 ⟨h52, h53⟩ hv1.symm (fun c hc => (h55 c hc).1) hv2
  termination_by fuel => fuel
/-- A law's argument. -/
theorem open_arg {base : Nat} {v : Value} {d : DataW H} {p : List MemPlace} (o : Value.okWide Tryd.prog W .any base 30 v) (h : DataW.Trod enc Tryd.prog W 0 (fun _ => true) true 30 v d p) : ∃ cs x, v = .agg (List.toArray cs) ∧ VAt W cs x := by
  obtain ⟨cs, rfl, _⟩ := okWide_struct Tryd.underlying30 o
  obtain ⟨fuel, hf⟩ := h
  obtain ⟨x, hx⟩ := open_value fuel hf
  exact ⟨cs.toList, x, rfl, hx⟩
end
end Go.Proofs.YtpchogicdnfggaaDoor
set_option maxRecDepth 20000
namespace Go.Proofs.YtpchogicdnfggaaDoor
open Go.RowKit Go.Hd Go.ChangeShapes Go.WideShapes Go.ChangeAt
attribute [local go_sem ↓] h_ldV h_stV h_alV
attribute [local go_sem] r_ldV r_stV r_alV

/-- A number, as six cells. -/
def numC (n : Int) : List Value := [.int .i64 3, .int .i64 n, .slice none 0 0, strV [], .slice none 0 0, .slice none 0 0]
theorem of_any (n : Int) (w : World) : Calls Tryd.prog 26 #[.int .i64 n] w fun e w' => e = .returned (.agg (List.toArray (numC n))) ∧ Below w.heap.size w w' := by
  have zs := zV_size
  have hO6 := oneC6
  have B3 : Blk (w.alloc (.cells (List.toArray (numC n)) 30)) w.heap.size 30 (numC n) := Blk.new _ _ _
  have hb : Below w.heap.size w (w.alloc (.cells (List.toArray (numC n)) 30)) := (Below.refl _ _).alloc (Nat.le_refl _) _
  go_enter Tryd.func26, Tryd.ntmps26
  go_wp2
  refine bodyPost_ret (results_cell_row (fn := Tryd.f26) (by rfl) _ _ w.heap.size 30 _ (0, 0) _ (by rfl) B3 Tryd.underlying30 rfl sizeV) rfl ⟨rfl, hb⟩
end Go.Proofs.YtpchogicdnfggaaDoor
set_option maxRecDepth 20000
namespace Go.Proofs.YtpchogicdnfggaaDoor
open Go.RowKit Go.Hd

/-- What a reading tells: something and the rest, or why not. -/
inductive Rs (α : Type) where
  | ok (x : α) (r : List UInt8)
  | no (c : Int)
namespace Rs
def bind {α β : Type} (s : Rs α) (f : α → List UInt8 → Rs β) : Rs β := match s with | ok x r => f x r | no c => no c
@[simp] theorem bind_ok {α β : Type} (x : α) (r : List UInt8) (f : α → List UInt8 → Rs β) : (ok x r).bind f = f x r := rfl
@[simp] theorem bind_no {α β : Type} (c : Int) (f : α → List UInt8 → Rs β) : (no c : Rs α).bind f = no c := rfl
end Rs
def pNum (n : Int) : PV := .mk 3 n [] [] [] []
def pTxt (t : List UInt8) : PV := .mk 5 0 [] t [] []
def pByt (b : List UInt8) : PV := .mk 4 0 b [] [] []
def pKind (k : Int) : PV := .mk k 0 [] [] [] []
def pList (l : List PV) : PV := .mk 6 0 [] [] [] l
end Go.Proofs.YtpchogicdnfggaaDoor
set_option maxRecDepth 20000
namespace Go.Hd
open Go Go.RowKit

/-- More memory, what was there as it was. -/
def Mo (w w' : World) : Prop := Below w.heap.size w w'
theorem Mo.refl (w : World) : Mo w w := Below.refl _ _
theorem Mo.trans {a b c : World} (h : Mo a b) (k : Mo b c) : Mo a c := Gr.trans h k
theorem Mo.size' {a b : World} (h : Mo a b) : a.heap.size ≤ b.heap.size := Below.size h
section
variable {P : Program} {ops : Array Oper} {Q : Exit → Act → World → Prop} {md : Region.Mode} {S : World → Prop}

/-- In state a, in every world that meets S: the operation yields v and leaves the world alone, or it is a call that hands back v and only makes memory. -/
def Tame (P : Program) (ops : Array Oper) (S : World → Prop) (o : Oper) (v : Value) (a : Act) : Prop :=
  (Region.wanted o (yielded ops a.tmps) = true ∧ ∀ w, S w → (execOp a.eval o).run P w = .ok (.value v) w ∨
    ∃ f args, (execOp a.eval o).run P w = .ok (.enter f args) w ∧ Calls P f args w fun e w' => e = .returned v ∧ Mo w w') ∨
  (Region.wanted o (yielded ops a.tmps) = false ∧ v = undef)
theorem Tame.wpOp {i : Nat} {o : Oper} {v : Value} {a : Act} (hi : ops[i]? = some o) (hy : Tame P ops S o v a)
    {K : Act → World → Prop} {w : World} (hS : S w) (h : ∀ w', Mo w w' → K (a.put o.dst v) w') : wpOp P ops Q i K a w := by
  unfold Go.wpOp
  simp only [hi]
  rcases hy with ⟨hw, hv⟩ | ⟨hw, rfl⟩
  · rw [hw, if_pos rfl]
    refine .inl ?_
    unfold Oper.wp
    rcases hv w hS with h1 | ⟨f, args, h1, h2⟩
    · rw [h1]; exact h w (Mo.refl w)
    · rw [h1]
      refine Calls.mono h2 ?_
      rintro e w' ⟨rfl, hm⟩
      exact h w' hm
  · rw [hw, if_neg (by decide)]
    exact h w (Mo.refl w)
theorem Tame.same {o : Oper} {v : Value} {a a' : Act} (hy : Tame P ops S o v a) (he : execOp a'.eval o = execOp a.eval o)
    (hw : Region.wanted o (yielded ops a'.tmps) = Region.wanted o (yielded ops a.tmps)) : Tame P ops S o v a' := by
  unfold Tame at *
  rw [he, hw]; exact hy
/-- What a state is behind an operation: a value was put, perhaps behind a deferred call. -/
def Behind (o : Oper) (a a' : Act) : Prop := ∃ u ds, a' = Act.put { a with defers := ds } o.dst u
theorem wpOp_behind {j : Nat} {o : Oper} (hj : ops[j]? = some o) {K : Act → World → Prop} {a : Act} {w : World} (h : wpOp P ops Q j K a w) : wpOp P ops Q j (fun a' w' => Behind o a a' ∧ K a' w') a w := by
  unfold wpOp at *
  simp only [hj] at *
  split
  · rename_i hw
    simp only [hw, if_true] at h
    rcases h with h | h
    · refine .inl ?_
      unfold Oper.wp at *
      generalize (execOp a.eval o).run P w = r at *
      cases r with
      | ok n w' =>
        cases n <;> simp only [Oper.upon] at h ⊢
        case value u => exact ⟨⟨u, a.defers, rfl⟩, h⟩
        case skip => exact ⟨⟨undef, a.defers, rfl⟩, h⟩
        case defer d => exact ⟨⟨undef, d :: a.defers, rfl⟩, h⟩
        case enter f args =>
          refine Calls.mono h fun e w'' he => ?_
          cases e with
          | returned u => exact ⟨⟨u, a.defers, rfl⟩, he⟩
          | panicked c => exact he
          | outgrown => exact he
        case row row args => exact Rows.mono h fun u w'' he => ⟨⟨u, a.defers, rfl⟩, he⟩
      | halt x w' => cases x <;> simp only [Oper.upon] at h ⊢ <;> exact h
    · exact .inr h
  · rename_i hw
    simp only [hw] at h
    exact ⟨⟨undef, a.defers, rfl⟩, h⟩
/-- Whatever order is picked from here on, with memory made in between; behind each operation S holds, which may look at what has come up. -/
def wpAnyU (P : Program) (md : Region.Mode) (ops : Array Oper) (Q : Exit → Act → World → Prop) (S : Array Bool → World → Prop) : Nat → Array Bool → Act → World → Prop
  | 0, listed, a, w => Region.ready md ops listed = [] ∧ ∀ w', Mo w w' → Q .normal a w'
  | fuel + 1, listed, a, w => ∀ w', Mo w w' →
    (Region.ready md ops listed = [] → Q .normal a w') ∧
    ∀ i ∈ Region.ready md ops listed, wpOp P ops Q i (fun a' w'' => S (listed.setIfInBounds i true) w'' ∧ wpAnyU P md ops Q S fuel (listed.setIfInBounds i true) a' w'') a w'
theorem wpAnyU.up {S : Array Bool → World → Prop} : ∀ {fuel : Nat} {listed : Array Bool} {a : Act} {w w' : World}, wpAnyU P md ops Q S fuel listed a w → Mo w w' → wpAnyU P md ops Q S fuel listed a w'
  | 0, _, _, _, _, h, hm => ⟨h.1, fun w'' h2 => h.2 w'' (hm.trans h2)⟩
  | _ + 1, _, _, _, _, h, hm => fun w'' h2 => h w'' (hm.trans h2)
theorem wpAny_of_up {S : Array Bool → World → Prop} : ∀ (fuel : Nat) (listed : Array Bool) (a : Act) (w : World), wpAnyU P md ops Q S fuel listed a w → wpAny P md ops Q fuel listed a w
  | 0, _, _, w, h => ⟨h.1, h.2 w (Mo.refl w)⟩
  | fuel + 1, _, _, w, h => ⟨(h w (Mo.refl w)).1, fun i hi => wpOp_mono (fun a' w' h' => wpAny_of_up fuel _ a' w' h'.2) ((h w (Mo.refl w)).2 i hi)⟩
theorem wpAnyU_first {S : Array Bool → World → Prop} {A : World → Prop} {I : Array Bool → Prop} {i : Nat} {oi : Oper} {v : Value} (hSm : ∀ L w w', S L w → Mo w w' → S L w') (hSi : ∀ L w, S (L.setIfInBounds i true) w ↔ S L w) (hSA : ∀ L w, S L w → I L → A w)
    (hi : ops[i]? = some oi) (hsel : ∀ (j : Nat) (o : Oper) cs b, ops[j]? = some o → o.op ≠ .select cs b)
    (hI : ∀ L j, I L → i ∈ Region.ready md ops L → j ∈ Region.ready md ops L → j ≠ i → I (L.setIfInBounds j true))
    (hQ : ∀ c a w, Q (.panic c) (a.put oi.dst v) w → Q (.panic c) a w) :
    ∀ (fuel : Nat) (listed : Array Bool) (a : Act) (w : World),
      (∀ j oj, ops[j]? = some oj → j ≠ i → listed.getD j true = false → (∀ e ∈ oj.after, Region.binds md e = true → e.on ≠ i) → oi.apart ops oj = true) →
      i ∈ Region.ready md ops listed → Tame P ops A oi v a → S listed w → I listed →
      wpAnyU P md ops Q S fuel (listed.setIfInBounds i true) (a.put oi.dst v) w → wpAnyU P md ops Q S (fuel + 1) listed a w := by
  intro fuel
  induction fuel with
  | zero =>
    intro listed a w _ hr hy hS hIl H w1 hm
    refine ⟨fun h => (by rw [h] at hr; cases hr), fun j hj => ?_⟩
    by_cases hji : j = i
    · subst hji
      exact hy.wpOp hi (hSA _ _ (hSm _ _ _ hS hm) hIl) (fun w2 h2 => ⟨(hSi _ _).2 (hSm _ _ _ hS (hm.trans h2)), H.up (hm.trans h2)⟩)
    · have := ready_mono hj hji
      rw [H.1] at this
      cases this
  | succ fuel ih =>
    intro listed a w hfree hr hy hS hIl H w1 hm
    refine ⟨fun h => (by rw [h] at hr; cases hr), fun j hj => ?_⟩
    by_cases hji : j = i
    · subst hji
      exact hy.wpOp hi (hSA _ _ (hSm _ _ _ hS hm) hIl) (fun w2 h2 => ⟨(hSi _ _).2 (hSm _ _ _ hS (hm.trans h2)), H.up (hm.trans h2)⟩)
    · have h1 := (H w1 hm).2 j (ready_mono hj hji)
      obtain ⟨hjun, oj, hoj, hall⟩ := mem_ready.1 hj
      have hnot : ∀ e ∈ oj.after, Region.binds md e = true → e.on ≠ i := fun e he hb heq => by
        have h1 := hall e he hb
        have h0 := (mem_ready.1 hr).1
        rw [heq] at h1
        rcases Nat.lt_or_ge i listed.size with h' | h'
        · simp [h'] at h0 h1; rw [h0] at h1; cases h1
        · simp [Array.getElem?_eq_none h'] at h1
      have hap := hfree j oj hoj hji hjun hnot
      obtain ⟨_, _, p3⟩ := Oper.apart_spec hap
      have hyf : YieldsIf P ops (fun _ => False) oi v a := hy.imp (fun ⟨h, _⟩ => ⟨h, fun _ h => h.elim⟩) id
      have h2 := wpOp_behind hoj (wpOp_putIf hoj hap (fun cs b => hsel i oi cs b hi) (fun cs b => hsel j oj cs b hoj) hQ hyf h1)
      have hfree' : ∀ k ok, ops[k]? = some ok → k ≠ i → (listed.setIfInBounds j true).getD k true = false →
          (∀ e ∈ ok.after, Region.binds md e = true → e.on ≠ i) → oi.apart ops ok = true := fun k ok hk hki hun hno => by
        refine hfree k ok hk hki ?_ hno
        by_cases hjk : j = k
        · subst hjk; exact hjun
        · rw [getD_set_ne true hjk] at hun; exact hun
      refine wpOp_mono (fun a' w' h3 => ?_) h2
      obtain ⟨⟨u, ds, rfl⟩, _, h4, h5⟩ := h3
      have hy' : Tame P ops A oi v (Act.put { a with defers := ds } oj.dst u) :=
        (hy.same (a' := { a with defers := ds }) rfl rfl).same (execOp_put oi (fun cs b => hsel i oi cs b hi) _ oj.dst u p3) (wanted_put oi _ oj.dst u p3)
      have h4' : S (listed.setIfInBounds j true) w' := by
        rw [Array.setIfInBounds_comm _ _ (Ne.symm hji)] at h4
        exact (hSi _ _).1 h4
      refine ⟨h4', ih (listed.setIfInBounds j true) _ w' hfree' (ready_mono hr (Ne.symm hji)) hy' h4' (hI _ _ hIl hr hj hji) ?_⟩
      rw [Array.setIfInBounds_comm _ _ hji]
      exact h5
/-- Number i first. -/
theorem wpAnyU_take {S : Array Bool → World → Prop} {A : World → Prop} {i : Nat} {oi : Oper} {v : Value} {fuel : Nat} {listed : Array Bool} {a a' : Act} {w : World} (hSm : ∀ L w w', S L w → Mo w w' → S L w') (hSi : ∀ L w, S (L.setIfInBounds i true) w ↔ S L w) (hSA : ∀ L w, S L w → A w)
    (hi : ops[i]? = some oi) (hs : Region.noSelect ops = true) (hf : Region.free md ops listed i = true) (hr : (Region.ready md ops listed).contains i = true)
    (hQ : ∀ c a w, Q (.panic c) (a.put oi.dst v) w → Q (.panic c) a w) (hS : S listed w) (hy : Tame P ops A oi v a) (ha : a.put oi.dst v = a')
    (h : wpAnyU P md ops Q S fuel (listed.setIfInBounds i true) a' w) : wpAnyU P md ops Q S (fuel + 1) listed a w :=
  wpAnyU_first (I := fun _ => True) hSm hSi (fun L w h _ => hSA L w h) hi (Region.noSelect_spec hs) (fun _ _ _ _ _ _ => trivial) hQ fuel listed a w (Region.free_spec hi hf) (by simpa using hr) hy hS trivial (ha ▸ h)
/-- Number i first: it may look at what stands until number k comes up, which waits for it. -/
theorem wpAnyU_takeK {S : Array Bool → World → Prop} {A : World → Prop} {i : Nat} (k : Nat) {oi ok : Oper} {v : Value} {fuel : Nat} {listed : Array Bool} {a a' : Act} {w : World} (hSm : ∀ L w w', S L w → Mo w w' → S L w') (hSi : ∀ L w, S (L.setIfInBounds i true) w ↔ S L w) (hSA : ∀ L w, S L w → L.getD k false = false → A w)
    (hi : ops[i]? = some oi) (hk : ops[k]? = some ok) (hki : (ok.after.any fun e => Region.binds md e && e.on == i) = true) (hkl : listed.getD k false = false)
    (hs : Region.noSelect ops = true) (hf : Region.free md ops listed i = true) (hr : (Region.ready md ops listed).contains i = true)
    (hQ : ∀ c a w, Q (.panic c) (a.put oi.dst v) w → Q (.panic c) a w) (hS : S listed w) (hy : Tame P ops A oi v a) (ha : a.put oi.dst v = a')
    (h : wpAnyU P md ops Q S fuel (listed.setIfInBounds i true) a' w) : wpAnyU P md ops Q S (fuel + 1) listed a w := by
  subst ha
  refine wpAnyU_first (I := fun L => L.getD k false = false) hSm hSi hSA hi (Region.noSelect_spec hs) (fun L j hL hiL hjL hji => ?_) hQ fuel listed a w (Region.free_spec hi hf) (by simpa using hr) hy hS hkl h
  by_cases hjk : j = k
  · exfalso
    subst hjk
    obtain ⟨_, oj, hoj, hall⟩ := mem_ready.1 hjL
    rw [hk] at hoj
    obtain rfl := Option.some.inj hoj
    obtain ⟨e, he, hb⟩ := Array.any_eq_true'.1 hki
    simp only [Bool.and_eq_true, beq_iff_eq] at hb
    have h1 := hall e he hb.1
    rw [hb.2] at h1
    have h0 := (mem_ready.1 hiL).1
    rcases Nat.lt_or_ge i L.size with h' | h'
    · simp [h'] at h0 h1; rw [h0] at h1; cases h1
    · simp [Array.getElem?_eq_none h'] at h1
  · rw [getD_set_ne false hjk]; exact hL
theorem wpAnyU_all {S : Array Bool → World → Prop} {rs : List Nat} {fuel : Nat} {listed : Array Bool} {a : Act} {w : World} (hr : Region.ready md ops listed = rs) (hne : rs ≠ [])
    (h : ∀ w', Mo w w' → ∀ i ∈ rs, wpOp P ops Q i (fun a' w'' => S (listed.setIfInBounds i true) w'' ∧ wpAnyU P md ops Q S fuel (listed.setIfInBounds i true) a' w'') a w') : wpAnyU P md ops Q S (fuel + 1) listed a w :=
  fun w' hm => ⟨fun h0 => absurd (hr ▸ h0) hne, hr ▸ h w' hm⟩
theorem wpAnyU_done {S : Array Bool → World → Prop} {listed : Array Bool} {a : Act} {w : World} (hr : Region.ready md ops listed = []) (h : ∀ w', Mo w w' → Q .normal a w') :
    ∀ fuel, wpAnyU P md ops Q S fuel listed a w
  | 0 => ⟨hr, h⟩
  | _ + 1 => fun w' hm => ⟨fun _ => h w' hm, by rw [hr]; simp⟩
theorem wp_region_up {S : Array Bool → World → Prop} {id : Nat} {a : Act} {w : World} (hm : P.follows .mixedOrders = true)
    (h : wpAnyU P .any ops Q S ops.size (Array.replicate ops.size false) a { w with drawn := w.drawn + 1 }) : (Code.region id ops true).wp P Q a w :=
  wp_region_any hm (wpAny_of_up _ _ _ _ h)
theorem wp_region_upN {S : Array Bool → World → Prop} {id : Nat} {a : Act} {w : World} (N : Nat) (hN : ops.size = N) (hm : P.follows .mixedOrders = true)
    (h : wpAnyU P .any ops Q S N (Array.replicate N false) a (w.drewN 1)) : (Code.region id ops true).wp P Q a w := by
  subst hN
  exact wp_region_up hm h
theorem run_ldOp {ρ : Operand → Value} {dst : Option Tmp} {ty : TypeId} {pos : String} {after : Array Edge} {guard : Option (Nat × Bool)} {t : TypeId} {x : Operand} {v : Value} {w : World} (h : (ldOp t (ρ x)).run P w = .ok v w) :
    (execOp ρ { dst, op := .load t x, type := ty, pos, after, guard }).run P w = .ok (.value v) w := by
  rw [ex_ld, Sem.run_bind, h]; rfl
theorem run_stoOp {ρ : Operand → Value} {dst : Option Tmp} {ty : TypeId} {pos : String} {after : Array Edge} {guard : Option (Nat × Bool)} {t : TypeId} {x y : Operand} {w w' : World} (h : (stoOp t (ρ x) (ρ y)).run P w = .ok () w') :
    (execOp ρ { dst, op := .store t x y, type := ty, pos, after, guard }).run P w = .ok .skip w' := by
  rw [ex_st, Sem.run_bind, h]; rfl
theorem run_bsOp {ρ : Operand → Value} {dst : Option Tmp} {ty : TypeId} {pos : String} {after : Array Edge} {guard : Option (Nat × Bool)} {t : TypeId} {n : Nat} {parts : Array (Nat × Operand)} {vals : Array (Nat × Value)} {v : Value} {w w' : World} (hp : (parts.map fun (i, x) => (i, ρ x)) = vals) (h : (bsOp t n vals).run P w = .ok v w') :
    (execOp ρ { dst, op := .buildSlice t n parts, type := ty, pos, after, guard }).run P w = .ok (.value v) w' := by
  rw [ex_bs, hp, Sem.run_bind, h]; rfl
theorem run_append {o : Oper} {a : Act} {w w' : World} {t tx : TypeId} {v1 v2 v' : Value} {s x : Operand}
    (hrun : (Builtin.append_ #[t, tx] o.type #[v1, v2]).run P w = .ok v' w') (ho : o.op = .call { callee := .builtin .append, args := #[s, x], argTypes := #[t, tx] }) (hs : a.eval s = v1) (hx : a.eval x = v2) :
    (execOp a.eval o).run P w = .ok (.value v') w' := by
  unfold execOp
  simp only [ho, resolve, invoke, builtin, Sem.run_bind, Sem.run_pure, Result.andThen_ok, List.map_toArray, List.map_cons, List.map_nil, hs, hx, hrun]
/-- A slice of rows. -/
theorem bsOp_rows {t e : TypeId} {z : Value} {s : Nat} {vs : List (List Value)} {n : Nat} {parts : Array (Nat × Value)} {w : World} (hu : P.underlying t = some (.slice e)) (hz : (P.info? e).map (fun i => (i.zero, i.size)) = some (some z, s)) (hs : 0 < s) (hn : n = vs.length) (hs2 : n * s ≤ 10000) (h0 : 0 < n)
    (_hzs : z.cells.size = s) (hc : ∀ v ∈ vs, v.length = s) (hp : parts.toList = ((vs.map fun v => Value.agg v.toArray).zipIdx 0).map fun x => (x.2, x.1)) :
    (bsOp t n parts).run P w = .ok (.slice (some ⟨w.heap.size, 0, none⟩) n n) (w.alloc (.cells vs.flatten.toArray e)) := by
  obtain ⟨i, hi, hzz⟩ := Option.map_eq_some_iff.1 hz
  simp only [Prod.mk.injEq] at hzz
  obtain ⟨hz1, hz2⟩ := hzz
  refine run_buildSlice w t e n _ _ i z hu hi hz1 (by rw [hz2]; omega) (by rw [hz2]; exact Nat.ne_of_gt (Nat.mul_pos h0 hs)) ?_
  rw [hz2, hp]
  have := Great.fill_whole hs (vs.map fun v => Value.agg v.toArray) ((Array.range (n * s)).map (z.cells[· % z.cells.size]!)) (fun v hv => by
    obtain ⟨y, hy, rfl⟩ := List.mem_map.1 hv
    simp [Value.cells, hc y hy]) (by simp [hn])
  rw [this]
  congr 2
  rw [List.flatMap_map]
  simp [Value.cells, List.flatMap]
/-! One operation that comes up. -/
theorem wpOp_val {i : Nat} {o : Oper} {v : Value} {a a' : Act} {K : Act → World → Prop} {w w' : World} (hi : ops[i]? = some o) (hw : o.guard = none) (hr : (execOp a.eval o).run P w = .ok (.value v) w') (ha : a.put o.dst v = a') (h : K a' w') : wpOp P ops Q i K a w := by
  subst ha
  unfold Go.wpOp
  simp only [hi]
  have : Region.wanted o (yielded ops a.tmps) = true := by unfold Region.wanted; rw [hw]
  rw [this, if_pos rfl]
  refine .inl ?_
  unfold Oper.wp
  rw [hr]; exact h
theorem wpOp_skip {i : Nat} {o : Oper} {a a' : Act} {K : Act → World → Prop} {w w' : World} (hi : ops[i]? = some o) (hw : o.guard = none) (hr : (execOp a.eval o).run P w = .ok .skip w') (ha : a.put o.dst undef = a') (h : K a' w') : wpOp P ops Q i K a w := by
  subst ha
  unfold Go.wpOp
  simp only [hi]
  have : Region.wanted o (yielded ops a.tmps) = true := by unfold Region.wanted; rw [hw]
  rw [this, if_pos rfl]
  refine .inl ?_
  unfold Oper.wp
  rw [hr]; exact h
theorem wpOp_enter {i : Nat} {o : Oper} {f : FuncId} {args : Array Value} {a : Act} {K : Act → World → Prop} {w : World} (hi : ops[i]? = some o) (hw : o.guard = none) (hr : (execOp a.eval o).run P w = .ok (.enter f args) w)
    (h : Calls P f args w fun e w' => ∃ u, e = .returned u ∧ K (a.put o.dst u) w') : wpOp P ops Q i K a w := by
  unfold Go.wpOp
  simp only [hi]
  have : Region.wanted o (yielded ops a.tmps) = true := by unfold Region.wanted; rw [hw]
  rw [this, if_pos rfl]
  refine .inl ?_
  unfold Oper.wp
  rw [hr]
  refine Calls.mono h ?_
  rintro e w' ⟨u, rfl, hk⟩
  exact hk
theorem Tame.val {o : Oper} {v : Value} {a : Act} (hw : o.guard = none) (h : ∀ w, S w → (execOp a.eval o).run P w = .ok (.value v) w) : Tame P ops S o v a :=
  .inl ⟨by unfold Region.wanted; rw [hw], fun w hS => .inl (h w hS)⟩
theorem Tame.enter {o : Oper} {v : Value} {a : Act} {f : FuncId} {args : Array Value} (hw : o.guard = none) (hr : ∀ w, (execOp a.eval o).run P w = .ok (.enter f args) w) (h : ∀ w, S w → Calls P f args w fun e w' => e = .returned v ∧ Mo w w') : Tame P ops S o v a :=
  .inl ⟨by unfold Region.wanted; rw [hw], fun w hS => .inr ⟨f, args, hr w, h w hS⟩⟩
end
end Go.Hd
set_option maxRecDepth 20000
namespace Go.Proofs.YtpchogicdnfggaaDoor
open Go.RowKit Go.Hd
attribute [local go_sem ↓] h_ldV h_stV h_alV h_ldID h_stID h_alID
attribute [local go_sem] r_ldV r_stV r_alV r_ldID r_stID r_alID

/-- A text, a list, an id as six cells. -/
def txtS (t : List UInt8) : List Value := [.int .i64 5, .int .i64 0, .slice none 0 0, strV t, .slice none 0 0, .slice none 0 0]
def lstC (v : Value) : List Value := [.int .i64 6, .int .i64 0, .slice none 0 0, strV [], .slice none 0 0, v]
def bytC (v : Value) : List Value := [.int .i64 4, .int .i64 0, v, strV [], .slice none 0 0, .slice none 0 0]
theorem VAtP.txtS {ok : Nat → Prop} (w : World) {t : List UInt8} (h : t.length ≤ maxLen) : VAtP ok w (txtS t) (pTxt t) :=
  .mk (b := []) (t := t) (ks := []) (l := []) [] (by unfold in64; omega) (by unfold in64; omega) (Row.nil _ _) ⟨Nat.le_refl _, Nat.zero_le _⟩ h (Row.nil _ _) ⟨Nat.le_refl _, Nat.zero_le _⟩ (by simp) (Row.nil _ _) ⟨Nat.le_refl _, Nat.zero_le _⟩ rfl (by simp) (by simp) (by simp) (by simp) (by simp)
theorem VAtP.numb {ok : Nat → Prop} (w : World) {n : Int} (h : in64 n) : VAtP ok w (numC n) (pNum n) :=
  .mk (b := []) (t := []) (ks := []) (l := []) [] (by unfold in64; omega) h (Row.nil _ _) ⟨Nat.le_refl _, Nat.zero_le _⟩ (Nat.zero_le _) (Row.nil _ _) ⟨Nat.le_refl _, Nat.zero_le _⟩ (by simp) (Row.nil _ _) ⟨Nat.le_refl _, Nat.zero_le _⟩ rfl (by simp) (by simp) (by simp) (by simp) (by simp)
theorem VAtP.bytS {ok : Nat → Prop} {w : World} {a : Option Addr} {c : Nat} {l : List UInt8} (hr : Row w a (l.map b8)) (hl : l.length ≤ c) (hc : c ≤ maxLen) (ho : 0 < l.length → ok (hd a).block) : VAtP ok w (bytC (.slice a l.length c)) (pByt l) :=
  .mk (b := l) (t := []) (ks := []) (l := []) [] (by unfold in64; omega) (by unfold in64; omega) hr ⟨hl, hc⟩ (Nat.zero_le _) (Row.nil _ _) ⟨Nat.le_refl _, Nat.zero_le _⟩ (by simp) (Row.nil _ _) ⟨Nat.le_refl _, Nat.zero_le _⟩ rfl (by simp) ho (by simp) (by simp) (by simp)
/-- A list out of a row of values. -/
theorem VAtP.lst {ok : Nat → Prop} {w : World} {a : Option Addr} {c : Nat} {css : List (List Value)} {l : List PV} (hr : Row w a css.flatten) (hl : l.length ≤ c) (hc : c ≤ maxLen) (hcs : css.length = l.length) (h6 : ∀ c ∈ css, c.length = 6)
    (ho : 0 < l.length → ok (hd a).block) (sub : ∀ (i : Nat) (c : List Value) (v : PV), css[i]? = some c → l[i]? = some v → VAtP ok w c v) : VAtP ok w (lstC (.slice a l.length c)) (pList l) :=
  .mk (b := []) (t := []) (ks := []) (l := l) css (by unfold in64; omega) (by unfold in64; omega) (Row.nil _ _) ⟨Nat.le_refl _, Nat.zero_le _⟩ (Nat.zero_le _) (Row.nil _ _) ⟨Nat.le_refl _, Nat.zero_le _⟩ (by simp) hr ⟨hl, hc⟩ hcs h6 (by simp) (by simp) ho sub
/-- A map out of a row of keys and a row of values. -/
theorem VAtP.map {ok : Nat → Prop} {w : World} {ak a : Option Addr} {ck c : Nat} {ks : List (List UInt8)} {css : List (List Value)} {l : List PV} (hk : Row w ak (ks.map strV)) (hkl : ks.length ≤ ck) (hkc : ck ≤ maxLen) (hkt : ∀ x ∈ ks, x.length ≤ maxLen) (oks : 0 < ks.length → ok (hd ak).block)
    (hr : Row w a css.flatten) (hl : l.length ≤ c) (hc : c ≤ maxLen) (hcs : css.length = l.length) (h6 : ∀ c ∈ css, c.length = 6)
    (ho : 0 < l.length → ok (hd a).block) (sub : ∀ (i : Nat) (c : List Value) (v : PV), css[i]? = some c → l[i]? = some v → VAtP ok w c v) :
    VAtP ok w [.int .i64 7, .int .i64 0, .slice none 0 0, strV [], .slice ak ks.length ck, .slice a l.length c] (.mk 7 0 [] [] ks l) :=
  .mk (b := []) (t := []) (ks := ks) (l := l) css (by unfold in64; omega) (by unfold in64; omega) (Row.nil _ _) ⟨Nat.le_refl _, Nat.zero_le _⟩ (Nat.zero_le _) hk ⟨hkl, hkc⟩ hkt hr ⟨hl, hc⟩ hcs h6 (by simp) oks ho sub
/-- A value more, out of a row of memory. -/
theorem VsAt.appR {ok ok' : Nat → Prop} {base : Nat} {w : World} {u : Value} {vs : List PV} {c : List Value} {x : PV} {ty : TypeId} {a2 : Option Addr} {c2 : Nat} (h : VsAt ok base w u vs) (hok : ∀ b, ok b → u.ownBlock ≠ some b) (hx : VAtP ok w c x) (hok' : ∀ b, ok b → b < w.heap.size → ok' b)
    (hn : vs.length ≤ 1000000000) (hb : base ≤ w.heap.size) (hrow : Row w a2 c) :
    ∃ a' c' w', (Builtin.append_ #[28, 28] ty #[u, .slice a2 1 c2]).run Tryd.prog w = .ok (.slice a' (vs.length + 1) c') w' ∧ VsAt ok' base w' (.slice a' (vs.length + 1) c') (vs ++ [x]) ∧ Gro w w' u (.slice a' (vs.length + 1) c') := by
  obtain ⟨css, hc1, hc2, hown, hel⟩ := h
  have hl6 := hx.len
  have hsrc : Src Tryd.prog 6 28 (.slice a2 1 c2) 1 c w := Src.ofRow eV.ht _ 1 c2 c (by decide) (by rw [hl6]) hrow hx.one
  obtain ⟨v', w', h1, h2, h3, h4⟩ := append_srcK (ty := ty) eV hown hsrc (by unfold maxLen; omega) (by omega) hb
  obtain ⟨a', c', rfl, _⟩ := owns_rowN h2 (by decide)
  have hG : Gro w w' u (.slice a' (vs.length + 1) c') := ⟨h3, h4⟩
  have keep : ∀ {d : List Value} {y : PV}, VAtP ok w d y → VAtP ok' w' d y := fun hd =>
    (hd.mono (ok' := fun b => ok b ∧ b < w.heap.size) (fun b h1 h2 => ⟨h1, h2⟩)).same (w' := w') (fun b h1 h2 => hG.gr.block b h2 (fun e => hok b h1.1 e.symm)) |>.mono (fun b h1 _ => hok' b h1.1 h1.2)
  refine ⟨a', c', w', h1, ⟨css ++ [c], by simp [hc1], ?_, ?_, ?_⟩, hG⟩
  · intro d hd
    rcases List.mem_append.1 hd with h | h
    · exact hc2 d h
    · simp at h; subst h; exact hl6
  · rw [flat_snoc]; simpa using h2
  · intro i d y hd hy
    rcases Nat.lt_or_ge i css.length with h | h
    · rw [List.getElem?_append_left h] at hd
      rw [List.getElem?_append_left (by omega)] at hy
      exact keep (hel i d y hd hy)
    · rw [List.getElem?_append_right h] at hd
      rw [List.getElem?_append_right (by omega)] at hy
      have hi : i - css.length = 0 := by
        rcases Nat.eq_zero_or_pos (i - css.length) with h0 | h0
        · exact h0
        · rw [List.getElem?_eq_none (by simp; omega)] at hd; cases hd
      rw [hi] at hd
      rw [← hc1, hi] at hy
      simp at hd hy
      subst hd hy
      exact keep hx
theorem ptext_any (t : List UInt8) (w : World) : Calls Tryd.prog 31 #[.string (str t)] w fun e w' => e = .returned (.agg (List.toArray (txtS t))) ∧ Below w.heap.size w w' := by
  have zs := zV_size
  have hO6 := oneC6
  have B3 : Blk (w.alloc (.cells (List.toArray (txtS t)) 30)) w.heap.size 30 (txtS t) := Blk.new _ _ _
  have hb : Below w.heap.size w (w.alloc (.cells (List.toArray (txtS t)) 30)) := (Below.refl _ _).alloc (Nat.le_refl _) _
  go_enter Tryd.func31, Tryd.ntmps31
  go_wp2
  refine bodyPost_ret (results_cell_row (fn := Tryd.f31) (by rfl) _ _ w.heap.size 30 _ (0, 0) _ (by rfl) B3 Tryd.underlying30 rfl sizeV) rfl ⟨rfl, hb⟩
end Go.Proofs.YtpchogicdnfggaaDoor
set_option maxRecDepth 20000
namespace Go.Proofs.YtpchogicdnfggaaDoor
open Go.RowKit Go.Hd
variable {B : Nat}

/-- The reader in block g has l left, and the error e. -/
def RdAt (B : Nat) (w : World) (g : Nat) (l : List UInt8) (e : Int) : Prop :=
  ∃ a c, Blk w g 115 [.slice a l.length c, .int .i64 e, .bool true] ∧ Row w a (l.map b8) ∧ l.length ≤ c ∧ c ≤ maxLen ∧ (0 < l.length → (hd a).block < B)

end Go.Proofs.YtpchogicdnfggaaDoor
set_option maxRecDepth 20000
namespace Go.Proofs.YtpchogicdnfggaaDoor
open Go.RowKit Go.Hd

/-- A state as the document has it, and the reader's own: bytes left, error, bad. -/
def PRst {α : Type} (s : Rs α) (l : List UInt8) (e : Int) (bad : Bool) : Prop := match s with
  | .ok _ r => l = r ∧ e = 0 ∧ bad = false
  | .no c => (bad = true ∧ c = 4) ∨ (bad = false ∧ e = c ∧ c ≠ 0)
def PRs {α : Type} (B : Nat) (w : World) (gr g : Nat) (s : Rs α) : Prop := ∃ l e bad, Blk w gr 139 [.pointer (some ⟨g, 0, none⟩), .bool bad] ∧ RdAt B w g l e ∧ PRst s l e bad ∧ l.length ≤ 65536 ∧ gr ≠ g
/-- What reading may change: the reader's two blocks. -/
structure Dk (gr g : Nat) (w w' : World) : Prop where
  os : w'.os = w.os
  tape : w'.tape = w.tape
  output : w'.output = w.output
  size : w.heap.size ≤ w'.heap.size
  block : ∀ k, k < w.heap.size → k ≠ gr → k ≠ g → w'.heap[k]? = w.heap[k]?
end Go.Proofs.YtpchogicdnfggaaDoor
set_option maxRecDepth 20000
namespace Go.Proofs.YtpchogicdnfggaaDoor
open Go.RowKit Go.Hd
attribute [local go_sem ↓] h_ldV h_stV h_alV h_bsV
attribute [local go_sem] r_ldV r_stV r_alV r_bsV

/-- The state of list's loop. -/
structure ListI (B gr g : Nat) (w wr : World) (u : Value) (vs : List PV) (T : Rs (List PV)) : Prop where
  row : VsAt (fun b => w.heap.size ≤ b ∧ u.ownBlock ≠ some b) w.heap.size wr u vs
  got : ∀ v0 r, T = .ok v0 r → vs = v0
  st : PRs B wr gr g T
  dk : Dk gr g w wr
end Go.Proofs.YtpchogicdnfggaaDoor
set_option maxRecDepth 20000
namespace Go.Proofs.YtpchogicdnfggaaDoor
open Go.RowKit Go.Hd
attribute [local go_sem ↓] h_ldV h_stV h_alV h_bsV
attribute [local go_sem] r_ldV r_stV r_alV r_bsV

/-- The state of dict's loop. -/
structure DictJ {α : Type} (B gr g : Nat) (w wr : World) (uK uL : Value) (ks : List (List UInt8)) (vs : List PV) (S : Rs α) : Prop where
  res : Blk wr w.heap.size 30 zV.toList
  vb : VB (w.heap.size + 1) (w.heap.size + 1) wr (.mk 7 0 [] [] ks vs) (.slice none 0 0) uK uL
  st : PRs B wr gr g S
  dk : Dk gr g w wr
end Go.Proofs.YtpchogicdnfggaaDoor
set_option maxRecDepth 20000
namespace Go.Proofs.YtpchogicdnfggaaDoor
open Go.RowKit Go.Hd
attribute [local go_sem ↓] h_ldV h_stV h_alV
attribute [local go_sem] r_ldV r_stV r_alV

theorem VAtP.plain {ok : Nat → Prop} (w : World) {k n : Int} {t : List UInt8} (hk : in64 k) (h : in64 n) (ht : t.length ≤ maxLen) : VAtP ok w [.int .i64 k, .int .i64 n, .slice none 0 0, .string (str t), .slice none 0 0, .slice none 0 0] (.mk k n [] t [] []) :=
  .mk (b := []) (t := t) (ks := []) (l := []) [] hk h (Row.nil _ _) ⟨Nat.le_refl _, Nat.zero_le _⟩ ht (Row.nil _ _) ⟨Nat.le_refl _, Nat.zero_le _⟩ (by simp) (Row.nil _ _) ⟨Nat.le_refl _, Nat.zero_le _⟩ rfl (by simp) (by simp) (by simp) (by simp) (by simp)
end Go.Proofs.YtpchogicdnfggaaDoor
set_option maxRecDepth 20000
namespace Go.Proofs.YtpchogicdnfggaaDoor
open Go.RowKit Go.Hd

mutual
/-- A value without what plays no part. -/
def normV : PV → PV
  | .mk k n b t ks l => if k = 3 then pNum n else if k = 4 then pByt b else if k = 5 then pTxt t else if k = 6 then pList (normL l) else if k = 7 then .mk 7 0 [] [] ks (normL l) else pKind k
def normL : List PV → List PV
  | [] => []
  | x :: l => normV x :: normL l
end
theorem normL_len : ∀ l : List PV, (normL l).length = l.length
  | [] => by unfold normL; rfl
  | x :: l => by unfold normL; rw [List.length_cons, List.length_cons, normL_len l]
theorem normV_mk (k n : Int) (b t : List UInt8) (ks : List (List UInt8)) (l : List PV) : normV (.mk k n b t ks l) = if k = 3 then pNum n else if k = 4 then pByt b else if k = 5 then pTxt t else if k = 6 then pList (normL l) else if k = 7 then .mk 7 0 [] [] ks (normL l) else pKind k := by
  rw [normV]
mutual
theorem sameV_norm : ∀ v w : PV, sameV v w = true ↔ normV v = normV w
  | .mk k n b t ks l, .mk k' n' b' t' ks' l' => by
    have hl := sameL_norm l l'
    rw [normV_mk, normV_mk]
    unfold sameV
    simp only [Bool.and_eq_true, Bool.or_eq_true, beq_iff_eq, bne_iff_ne, hl]
    unfold pNum pByt pTxt pList pKind
    constructor
    · rintro ⟨⟨⟨⟨⟨rfl, h3⟩, h4⟩, h5⟩, h7⟩, h6⟩
      by_cases k3 : k = 3
      · rw [if_pos k3, if_pos k3]; rcases h3 with h | h; exact absurd k3 h; rw [h]
      by_cases k4 : k = 4
      · rw [if_neg k3, if_neg k3, if_pos k4, if_pos k4]; rcases h4 with h | h; exact absurd k4 h; rw [h]
      by_cases k5 : k = 5
      · rw [if_neg k3, if_neg k3, if_neg k4, if_neg k4, if_pos k5, if_pos k5]; rcases h5 with h | h; exact absurd k5 h; rw [h]
      by_cases k6 : k = 6
      · rw [if_neg k3, if_neg k3, if_neg k4, if_neg k4, if_neg k5, if_neg k5, if_pos k6, if_pos k6]
        rcases h6 with h | h
        · exact absurd k6 h.1
        · rw [h]
      by_cases k7 : k = 7
      · rw [if_neg k3, if_neg k3, if_neg k4, if_neg k4, if_neg k5, if_neg k5, if_neg k6, if_neg k6, if_pos k7, if_pos k7]
        rcases h6 with h | h
        · exact absurd k7 h.2
        · rcases h7 with g | g
          · exact absurd k7 g
          · rw [h, g]
      rw [if_neg k3, if_neg k3, if_neg k4, if_neg k4, if_neg k5, if_neg k5, if_neg k6, if_neg k6, if_neg k7, if_neg k7]
    · intro h
      have hk : k = k' := by
        have e1 : ∀ (k n : Int) (b t : List UInt8) (ks : List (List UInt8)) (l : List PV), PV.kind (if k = 3 then PV.mk 3 n [] [] [] [] else if k = 4 then PV.mk 4 0 b [] [] [] else if k = 5 then PV.mk 5 0 [] t [] [] else if k = 6 then PV.mk 6 0 [] [] [] (normL l) else if k = 7 then PV.mk 7 0 [] [] ks (normL l) else PV.mk k 0 [] [] [] []) = k := by
          intro k n b t ks l
          repeat' split
          all_goals (first | (rename_i h; exact h.symm) | rfl | (simp only [PV.kind]; omega))
        have := congrArg PV.kind h
        rw [e1, e1] at this
        exact this
      subst hk
      refine ⟨⟨⟨⟨⟨rfl, ?_⟩, ?_⟩, ?_⟩, ?_⟩, ?_⟩
      · by_cases k3 : k = 3
        · rw [if_pos k3, if_pos k3] at h; cases h; exact .inr rfl
        · exact .inl k3
      · by_cases k4 : k = 4
        · have k3 : ¬ k = 3 := by omega
          rw [if_neg k3, if_neg k3, if_pos k4, if_pos k4] at h; cases h; exact .inr rfl
        · exact .inl k4
      · by_cases k5 : k = 5
        · have k3 : ¬ k = 3 := by omega
          have k4 : ¬ k = 4 := by omega
          rw [if_neg k3, if_neg k3, if_neg k4, if_neg k4, if_pos k5, if_pos k5] at h; cases h; exact .inr rfl
        · exact .inl k5
      · by_cases k7 : k = 7
        · have k3 : ¬ k = 3 := by omega
          have k4 : ¬ k = 4 := by omega
          have k5 : ¬ k = 5 := by omega
          have k6 : ¬ k = 6 := by omega
          rw [if_neg k3, if_neg k3, if_neg k4, if_neg k4, if_neg k5, if_neg k5, if_neg k6, if_neg k6, if_pos k7, if_pos k7] at h
          simp only [PV.mk.injEq] at h
          exact .inr h.2.2.2.2.1
        · exact .inl k7
      · by_cases k6 : k = 6
        · have k3 : ¬ k = 3 := by omega
          have k4 : ¬ k = 4 := by omega
          have k5 : ¬ k = 5 := by omega
          rw [if_neg k3, if_neg k3, if_neg k4, if_neg k4, if_neg k5, if_neg k5, if_pos k6, if_pos k6] at h
          simp only [PV.mk.injEq] at h
          exact .inr h.2.2.2.2.2
        · by_cases k7 : k = 7
          · have k3 : ¬ k = 3 := by omega
            have k4 : ¬ k = 4 := by omega
            have k5 : ¬ k = 5 := by omega
            rw [if_neg k3, if_neg k3, if_neg k4, if_neg k4, if_neg k5, if_neg k5, if_neg k6, if_neg k6, if_pos k7, if_pos k7] at h
            simp only [PV.mk.injEq] at h
            exact .inr h.2.2.2.2.2
          · exact .inl ⟨k6, k7⟩
theorem sameL_norm : ∀ l m : List PV, sameL l m = true ↔ normL l = normL m
  | [], [] => by simp [sameL, normL]
  | [], y :: m => by simp [sameL, normL]
  | x :: l, [] => by simp [sameL, normL]
  | x :: l, y :: m => by
    have h1 := sameV_norm x y
    have h2 := sameL_norm l m
    simp only [sameL, normL, Bool.and_eq_true, h1, h2, List.cons.injEq]
end
/-! What is read hangs on the bytes that are read; a beginning of them ends too early. -/
/-! What was written is read. -/
inductive OkV : PV → Prop
  | mk {k n : Int} {b t : List UInt8} {ks : List (List UInt8)} {l : List PV} (hn : in64 n) (hl : ∀ x ∈ l, OkV x) : OkV (.mk k n b t ks l)
theorem putO_small {l m x : List UInt8} (h : putO (some l) m = some x) : x.length ≤ 65536 := (putO_len h).2
theorem fold_len {α : Type} {f : Option (List UInt8) → α → Option (List UInt8)} (hn : ∀ a, f none a = none) (hf : ∀ a l x, l.length ≤ 65536 → f (some l) a = some x → x.length ≤ 65536) : ∀ (l : List α) (o : Option (List UInt8)) (x : List UInt8), (∀ y, o = some y → y.length ≤ 65536) → l.foldl f o = some x → x.length ≤ 65536
  | [], o, x, ho, h => ho x h
  | a :: l, o, x, ho, h => by
    rw [List.foldl_cons] at h
    cases o with
    | none => rw [hn, foldl_none f hn] at h; cases h
    | some y => exact fold_len hn hf l _ x (fun z hz => hf a y z (ho y rfl) hz) h
theorem text_small {l m x : List UInt8} (h : textO (some l) m = some x) : x.length ≤ 65536 := by
  unfold textO at h
  repeat' split at h
  all_goals first | exact putO_small h | cases h
theorem many_small {a b : UInt8} {l x : List UInt8} {n : Nat} (h : manyO a b (some l) n = some x) : x.length ≤ 65536 := by
  unfold manyO at h
  repeat' split at h
  all_goals first | exact putO_small h | cases h
theorem enc_len : ∀ (d : Nat) (v : PV) (l0 x : List UInt8), l0.length ≤ 65536 → encO d (some l0) v = some x → x.length ≤ 65536
  | 0, v, l0, x, h0, h => by cases h; exact h0
  | d + 1, .mk k n b t ks l, l0, x, h0, h => by
    unfold encO at h
    repeat' split at h
    · exact putO_small h
    · exact putO_small h
    · exact putO_small h
    · exact putO_small h
    · unfold blobO at h
      repeat' split at h
      all_goals first | exact putO_small h | cases h
    · exact text_small h
    · exact fold_len (encO_none d) (fun a l x hl hh => enc_len d a l x hl hh) l _ x (fun y hy => many_small hy) h
    · refine fold_len (f := fun o x => encO d (textO o x.1) x.2) (fun a => by simp only [textO_none]; exact encO_none d a.2) (fun a l x hl hh => ?_) (ks.zip l) _ x (fun y hy => many_small hy) h
      cases ht : textO (some l) a.1 with
      | none => simp only [ht] at hh; rw [encO_none] at hh; cases hh
      | some y => simp only [ht] at hh; exact enc_len d a.2 y x (text_small ht) hh
end Go.Proofs.YtpchogicdnfggaaDoor
