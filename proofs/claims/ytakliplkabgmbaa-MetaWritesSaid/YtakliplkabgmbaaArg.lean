/- What a law's arguments read, and that a call which writes nothing that was there meets a law's row. -/
import Derived.Test.YtakliplkabgmbaaLib
import Derived.ProofKit
import Derived.OpenShut
import Derived.ChangeOld
set_option maxRecDepth 20000
namespace Go.Hd
open Go Go.RowKit Go.ChangeShapes Go.WideShapes Go.ChangeAt
variable {H : Type} {enc : TypeId × Value → H} {P : Program}

theorem trodAll_below (hl : laidOutB P = true) {W W' : World} (hb : Below W.heap.size W W') : ∀ {ts : List TypeId} {vs : List Value} {ds : List (DataW H)} {ps : List MemPlace},
    (ts.all fun t => P.readableRec t && decide (t < P.types.size)) = true → DataW.TrodAll enc P W 0 (fun _ => true) true ts vs ds ps → (∀ x ∈ ps, x.block < W.heap.size) →
    DataW.TrodAll enc P W' 0 (fun b => decide (b < W.heap.size)) true ts vs ds ps
  | [], vs, ds, ps, _, h, _ => by
    obtain ⟨rfl, rfl, rfl⟩ := trodAll_nil h
    exact trodAll_mk0
  | t :: ts, vs, ds, ps, hr, h, hlt => by
    obtain ⟨v, vs', d, ds', p, q, rfl, rfl, rfl, h1, h2⟩ := trodAll_cons h
    simp only [List.all_cons, Bool.and_eq_true, decide_eq_true_eq] at hr
    exact trodAll_cons_mk (Below.trod hl hr.1.1 hr.1.2 h1 hb (fun x hx => hlt x (List.mem_append_left _ hx)))
      (trodAll_below hl hb (by simpa using hr.2) h2 (fun x hx => hlt x (List.mem_append_right _ hx)))

/-- A law's row: true, and nothing that was there is written. -/
theorem law_post {f : Func} {s : ChangeSpec} {W W' : World} {args : Array Value} {ds gs : List (DataW H)} {before : List MemPlace} {tb : TypeId}
    (hl : laidOutB P = true) (hr : (f.params.toList.all fun t => P.readableRec t && decide (t < P.types.size)) = true) (hres : f.resultTypes = #[tb]) (htb : P.underlying tb = some .bool) (hvars : s.vars = [])
    (hW : DataW.Whole enc P f.params.toList s.vars false W args.toList ds gs before) (hfn : s.fn H (ds ++ gs) = { results := [.lit (.bool true)], args := ds }) (bel : Below W.heap.size W W') :
    s.post enc P f false true false false W args (.bool true) W' := by
  have hW' := hW
  obtain ⟨p, q, hA, hV, rfl, _, _⟩ := hW
  refine ⟨ds, gs, p ++ q, [], p, [], hW', ?_, ?_, ?_, bel.frame _, fun h => by cases h⟩
  · rw [hfn, hres]
    exact trodAll_mk1 (shut_bool htb _)
  · rw [hfn]
    exact trodAll_below hl bel hr hA (fun x hx => hW'.lt x (List.mem_append_left _ hx))
  · rw [hvars, hfn]; rfl

theorem open_byt {t e : TypeId} (ht : P.underlying t = some (.slice e)) (he : P.underlying e = some (.int .u8)) (hc : P.cellsOf e = 1) {W : World} {base : Nat} {v : Value} {d : DataW H} {p : List MemPlace}
    (hval : Value.okWide P W .any base t v) (h : DataW.Trod enc P W 0 (fun _ => true) true t v d p) : ∃ (a : Option Addr) (n c : Nat) (l : List UInt8), v = .slice a n c ∧ n = l.length ∧ n ≤ c ∧ c ≤ maxLen ∧ Row W a (l.map b8) := by
  obtain ⟨a, n, c, rfl⟩ := okWide_slice ht hval
  obtain ⟨fuel, hf⟩ := h
  rcases open_ints ht he hc hf with ⟨hcs, _⟩ | ⟨x, l, c', zs, hcs, _, hl, hm, hz, _, hcell, hwz⟩
  · simp [Value.cells] at hcs
    obtain ⟨rfl, rfl, rfl⟩ := hcs
    exact ⟨none, 0, 0, [], rfl, rfl, Nat.le_refl _, Nat.zero_le _, by simp, by simp⟩
  · simp [Value.cells] at hcs
    obtain ⟨rfl, rfl, rfl⟩ := hcs
    have hzl : zs.length = c := by simpa using hz
    refine ⟨some x, n, c, (zs.take n).map fun z => UInt8.ofNat z.toNat, rfl, by simp; omega, hl, hm, fun _ => rfl, fun i u hu => ?_⟩
    have hi : i < n := by
      rcases Nat.lt_or_ge i n with h | h
      · exact h
      · rw [List.getElem?_eq_none (by simp; omega)] at hu; cases hu
    have hiz : i < zs.length := by omega
    have hcl := hcell i (by omega)
    have hb := hwz (zs[i]) (List.getElem_mem hiz)
    have hbd : 0 ≤ zs[i] ∧ zs[i] ≤ 255 := by
      have h := hb
      simp [Lit.wf, IntKind.min, IntKind.max, IntKind.signed, IntKind.bits] at h
      omega
    rw [List.getElem?_map, List.getElem?_map, List.getElem?_take_of_lt hi, List.getElem?_eq_getElem hiz] at hu
    simp only [Option.map_some, Option.some.injEq] at hu
    subst hu
    rw [hd_some, hcl]
    simp only [List.getD_eq_getElem?_getD, List.getElem?_eq_getElem hiz, Option.getD_some]
    congr 2
    simp
    omega

theorem open_byt_cells {t e : TypeId} (ht : P.underlying t = some (.slice e)) (he : P.underlying e = some (.int .u8)) (hc : P.cellsOf e = 1) {W : World} {fuel : Nat} {cs : List Value} {y : DataW H × List MemPlace}
    (hf : DataW.trod enc P W 0 (fun _ => true) true fuel t cs = some y) : ∃ (a : Option Addr) (n c : Nat) (l : List UInt8), cs = [.slice a n c] ∧ n = l.length ∧ n ≤ c ∧ c ≤ maxLen ∧ Row W a (l.map b8) := by
  rcases open_ints ht he hc hf with ⟨hcs, _⟩ | ⟨x, l, c', zs, hcs, _, hl, hm, hz, _, hcell, hwz⟩
  · exact ⟨none, 0, 0, [], hcs, rfl, Nat.le_refl _, Nat.zero_le _, by simp, by simp⟩
  · have hzl : zs.length = c' := by simpa using hz
    refine ⟨some x, l, c', (zs.take l).map fun z => UInt8.ofNat z.toNat, hcs, by simp; omega, hl, hm, fun _ => rfl, fun i u hu => ?_⟩
    have hi : i < l := by
      rcases Nat.lt_or_ge i l with h | h
      · exact h
      · rw [List.getElem?_eq_none (by simp; omega)] at hu; cases hu
    have hiz : i < zs.length := by omega
    have hcl := hcell i (by omega)
    have hb := hwz (zs[i]) (List.getElem_mem hiz)
    have hbd : 0 ≤ zs[i] ∧ zs[i] ≤ 255 := by
      have h := hb
      simp [Lit.wf, IntKind.min, IntKind.max, IntKind.signed, IntKind.bits] at h
      omega
    rw [List.getElem?_map, List.getElem?_map, List.getElem?_take_of_lt hi, List.getElem?_eq_getElem hiz] at hu
    simp only [Option.map_some, Option.some.injEq] at hu
    subst hu
    rw [hd_some, hcl]
    simp only [List.getD_eq_getElem?_getD, List.getElem?_eq_getElem hiz, Option.getD_some]
    congr 2
    simp
    omega

theorem int_bd {k : IntKind} {n : Int} (h : (Lit.int k n).wf = true) : k.min ≤ n ∧ n ≤ k.max := by
  simpa [Lit.wf] using h
theorem u64_wf {n : Int} (h : (Lit.int .u64 n).wf = true) : 0 ≤ n ∧ n ≤ 18446744073709551615 := by
  have h := int_bd h
  simp [IntKind.min, IntKind.max, IntKind.signed, IntKind.bits] at h
  exact h
theorem i64_wf {n : Int} (h : (Lit.int .i64 n).wf = true) : -9223372036854775808 ≤ n ∧ n ≤ 9223372036854775807 := by
  have h := int_bd h
  simp [IntKind.min, IntKind.max, IntKind.signed, IntKind.bits] at h
  exact h
theorem u8_wf {n : Int} (h : (Lit.int .u8 n).wf = true) : 0 ≤ n ∧ n ≤ 255 := by
  have h := int_bd h
  simp [IntKind.min, IntKind.max, IntKind.signed, IntKind.bits] at h
  exact h

theorem open_nums {t e : TypeId} {k : IntKind} (ht : P.underlying t = some (.slice e)) (he : P.underlying e = some (.int k)) (hc : P.cellsOf e = 1) {W : World} {base : Nat} {v : Value} {d : DataW H} {p : List MemPlace}
    (hval : Value.okWide P W .any base t v) (h : DataW.Trod enc P W 0 (fun _ => true) true t v d p) : ∃ (a : Option Addr) (n c : Nat) (zs : List Int), v = .slice a n c ∧ n = zs.length ∧ n ≤ c ∧ c ≤ maxLen ∧ Row W a (zs.map (Value.int k)) ∧ ∀ z ∈ zs, (Lit.int k z).wf = true := by
  obtain ⟨a, n, c, rfl⟩ := okWide_slice ht hval
  obtain ⟨fuel, hf⟩ := h
  rcases open_ints ht he hc hf with ⟨hcs, _⟩ | ⟨x, l, c', zs, hcs, _, hl, hm, hz, _, hcell, hwz⟩
  · simp [Value.cells] at hcs
    obtain ⟨rfl, rfl, rfl⟩ := hcs
    exact ⟨none, 0, 0, [], rfl, rfl, Nat.le_refl _, Nat.zero_le _, ⟨by simp, by simp⟩, by simp⟩
  · simp [Value.cells] at hcs
    obtain ⟨rfl, rfl, rfl⟩ := hcs
    have hzl : zs.length = c := by simpa using hz
    refine ⟨some x, n, c, zs.take n, rfl, by simp; omega, hl, hm, ⟨fun _ => rfl, fun i u hu => ?_⟩, fun z hz => hwz z (List.mem_of_mem_take hz)⟩
    have hi : i < n := by
      rcases Nat.lt_or_ge i n with h | h
      · exact h
      · rw [List.getElem?_eq_none (by simp; omega)] at hu; cases hu
    have hiz : i < zs.length := by omega
    rw [List.getElem?_map, List.getElem?_take_of_lt hi, List.getElem?_eq_getElem hiz] at hu
    simp only [Option.map_some, Option.some.injEq] at hu
    subst hu
    rw [hd_some, hcell i (by omega)]
    simp only [List.getD_eq_getElem?_getD, List.getElem?_eq_getElem hiz, Option.getD_some]

/-! A slice of anything: its elements' cells, one row. -/
theorem flatten_get {α : Type} {s : Nat} : ∀ {xs : List (List α)}, (∀ x ∈ xs, x.length = s) → ∀ {q : Nat} {u : α}, xs.flatten[q]? = some u → ∃ i j x, q = i * s + j ∧ j < s ∧ xs[i]? = some x ∧ x[j]? = some u
  | [], _, q, u, h => by simp at h
  | x :: xs, hs, q, u, h => by
    have hx := hs x (by simp)
    rw [List.flatten_cons] at h
    by_cases hq : q < s
    · rw [List.getElem?_append_left (by omega)] at h
      exact ⟨0, q, x, by simp, hq, by simp, h⟩
    · rw [List.getElem?_append_right (by omega), hx] at h
      obtain ⟨i, j, y, h1, h2, h3, h4⟩ := flatten_get (fun y hy => hs y (by simp [hy])) h
      exact ⟨i + 1, j, y, by rw [Nat.add_mul]; omega, h2, by simpa using h3, h4⟩

theorem open_rows {t e : TypeId} {s : Nat} (ht : P.underlying t = some (.slice e)) (hc : P.cellsOf e = s) {W : World} {base : Nat} {v : Value} {d : DataW H} {p : List MemPlace}
    (hval : Value.okWide P W .any base t v) (h : DataW.Trod enc P W 0 (fun _ => true) true t v d p) :
    ∃ (a : Option Addr) (n c : Nat) (xs : List (List Value)), v = .slice a n c ∧ n = xs.length ∧ n ≤ c ∧ c ≤ maxLen ∧ Row W a xs.flatten ∧ ∀ x ∈ xs, x.length = s ∧ ∃ fuel y, DataW.trod enc P W 0 (fun _ => true) true fuel e x = some y := by
  obtain ⟨a, n, c, rfl⟩ := okWide_slice ht hval
  obtain ⟨fuel, hf⟩ := h
  rcases DataW.trod_slice ht hf with ⟨hcs, _⟩ | ⟨x, len, cap, elems, rest, n0, _, hcs, _, hb, hl, hm, hlen, hel, _, _⟩
  · simp [Value.cells] at hcs
    obtain ⟨rfl, rfl, rfl⟩ := hcs
    exact ⟨none, 0, 0, [], rfl, rfl, Nat.le_refl _, Nat.zero_le _, ⟨by simp, by simp⟩, by simp⟩
  · simp [Value.cells] at hcs
    obtain ⟨rfl, rfl, rfl⟩ := hcs
    have each : ∀ i, i < n → ∃ cs, cs.length = s ∧ (∀ j u, cs[j]? = some u → W.cell? ((x.add (i * s)).add j) = some u) ∧ ∃ y, DataW.trod enc P W 0 (fun _ => true) true n0 e cs = some y := by
      intro i hi
      have h1 := hel i hi
      rw [List.getElem?_eq_getElem (by omega), Option.bind_eq_some_iff, hc] at h1
      obtain ⟨cs, h2, h3⟩ := h1
      obtain ⟨k1, k2, k3⟩ := World.cells?_some h2
      refine ⟨cs, k2, fun j u hu => ?_, _, h3⟩
      rw [k3 j (by rcases Nat.lt_or_ge j s with h | h; exact h; rw [List.getElem?_eq_none (by omega)] at hu; cases hu)]
      exact hu
    have build : ∀ m, m ≤ n → ∃ xs : List (List Value), xs.length = m ∧ ∀ i y, xs[i]? = some y → y.length = s ∧ (∀ j u, y[j]? = some u → W.cell? ((x.add (i * s)).add j) = some u) ∧ ∃ z, DataW.trod enc P W 0 (fun _ => true) true n0 e y = some z := by
      intro m
      induction m with
      | zero => intro _; exact ⟨[], rfl, by simp⟩
      | succ m ih =>
        intro hm
        obtain ⟨xs, hx, hy⟩ := ih (by omega)
        obtain ⟨cs, hcs⟩ := each m (by omega)
        refine ⟨xs ++ [cs], by simp [hx], fun i y hi => ?_⟩
        rcases Nat.lt_or_ge i m with h | h
        · rw [List.getElem?_append_left (by omega)] at hi; exact hy i y hi
        · rw [List.getElem?_append_right (by omega)] at hi
          have : i = m := by
            rcases Nat.lt_or_ge (i - xs.length) 1 with h | h
            · omega
            · rw [List.getElem?_eq_none (by simpa using h)] at hi; cases hi
          subst this
          rw [hx, Nat.sub_self] at hi
          simp at hi
          subst hi
          exact hcs
    obtain ⟨xs, hx, hy⟩ := build n (Nat.le_refl _)
    have hs : ∀ y ∈ xs, y.length = s := fun y hm => by
      obtain ⟨i, hi⟩ := List.getElem?_of_mem hm
      exact (hy i y hi).1
    refine ⟨some x, n, c, xs, rfl, hx.symm, hl, hm, ⟨fun _ => rfl, fun q u hq => ?_⟩, fun y hm => ?_⟩
    · obtain ⟨i, j, y, rfl, hj, h1, h2⟩ := flatten_get hs hq
      have := (hy i y h1).2.1 j u h2
      rw [add_add] at this
      exact this
    · obtain ⟨i, hi⟩ := List.getElem?_of_mem hm
      exact ⟨(hy i y hi).1, n0, (hy i y hi).2.2⟩
theorem flat1 {α : Type} : ∀ {xs : List (List α)}, (∀ x ∈ xs, x.length = 1) → ∀ k (h : k < xs.length), ∃ v, xs[k] = [v] ∧ xs.flatten[k]? = some v
  | [], _, k, h => by simp at h
  | x :: xs, hs, k, h => by
    have hx := hs x (by simp)
    obtain ⟨v, rfl⟩ := List.length_eq_one_iff.1 hx
    cases k with
    | zero => exact ⟨v, rfl, by simp⟩
    | succ k =>
      obtain ⟨u, h1, h2⟩ := flat1 (xs := xs) (fun y hy => hs y (List.mem_cons_of_mem _ hy)) k (by simpa using h)
      exact ⟨u, by simpa using h1, by simpa using h2⟩
end Go.Hd
