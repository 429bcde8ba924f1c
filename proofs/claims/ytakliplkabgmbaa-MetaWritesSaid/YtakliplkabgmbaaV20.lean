/- Layer 05: a value that came in, opened. -/
import Derived.Test.YtakliplkabgmbaaV17
import Derived.Test.YtakliplkabgmbaaArg
import Derived.Deep.Strs
set_option maxRecDepth 20000
namespace Go.Proofs.Ytakliplkabgmbaa
open Go.RowKit Go.Hd Go.ChangeShapes Go.WideShapes Go.ChangeAt
section
variable {H : Type} {enc : TypeId × Value → H} {W : World}

/-- The cells of a slice of anything. -/
theorem open_rows_cells {t e : TypeId} {s : Nat} (ht : Try.prog.underlying t = some (.slice e)) (hc : Try.prog.cellsOf e = s) {fuel : Nat} {cs : List Value} {y : DataW H × List MemPlace} (h : DataW.trod enc Try.prog W 0 (fun _ => true) true fuel t cs = some y) :
    ∃ (a : Option Addr) (n c : Nat) (xs : List (List Value)), cs = [.slice a n c] ∧ n = xs.length ∧ n ≤ c ∧ c ≤ maxLen ∧ Row W a xs.flatten ∧ ∀ x ∈ xs, x.length = s ∧ ∃ m y, fuel = m + 1 ∧ DataW.trod enc Try.prog W 0 (fun _ => true) true m e x = some y := by
  rcases DataW.trod_slice ht h with ⟨rfl, _⟩ | ⟨x, len, cap, elems, rest, n0, hf0, rfl, _, hb, hl, hm, hlen, hel, _, _⟩
  · exact ⟨none, 0, 0, [], rfl, rfl, Nat.le_refl _, Nat.zero_le _, ⟨by simp, by simp⟩, by simp⟩
  · have each : ∀ i, i < len → ∃ cs, cs.length = s ∧ (∀ j u, cs[j]? = some u → W.cell? ((x.add (i * s)).add j) = some u) ∧ ∃ y, DataW.trod enc Try.prog W 0 (fun _ => true) true n0 e cs = some y := by
      intro i hi
      have h1 := hel i hi
      rw [List.getElem?_eq_getElem (by omega), Option.bind_eq_some_iff, hc] at h1
      obtain ⟨cs, h2, h3⟩ := h1
      obtain ⟨k1, k2, k3⟩ := World.cells?_some h2
      refine ⟨cs, k2, fun j u hu => ?_, _, h3⟩
      rw [k3 j (by rcases Nat.lt_or_ge j s with h | h; exact h; rw [List.getElem?_eq_none (by omega)] at hu; cases hu)]
      exact hu
    have build : ∀ m, m ≤ len → ∃ xs : List (List Value), xs.length = m ∧ ∀ i y, xs[i]? = some y → y.length = s ∧ (∀ j u, y[j]? = some u → W.cell? ((x.add (i * s)).add j) = some u) ∧ ∃ z, DataW.trod enc Try.prog W 0 (fun _ => true) true n0 e y = some z := by
      intro m
      induction m with
      | zero => intro _; exact ⟨[], rfl, by simp⟩
      | succ m ih =>
        intro hm
        obtain ⟨xs, hx, hy⟩ := ih (by omega)
        obtain ⟨cs, hcs⟩ := each m (by omega)
        refine ⟨xs ++ [cs], by simp [hx], fun i y hi => ?_⟩
        rcases Nat.lt_or_ge i m with h | h
        · rw [List.getElem?_append_left (by omega)] at hi; exact hy i y hi
        · rw [List.getElem?_append_right (by omega)] at hi
          have : i = m := by
            rcases Nat.lt_or_ge (i - xs.length) 1 with h | h
            · omega
            · rw [List.getElem?_eq_none (by simpa using h)] at hi; cases hi
          subst this
          rw [hx, Nat.sub_self] at hi
          simp at hi
          subst hi
          exact hcs
    obtain ⟨xs, hx, hy⟩ := build len (Nat.le_refl _)
    have hs : ∀ y ∈ xs, y.length = s := fun y hm => by
      obtain ⟨i, hi⟩ := List.getElem?_of_mem hm
      exact (hy i y hi).1
    refine ⟨some x, len, cap, xs, rfl, hx.symm, hl, hm, ⟨fun _ => rfl, fun q u hq => ?_⟩, fun y hm => ?_⟩
    · obtain ⟨i, j, y, rfl, hj, h1, h2⟩ := flatten_get hs hq
      have := (hy i y h1).2.1 j u h2
      rw [add_add] at this
      exact this
    · obtain ⟨i, hi⟩ := List.getElem?_of_mem hm
      obtain ⟨z, hz⟩ := (hy i y hi).2.2
      exact ⟨(hy i y hi).1, n0, z, hf0, hz⟩
/-- The cells of a slice of texts. -/
theorem open_texts {fuel : Nat} {cs : List Value} {y : DataW H × List MemPlace} (h : DataW.trod enc Try.prog W 0 (fun _ => true) true fuel 60 cs = some y) :
    ∃ (a : Option Addr) (n c : Nat) (ks : List (List UInt8)), cs = [.slice a n c] ∧ n = ks.length ∧ n ≤ c ∧ c ≤ maxLen ∧ Row W a (ks.map strV) ∧ ∀ x ∈ ks, x.length ≤ maxLen := by
  obtain ⟨a, n, c, xs, rfl, hn, hnc, hcm, hr, hx⟩ := open_rows_cells (s := 1) Try.underlying60 (by kernel_rfl) h
  have hk : ∃ ks : List (List UInt8), ks.length = xs.length ∧ xs.flatten = ks.map strV ∧ ∀ x ∈ ks, x.length ≤ maxLen := by
    clear hr hn
    induction xs with
    | nil => exact ⟨[], rfl, rfl, by simp⟩
    | cons x xs ih =>
      obtain ⟨ks, h1, h2, h3⟩ := ih (fun z hz => hx z (by simp [hz]))
      obtain ⟨_, m, z, _, hz⟩ := hx x (by simp)
      obtain ⟨s, hs, _, hsm⟩ := DataW.trod_string Try.underlying9 hz
      subst hs
      refine ⟨s.data.toList :: ks, by simp [h1], ?_, fun q hq => ?_⟩
      · rw [List.flatten_cons, h2, List.map_cons]
        unfold strV
        rw [str_of]; rfl
      · rcases List.mem_cons.1 hq with rfl | h
        · have : s.data.toList.length = s.size := Array.length_toList
          omega
        · exact h3 q h
  obtain ⟨ks, h1, h2, h3⟩ := hk
  exact ⟨a, n, c, ks, rfl, by omega, hnc, hcm, by rw [← h2]; exact hr, h3⟩
theorem cells_one (t : TypeId) (h : Try.prog.cellsOf t = 1) (cs : List Value) (i : Nat) : (cs.drop i).take (Try.prog.cellsOf t) = (cs.drop i).take 1 := by rw [h]
theorem drop_one {cs : List Value} {i : Nat} {v : Value} (h : (cs.drop i).take 1 = [v]) : cs[i]? = some v := by
  have h1 : ((cs.drop i).take 1)[0]? = some v := by rw [h]; rfl
  rw [List.getElem?_take_of_lt (by decide), List.getElem?_drop] at h1
  simpa using h1
theorem open_value : ∀ (fuel : Nat) {cs : List Value} {y : DataW H × List MemPlace}, DataW.trod enc Try.prog W 0 (fun _ => true) true fuel 63 cs = some y → ∃ v, VAt W cs v
  | 0, cs, y, h => by
    have h0 : DataW.trod enc Try.prog W 0 (fun _ => true) true 0 63 cs = none := rfl
    rw [h0] at h; cases h
  | fuel + 1, cs, y, h => by
    obtain ⟨xs, n, hf, rfl, hl, hlen, hfl⟩ := DataW.trod_struct Try.underlying63 h
    have hn : n = fuel := by omega
    subst hn
    have hc6 : Try.prog.cellsOf 63 = 6 := by kernel_rfl
    rw [hc6] at hl
    have x6 : xs.length = 6 := by rw [hlen]; rfl
    match xs, x6 with
    | [y0, y1, y2, y3, y4, y5], _ =>
      have f0 : DataW.trod enc Try.prog W 0 (fun _ => true) true n 3 ((cs.drop 0).take (Try.prog.cellsOf 3)) = some y0 := hfl 0 _ rfl
      rw [cells_one 3 (by kernel_rfl)] at f0
      have f1 : DataW.trod enc Try.prog W 0 (fun _ => true) true n 2 ((cs.drop 1).take (Try.prog.cellsOf 2)) = some y1 := hfl 1 _ rfl
      rw [cells_one 2 (by kernel_rfl)] at f1
      have f2 : DataW.trod enc Try.prog W 0 (fun _ => true) true n 35 ((cs.drop 2).take (Try.prog.cellsOf 35)) = some y2 := hfl 2 _ rfl
      rw [cells_one 35 (by kernel_rfl)] at f2
      have f3 : DataW.trod enc Try.prog W 0 (fun _ => true) true n 9 ((cs.drop 3).take (Try.prog.cellsOf 9)) = some y3 := hfl 3 _ rfl
      rw [cells_one 9 (by kernel_rfl)] at f3
      have f4 : DataW.trod enc Try.prog W 0 (fun _ => true) true n 60 ((cs.drop 4).take (Try.prog.cellsOf 60)) = some y4 := hfl 4 _ rfl
      rw [cells_one 60 (by kernel_rfl)] at f4
      have f5 : DataW.trod enc Try.prog W 0 (fun _ => true) true n 61 ((cs.drop 5).take (Try.prog.cellsOf 61)) = some y5 := hfl 5 _ rfl
      rw [cells_one 61 (by kernel_rfl)] at f5
      obtain ⟨z0, e0, _, w0⟩ := DataW.trod_int Try.underlying3 f0
      obtain ⟨z1, e1, _, w1⟩ := DataW.trod_int Try.underlying2 f1
      obtain ⟨a2, n2, c2, l2, e2, h21, h22, h23, h24⟩ := open_byt_cells Try.underlying35 Try.underlying5 (by kernel_rfl) f2
      obtain ⟨s3, e3, _, h3⟩ := DataW.trod_string Try.underlying9 f3
      obtain ⟨a4, n4, c4, l4, e4, h41, h42, h43, h44, h45⟩ := open_texts f4
      obtain ⟨a5, n5, c5, css, e5, h51, h52, h53, h54, h55⟩ := open_rows_cells (s := 6) Try.underlying61 hc6 f5
      have hvs : ∃ vs : List PV, vs.length = css.length ∧ ∀ (i : Nat) (c : List Value) (v : PV), css[i]? = some c → vs[i]? = some v → VAt W c v := by
        clear h54 h51 e5
        induction css with
        | nil => exact ⟨[], rfl, by simp⟩
        | cons x css ih =>
          obtain ⟨vs, g1, g2⟩ := ih (fun z hz => h55 z (by simp [hz]))
          obtain ⟨_, m, z, hm, hz⟩ := h55 x (by simp)
          have hlt : m < n + 1 := by omega
          obtain ⟨v, hv⟩ := open_value m hz
          refine ⟨v :: vs, by simp [g1], fun i c w hc hw => ?_⟩
          cases i with
          | zero => simp at hc hw; subst hc hw; exact hv
          | succ i => exact g2 i c w (by simpa using hc) (by simpa using hw)
      obtain ⟨vs, hv1, hv2⟩ := hvs
      have hcs : cs = [.int .i64 z0, .int .i64 z1, .slice a2 n2 c2, .string s3, .slice a4 n4 c4, .slice a5 n5 c5] := by
        have k0 := drop_one e0
        have k1 := drop_one e1
        have k2 := drop_one e2
        have k3 := drop_one e3
        have k4 := drop_one e4
        have k5 := drop_one e5
        match cs, hl with
        | [u0, u1, u2, u3, u4, u5], _ => simp at k0 k1 k2 k3 k4 k5; rw [k0, k1, k2, k3, k4, k5]
      have es : strV s3.data.toList = .string s3 := by unfold strV; rw [str_of]
      subst h21 h41
      refine ⟨.mk z0 z1 l2 s3.data.toList l4 vs, ?_⟩
      rw [hcs, ← es]
      have hn5 : n5 = vs.length := by omega
      subst hn5
      exact .mk css (i64_wf w0) (i64_wf w1) h24 ⟨h22, h23⟩ (by have : s3.data.toList.length = s3.size := Array.length_toList; omega) h44 ⟨h42, h43⟩ h45 h54 ⟨h52, h53⟩ hv1.symm (fun c hc => (h55 c hc).1) hv2
  termination_by fuel => fuel
/-- A law's argument. -/
theorem open_arg {base : Nat} {v : Value} {d : DataW H} {p : List MemPlace} (o : Value.okWide Try.prog W .any base 63 v) (h : DataW.Trod enc Try.prog W 0 (fun _ => true) true 63 v d p) : ∃ cs x, v = .agg (List.toArray cs) ∧ VAt W cs x := by
  obtain ⟨cs, rfl, _⟩ := okWide_struct Try.underlying63 o
  obtain ⟨fuel, hf⟩ := h
  obtain ⟨x, hx⟩ := open_value fuel hf
  exact ⟨cs.toList, x, rfl, hx⟩
end
end Go.Proofs.Ytakliplkabgmbaa
