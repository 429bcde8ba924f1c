/- Layer 23: abouts and parts that came in, opened. -/
import Derived.Test.YtakliplkabgmbaaM12
import Derived.Test.YtakliplkabgmbaaArg
import Derived.Test.YtakliplkabgmbaaV20
import Derived.Deep.Strs
set_option maxRecDepth 20000
namespace Go.Proofs.Ytakliplkabgmbaa
open Go.ChangeShapes Go.WideShapes Go.ChangeAt Go.RowKit Go.Hd
section
variable {H : Type} {enc : TypeId × Value → H} {W : World}
/-- The cells of an array of bytes. -/
theorem bytes_of_id {cs : List Value} {fuel : Nat} {y : DataW H × List MemPlace} (hl : cs.length = 32) (h : DataW.trod enc Try.prog W 0 (fun _ => true) true fuel 29 cs = some y) : ∃ key : List UInt8, key.length = 32 ∧ cs = key.map b8 := by
  obtain ⟨xs, m, _, _, _, hxl, hx⟩ := DataW.trod_array Try.underlying29 h
  rw [show Try.prog.cellsOf 5 = 1 by kernel_rfl] at hx
  have each : ∀ i, i < 32 → ∃ c : UInt8, cs[i]? = some (b8 c) := by
    intro i hi
    have h1 := hx i hi
    rw [Nat.mul_one, List.getElem?_eq_getElem (by omega)] at h1
    obtain ⟨z, hz, _, hw⟩ := DataW.trod_int Try.underlying5 h1
    have hb := u8_wf hw
    have h2 : cs[i]? = some (.int .u8 z) := by
      have h3 : (cs.drop i).take 1 = [cs[i]'(by omega)] := by rw [List.drop_eq_getElem_cons (by omega)]; rfl
      rw [h3] at hz
      rw [List.getElem?_eq_getElem (by omega)]
      simpa using hz
    exact ⟨UInt8.ofNat z.toNat, by rw [h2]; congr 2; simp; omega⟩
  have build : ∀ m, m ≤ 32 → ∃ key : List UInt8, key.length = m ∧ cs.take m = key.map b8 := by
    intro m
    induction m with
    | zero => intro _; exact ⟨[], rfl, by simp⟩
    | succ m ih =>
      intro hm
      obtain ⟨key, h1, h2⟩ := ih (by omega)
      obtain ⟨c, hc⟩ := each m (by omega)
      refine ⟨key ++ [c], by simp [h1], ?_⟩
      rw [List.take_add_one, h2, hc]
      simp
  obtain ⟨key, h1, h2⟩ := build 32 (by omega)
  rw [List.take_of_length_le (by omega)] at h2
  exact ⟨key, h1, h2⟩
theorem int_of {t : TypeId} (ht : Try.prog.underlying t = some (.int .i64)) {cs : List Value} {fuel : Nat} {y : DataW H × List MemPlace} (h : DataW.trod enc Try.prog W 0 (fun _ => true) true fuel t cs = some y) : ∃ z : Int, cs = [.int .i64 z] ∧ in64 z := by
  obtain ⟨z, hz, _, hw⟩ := DataW.trod_int ht h
  exact ⟨z, hz, i64_wf hw⟩
theorem str_of_cells {cs : List Value} {fuel : Nat} {y : DataW H × List MemPlace} (h : DataW.trod enc Try.prog W 0 (fun _ => true) true fuel 9 cs = some y) : ∃ l : List UInt8, cs = [strV l] ∧ l.length ≤ maxLen := by
  obtain ⟨s, e, _, hs⟩ := DataW.trod_string Try.underlying9 h
  exact ⟨s.data.toList, by unfold strV; rw [str_of]; exact e, by have : s.data.toList.length = s.size := Array.length_toList; omega⟩
theorem abt_of {cs : List Value} {fuel : Nat} {y : DataW H × List MemPlace} (hl : cs.length = 37) (h : DataW.trod enc Try.prog W 0 (fun _ => true) true fuel 31 cs = some y) : ∃ x : Abt, cs = abtC x ∧ AbtOk x := by
  obtain ⟨xs, n, _, _, _, hlen, hfl⟩ := DataW.trod_struct Try.underlying31 h
  have x6 : xs.length = 6 := by rw [hlen]; rfl
  match xs, x6 with
  | [y0, y1, y2, y3, y4, y5], _ =>
    have f0 : DataW.trod enc Try.prog W 0 (fun _ => true) true n 9 ((cs.drop 0).take (Try.prog.cellsOf 9)) = some y0 := hfl 0 _ rfl
    have f1 : DataW.trod enc Try.prog W 0 (fun _ => true) true n 29 ((cs.drop 1).take (Try.prog.cellsOf 29)) = some y1 := hfl 1 _ rfl
    have f2 : DataW.trod enc Try.prog W 0 (fun _ => true) true n 2 ((cs.drop 33).take (Try.prog.cellsOf 2)) = some y2 := hfl 2 _ rfl
    have f3 : DataW.trod enc Try.prog W 0 (fun _ => true) true n 9 ((cs.drop 34).take (Try.prog.cellsOf 9)) = some y3 := hfl 3 _ rfl
    have f4 : DataW.trod enc Try.prog W 0 (fun _ => true) true n 3 ((cs.drop 35).take (Try.prog.cellsOf 3)) = some y4 := hfl 4 _ rfl
    have f5 : DataW.trod enc Try.prog W 0 (fun _ => true) true n 3 ((cs.drop 36).take (Try.prog.cellsOf 3)) = some y5 := hfl 5 _ rfl
    have s1 : Try.prog.cellsOf 29 = 32 := by kernel_rfl
    rw [cells_one 9 (by kernel_rfl)] at f0 f3
    rw [s1] at f1
    rw [cells_one 2 (by kernel_rfl)] at f2
    rw [cells_one 3 (by kernel_rfl)] at f4 f5
    obtain ⟨nm, e0, h0⟩ := str_of_cells f0
    obtain ⟨id, hi, e1⟩ := bytes_of_id (by simp; omega) f1
    obtain ⟨tm, e2, h2⟩ := int_of Try.underlying2 f2
    obtain ⟨cm, e3, h3⟩ := str_of_cells f3
    obtain ⟨it, e4, h4⟩ := int_of Try.underlying3 f4
    obtain ⟨by_, e5, h5⟩ := int_of Try.underlying3 f5
    refine ⟨⟨nm, id, tm, cm, it, by_⟩, ?_, ⟨hi, h2, h4, h5, h0, h3⟩⟩
    have k : cs = (cs.drop 0).take 1 ++ ((cs.drop 1).take 32 ++ ((cs.drop 33).take 1 ++ ((cs.drop 34).take 1 ++ ((cs.drop 35).take 1 ++ (cs.drop 36).take 1)))) := by
      apply List.ext_getElem?
      intro i
      simp only [List.getElem?_append, List.length_take, List.length_drop, hl, List.getElem?_take, List.getElem?_drop]
      by_cases a0 : i < 1
      · simp [a0]
      by_cases a1 : i < 33
      · simp [a0, show i - 1 < 32 by omega, show 1 + (i - 1) = i by omega]
      by_cases a2 : i < 34
      · obtain rfl : i = 33 := by omega
        simp
      by_cases a3 : i < 35
      · obtain rfl : i = 34 := by omega
        simp
      by_cases a4 : i < 36
      · obtain rfl : i = 35 := by omega
        simp
      by_cases a5 : i < 37
      · obtain rfl : i = 36 := by omega
        simp
      · rw [List.getElem?_eq_none (by omega)]
        simp [a0, show ¬ i - 1 < 32 by omega, show ¬ i - 1 - 32 < 1 by omega, show ¬ i - 1 - 32 - 1 < 1 by omega, show ¬ i - 1 - 32 - 1 - 1 < 1 by omega, show ¬ i - 1 - 32 - 1 - 1 - 1 < 1 by omega]
    rw [k, e0, e1, e2, e3, e4, e5]
    rfl
theorem prt_of {cs : List Value} {fuel : Nat} {y : DataW H × List MemPlace} (hl : cs.length = 33) (h : DataW.trod enc Try.prog W 0 (fun _ => true) true fuel 83 cs = some y) : ∃ x : Prt, cs = prtC x ∧ PrtOk x := by
  obtain ⟨xs, n, _, _, _, hlen, hfl⟩ := DataW.trod_struct Try.underlying83 h
  have x6 : xs.length = 2 := by rw [hlen]; rfl
  match xs, x6 with
  | [y0, y1], _ =>
    have f0 : DataW.trod enc Try.prog W 0 (fun _ => true) true n 29 ((cs.drop 0).take (Try.prog.cellsOf 29)) = some y0 := hfl 0 _ rfl
    have f1 : DataW.trod enc Try.prog W 0 (fun _ => true) true n 3 ((cs.drop 32).take (Try.prog.cellsOf 3)) = some y1 := hfl 1 _ rfl
    have s1 : Try.prog.cellsOf 29 = 32 := by kernel_rfl
    rw [s1] at f0
    rw [cells_one 3 (by kernel_rfl)] at f1
    obtain ⟨id, hi, e0⟩ := bytes_of_id (by simp; omega) f0
    obtain ⟨sz, e1, h1⟩ := int_of Try.underlying3 f1
    refine ⟨⟨id, sz⟩, ?_, ⟨hi, h1⟩⟩
    have k : cs = (cs.drop 0).take 32 ++ (cs.drop 32).take 1 := by
      rw [List.drop_zero, List.take_of_length_le (l := cs.drop 32) (by simp; omega), List.take_append_drop]
    rw [k, e0, e1]
    rfl
theorem all_of {X : Type} {C : X → List Value} {K : X → Prop} {s : Nat} {t : TypeId} (hk : ∀ {x : List Value} {fuel : Nat} {y : DataW H × List MemPlace}, x.length = s → DataW.trod enc Try.prog W 0 (fun _ => true) true fuel t x = some y → ∃ r : X, x = C r ∧ K r)
    {xs : List (List Value)} (h : ∀ x ∈ xs, x.length = s ∧ ∃ fuel y, DataW.trod enc Try.prog W 0 (fun _ => true) true fuel t x = some y) :
    ∃ l : List X, l.length = xs.length ∧ xs = l.map C ∧ ∀ r ∈ l, K r := by
  induction xs with
  | nil => exact ⟨[], rfl, rfl, by simp⟩
  | cons x xs ih =>
    obtain ⟨l, h1, h2, h3⟩ := ih (fun y hy => h y (by simp [hy]))
    obtain ⟨hx, fuel, y, hy⟩ := h x (by simp)
    obtain ⟨r, e1, e2⟩ := hk hx hy
    exact ⟨r :: l, by simp [h1], by rw [e1, h2]; rfl, fun q hq => (List.mem_cons.1 hq).elim (fun h => h ▸ e2) (h3 q)⟩
theorem open_all {X : Type} {C : X → List Value} {K : X → Prop} {s : Nat} {base : Nat} {tl t : TypeId} (ht : Try.prog.underlying tl = some (.slice t)) (hc : Try.prog.cellsOf t = s) (hk : ∀ {x : List Value} {fuel : Nat} {y : DataW H × List MemPlace}, x.length = s → DataW.trod enc Try.prog W 0 (fun _ => true) true fuel t x = some y → ∃ r : X, x = C r ∧ K r)
    {v : Value} {d : DataW H} {p : List MemPlace} (o : Value.okWide Try.prog W .any base tl v) (h : DataW.Trod enc Try.prog W 0 (fun _ => true) true tl v d p) :
    ∃ (a : Option Addr) (n c : Nat) (l : List X), v = .slice a n c ∧ n = l.length ∧ n ≤ c ∧ c ≤ maxLen ∧ Row W a (l.map C).flatten ∧ ∀ r ∈ l, K r := by
  obtain ⟨a, n, c, xs, rfl, hn, hnc, hcm, hr, hx⟩ := open_rows ht hc o h
  obtain ⟨l, h1, h2, h3⟩ := all_of hk hx
  exact ⟨a, n, c, l, rfl, by omega, hnc, hcm, by rw [← h2]; exact hr, h3⟩
theorem open_abt {base : Nat} {v : Value} {d : DataW H} {p : List MemPlace} (o : Value.okWide Try.prog W .any base 31 v) (h : DataW.Trod enc Try.prog W 0 (fun _ => true) true 31 v d p) : ∃ x : Abt, v = .agg (List.toArray (abtC x)) ∧ AbtOk x := by
  obtain ⟨cs, rfl, _⟩ := okWide_struct Try.underlying31 o
  obtain ⟨fuel, hf⟩ := h
  have hl : cs.toList.length = 37 := by
    obtain ⟨xs, n, _, _, hl, _, _⟩ := DataW.trod_struct Try.underlying31 hf
    rw [show Try.prog.cellsOf 31 = 37 by kernel_rfl] at hl
    exact hl
  obtain ⟨x, hx, hk⟩ := abt_of hl hf
  exact ⟨x, by rw [← hx], hk⟩
end
end Go.Proofs.Ytakliplkabgmbaa
