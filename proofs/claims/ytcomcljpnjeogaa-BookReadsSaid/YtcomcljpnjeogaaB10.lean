/- The walk of BookWrites; what its arguments read. -/
import Derived.Test.YtcomcljpnjeogaaB9
import Derived.Test.YtcomcljpnjeogaaArg
import Derived.Deep.Strs
set_option maxRecDepth 20000
namespace Go.Proofs.Ytcomcljpnjeogaa
open Go.ChangeShapes Go.WideShapes Go.ChangeAt Go.RowKit Go.Hd

section
variable {H : Type} {enc : TypeId × Value → H} {W : World}
theorem cellsb : Try.prog.cellsOf 5 = 1 := by kernel_rfl
theorem cellsint : Try.prog.cellsOf 3 = 1 := by kernel_rfl
/-- The cells of an array of bytes. -/
theorem bytes_of_id {cs : List Value} {fuel : Nat} {y : DataW H × List MemPlace} (hl : cs.length = 32) (h : DataW.trod enc Try.prog W 0 (fun _ => true) true fuel 67 cs = some y) : ∃ key : List UInt8, key.length = 32 ∧ cs = key.map b8 := by
  obtain ⟨xs, m, _, _, _, hxl, hx⟩ := DataW.trod_array Try.underlying67 h
  rw [cellsb] at hx
  have each : ∀ i, i < 32 → ∃ c : UInt8, cs[i]? = some (b8 c) := by
    intro i hi
    have h1 := hx i hi
    rw [Nat.mul_one, List.getElem?_eq_getElem (by omega)] at h1
    obtain ⟨z, hz, _, hw⟩ := DataW.trod_int Try.underlying5 h1
    have hb := u8_wf hw
    have h2 : cs[i]? = some (.int .u8 z) := by
      have h3 : (cs.drop i).take 1 = [cs[i]'(by omega)] := by rw [List.drop_eq_getElem_cons (by omega)]; rfl
      rw [h3] at hz
      rw [List.getElem?_eq_getElem (by omega)]
      simpa using hz
    exact ⟨UInt8.ofNat z.toNat, by rw [h2]; congr 2; simp; omega⟩
  have build : ∀ m, m ≤ 32 → ∃ key : List UInt8, key.length = m ∧ cs.take m = key.map b8 := by
    intro m
    induction m with
    | zero => intro _; exact ⟨[], rfl, by simp⟩
    | succ m ih =>
      intro hm
      obtain ⟨key, h1, h2⟩ := ih (by omega)
      obtain ⟨c, hc⟩ := each m (by omega)
      refine ⟨key ++ [c], by simp [h1], ?_⟩
      rw [List.take_add_one, h2, hc]
      simp
  obtain ⟨key, h1, h2⟩ := build 32 (by omega)
  rw [List.take_of_length_le (by omega)] at h2
  exact ⟨key, h1, h2⟩
theorem int_of {cs : List Value} {fuel : Nat} {y : DataW H × List MemPlace} (h : DataW.trod enc Try.prog W 0 (fun _ => true) true fuel 3 cs = some y) : ∃ z : Int, cs = [.int .i64 z] ∧ i64Ok z := by
  obtain ⟨z, hz, _, hw⟩ := DataW.trod_int Try.underlying3 h
  exact ⟨z, hz, i64_wf hw⟩
theorem ent_KD {x : List Value} {fuel : Nat} {y : DataW H × List MemPlace} (hl : x.length = 35) (h : DataW.trod enc Try.prog W 0 (fun _ => true) true fuel 71 x = some y) : ∃ r : BRow, x = entL r ∧ fitR kI r ∧ okI r := by
  obtain ⟨y0, y1, n, _, _, k1, k2⟩ := trod_struct2 Try.underlying71 h
  have s1 : Try.prog.cellsOf 67 = 32 := by kernel_rfl
  have s2 : Try.prog.cellsOf 69 = 3 := by kernel_rfl
  simp only [s1, s2, List.drop_zero] at k1 k2
  obtain ⟨key, hk, e1⟩ := bytes_of_id (by simp; omega) k1
  obtain ⟨z0, z1, z2, n2, _, _, m0, m1, m2⟩ := Deep.trod_struct3 Try.underlying69 k2
  simp only [cellsint] at m0 m1 m2
  obtain ⟨a0, q0, w0⟩ := int_of m0
  obtain ⟨a1, q1, w1⟩ := int_of m1
  obtain ⟨a2, q2, w2⟩ := int_of m2
  refine ⟨(key, [a0, a1, a2]), ?_, ⟨hk, rfl⟩, ?_⟩
  · have h3 : x.drop 32 = [.int .i64 a0, .int .i64 a1, .int .i64 a2] := by
      have hl3 : (x.drop 32).length = 3 := by simp; omega
      match hx : x.drop 32, hl3 with
      | [u, v, w], _ => rw [hx] at q0 q1 q2; simp at q0 q1 q2; rw [q0, q1, q2]
    have := List.take_append_drop 32 x
    rw [e1, h3] at this
    exact this.symm
  · intro n hn
    simp at hn
    rcases hn with rfl | rfl | rfl
    · exact w0
    · exact w1
    · exact w2
theorem ent_CD {x : List Value} {fuel : Nat} {y : DataW H × List MemPlace} (hl : x.length = 34) (h : DataW.trod enc Try.prog W 0 (fun _ => true) true fuel 80 x = some y) : ∃ r : BRow, x = entL r ∧ fitR kC r ∧ okI r := by
  obtain ⟨y0, y1, n, _, _, k1, k2⟩ := trod_struct2 Try.underlying80 h
  have s1 : Try.prog.cellsOf 67 = 32 := by kernel_rfl
  have s2 : Try.prog.cellsOf 78 = 2 := by kernel_rfl
  simp only [s1, s2, List.drop_zero] at k1 k2
  obtain ⟨key, hk, e1⟩ := bytes_of_id (by simp; omega) k1
  obtain ⟨z0, z1, n2, _, _, m0, m1⟩ := trod_struct2 Try.underlying78 k2
  simp only [cellsint] at m0 m1
  obtain ⟨a0, q0, w0⟩ := int_of m0
  obtain ⟨a1, q1, w1⟩ := int_of m1
  refine ⟨(key, [a0, a1]), ?_, ⟨hk, rfl⟩, ?_⟩
  · have h3 : x.drop 32 = [.int .i64 a0, .int .i64 a1] := by
      have hl3 : (x.drop 32).length = 2 := by simp; omega
      match hx : x.drop 32, hl3 with
      | [u, v], _ => rw [hx] at q0 q1; simp at q0 q1; rw [q0, q1]
    have := List.take_append_drop 32 x
    rw [e1, h3] at this
    exact this.symm
  · intro n hn
    simp at hn
    rcases hn with rfl | rfl
    · exact w0
    · exact w1
theorem ent_US {x : List Value} {fuel : Nat} {y : DataW H × List MemPlace} (hl : x.length = 3) (h : DataW.trod enc Try.prog W 0 (fun _ => true) true fuel 84 x = some y) : ∃ r : BRow, x = entL r ∧ fitR kU r ∧ okI r := by
  obtain ⟨z0, z1, z2, n2, _, _, m0, m1, m2⟩ := Deep.trod_struct3 Try.underlying84 h
  simp only [cellsint] at m0 m1 m2
  obtain ⟨a0, q0, w0⟩ := int_of m0
  obtain ⟨a1, q1, w1⟩ := int_of m1
  obtain ⟨a2, q2, w2⟩ := int_of m2
  refine ⟨([], [a0, a1, a2]), ?_, ⟨rfl, rfl⟩, ?_⟩
  · match x, hl with
    | [u, v, w], _ => simp at q0 q1 q2; simp [entL, q0, q1, q2]
  · intro n hn
    simp at hn
    rcases hn with rfl | rfl | rfl
    · exact w0
    · exact w1
    · exact w2
theorem ents_of {k : BKind} {s : Nat} {t : TypeId} (hk : ∀ {x : List Value} {fuel : Nat} {y : DataW H × List MemPlace}, x.length = s → DataW.trod enc Try.prog W 0 (fun _ => true) true fuel t x = some y → ∃ r : BRow, x = entL r ∧ fitR k r ∧ okI r)
    {xs : List (List Value)} (h : ∀ x ∈ xs, x.length = s ∧ ∃ fuel y, DataW.trod enc Try.prog W 0 (fun _ => true) true fuel t x = some y) :
    ∃ l : List BRow, l.length = xs.length ∧ xs = l.map entL ∧ (∀ r ∈ l, fitR k r) ∧ ∀ r ∈ l, okI r := by
  induction xs with
  | nil => exact ⟨[], rfl, rfl, by simp, by simp⟩
  | cons x xs ih =>
    obtain ⟨l, h1, h2, h3, h4⟩ := ih (fun y hy => h y (by simp [hy]))
    obtain ⟨hx, fuel, y, hy⟩ := h x (by simp)
    obtain ⟨r, e1, e2, e3⟩ := hk hx hy
    exact ⟨r :: l, by simp [h1], by rw [e1, h2]; rfl, fun q hq => (List.mem_cons.1 hq).elim (fun h => h ▸ e2) (h3 q), fun q hq => (List.mem_cons.1 hq).elim (fun h => h ▸ e3) (h4 q)⟩
/-- A list of entries that came in. -/
theorem open_ents {k : BKind} {s : Nat} {base : Nat} {tl t : TypeId} (ht : Try.prog.underlying tl = some (.slice t)) (hc : Try.prog.cellsOf t = s) (hk : ∀ {x : List Value} {fuel : Nat} {y : DataW H × List MemPlace}, x.length = s → DataW.trod enc Try.prog W 0 (fun _ => true) true fuel t x = some y → ∃ r : BRow, x = entL r ∧ fitR k r ∧ okI r)
    {v : Value} {d : DataW H} {p : List MemPlace} (o : Value.okWide Try.prog W .any base tl v) (h : DataW.Trod enc Try.prog W 0 (fun _ => true) true tl v d p) :
    ∃ (a : Option Addr) (n c : Nat) (l : List BRow), v = .slice a n c ∧ n = l.length ∧ n ≤ c ∧ EntRd s W a l ∧ (∀ r ∈ l, fitR k r) ∧ ∀ r ∈ l, okI r := by
  obtain ⟨a, n, c, xs, rfl, hn, hnc, _, hr, hx⟩ := open_rows ht hc o h
  obtain ⟨l, h1, h2, h3, h4⟩ := ents_of hk hx
  refine ⟨a, n, c, l, rfl, by omega, hnc, ⟨by rw [← h2]; exact hr, fun r hr => (hx (entL r) (by rw [h2]; exact List.mem_map_of_mem hr)).1⟩, h3, h4⟩
end

theorem flat_take {α : Type} {s : Nat} : ∀ {xs : List (List α)} (n : Nat), (∀ x ∈ xs, x.length = s) → (xs.take n).flatten = xs.flatten.take (n * s)
  | [], n, _ => by simp
  | x :: xs, 0, _ => by simp
  | x :: xs, n + 1, hs => by
    rw [List.take_succ_cons, List.flatten_cons, List.flatten_cons, flat_take n (fun y hy => hs y (by simp [hy])), Nat.add_mul, Nat.one_mul, Nat.add_comm (n * s) s, ← hs x (by simp), List.take_length_add_append]
theorem few_cut {T t : TypeId} {s : Nat} (ht : Try.prog.underlying T = some (.slice t)) (hs : (Try.prog.info? t).map (·.size) = some s) {w : World} {a : Option Addr} {c : Nat} {l : List BRow} (hc : l.length ≤ c) (h : EntRd s w a l) :
    ∃ a' c', (30 < l.length → ∀ w', (Instr.slice T (.slice a l.length c) none (some (.int .i64 30)) none).run Try.prog w' = .ok (.slice a' 30 c') w') ∧ (¬ 30 < l.length → a' = a ∧ c' = c) ∧ EntRd s w a' (l.take 30) ∧ min l.length 30 ≤ c' := by
  by_cases hl : 30 < l.length
  · obtain ⟨a', c', h1, h2, _, h4⟩ := cut_h (P := Try.prog) ht hs h.1 (k2 := .i64) (j := 30) (q := 30) rfl (by omega : 30 ≤ c)
    refine ⟨a', c', fun _ => h1, fun h => absurd hl h, ⟨?_, fun r hr => h.2 r (List.mem_of_mem_take hr)⟩, by omega⟩
    rw [List.map_take, flat_take 30 h.all]; exact h4
  · exact ⟨a, c, fun h => absurd h hl, fun _ => ⟨rfl, rfl⟩, by rw [List.take_of_length_le (by omega)]; exact h, by omega⟩
/-- What few hands back. -/
def FewPost (w : World) (l1 l2 l3 : List BRow) (e : Ending) : Prop := ∃ b1 b2 b3 d1 d2 d3, e = .returned (.tuple #[.slice b1 (l1.take 30).length d1, .slice b2 (l2.take 30).length d2, .slice b3 (l3.take 30).length d3]) ∧ (EntRd 35 w b1 (l1.take 30) ∧ EntRd 34 w b2 (l2.take 30) ∧ EntRd 3 w b3 (l3.take 30)) ∧ (l1.take 30).length ≤ d1 ∧ (l2.take 30).length ≤ d2 ∧ (l3.take 30).length ≤ d3
theorem few_any {a1 a2 a3 : Option Addr} {c1 c2 c3 : Nat} {l1 l2 l3 : List BRow} {w : World} (hc1 : l1.length ≤ c1) (hc2 : l2.length ≤ c2) (hc3 : l3.length ≤ c3) (h1 : EntRd 35 w a1 l1) (h2 : EntRd 34 w a2 l2) (h3 : EntRd 3 w a3 l3) :
    Calls Try.prog 8 #[.slice a1 l1.length c1, .slice a2 l2.length c2, .slice a3 l3.length c3] w fun e w' => FewPost w l1 l2 l3 e ∧ w = w' := by
  obtain ⟨b1, d1, r1, s1, e1, t1⟩ := few_cut (T := 22) Try.underlying22 sizeKD hc1 h1
  obtain ⟨b2, d2, r2, s2, e2, t2⟩ := few_cut (T := 23) Try.underlying23 sizeCD hc2 h2
  obtain ⟨b3, d3, r3, s3, e3, t3⟩ := few_cut (T := 24) Try.underlying24 sizeUS hc3 h3
  have L1 : (l1.take 30).length = min l1.length 30 := by simp; omega
  have L2 : (l2.take 30).length = min l2.length 30 := by simp; omega
  have L3 : (l3.take 30).length = min l3.length 30 := by simp; omega
  have HF : Hid (∀ n1 n2 n3, n1 = min l1.length 30 → n2 = min l2.length 30 → n3 = min l3.length 30 → FewPost w l1 l2 l3 (Ending.returned (.tuple #[.slice b1 n1 d1, .slice b2 n2 d2, .slice b3 n3 d3]))) := by
    show ∀ _, _
    intro n1 n2 n3 g1 g2 g3
    exact ⟨b1, b2, b3, d1, d2, d3, by rw [L1, L2, L3, g1, g2, g3], ⟨e1, e2, e3⟩, by omega, by omega, by omega⟩
  clear L1 L2 L3 e1 e2 e3 t1 t2 t3 h1 h2 h3
  have M1 : Hid (30 < l1.length → 30 = min l1.length 30) := fun h => by omega
  have M2 : Hid (30 < l2.length → 30 = min l2.length 30) := fun h => by omega
  have M3 : Hid (30 < l3.length → 30 = min l3.length 30) := fun h => by omega
  have N1 : Hid (¬ 30 < l1.length → l1.length = min l1.length 30) := fun h => by omega
  have N2 : Hid (¬ 30 < l2.length → l2.length = min l2.length 30) := fun h => by omega
  have N3 : Hid (¬ 30 < l3.length → l3.length = min l3.length 30) := fun h => by omega
  by_cases g1 : 30 < l1.length
  · have r1 := r1 g1
    clear s1
    by_cases g2 : 30 < l2.length
    · have r2 := r2 g2
      clear s2
      by_cases g3 : 30 < l3.length
      · have r3 := r3 g3
        clear s3
        go_enter Try.func8, Try.ntmps8
        go_wp2
        go_ret3
        exact ⟨HF.out _ _ _ (M1.out g1) (M2.out g2) (M3.out g3), rfl⟩
      · obtain ⟨rfl, rfl⟩ := s3 g3
        clear r3
        go_enter Try.func8, Try.ntmps8
        go_wp2
        go_ret3
        exact ⟨HF.out _ _ _ (M1.out g1) (M2.out g2) (N3.out g3), rfl⟩
    · obtain ⟨rfl, rfl⟩ := s2 g2
      clear r2
      by_cases g3 : 30 < l3.length
      · have r3 := r3 g3
        clear s3
        go_enter Try.func8, Try.ntmps8
        go_wp2
        go_ret3
        exact ⟨HF.out _ _ _ (M1.out g1) (N2.out g2) (M3.out g3), rfl⟩
      · obtain ⟨rfl, rfl⟩ := s3 g3
        clear r3
        go_enter Try.func8, Try.ntmps8
        go_wp2
        go_ret3
        exact ⟨HF.out _ _ _ (M1.out g1) (N2.out g2) (N3.out g3), rfl⟩
  · obtain ⟨rfl, rfl⟩ := s1 g1
    clear r1
    by_cases g2 : 30 < l2.length
    · have r2 := r2 g2
      clear s2
      by_cases g3 : 30 < l3.length
      · have r3 := r3 g3
        clear s3
        go_enter Try.func8, Try.ntmps8
        go_wp2
        go_ret3
        exact ⟨HF.out _ _ _ (N1.out g1) (M2.out g2) (M3.out g3), rfl⟩
      · obtain ⟨rfl, rfl⟩ := s3 g3
        clear r3
        go_enter Try.func8, Try.ntmps8
        go_wp2
        go_ret3
        exact ⟨HF.out _ _ _ (N1.out g1) (M2.out g2) (N3.out g3), rfl⟩
    · obtain ⟨rfl, rfl⟩ := s2 g2
      clear r2
      by_cases g3 : 30 < l3.length
      · have r3 := r3 g3
        clear s3
        go_enter Try.func8, Try.ntmps8
        go_wp2
        go_ret3
        exact ⟨HF.out _ _ _ (N1.out g1) (N2.out g2) (M3.out g3), rfl⟩
      · obtain ⟨rfl, rfl⟩ := s3 g3
        clear r3
        go_enter Try.func8, Try.ntmps8
        go_wp2
        go_ret3
        exact ⟨HF.out _ _ _ (N1.out g1) (N2.out g2) (N3.out g3), rfl⟩

theorem EntRd.nil (s : Nat) (w : World) : EntRd s w none [] := ⟨Row.nil _ _, by simp⟩
theorem write_nil : writeF kI [] = (closedF (headF kI 0), 0) := rfl
theorem lives13_any (w : World) : Calls Try.prog 16 #[] w fun e w' => e = .returned (.bool true) ∧ Below w.heap.size w w' := by
  go_enter Try.func16, Try.ntmps16
  go_wp2_with fail
  refine (idx_any (l := []) (by rfl) (EntRd.nil 35 w) (by simp) (by simp)).mono ?_
  rintro e w1 ⟨v, rfl, ⟨a, c, rfl, hc, _, hr⟩, hb⟩
  rw [write_nil] at hc hr ⊢
  have hl : (closedF (headF kI 0)).length = 20 := by simp [closedF, headF, kI]
  have h0 : 0 < (closedF (headF kI 0)).length := by omega
  have c0 := hr.byte h0
  have s0 := hr.byteSome h0
  have e0 : (closedF (headF kI 0))[0] = 72 := rfl
  rw [e0] at c0
  have c0' : w1.cell? (hd a) = some (.int .u8 72) := by simpa [Addr.add] using c0
  simp only [hl]
  clear hl e0 hr h0 hc
  go_wp2
  go_ret
  exact ⟨rfl, hb⟩

set_option maxHeartbeats 1000000 in
theorem bwrites_law {a1 a2 a3 : Option Addr} {c1 c2 c3 : Nat} {l1 l2 l3 : List BRow} {w : World} (hc1 : l1.length ≤ c1) (hc2 : l2.length ≤ c2) (hc3 : l3.length ≤ c3) (h1 : EntRd 35 w a1 l1) (h2 : EntRd 34 w a2 l2) (h3 : EntRd 3 w a3 l3)
    (f1 : ∀ r ∈ l1, fitR kI r) (f2 : ∀ r ∈ l2, fitR kC r) (f3 : ∀ r ∈ l3, fitR kU r) (i1 : ∀ r ∈ l1, okI r) (i2 : ∀ r ∈ l2, okI r) (i3 : ∀ r ∈ l3, okI r) :
    Calls Try.prog 3 #[.slice a1 l1.length c1, .slice a2 l2.length c2, .slice a3 l3.length c3] w fun e w' => e = .returned (.bool true) ∧ Below w.heap.size w w' := by
  go_enter Try.func3, Try.ntmps3
  go_wp2_with fail
  refine (few_any hc1 hc2 hc3 h1 h2 h3).mono ?_
  rintro e w' ⟨⟨b1, b2, b3, d1, d2, d3, rfl, ⟨g1, g2, g3⟩, _⟩, rfl⟩
  have m1 : (l1.take 30).length ≤ 65536 := by simp; omega
  have m2 : (l2.take 30).length ≤ 65536 := by simp; omega
  have m3 : (l3.take 30).length ≤ 65536 := by simp; omega
  have F1 := fun r hr => f1 r (List.mem_of_mem_take (i := 30) hr)
  have F2 := fun r hr => f2 r (List.mem_of_mem_take (i := 30) hr)
  have F3 := fun r hr => f3 r (List.mem_of_mem_take (i := 30) hr)
  have I1 := fun r hr => i1 r (List.mem_of_mem_take (i := 30) hr)
  have I2 := fun r hr => i2 r (List.mem_of_mem_take (i := 30) hr)
  have I3 := fun r hr => i3 r (List.mem_of_mem_take (i := 30) hr)
  generalize l1.take 30 = m1' at *
  generalize l2.take 30 = m2' at *
  generalize l3.take 30 = m3' at *
  clear h1 h2 h3 f1 f2 f3 i1 i2 i3 hc1 hc2 hc3
  go_wp2_with fail
  refine (idx_any rfl g1 F1 m1).mono ?_
  rintro e w1 ⟨v1, rfl, R1, B1⟩
  go_wp2_with fail
  refine (cnt_any rfl (g2.below B1) F2 m2).mono ?_
  rintro e w2 ⟨v2, rfl, R2, B2⟩
  have B02 := Gr.trans B1 B2
  go_wp2_with fail
  refine (use_any rfl (g3.below B02) F3 m3).mono ?_
  rintro e w3 ⟨v3, rfl, R3, B3⟩
  have B03 := Gr.trans B02 B3
  go_wp2_with fail
  refine (ridx_any rfl (g1.below B03) F1 I1 m1).mono ?_
  rintro e w4 ⟨v4, rfl, R4, B4⟩
  have B04 := Gr.trans B03 B4
  go_wp2_with fail
  refine (rcnt_any rfl (g2.below B04) F2 I2 m2).mono ?_
  rintro e w5 ⟨v5, rfl, R5, B5⟩
  have B05 := Gr.trans B04 B5
  go_wp2_with fail
  refine (ruse_any rfl (g3.below B05) F3 I3 m3).mono ?_
  rintro e w6 ⟨v6, rfl, R6, B6⟩
  have B06 := Gr.trans B05 B6
  obtain ⟨x1, y1, rfl, z1, q1, r1⟩ := R1.below (Gr.trans (Gr.trans (Gr.trans (Gr.trans B2 B3) B4) B5) B6)
  obtain ⟨x2, y2, rfl, z2, q2, r2⟩ := R2.below (Gr.trans (Gr.trans (Gr.trans B3 B4) B5) B6)
  obtain ⟨x3, y3, rfl, z3, q3, r3⟩ := R3.below (Gr.trans (Gr.trans B4 B5) B6)
  obtain ⟨x4, y4, rfl, z4, q4, r4⟩ := R4.below (Gr.trans B5 B6)
  obtain ⟨x5, y5, rfl, z5, q5, r5⟩ := R5.below B6
  obtain ⟨x6, y6, rfl, z6, q6, r6⟩ := R6
  generalize writeF kI m1' = p1 at *
  generalize writeF kC m2' = p2 at *
  generalize writeF kU m3' = p3 at *
  clear g1 g2 g3 F1 F2 F3 I1 I2 I3 B1 B2 B3 B4 B5 B6 B02 B03 B04 B05
  go_wp2_with fail
  refine (same_any rfl rfl r1 r4 (Nat.le_trans z1 q1)).mono ?_
  rintro e w7 ⟨rfl, n7, rfl⟩
  have e1 : (p1.1 == p1.1) = true := by simp
  go_wp2_with fail
  refine (same_any rfl rfl (r2.drewN n7) (r5.drewN n7) (Nat.le_trans z2 q2)).mono ?_
  rintro e w8 ⟨rfl, n8, rfl⟩
  have e2 : (p2.1 == p2.1) = true := by simp
  go_wp2_with fail
  refine (same_any rfl rfl (r3.drewN _) (r6.drewN _) (Nat.le_trans z3 q3)).mono ?_
  rintro e w9 ⟨rfl, n9, rfl⟩
  have e3 : (p3.1 == p3.1) = true := by simp
  clear r1 r2 r3 r4 r5 r6
  go_wp2_with fail
  refine (lives13_any _).mono ?_
  rintro e w10 ⟨rfl, hb10⟩
  go_wp2
  go_ret
  exact ⟨rfl, Gr.trans (Below.drewN B06 _) hb10⟩
section
variable {H : Type} {enc : TypeId × Value → H} {W : World} {base : Nat} {v0 v1 v2 : Value} {d0 d1 d2 : DataW H} {p0 p1 p2 : List MemPlace}
theorem bookWrites_calls (o0 : Value.okWide Try.prog W .any base 22 v0) (h0 : DataW.Trod enc Try.prog W 0 (fun _ => true) true 22 v0 d0 p0)
    (o1 : Value.okWide Try.prog W .any base 23 v1) (h1 : DataW.Trod enc Try.prog W 0 (fun _ => true) true 23 v1 d1 p1)
    (o2 : Value.okWide Try.prog W .any base 24 v2) (h2 : DataW.Trod enc Try.prog W 0 (fun _ => true) true 24 v2 d2 p2) :
    Calls Try.prog 3 #[v0, v1, v2] W fun e W' => e = .returned (.bool true) ∧ Below W.heap.size W W' := by
  obtain ⟨a1, n1, c1, l1, rfl, rfl, hc1, r1, f1, i1⟩ := open_ents (k := kI) Try.underlying22 (by kernel_rfl) ent_KD o0 h0
  obtain ⟨a2, n2, c2, l2, rfl, rfl, hc2, r2, f2, i2⟩ := open_ents (k := kC) Try.underlying23 (by kernel_rfl) ent_CD o1 h1
  obtain ⟨a3, n3, c3, l3, rfl, rfl, hc3, r3, f3, i3⟩ := open_ents (k := kU) Try.underlying24 (by kernel_rfl) ent_US o2 h2
  exact bwrites_law hc1 hc2 hc3 r1 r2 r3 f1 f2 f3 i1 i2 i3
end
end Go.Proofs.Ytcomcljpnjeogaa
