/- Walks of layer 13: SameIndex, SameCounts, SameUses, of lists that are the same. -/
import Derived.Test.YtcomcljpnjeogaaB13
set_option maxRecDepth 20000
namespace Go.Proofs.Ytcomcljpnjeogaa
open Go.RowKit Go.Hd
attribute [local go_sem ↓] h_ldKD h_ldCD h_ldUS h_nqKD h_nqCD h_nqUS

theorem mapM_ex {α β : Type} {f : α → Option β} : ∀ (l : List α), (∀ x ∈ l, ∃ y, f x = some y) → ∃ r, l.mapM f = some r
  | [], _ => ⟨[], by simp⟩
  | x :: l, h => by
    obtain ⟨y, hy⟩ := h x (by simp)
    obtain ⟨r, hr⟩ := mapM_ex l (fun z hz => h z (by simp [hz]))
    exact ⟨y :: r, by simp [hy, hr]⟩
theorem kl_int {t : TypeId} {q : IntKind} {n : Int} (hu : Try.prog.underlying t = some (.int q)) (hw : (Lit.int q n).wf = true) (d : Nat) : ∃ ls, Try.prog.keyLits (d + 1) t [.int q n] = some ls := by
  refine ⟨[.int q n], ?_⟩
  simp [Program.keyLits, hu, hw]
theorem kl_struct {t : TypeId} {fs : Array Field} {cs : List Value} {d : Nat} (hu : Try.prog.underlying t = some (.struct fs)) (hc : cs.length = Try.prog.cellsOf t) (hn : fs.all (·.name != "_") = true)
    (h : ∀ f ∈ fs.toList, ∃ ls, Try.prog.keyLits d f.type ((cs.drop f.offset).take (Try.prog.cellsOf f.type)) = some ls) : ∃ ls, Try.prog.keyLits (d + 1) t cs = some ls := by
  obtain ⟨r, hr⟩ := mapM_ex _ h
  refine ⟨r.flatten, ?_⟩
  simp only [Program.keyLits, hu]
  rw [if_pos ⟨hc, hn⟩, hr]
  rfl
theorem kl_array {t e : TypeId} {n : Nat} {cs : List Value} {d : Nat} (hu : Try.prog.underlying t = some (.array n e)) (hc : cs.length = Try.prog.cellsOf t)
    (h : ∀ i, i < n → ∃ ls, Try.prog.keyLits d e ((cs.drop (i * Try.prog.cellsOf e)).take (Try.prog.cellsOf e)) = some ls) : ∃ ls, Try.prog.keyLits (d + 1) t cs = some ls := by
  obtain ⟨r, hr⟩ := mapM_ex (List.range n) (fun i hi => h i (List.mem_range.1 hi))
  refine ⟨r.flatten, ?_⟩
  simp only [Program.keyLits, hu]
  rw [if_pos hc, hr]
  rfl
theorem u8wf (x : UInt8) : (Lit.int .u8 (x.toNat : Int)).wf = true := by
  have := x.toNat_lt
  simp only [Lit.wf, Bool.and_eq_true, decide_eq_true_eq, IntKind.min, IntKind.max]
  constructor <;> simp [IntKind.signed, IntKind.bits] <;> omega
theorem i64wf {n : Int} (h : i64Ok n) : (Lit.int .i64 n).wf = true := by
  unfold i64Ok at h
  simp only [Lit.wf, Bool.and_eq_true, decide_eq_true_eq, IntKind.min, IntKind.max]
  constructor <;> simp [IntKind.signed, IntKind.bits] <;> omega
theorem kl_key {l : List UInt8} (h : l.length = 32) : ∃ ls, Try.prog.keyLits 3 67 (l.map b8) = some ls := by
  have hb : Try.prog.cellsOf 5 = 1 := cellsb
  have hi : Try.prog.cellsOf 67 = 32 := by kernel_rfl
  refine kl_array Try.underlying67 (by rw [hi, List.length_map, h]) (fun i hi => ?_)
  rw [hb, Nat.mul_one]
  have e : ((l.map b8).drop i).take 1 = [.int .u8 (l[i]'(by omega)).toNat] := by
    rw [List.drop_eq_getElem_cons (by simp; omega)]
    simp [b8]
  rw [e]
  exact kl_int Try.underlying5 (u8wf _) _

theorem kl_PL {x y z : Int} (hx : i64Ok x) (hy : i64Ok y) (hz : i64Ok z) : ∃ ls, Try.prog.keyLits 3 69 [Value.int .i64 x, Value.int .i64 y, Value.int .i64 z] = some ls := by
  refine kl_struct Try.underlying69 (by rw [show Try.prog.cellsOf 69 = 3 by kernel_rfl]; rfl) (by kernel_rfl) (fun f hf => ?_)
  have h1 : Try.prog.cellsOf 3 = 1 := by kernel_rfl
  simp only [List.mem_cons, List.not_mem_nil, or_false] at hf
  rcases hf with rfl | rfl | rfl
  · rw [h1]; exact kl_int Try.underlying3 (i64wf hx) _
  · rw [h1]; exact kl_int Try.underlying3 (i64wf hy) _
  · rw [h1]; exact kl_int Try.underlying3 (i64wf hz) _
theorem kl_KD {r : BRow} (h : fitR kI r) (ho : okI r) : ∃ D ls, Try.prog.keyLits D 71 (entL r) = some ls := by
  obtain ⟨key, l⟩ := r
  obtain ⟨h1, h2⟩ := h
  change key.length = 32 at h1
  change l.length = 3 at h2
  match l, h2 with
  | [x, y, z], _ =>
    have hx : i64Ok x := ho x (by simp)
    have hy : i64Ok y := ho y (by simp)
    have hz : i64Ok z := ho z (by simp)
    refine ⟨4, ?_⟩
    have c1 : Try.prog.cellsOf 67 = 32 := by kernel_rfl
    have c2 : Try.prog.cellsOf 69 = 3 := by kernel_rfl
    have e : entL (key, [x, y, z]) = key.map b8 ++ [Value.int .i64 x, Value.int .i64 y, Value.int .i64 z] := by simp [entL]
    rw [e]
    refine kl_struct Try.underlying71 (by rw [show Try.prog.cellsOf 71 = 35 by kernel_rfl]; simp [h1]) (by kernel_rfl) (fun f hf => ?_)
    simp only [List.mem_cons, List.not_mem_nil, or_false] at hf
    rcases hf with rfl | rfl
    · rw [c1]
      have e2 : ((key.map b8 ++ [Value.int .i64 x, Value.int .i64 y, Value.int .i64 z]).drop 0).take 32 = key.map b8 := by
        rw [List.drop_zero]; exact List.take_left' (by simp [h1])
      show ∃ ls, Try.prog.keyLits 3 67 (((key.map b8 ++ [Value.int .i64 x, Value.int .i64 y, Value.int .i64 z]).drop 0).take 32) = some ls
      rw [e2]
      exact kl_key h1
    · rw [c2]
      have e2 : ((key.map b8 ++ [Value.int .i64 x, Value.int .i64 y, Value.int .i64 z]).drop 32).take 3 = [Value.int .i64 x, Value.int .i64 y, Value.int .i64 z] := by
        rw [List.drop_left' (by simp [h1])]; rfl
      show ∃ ls, Try.prog.keyLits 3 69 (((key.map b8 ++ [Value.int .i64 x, Value.int .i64 y, Value.int .i64 z]).drop 32).take 3) = some ls
      rw [e2]
      exact kl_PL hx hy hz
theorem nq_KD {r : BRow} (h : fitR kI r) (ho : okI r) (x y : Operand) (w : World) : (nqOp 71 x y (.agg (entA r)) (.agg (entA r))).run Try.prog w = .ok (.bool false) w := by
  obtain ⟨D, ls, hl⟩ := kl_KD h ho
  have hs : (entA r).size = 35 := by
    obtain ⟨h1, h2⟩ := h
    change r.1.length = 32 at h1
    change r.2.length = 3 at h2
    simp [entA, entL, h1, h2]
  have hf : (Value.agg (entA r)).formed Try.prog 71 = true := by
    have hc : Try.prog.cellsOf 71 = 35 := by kernel_rfl
    simp [Value.formed, Try.underlying71, hc, hs]
  obtain ⟨q, h1, h2⟩ := nqOp_agg (P := Try.prog) (m := 4) (x := x) (y := y) (w := w) (by decide) (by kernel_rfl) (by kernel_rfl) hf hf hl hl
  rw [h1, h2.2 rfl]
  rfl
set_option maxHeartbeats 1000000 in
theorem sindex_any {a b : Option Addr} {n1 n2 c d : Nat} {l : List BRow} {w : World} (h1 : n1 = l.length) (h2 : n2 = l.length) (hl : EntRd 35 w a l) (hm : EntRd 35 w b l) (hf : ∀ r ∈ l, fitR kI r) (ho : ∀ r ∈ l, okI r) (hc : l.length ≤ 65536) :
    Calls Try.prog 26 #[.slice a n1 c, .slice b n2 d] w fun e w' => e = .returned (.bool true) ∧ ∃ n, w' = w.drewN n := by
  subst h1 h2
  go_enter Try.func26, Try.ntmps26
  go_wp2
  go_loopw [5] (fun i w' => ∃ k : Nat, k ≤ l.length ∧ i = .int .i64 k ∧ ∃ n, w' = w.drewN n) (fun i _ => l.length - (intOf i).toNat)
  case atStart => exact ⟨0, Nat.zero_le _, rfl, 0, rfl⟩
  case round =>
    obtain ⟨k, hk, rfl, n, rfl⟩ := hrel
    by_cases hlt : k < l.length
    · have e1 := fun m => ldOp_at (P := Try.prog) (ty := 71) ((hl.1.drewN m).elem (s := 35) hl.all (i := k) (c := entL l[k]) (by simp [hlt])) Try.underlying71 rfl (by rw [hl.2 _ (List.getElem_mem hlt)]; exact sizeKD)
      have e2 := fun m => ldOp_at (P := Try.prog) (ty := 71) ((hm.1.drewN m).elem (s := 35) hm.all (i := k) (c := entL l[k]) (by simp [hlt])) Try.underlying71 rfl (by rw [hm.2 _ (List.getElem_mem hlt)]; exact sizeKD)
      have s1 := hl.isSome (by decide) hlt
      have s2 := hm.isSome (by decide) hlt
      have q1 : ∀ m, (ldOp 71 (.pointer (some ((hd a).add (k * 35))))).run Try.prog (w.drewN m) = .ok (.agg (entA l[k])) (w.drewN m) := fun m => e1 m
      have q2 : ∀ m, (ldOp 71 (.pointer (some ((hd b).add (k * 35))))).run Try.prog (w.drewN m) = .ok (.agg (entA l[k])) (w.drewN m) := fun m => e2 m
      have q3 := fun x y w' => nq_KD (hf l[k] (List.getElem_mem hlt)) (ho l[k] (List.getElem_mem hlt)) x y w'
      have i0 : (0 : Int) ≤ (k : Int) := by omega
      have i1 : (k : Int) < (l.length : Int) := by omega
      clear e1 e2
      generalize entA l[k] = E at *
      go_wp2
      go_quiet (fail)
      go_wp2
      first
        | exact ⟨⟨k + 1, by omega, (by first | rfl | go_num | (congr 1; omega)), n + nq, by first | rfl | rw [drewN_two]⟩, by simp [intOf] <;> omega⟩
        | (refine ⟨?_, by simp [intOf] <;> omega⟩; (repeat apply Exists.intro); exact ⟨⟨k + 1, by omega, (by first | rfl | go_num | (congr 1; omega)), n + nq, by first | rfl | rw [drewN_two]⟩, rfl⟩)
    · obtain rfl : k = l.length := by omega
      go_wp2
      go_ret
      exact ⟨rfl, n, rfl⟩
theorem kl_CT {x y : Int} (hx : i64Ok x) (hy : i64Ok y) : ∃ ls, Try.prog.keyLits 3 78 [Value.int .i64 x, Value.int .i64 y] = some ls := by
  refine kl_struct Try.underlying78 (by rw [show Try.prog.cellsOf 78 = 2 by kernel_rfl]; rfl) (by kernel_rfl) (fun f hf => ?_)
  have h1 : Try.prog.cellsOf 3 = 1 := by kernel_rfl
  simp only [List.mem_cons, List.not_mem_nil, or_false] at hf
  rcases hf with rfl | rfl
  · rw [h1]; exact kl_int Try.underlying3 (i64wf hx) _
  · rw [h1]; exact kl_int Try.underlying3 (i64wf hy) _
theorem kl_CD {r : BRow} (h : fitR kC r) (ho : okI r) : ∃ D ls, Try.prog.keyLits D 80 (entL r) = some ls := by
  obtain ⟨key, l⟩ := r
  obtain ⟨h1, h2⟩ := h
  change key.length = 32 at h1
  change l.length = 2 at h2
  match l, h2 with
  | [x, y], _ =>
    have hx : i64Ok x := ho x (by simp)
    have hy : i64Ok y := ho y (by simp)
    refine ⟨4, ?_⟩
    have c1 : Try.prog.cellsOf 67 = 32 := by kernel_rfl
    have c2 : Try.prog.cellsOf 78 = 2 := by kernel_rfl
    have e : entL (key, [x, y]) = key.map b8 ++ [Value.int .i64 x, Value.int .i64 y] := by simp [entL]
    rw [e]
    refine kl_struct Try.underlying80 (by rw [show Try.prog.cellsOf 80 = 34 by kernel_rfl]; simp [h1]) (by kernel_rfl) (fun f hf => ?_)
    simp only [List.mem_cons, List.not_mem_nil, or_false] at hf
    rcases hf with rfl | rfl
    · rw [c1]
      have e2 : ((key.map b8 ++ [Value.int .i64 x, Value.int .i64 y]).drop 0).take 32 = key.map b8 := by
        rw [List.drop_zero]; exact List.take_left' (by simp [h1])
      show ∃ ls, Try.prog.keyLits 3 67 (((key.map b8 ++ [Value.int .i64 x, Value.int .i64 y]).drop 0).take 32) = some ls
      rw [e2]
      exact kl_key h1
    · rw [c2]
      have e2 : ((key.map b8 ++ [Value.int .i64 x, Value.int .i64 y]).drop 32).take 2 = [Value.int .i64 x, Value.int .i64 y] := by
        rw [List.drop_left' (by simp [h1])]; rfl
      show ∃ ls, Try.prog.keyLits 3 78 (((key.map b8 ++ [Value.int .i64 x, Value.int .i64 y]).drop 32).take 2) = some ls
      rw [e2]
      exact kl_CT hx hy
theorem nq_CD {r : BRow} (h : fitR kC r) (ho : okI r) (x y : Operand) (w : World) : (nqOp 80 x y (.agg (entA r)) (.agg (entA r))).run Try.prog w = .ok (.bool false) w := by
  obtain ⟨D, ls, hl⟩ := kl_CD h ho
  have hs : (entA r).size = 34 := by
    obtain ⟨h1, h2⟩ := h
    change r.1.length = 32 at h1
    change r.2.length = 2 at h2
    simp [entA, entL, h1, h2]
  have hf : (Value.agg (entA r)).formed Try.prog 80 = true := by
    have hc : Try.prog.cellsOf 80 = 34 := by kernel_rfl
    simp [Value.formed, Try.underlying80, hc, hs]
  obtain ⟨q, h1, h2⟩ := nqOp_agg (P := Try.prog) (m := 4) (x := x) (y := y) (w := w) (by decide) (by kernel_rfl) (by kernel_rfl) hf hf hl hl
  rw [h1, h2.2 rfl]
  rfl
set_option maxHeartbeats 1000000 in
theorem scounts_any {a b : Option Addr} {n1 n2 c d : Nat} {l : List BRow} {w : World} (h1 : n1 = l.length) (h2 : n2 = l.length) (hl : EntRd 34 w a l) (hm : EntRd 34 w b l) (hf : ∀ r ∈ l, fitR kC r) (ho : ∀ r ∈ l, okI r) (hc : l.length ≤ 65536) :
    Calls Try.prog 27 #[.slice a n1 c, .slice b n2 d] w fun e w' => e = .returned (.bool true) ∧ ∃ n, w' = w.drewN n := by
  subst h1 h2
  go_enter Try.func27, Try.ntmps27
  go_wp2
  go_loopw [5] (fun i w' => ∃ k : Nat, k ≤ l.length ∧ i = .int .i64 k ∧ ∃ n, w' = w.drewN n) (fun i _ => l.length - (intOf i).toNat)
  case atStart => exact ⟨0, Nat.zero_le _, rfl, 0, rfl⟩
  case round =>
    obtain ⟨k, hk, rfl, n, rfl⟩ := hrel
    by_cases hlt : k < l.length
    · have e1 := fun m => ldOp_at (P := Try.prog) (ty := 80) ((hl.1.drewN m).elem (s := 34) hl.all (i := k) (c := entL l[k]) (by simp [hlt])) Try.underlying80 rfl (by rw [hl.2 _ (List.getElem_mem hlt)]; exact sizeCD)
      have e2 := fun m => ldOp_at (P := Try.prog) (ty := 80) ((hm.1.drewN m).elem (s := 34) hm.all (i := k) (c := entL l[k]) (by simp [hlt])) Try.underlying80 rfl (by rw [hm.2 _ (List.getElem_mem hlt)]; exact sizeCD)
      have s1 := hl.isSome (by decide) hlt
      have s2 := hm.isSome (by decide) hlt
      have q1 : ∀ m, (ldOp 80 (.pointer (some ((hd a).add (k * 34))))).run Try.prog (w.drewN m) = .ok (.agg (entA l[k])) (w.drewN m) := fun m => e1 m
      have q2 : ∀ m, (ldOp 80 (.pointer (some ((hd b).add (k * 34))))).run Try.prog (w.drewN m) = .ok (.agg (entA l[k])) (w.drewN m) := fun m => e2 m
      have q3 := fun x y w' => nq_CD (hf l[k] (List.getElem_mem hlt)) (ho l[k] (List.getElem_mem hlt)) x y w'
      have i0 : (0 : Int) ≤ (k : Int) := by omega
      have i1 : (k : Int) < (l.length : Int) := by omega
      clear e1 e2
      generalize entA l[k] = E at *
      go_wp2
      go_quiet (fail)
      go_wp2
      first
        | exact ⟨⟨k + 1, by omega, (by first | rfl | go_num | (congr 1; omega)), n + nq, by first | rfl | rw [drewN_two]⟩, by simp [intOf] <;> omega⟩
        | (refine ⟨?_, by simp [intOf] <;> omega⟩; (repeat apply Exists.intro); exact ⟨⟨k + 1, by omega, (by first | rfl | go_num | (congr 1; omega)), n + nq, by first | rfl | rw [drewN_two]⟩, rfl⟩)
    · obtain rfl : k = l.length := by omega
      go_wp2
      go_ret
      exact ⟨rfl, n, rfl⟩
theorem kl_US {r : BRow} (h : fitR kU r) (ho : okI r) : ∃ D ls, Try.prog.keyLits D 84 (entL r) = some ls := by
  obtain ⟨key, l⟩ := r
  obtain ⟨h1, h2⟩ := h
  change key.length = 0 at h1
  change l.length = 3 at h2
  match l, h2 with
  | [x, y, z], _ =>
    have hx : i64Ok x := ho x (by simp)
    have hy : i64Ok y := ho y (by simp)
    have hz : i64Ok z := ho z (by simp)
    refine ⟨4, ?_⟩
    obtain rfl : key = [] := List.eq_nil_of_length_eq_zero h1
    have e : entL ([], [x, y, z]) = [Value.int .i64 x, Value.int .i64 y, Value.int .i64 z] := by simp [entL]
    rw [e]
    refine kl_struct Try.underlying84 (by rw [show Try.prog.cellsOf 84 = 3 by kernel_rfl]; rfl) (by kernel_rfl) (fun f hf => ?_)
    have h1 : Try.prog.cellsOf 3 = 1 := by kernel_rfl
    simp only [List.mem_cons, List.not_mem_nil, or_false] at hf
    rcases hf with rfl | rfl | rfl
    · rw [h1]; exact kl_int Try.underlying3 (i64wf hx) _
    · rw [h1]; exact kl_int Try.underlying3 (i64wf hy) _
    · rw [h1]; exact kl_int Try.underlying3 (i64wf hz) _
theorem nq_US {r : BRow} (h : fitR kU r) (ho : okI r) (x y : Operand) (w : World) : (nqOp 84 x y (.agg (entA r)) (.agg (entA r))).run Try.prog w = .ok (.bool false) w := by
  obtain ⟨D, ls, hl⟩ := kl_US h ho
  have hs : (entA r).size = 3 := by
    obtain ⟨h1, h2⟩ := h
    change r.1.length = 0 at h1
    change r.2.length = 3 at h2
    simp [entA, entL, h1, h2]
  have hf : (Value.agg (entA r)).formed Try.prog 84 = true := by
    have hc : Try.prog.cellsOf 84 = 3 := by kernel_rfl
    simp [Value.formed, Try.underlying84, hc, hs]
  obtain ⟨q, h1, h2⟩ := nqOp_agg (P := Try.prog) (m := 4) (x := x) (y := y) (w := w) (by decide) (by kernel_rfl) (by kernel_rfl) hf hf hl hl
  rw [h1, h2.2 rfl]
  rfl
set_option maxHeartbeats 1000000 in
theorem suses_any {a b : Option Addr} {n1 n2 c d : Nat} {l : List BRow} {w : World} (h1 : n1 = l.length) (h2 : n2 = l.length) (hl : EntRd 3 w a l) (hm : EntRd 3 w b l) (hf : ∀ r ∈ l, fitR kU r) (ho : ∀ r ∈ l, okI r) (hc : l.length ≤ 65536) :
    Calls Try.prog 28 #[.slice a n1 c, .slice b n2 d] w fun e w' => e = .returned (.bool true) ∧ ∃ n, w' = w.drewN n := by
  subst h1 h2
  go_enter Try.func28, Try.ntmps28
  go_wp2
  go_loopw [5] (fun i w' => ∃ k : Nat, k ≤ l.length ∧ i = .int .i64 k ∧ ∃ n, w' = w.drewN n) (fun i _ => l.length - (intOf i).toNat)
  case atStart => exact ⟨0, Nat.zero_le _, rfl, 0, rfl⟩
  case round =>
    obtain ⟨k, hk, rfl, n, rfl⟩ := hrel
    by_cases hlt : k < l.length
    · have e1 := fun m => ldOp_at (P := Try.prog) (ty := 84) ((hl.1.drewN m).elem (s := 3) hl.all (i := k) (c := entL l[k]) (by simp [hlt])) Try.underlying84 rfl (by rw [hl.2 _ (List.getElem_mem hlt)]; exact sizeUS)
      have e2 := fun m => ldOp_at (P := Try.prog) (ty := 84) ((hm.1.drewN m).elem (s := 3) hm.all (i := k) (c := entL l[k]) (by simp [hlt])) Try.underlying84 rfl (by rw [hm.2 _ (List.getElem_mem hlt)]; exact sizeUS)
      have s1 := hl.isSome (by decide) hlt
      have s2 := hm.isSome (by decide) hlt
      have q1 : ∀ m, (ldOp 84 (.pointer (some ((hd a).add (k * 3))))).run Try.prog (w.drewN m) = .ok (.agg (entA l[k])) (w.drewN m) := fun m => e1 m
      have q2 : ∀ m, (ldOp 84 (.pointer (some ((hd b).add (k * 3))))).run Try.prog (w.drewN m) = .ok (.agg (entA l[k])) (w.drewN m) := fun m => e2 m
      have q3 := fun x y w' => nq_US (hf l[k] (List.getElem_mem hlt)) (ho l[k] (List.getElem_mem hlt)) x y w'
      have i0 : (0 : Int) ≤ (k : Int) := by omega
      have i1 : (k : Int) < (l.length : Int) := by omega
      clear e1 e2
      generalize entA l[k] = E at *
      go_wp2
      go_quiet (fail)
      go_wp2
      first
        | exact ⟨⟨k + 1, by omega, (by first | rfl | go_num | (congr 1; omega)), n + nq, by first | rfl | rw [drewN_two]⟩, by simp [intOf] <;> omega⟩
        | (refine ⟨?_, by simp [intOf] <;> omega⟩; (repeat apply Exists.intro); exact ⟨⟨k + 1, by omega, (by first | rfl | go_num | (congr 1; omega)), n + nq, by first | rfl | rw [drewN_two]⟩, rfl⟩)
    · obtain rfl : k = l.length := by omega
      go_wp2
      go_ret
      exact ⟨rfl, n, rfl⟩
end Go.Proofs.Ytcomcljpnjeogaa
