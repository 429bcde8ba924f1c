/- Joined: what one statement of this layer stands on, part 25 of 25; nothing is assumed. -/
import Derived.Deep.Strs
import Derived.Laws.StructEq
import Derived.Test.YtakliplkabgmbaaKR4
import Derived.Test.YtakliplkabgmbaaKR12
import Derived.Test.YtakliplkabgmbaaKR15
import Derived.Test.YtakliplkabgmbaaKR23
import Derived.Test.YtakliplkabgmbaaKR24
set_option maxRecDepth 20000
namespace Go.Proofs.Ytakliplkabgmbaa
open Go.RowKit Go.Hd
theorem mapMS {α β : Type} {f : α → Option β} : ∀ (l : List α), (∀ x ∈ l, ∃ y, f x = some y) → ∃ r, l.mapM f = some r
  | [], _ => ⟨[], by simp⟩
  | x :: l, h => by
    obtain ⟨y, hy⟩ := h x (by simp)
    obtain ⟨r, hr⟩ := mapMS l (fun z hz => h z (by simp [hz]))
    exact ⟨y :: r, by simp [hy, hr]⟩
theorem klS_int {t : TypeId} {q : IntKind} {n : Int} (hu : Try.prog.underlying t = some (.int q)) (hw : (Lit.int q n).wf = true) (d : Nat) : ∃ ls, Try.prog.keyLits (d + 1) t [.int q n] = some ls := by
  refine ⟨[.int q n], ?_⟩
  simp [Program.keyLits, hu, hw]
theorem klS_str {t : TypeId} {l : List UInt8} (hu : Try.prog.underlying t = some .string) (hl : l.length ≤ maxLen) (d : Nat) : ∃ ls, Try.prog.keyLits (d + 1) t [.string (str l)] = some ls := by
  refine ⟨[.string (str l).data.toList], ?_⟩
  simp [Program.keyLits, hu, hl]
theorem klS_struct {t : TypeId} {fs : Array Field} {cs : List Value} {d : Nat} (hu : Try.prog.underlying t = some (.struct fs)) (hc : cs.length = Try.prog.cellsOf t) (hn : fs.all (·.name != "_") = true)
    (h : ∀ f ∈ fs.toList, ∃ ls, Try.prog.keyLits d f.type ((cs.drop f.offset).take (Try.prog.cellsOf f.type)) = some ls) : ∃ ls, Try.prog.keyLits (d + 1) t cs = some ls := by
  obtain ⟨r, hr⟩ := mapMS _ h
  refine ⟨r.flatten, ?_⟩
  simp only [Program.keyLits, hu]
  rw [if_pos ⟨hc, hn⟩, hr]
  rfl
theorem klS_array {t e : TypeId} {n : Nat} {cs : List Value} {d : Nat} (hu : Try.prog.underlying t = some (.array n e)) (hc : cs.length = Try.prog.cellsOf t)
    (h : ∀ i, i < n → ∃ ls, Try.prog.keyLits d e ((cs.drop (i * Try.prog.cellsOf e)).take (Try.prog.cellsOf e)) = some ls) : ∃ ls, Try.prog.keyLits (d + 1) t cs = some ls := by
  obtain ⟨r, hr⟩ := mapMS (List.range n) (fun i hi => h i (List.mem_range.1 hi))
  refine ⟨r.flatten, ?_⟩
  simp only [Program.keyLits, hu]
  rw [if_pos hc, hr]
  rfl
theorem u8wfS (x : UInt8) : (Lit.int .u8 (x.toNat : Int)).wf = true := by
  have := x.toNat_lt
  simp only [Lit.wf, Bool.and_eq_true, decide_eq_true_eq, IntKind.min, IntKind.max]
  constructor <;> simp [IntKind.signed, IntKind.bits] <;> omega
theorem i64wfS {n : Int} (h : in64 n) : (Lit.int .i64 n).wf = true := by
  unfold in64 at h
  simp only [Lit.wf, Bool.and_eq_true, decide_eq_true_eq, IntKind.min, IntKind.max]
  constructor <;> simp [IntKind.signed, IntKind.bits] <;> omega
theorem klS_id {l : List UInt8} (h : l.length = 32) : ∃ ls, Try.prog.keyLits 3 29 (l.map b8) = some ls := by
  have hb : Try.prog.cellsOf 5 = 1 := by kernel_rfl
  have hi : Try.prog.cellsOf 29 = 32 := by kernel_rfl
  refine klS_array Try.underlying29 (by rw [hi, List.length_map, h]) (fun i hi => ?_)
  rw [hb, Nat.mul_one]
  have e : ((l.map b8).drop i).take 1 = [.int .u8 (l[i]'(by omega)).toNat] := by
    rw [List.drop_eq_getElem_cons (by simp; omega)]
    simp [b8]
  rw [e]
  exact klS_int Try.underlying5 (u8wfS _) _
theorem klS_AB {x : Abt} (h : AbtOk x) : ∃ ls, Try.prog.keyLits 4 31 (abtC x) = some ls := by
  have c0 : Try.prog.cellsOf 9 = 1 := by kernel_rfl
  have c1 : Try.prog.cellsOf 29 = 32 := by kernel_rfl
  have c2 : Try.prog.cellsOf 2 = 1 := by kernel_rfl
  have c3 : Try.prog.cellsOf 3 = 1 := by kernel_rfl
  refine klS_struct Try.underlying31 (by rw [show Try.prog.cellsOf 31 = 37 by kernel_rfl, abtC_len h]) (by kernel_rfl) (fun f hf => ?_)
  have hi : (x.id.map b8).length = 32 := by rw [List.length_map, h.id]
  have d33 : (abtC x).drop 33 = [.int .i64 x.time, strV x.comment, .int .i64 x.items, .int .i64 x.bytes] := by
    show List.drop 32 (x.id.map b8 ++ _) = _
    exact List.drop_left' hi
  simp only [List.mem_cons, List.not_mem_nil, or_false] at hf
  rcases hf with rfl | rfl | rfl | rfl | rfl | rfl
  · rw [c0]; exact klS_str Try.underlying9 h.name _
  · rw [c1]
    have e2 : ((abtC x).drop 1).take 32 = x.id.map b8 := List.take_left' hi
    show ∃ ls, Try.prog.keyLits 3 29 (((abtC x).drop 1).take 32) = some ls
    rw [e2]
    exact klS_id h.id
  · rw [c2]
    show ∃ ls, Try.prog.keyLits 3 2 (((abtC x).drop 33).take 1) = some ls
    rw [d33]
    exact klS_int Try.underlying2 (i64wfS h.time) _
  · rw [c0]
    show ∃ ls, Try.prog.keyLits 3 9 (((abtC x).drop (33 + 1)).take 1) = some ls
    rw [← List.drop_drop, d33]
    exact klS_str Try.underlying9 h.comment _
  · rw [c3]
    show ∃ ls, Try.prog.keyLits 3 3 (((abtC x).drop (33 + 2)).take 1) = some ls
    rw [← List.drop_drop, d33]
    exact klS_int Try.underlying3 (i64wfS h.items) _
  · rw [c3]
    show ∃ ls, Try.prog.keyLits 3 3 (((abtC x).drop (33 + 3)).take 1) = some ls
    rw [← List.drop_drop, d33]
    exact klS_int Try.underlying3 (i64wfS h.bytes) _
theorem klS_PA {p : Prt} (h : PrtOk p) : ∃ ls, Try.prog.keyLits 4 83 (prtC p) = some ls := by
  have c1 : Try.prog.cellsOf 29 = 32 := by kernel_rfl
  have c3 : Try.prog.cellsOf 3 = 1 := by kernel_rfl
  refine klS_struct Try.underlying83 (by rw [show Try.prog.cellsOf 83 = 33 by kernel_rfl, prtC_len h]) (by kernel_rfl) (fun f hf => ?_)
  have hi : (p.id.map b8).length = 32 := by rw [List.length_map, h.id]
  simp only [List.mem_cons, List.not_mem_nil, or_false] at hf
  rcases hf with rfl | rfl
  · rw [c1]
    show ∃ ls, Try.prog.keyLits 3 29 (((prtC p).drop 0).take 32) = some ls
    rw [List.drop_zero, show (prtC p).take 32 = p.id.map b8 from List.take_left' hi]
    exact klS_id h.id
  · rw [c3]
    show ∃ ls, Try.prog.keyLits 3 3 (((prtC p).drop 32).take 1) = some ls
    rw [show (prtC p).drop 32 = [.int .i64 p.size] from List.drop_left' hi]
    exact klS_int Try.underlying3 (i64wfS h.size) _
def eqOp (t : TypeId) (x y : Operand) (u v : Value) : Sem Value := do eqGuard .eql t x y u v; binOp .eql t u v
theorem eqOp_agg {P : Program} {t : TypeId} {m : Nat} {x y : Operand} {xs ys : Array Value} {D D' : Nat} {lx ly : List Lit} {w : World} (hm : m ≤ 10000) (hk : P.keyTypeAt m t = true) (hg : P.eqGuardType P.depth t = false)
    (fx : (Value.agg xs).formed P t = true) (fy : (Value.agg ys).formed P t = true) (hx : P.keyLits D t xs.toList = some lx) (hy : P.keyLits D' t ys.toList = some ly) :
    ∃ r : Bool, (eqOp t x y (.agg xs) (.agg ys)).run P w = .ok (.bool r) w ∧ (r = true ↔ lx = ly) := by
  obtain ⟨r, hr, hiff⟩ := run_equalIn_deep (10000 - m) m t hk w D D' (.agg xs) (.agg ys) lx ly fx fy hx hy
  rw [show 10000 - m + m = 10000 by omega] at hr
  refine ⟨r, ?_, hiff⟩
  unfold eqOp
  rw [Sem.run_bind, run_eqGuard_agg w .eql t x y xs ys hg]
  simp only [Result.andThen_ok, run_eql_struct, hr]
section
variable (ρ : Operand → Value) (dst : Option Tmp) (ty : TypeId) (pos : String) (after : Array Edge) (guard : Option (Nat × Bool))
theorem h_eqAB (x y : Operand) (t : TypeId) : execOp ρ { dst, op := .binOp .eql 31 x y t, type := ty, pos, after, guard } = (do pure (.value (← eqOp 31 x y (ρ x) (ρ y)))) := rfl
theorem h_nqID (x y : Operand) (t : TypeId) : execOp ρ { dst, op := .binOp .neq 29 x y t, type := ty, pos, after, guard } = (do pure (.value (← nqOp 29 x y (ρ x) (ρ y)))) := rfl
end
theorem eq_AB {z : Abt} (h : AbtOk z) (x y : Operand) (w : World) : (eqOp 31 x y (.agg (List.toArray (abtC z))) (.agg (List.toArray (abtC z)))).run Try.prog w = .ok (.bool true) w := by
  obtain ⟨ls, hl⟩ := klS_AB h
  have hf : (Value.agg (List.toArray (abtC z))).formed Try.prog 31 = true := by
    have hc : Try.prog.cellsOf 31 = 37 := by kernel_rfl
    simp [Value.formed, Try.underlying31, hc, abtC_len h]
  obtain ⟨q, h1, h2⟩ := eqOp_agg (P := Try.prog) (m := 4) (x := x) (y := y) (w := w) (by decide) (by kernel_rfl) (by kernel_rfl) hf hf hl hl
  rw [h1, h2.2 rfl]
theorem nq_ID {l : List UInt8} (h : l.length = 32) (x y : Operand) (w : World) : (nqOp 29 x y (.agg (List.toArray (l.map b8))) (.agg (List.toArray (l.map b8)))).run Try.prog w = .ok (.bool false) w := by
  obtain ⟨ls, hl⟩ := klS_id h
  have hf : (Value.agg (List.toArray (l.map b8))).formed Try.prog 29 = true := by
    have hc : Try.prog.cellsOf 29 = 32 := by kernel_rfl
    simp [Value.formed, Try.underlying29, hc, h]
  obtain ⟨q, h1, h2⟩ := nqOp_agg (P := Try.prog) (m := 4) (x := x) (y := y) (w := w) (by decide) (by kernel_rfl) (by kernel_rfl) hf hf hl hl
  rw [h1, h2.2 rfl]; rfl
theorem nq_PA {p : Prt} (h : PrtOk p) (x y : Operand) (w : World) : (nqOp 83 x y (.agg (List.toArray (prtC p))) (.agg (List.toArray (prtC p)))).run Try.prog w = .ok (.bool false) w := by
  obtain ⟨ls, hl⟩ := klS_PA h
  have hf : (Value.agg (List.toArray (prtC p))).formed Try.prog 83 = true := by
    have hc : Try.prog.cellsOf 83 = 33 := by kernel_rfl
    simp [Value.formed, Try.underlying83, hc, prtC_len h]
  obtain ⟨q, h1, h2⟩ := nqOp_agg (P := Try.prog) (m := 4) (x := x) (y := y) (w := w) (by decide) (by kernel_rfl) (by kernel_rfl) hf hf hl hl
  rw [h1, h2.2 rfl]; rfl
attribute [local go_sem ↓] h_ldID h_ldAB h_stAB h_alAB h_ldPA h_eqAB h_nqID h_nqPA
attribute [local go_sem] r_ldAB r_stAB r_alAB
theorem sameAbt_any {x : Abt} {w : World} (h : AbtOk x) : Calls Try.prog 26 #[.agg (List.toArray (abtC x)), .agg (List.toArray (abtC x))] w fun e w' => e = .returned (.bool true) ∧ Below w.heap.size w w' := by
  have x1 : (List.toArray (abtC x)).size = 37 := by simpa using abtC_len h
  have x2 : OneC (List.toArray (abtC x)) := all_oneCell_toArray (abtC_one x)
  have q := fun x' y' w' => eq_AB h x' y' w'
  have hB := (Blk.new w 31 (List.toArray (abtC x))).alloc (.cells (List.toArray (abtC x)) 31)
  have hB2 := Blk.new (w.alloc (.cells (List.toArray (abtC x)) 31)) 31 (List.toArray (abtC x))
  have q1 := ldOp_all (P := Try.prog) (ty := 31) hB Try.underlying31 rfl (by rw [abtC_len h]; exact sizeAB)
  have hb : Below w.heap.size w ((w.alloc (.cells (List.toArray (abtC x)) 31)).alloc (.cells (List.toArray (abtC x)) 31)) := ((Below.refl _ _).alloc (Nat.le_refl _) _).alloc (by simp) _
  generalize abtC x = cx at *
  clear h hB hB2
  go_enter Try.func26, Try.ntmps26
  go_wp2
  go_ret
  exact ⟨rfl, hb⟩
set_option maxHeartbeats 1000000 in
theorem sameParts_any {a b : Option Addr} {n1 n2 c d : Nat} {l : List Prt} {w : World} (h1 : n1 = l.length) (h2 : n2 = l.length) (hl : Row w a (l.map prtC).flatten) (hm : Row w b (l.map prtC).flatten) (ho : ∀ r ∈ l, PrtOk r) (hc : l.length ≤ 65536) :
    Calls Try.prog 27 #[.slice a n1 c, .slice b n2 d] w fun e w' => e = .returned (.bool true) ∧ ∃ n, w' = w.drewN n := by
  subst h1 h2
  have hall := prts33 ho
  go_enter Try.func27, Try.ntmps27
  go_wp2
  go_loopw [5] (fun i w' => ∃ k : Nat, k ≤ l.length ∧ i = .int .i64 k ∧ ∃ n, w' = w.drewN n) (fun i _ => l.length - (intOf i).toNat)
  case atStart => exact ⟨0, Nat.zero_le _, rfl, 0, rfl⟩
  case round =>
    obtain ⟨k, hk, rfl, n, rfl⟩ := hrel
    by_cases hlt : k < l.length
    · have hpo := ho l[k] (List.getElem_mem hlt)
      have q1 : ∀ m, (ldOp 83 (.pointer (some ((hd a).add (k * 33))))).run Try.prog (w.drewN m) = .ok (.agg (List.toArray (prtC l[k]))) (w.drewN m) := fun m => ldOp_at (P := Try.prog) (ty := 83) ((hl.drewN m).elem (s := 33) hall (i := k) (c := prtC l[k]) (by simp [hlt])) Try.underlying83 rfl (by rw [prtC_len hpo]; exact sizePA)
      have q2 : ∀ m, (ldOp 83 (.pointer (some ((hd b).add (k * 33))))).run Try.prog (w.drewN m) = .ok (.agg (List.toArray (prtC l[k]))) (w.drewN m) := fun m => ldOp_at (P := Try.prog) (ty := 83) ((hm.drewN m).elem (s := 33) hall (i := k) (c := prtC l[k]) (by simp [hlt])) Try.underlying83 rfl (by rw [prtC_len hpo]; exact sizePA)
      have s1 := hl.elemSome (s := 33) hall (by decide) (i := k) (by simpa using hlt)
      have s2 := hm.elemSome (s := 33) hall (by decide) (i := k) (by simpa using hlt)
      have q3 := fun x y w' => nq_PA hpo x y w'
      have i0 : (0 : Int) ≤ (k : Int) := by omega
      have i1 : (k : Int) < (l.length : Int) := by omega
      generalize prtC l[k] = E at *
      go_wp2
      go_quiet (fail)
      go_wp2
      first
        | exact ⟨⟨k + 1, by omega, (by first | rfl | go_num | (congr 1; omega)), n + nq, by first | rfl | rw [drewN_two]⟩, by simp [intOf] <;> omega⟩
        | (refine ⟨?_, by simp [intOf] <;> omega⟩; (repeat apply Exists.intro); exact ⟨⟨k + 1, by omega, (by first | rfl | go_num | (congr 1; omega)), n + nq, by first | rfl | rw [drewN_two]⟩, rfl⟩)
    · obtain rfl : k = l.length := by omega
      go_wp2
      go_ret
      exact ⟨rfl, n, rfl⟩
def keyA (x : Abt) : List UInt8 × List UInt8 × Int := (x.name, x.id, x.time)
set_option maxHeartbeats 2000000 in
theorem sameList_any {a b : Option Addr} {n1 n2 c d : Nat} {l m : List Abt} {w : World} (h1 : n1 = l.length) (h2 : n2 = m.length) (hl : Row w a (l.map abtC).flatten) (hm : Row w b (m.map abtC).flatten) (ho : ∀ r ∈ l, AbtOk r) (ho2 : ∀ r ∈ m, AbtOk r) (hc : l.length ≤ 65536) (he : l.map keyA = m.map keyA) :
    Calls Try.prog 25 #[.slice a n1 c, .slice b n2 d] w fun e w' => e = .returned (.bool true) ∧ ∃ n, w' = w.drewN n := by
  have hlen : l.length = m.length := by have := congrArg List.length he; simpa using this
  rw [← hlen] at h2
  subst h1 h2
  have hE := Lib.hid he
  have hN := Lib.hid hlen
  clear he hlen
  go_enter Try.func25, Try.ntmps25
  go_wp2
  go_loopw [5] (fun i w' => ∃ k : Nat, k ≤ l.length ∧ i = .int .i64 k ∧ ∃ n, w' = w.drewN n) (fun i _ => l.length - (intOf i).toNat)
  case atStart => exact ⟨0, Nat.zero_le _, rfl, 0, rfl⟩
  case round =>
    obtain ⟨k, hk, rfl, n, rfl⟩ := hrel
    by_cases hlt : k < l.length
    · have hlt2 : k < m.length := by have := hN.out; omega
      have hxo := ho l[k] (List.getElem_mem hlt)
      have hyo := ho2 m[k] (List.getElem_mem hlt2)
      have hk : keyA l[k] = keyA m[k] := by
        have := congrArg (fun z => z[k]?) hE.out
        simpa [hlt, hlt2] using this
      unfold keyA at hk
      simp only [Prod.mk.injEq] at hk
      obtain ⟨e1, e2, e3⟩ := hk
      have q1 : ∀ t, (w.drewN t).cell? ((hd a).add (k * 37)) = some (.string (str m[k].name)) := fun t => by
        have := abt_cell (hl.drewN t) ho hlt (abtC_0 l[k]); rw [addr_add0, e1] at this; exact this
      have q2 : ∀ t, (w.drewN t).cell? ((hd b).add (k * 37)) = some (.string (str m[k].name)) := fun t => by
        have := abt_cell (hm.drewN t) ho2 hlt2 (abtC_0 m[k]); rw [addr_add0] at this; exact this
      have q3 := fun t => abt_ldID (hl.drewN t) ho hlt
      have q4 := fun t => abt_ldID (hm.drewN t) ho2 hlt2
      have q5 := fun t => cell_fld (abt_cell (hl.drewN t) ho hlt (abtC_33 hxo))
      have q6 := fun t => cell_fld (abt_cell (hm.drewN t) ho2 hlt2 (abtC_33 hyo))
      simp only [e2] at q3
      simp only [e3] at q5
      have q7 := fun x y w' => nq_ID hyo.id x y w'
      have s1 := hl.elemSome (s := 37) (abts37 ho) (by decide) (i := k) (by simpa using hlt)
      have s2 := hm.elemSome (s := 37) (abts37 ho2) (by decide) (i := k) (by simpa using hlt2)
      have i0 : (0 : Int) ≤ (k : Int) := by omega
      have i1 : (k : Int) < (l.length : Int) := by omega
      clear e1 e2 e3 hxo hyo
      generalize m[k].name = nm at *
      generalize m[k].id = id at *
      generalize m[k].time = tm at *
      go_wp2
      go_quiet (fail)
      go_wp2
      first
        | exact ⟨⟨k + 1, by omega, (by first | rfl | go_num | (congr 1; omega)), n + nq, by first | rfl | rw [drewN_two]⟩, by simp [intOf] <;> omega⟩
        | (refine ⟨?_, by simp [intOf] <;> omega⟩; (repeat apply Exists.intro); exact ⟨⟨k + 1, by omega, (by first | rfl | go_num | (congr 1; omega)), n + nq, by first | rfl | rw [drewN_two]⟩, rfl⟩)
    · obtain rfl : k = l.length := by omega
      go_wp2
      go_ret
      exact ⟨rfl, n, rfl⟩
end Go.Proofs.Ytakliplkabgmbaa
set_option maxRecDepth 20000
namespace Go.Proofs.Ytakliplkabgmbaa
open Go.RowKit Go.Hd
theorem okV_zero : OkV pv0 := .mk (by unfold in64; omega) (by simp)
theorem decF_okV (l : List UInt8) : OkV (decF l).1 := by
  unfold decF
  split
  · exact okV_zero
  · split
    · exact okV_zero
    · rename_i v r h
      split
      · obtain ⟨_, _, _, h1, _⟩ := enc_dec 16 _ _ _ h
        exact h1
      · exact okV_zero
theorem OkV.int {v : PV} (h : OkV v) : in64 v.int := by cases h with | mk a b => exact a
theorem OkV.sub {v : PV} (h : OkV v) : ∀ x ∈ v.list, OkV x := by cases h with | mk a b => exact b
theorem okV_fld {v : PV} (h : OkV v) (key : List UInt8) : OkV (fldV v key) := by
  cases h with
  | @mk k n b t ks l hn hl =>
    rw [fldV_mk]
    split
    · cases hF : findK ks l key with
      | none => exact okV_zero
      | some x => exact hl x (findK_mem hF)
    · exact okV_zero
theorem okV_at {x : PV} (h : OkV x) (i : Nat) : OkV (atV x i) := by
  by_cases hi : i < x.list.length
  · have h1 : atV x i = x.list[i] := by unfold atV; simp [hi]
    rw [h1]; exact OkV.sub h _ (List.getElem_mem hi)
  · have h1 : atV x i = pv0 := by unfold atV; simp [hi]
    rw [h1]; exact okV_zero
theorem sm_fld {v : PV} (h : Sm v) (key : List UInt8) : Sm (fldV v key) := by
  cases h with
  | @mk k n b t ks l a1 a2 a3 a4 _ =>
    rw [fldV_mk]
    split
    · cases hF : findK ks l key with
      | none => exact sm_zero
      | some x => exact a4 x (findK_mem hF)
    · exact sm_zero
theorem i0_64 : in64 0 := by unfold in64; omega
theorem small_max {n : Nat} (h : n ≤ 65536) : n ≤ maxLen := by unfold maxLen; omega
theorem lstR_ok (l : List UInt8) : (∀ x ∈ (lstR l).1, AbtOk x) ∧ (lstR l).1.length ≤ 64 := by
  unfold lstR
  split
  · exact ⟨by simp, by simp⟩
  · split
    · rename_i h1 h2
      refine ⟨fun x hx => ?_, ?_⟩
      · obtain ⟨y, hy, rfl⟩ := List.mem_map.1 hx
        have hy := List.mem_of_mem_take hy
        have hs := Sm.sub (sm_fld (decF_sm l) [97]) y hy
        have ho := OkV.sub (okV_fld (decF_okV l) [97]) y hy
        exact ⟨keyV_len _, OkV.int (okV_at ho 2), i0_64, i0_64, small_max (atV_txt hs 0), Nat.zero_le _⟩
      · have h3 := lstOk_short h2
        simp only [lstOut, List.length_map, List.length_take]; omega
    · exact ⟨by simp, by simp⟩
theorem arcR_ok (l : List UInt8) : AbtOk (arcR l).1 ∧ (∀ p ∈ (arcR l).2.1, PrtOk p) ∧ (arcR l).2.1.length ≤ 64 := by
  unfold arcR
  split
  · exact ⟨abt0_ok, by simp, by simp⟩
  · split
    · rename_i h1 h2
      have hO := decF_okV l
      have hS := decF_sm l
      refine ⟨⟨rfl, OkV.int (okV_fld hO _), OkV.int (okV_fld hO _), OkV.int (okV_fld hO _), small_max (Sm.text (sm_fld hS _)), small_max (Sm.text (sm_fld hS _))⟩, fun x hx => ?_, ?_⟩
      · obtain ⟨y, hy, rfl⟩ := List.mem_map.1 hx
        have hy := List.mem_of_mem_take hy
        have ho := OkV.sub (okV_fld hO [105]) y hy
        exact ⟨keyV_len _, OkV.int (okV_at ho 1)⟩
      · have h3 := arcOk_short h2
        simp only [arcL, List.length_map, List.length_take]; omega
    · exact ⟨abt0_ok, by simp, by simp⟩
end Go.Proofs.Ytakliplkabgmbaa
set_option maxRecDepth 20000
namespace Go.Proofs.Ytakliplkabgmbaa
open Go.RowKit Go.Hd Go.ChangeShapes Go.WideShapes Go.ChangeAt
attribute [local go_sem ↓] h_ldAB h_stAB h_alAB
attribute [local go_sem] r_ldAB r_stAB r_alAB
set_option maxHeartbeats 4000000 in
theorem mreads_law {W : World} {a0 : Option Addr} {c0 : Nat} {l : List UInt8} (hl : Row W a0 (l.map b8)) (hc0 : l.length ≤ c0) (hm0 : c0 ≤ maxLen) :
    Calls Try.prog 5 #[.slice a0 l.length c0] W fun e W' => e = .returned (.bool true) ∧ Below W.heap.size W W' := by
  have zab := zAB_size
  obtain ⟨L, hL⟩ : ∃ L, L = l.take 3000 := ⟨_, rfl⟩
  have hLl : min l.length (3000 : Int).toNat = L.length := by rw [hL, List.length_take]; exact Nat.min_comm _ _
  have hcut := cut_any a0 l.length c0 3000 W (by decide) hc0
  rw [hLl] at hcut
  have hLr : Row W a0 (L.map b8) := by
    have := hl.take 3000
    rw [← List.map_take, ← hL] at this
    exact this
  have hLm : L.length ≤ 3000 := by rw [hL]; simp; omega
  have hLc : L.length ≤ c0 := by rw [hL]; simp; omega
  have hcp := copy_any a0 L.length c0 L W rfl hLr (by omega)
  obtain ⟨ok1, ok2⟩ := lstR_ok L
  obtain ⟨ok3, ok4, ok5⟩ := arcR_ok L
  have hrl := fun (a : Option Addr) (c : Nat) (w : World) (h : Row w a (L.map b8)) => readList_any (c := c) rfl h (by unfold maxLen; omega)
  have hrr := fun (w : World) (h : Row w a0 (L.map b8)) => rReadList_any (c := c0) rfl h hLc hm0
  have har := fun (a : Option Addr) (c : Nat) (w : World) (h : Row w a (L.map b8)) => readArchive_any (c := c) rfl h (by unfold maxLen; omega)
  have hrar := fun (w : World) (h : Row w a0 (L.map b8)) => rReadArchive_any (c := c0) rfl h hLc hm0
  unfold RdListP at hrl hrr
  unfold RdArcP at har hrar
  have hsb := fun (a b : Option Addr) (c d : Nat) (w : World) (h1 : Row w a (L.map b8)) (h2 : Row w b (L.map b8)) => same_any (c := c) (d := d) rfl rfl h1 h2 (by unfold maxLen; omega)
  rw [show (L == L) = true by simp] at hsb
  have hlv := fun w' => lives23_any w'
  clear hL hLl hl hLm
  generalize (lstR L).1 = Y at *
  generalize (lstR L).2 = E at *
  generalize (arcR L).1 = X at *
  generalize (arcR L).2.1 = Z at *
  generalize (arcR L).2.2 = F at *
  have xl := abtC_len ok3
  have x1 : (List.toArray (abtC X)).size = 37 := by simpa using xl
  have x2 : OneC (List.toArray (abtC X)) := all_oneCell_toArray (abtC_one X)
  have hsl := fun (a b : Option Addr) (c d : Nat) (w : World) (h1 : Row w a (Y.map abtC).flatten) (h2 : Row w b (Y.map abtC).flatten) => sameList_any (c := c) (d := d) rfl rfl h1 h2 ok1 ok1 (by omega) rfl
  have hsp := fun (a b : Option Addr) (c d : Nat) (w : World) (h1 : Row w a (Z.map prtC).flatten) (h2 : Row w b (Z.map prtC).flatten) => sameParts_any (c := c) (d := d) rfl rfl h1 h2 ok4 (by omega)
  have hsa := fun (w : World) => sameAbt_any (w := w) ok3
  generalize abtC X = cx at *
  have tE : (E == E) = true := by simp
  have tF : (F == F) = true := by simp
  clear ok1 ok2 ok3 ok4 ok5
  go_enter Try.func5, Try.ntmps5
  go_wp2_with fail
  refine hcut.mono ?_
  rintro e w0 ⟨rfl, rfl⟩
  clear hcut
  go_wp2_with fail
  refine hcp.mono ?_
  rintro e w1 ⟨u1, rfl, ⟨hown, hb1⟩⟩
  obtain ⟨a1, c1, rfl, hc1, hm1, hr1, hat1⟩ := owns_at hown
  clear hcp hown hat1
  go_wp2_with fail
  refine (hrl _ _ _ hr1).mono ?_
  rintro e w2 ⟨a2, c2, rfl, hr2, hb2⟩
  go_wp2_with fail
  have hb12 := Gr.trans hb1 hb2
  refine (hrr _ (hLr.below hb12)).mono ?_
  rintro e w3 ⟨a3, c3, rfl, hr3, hb3⟩
  have hb13 := Gr.trans hb12 hb3
  have hr1 := (hr1.below hb2).below hb3
  have hr2 := hr2.below hb3
  clear hb1 hb2 hb12 hb3 hrl hrr
  go_wp2_with fail
  refine (har _ _ _ hr1).mono ?_
  rintro e w4 ⟨a4, c4, rfl, hr4, hb4, _⟩
  have hb4' : Below w4.heap.size w4 (w4.alloc (.cells (List.toArray cx) 31)) := (Below.refl _ _).alloc (Nat.le_refl _) _
  have hB4 : Blk (w4.alloc (.cells (List.toArray cx) 31)) w4.heap.size 31 cx := by simpa using Blk.new w4 31 (List.toArray cx)
  have hb45 := Gr.trans hb4 hb4'
  have hb15 := Gr.trans hb13 hb45
  have hr1 := hr1.below hb45
  have hr2 := hr2.below hb45
  have hr3 := hr3.below hb45
  have hr4 := hr4.below hb4'
  clear hb4 hb4' hb13 hb45 har
  go_upto_region 6 with (fail)
  generalize w4.alloc (.cells (List.toArray cx) 31) = w5 at *
  generalize w4.heap.size = q4 at *
  go_wp2_with fail
  refine (hrar _ (hLr.below hb15)).mono ?_
  rintro e w6 ⟨a6, c6, rfl, hr6, hb6, _⟩
  have hb6' : Below w6.heap.size w6 (w6.alloc (.cells (List.toArray cx) 31)) := (Below.refl _ _).alloc (Nat.le_refl _) _
  have hB6 : Blk (w6.alloc (.cells (List.toArray cx) 31)) w6.heap.size 31 cx := by simpa using Blk.new w6 31 (List.toArray cx)
  have hb67 := Gr.trans hb6 hb6'
  have hb17 := Gr.trans hb15 hb67
  have hr1 := hr1.below hb67
  have hr2 := hr2.below hb67
  have hr3 := hr3.below hb67
  have hr4 := hr4.below hb67
  have hr6 := hr6.below hb6'
  have hB4 := hB4.below hb67
  have hr0 := hLr.below hb17
  clear hb6 hb6' hb67 hb15 hrar
  go_upto_region 7 with (fail)
  generalize w6.alloc (.cells (List.toArray cx) 31) = w7 at *
  generalize w6.heap.size = q6 at *
  have q1' := fun n => ldOp_all (P := Try.prog) (ty := 31) (hB4.below (Below.drewN (Below.refl w7.heap.size w7) n)) Try.underlying31 rfl (by rw [xl]; exact sizeAB)
  have q2' := fun n => ldOp_all (P := Try.prog) (ty := 31) (hB6.below (Below.drewN (Below.refl w7.heap.size w7) n)) Try.underlying31 rfl (by rw [xl]; exact sizeAB)
  go_wp2_with fail
  refine (hsl _ _ _ _ _ hr2 hr3).mono ?_
  rintro e w8 ⟨rfl, n8, rfl⟩
  have q1 := q1' n8
  have q2 := q2' n8
  have hb8 : Below w7.heap.size w7 (w7.drewN n8) := Below.drewN (Below.refl _ _) _
  generalize w7.drewN n8 = w8 at *
  clear q1' q2'
  go_wp2_with fail
  refine (hsa _).mono ?_
  rintro e w9 ⟨rfl, hb9⟩
  have hb79 := Gr.trans hb8 hb9
  clear q1 q2
  go_wp2_with fail
  refine (hsp _ _ _ _ _ (hr4.below hb79) (hr6.below hb79)).mono ?_
  rintro e w10 ⟨rfl, n10, rfl⟩
  have hb710 : Below w7.heap.size w7 (w9.drewN n10) := Gr.trans hb79 (Below.drewN (Below.refl _ _) _)
  generalize w9.drewN n10 = w10 at *
  go_wp2_with fail
  refine (hsb _ _ _ _ _ (hr1.below hb710) (hr0.below hb710)).mono ?_
  rintro e w11 ⟨rfl, n11, rfl⟩
  have hb711 : Below w7.heap.size w7 (w10.drewN n11) := Gr.trans hb710 (Below.drewN (Below.refl _ _) _)
  generalize w10.drewN n11 = w11 at *
  go_wp2_with fail
  refine (hlv _).mono ?_
  rintro e w12 ⟨rfl, hb12⟩
  go_wp2
  go_ret
  exact ⟨rfl, Gr.trans hb17 (Gr.trans hb711 hb12)⟩
theorem metaReads_calls {H : Type} {enc : TypeId × Value → H} {W : World} {base : Nat} {v0 : Value} {d0 : DataW H} {p0 : List MemPlace}
    (o0 : Value.okWide Try.prog W .any base 35 v0) (h0 : DataW.Trod enc Try.prog W 0 (fun _ => true) true 35 v0 d0 p0) :
    Calls Try.prog 5 #[v0] W fun e W' => e = .returned (.bool true) ∧ Below W.heap.size W W' := by
  obtain ⟨a, n, c, l, rfl, rfl, hc, hm, hr⟩ := open_byt Try.underlying35 Try.underlying5 (by kernel_rfl) o0 h0
  exact mreads_law hr hc hm
end Go.Proofs.Ytakliplkabgmbaa
