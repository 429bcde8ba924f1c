/- Joined: what one statement of this layer stands on, part 6 of 26; nothing is assumed. -/
import Derived.Deep.CutBlock
import Derived.Deep.DeepCutAuto
import Derived.OrdersHeld
import Derived.StillTailTactics
import Derived.Test.YtpchogicdnfggaaGreatDoorKI1
import Derived.Test.YtpchogicdnfggaaGreatDoorKI2
import Derived.Test.YtpchogicdnfggaaGreatDoorKI3
import Derived.Test.YtpchogicdnfggaaGreatDoorKI5
set_option maxRecDepth 20000
namespace Go.Hd
open Go Go.RowKit

/-- More memory, what was there as it was. -/
def Mo (w w' : World) : Prop := Below w.heap.size w w'
theorem Mo.refl (w : World) : Mo w w := Below.refl _ _
theorem Mo.trans {a b c : World} (h : Mo a b) (k : Mo b c) : Mo a c := Gr.trans h k
theorem Mo.size' {a b : World} (h : Mo a b) : a.heap.size ≤ b.heap.size := Below.size h
section
variable {P : Program} {ops : Array Oper} {Q : Exit → Act → World → Prop} {md : Region.Mode} {S : World → Prop}

/-- In state a, in every world that meets S: the operation yields v and leaves the world alone, or it is a call that hands back v and only makes memory. -/
def Tame (P : Program) (ops : Array Oper) (S : World → Prop) (o : Oper) (v : Value) (a : Act) : Prop :=
  (Region.wanted o (yielded ops a.tmps) = true ∧ ∀ w, S w → (execOp a.eval o).run P w = .ok (.value v) w ∨
    ∃ f args, (execOp a.eval o).run P w = .ok (.enter f args) w ∧ Calls P f args w fun e w' => e = .returned v ∧ Mo w w') ∨
  (Region.wanted o (yielded ops a.tmps) = false ∧ v = undef)
theorem Tame.wpOp {i : Nat} {o : Oper} {v : Value} {a : Act} (hi : ops[i]? = some o) (hy : Tame P ops S o v a)
    {K : Act → World → Prop} {w : World} (hS : S w) (h : ∀ w', Mo w w' → K (a.put o.dst v) w') : wpOp P ops Q i K a w := by
  unfold Go.wpOp
  simp only [hi]
  rcases hy with ⟨hw, hv⟩ | ⟨hw, rfl⟩
  · rw [hw, if_pos rfl]
    refine .inl ?_
    unfold Oper.wp
    rcases hv w hS with h1 | ⟨f, args, h1, h2⟩
    · rw [h1]; exact h w (Mo.refl w)
    · rw [h1]
      refine Calls.mono h2 ?_
      rintro e w' ⟨rfl, hm⟩
      exact h w' hm
  · rw [hw, if_neg (by decide)]
    exact h w (Mo.refl w)
theorem Tame.same {o : Oper} {v : Value} {a a' : Act} (hy : Tame P ops S o v a) (he : execOp a'.eval o = execOp a.eval o)
    (hw : Region.wanted o (yielded ops a'.tmps) = Region.wanted o (yielded ops a.tmps)) : Tame P ops S o v a' := by
  unfold Tame at *
  rw [he, hw]; exact hy
/-- What a state is behind an operation: a value was put, perhaps behind a deferred call. -/
def Behind (o : Oper) (a a' : Act) : Prop := ∃ u ds, a' = Act.put { a with defers := ds } o.dst u
theorem wpOp_behind {j : Nat} {o : Oper} (hj : ops[j]? = some o) {K : Act → World → Prop} {a : Act} {w : World} (h : wpOp P ops Q j K a w) : wpOp P ops Q j (fun a' w' => Behind o a a' ∧ K a' w') a w := by
  unfold wpOp at *
  simp only [hj] at *
  split
  · rename_i hw
    simp only [hw, if_true] at h
    rcases h with h | h
    · refine .inl ?_
      unfold Oper.wp at *
      generalize (execOp a.eval o).run P w = r at *
      cases r with
      | ok n w' =>
        cases n <;> simp only [Oper.upon] at h ⊢
        case value u => exact ⟨⟨u, a.defers, rfl⟩, h⟩
        case skip => exact ⟨⟨undef, a.defers, rfl⟩, h⟩
        case defer d => exact ⟨⟨undef, d :: a.defers, rfl⟩, h⟩
        case enter f args =>
          refine Calls.mono h fun e w'' he => ?_
          cases e with
          | returned u => exact ⟨⟨u, a.defers, rfl⟩, he⟩
          | panicked c => exact he
          | outgrown => exact he
        case row row args => exact Rows.mono h fun u w'' he => ⟨⟨u, a.defers, rfl⟩, he⟩
      | halt x w' => cases x <;> simp only [Oper.upon] at h ⊢ <;> exact h
    · exact .inr h
  · rename_i hw
    simp only [hw] at h
    exact ⟨⟨undef, a.defers, rfl⟩, h⟩
/-- Whatever order is picked from here on, with memory made in between; behind each operation S holds, which may look at what has come up. -/
def wpAnyU (P : Program) (md : Region.Mode) (ops : Array Oper) (Q : Exit → Act → World → Prop) (S : Array Bool → World → Prop) : Nat → Array Bool → Act → World → Prop
  | 0, listed, a, w => Region.ready md ops listed = [] ∧ ∀ w', Mo w w' → Q .normal a w'
  | fuel + 1, listed, a, w => ∀ w', Mo w w' →
    (Region.ready md ops listed = [] → Q .normal a w') ∧
    ∀ i ∈ Region.ready md ops listed, wpOp P ops Q i (fun a' w'' => S (listed.setIfInBounds i true) w'' ∧ wpAnyU P md ops Q S fuel (listed.setIfInBounds i true) a' w'') a w'
theorem wpAnyU.up {S : Array Bool → World → Prop} : ∀ {fuel : Nat} {listed : Array Bool} {a : Act} {w w' : World}, wpAnyU P md ops Q S fuel listed a w → Mo w w' → wpAnyU P md ops Q S fuel listed a w'
  | 0, _, _, _, _, h, hm => ⟨h.1, fun w'' h2 => h.2 w'' (hm.trans h2)⟩
  | _ + 1, _, _, _, _, h, hm => fun w'' h2 => h w'' (hm.trans h2)
theorem wpAny_of_up {S : Array Bool → World → Prop} : ∀ (fuel : Nat) (listed : Array Bool) (a : Act) (w : World), wpAnyU P md ops Q S fuel listed a w → wpAny P md ops Q fuel listed a w
  | 0, _, _, w, h => ⟨h.1, h.2 w (Mo.refl w)⟩
  | fuel + 1, _, _, w, h => ⟨(h w (Mo.refl w)).1, fun i hi => wpOp_mono (fun a' w' h' => wpAny_of_up fuel _ a' w' h'.2) ((h w (Mo.refl w)).2 i hi)⟩
theorem wpAnyU_first {S : Array Bool → World → Prop} {A : World → Prop} {I : Array Bool → Prop} {i : Nat} {oi : Oper} {v : Value} (hSm : ∀ L w w', S L w → Mo w w' → S L w') (hSi : ∀ L w, S (L.setIfInBounds i true) w ↔ S L w) (hSA : ∀ L w, S L w → I L → A w)
    (hi : ops[i]? = some oi) (hsel : ∀ (j : Nat) (o : Oper) cs b, ops[j]? = some o → o.op ≠ .select cs b)
    (hI : ∀ L j, I L → i ∈ Region.ready md ops L → j ∈ Region.ready md ops L → j ≠ i → I (L.setIfInBounds j true))
    (hQ : ∀ c a w, Q (.panic c) (a.put oi.dst v) w → Q (.panic c) a w) :
    ∀ (fuel : Nat) (listed : Array Bool) (a : Act) (w : World),
      (∀ j oj, ops[j]? = some oj → j ≠ i → listed.getD j true = false → (∀ e ∈ oj.after, Region.binds md e = true → e.on ≠ i) → oi.apart ops oj = true) →
      i ∈ Region.ready md ops listed → Tame P ops A oi v a → S listed w → I listed →
      wpAnyU P md ops Q S fuel (listed.setIfInBounds i true) (a.put oi.dst v) w → wpAnyU P md ops Q S (fuel + 1) listed a w := by
  intro fuel
  induction fuel with
  | zero =>
    intro listed a w _ hr hy hS hIl H w1 hm
    refine ⟨fun h => (by rw [h] at hr; cases hr), fun j hj => ?_⟩
    by_cases hji : j = i
    · subst hji
      exact hy.wpOp hi (hSA _ _ (hSm _ _ _ hS hm) hIl) (fun w2 h2 => ⟨(hSi _ _).2 (hSm _ _ _ hS (hm.trans h2)), H.up (hm.trans h2)⟩)
    · have := ready_mono hj hji
      rw [H.1] at this
      cases this
  | succ fuel ih =>
    intro listed a w hfree hr hy hS hIl H w1 hm
    refine ⟨fun h => (by rw [h] at hr; cases hr), fun j hj => ?_⟩
    by_cases hji : j = i
    · subst hji
      exact hy.wpOp hi (hSA _ _ (hSm _ _ _ hS hm) hIl) (fun w2 h2 => ⟨(hSi _ _).2 (hSm _ _ _ hS (hm.trans h2)), H.up (hm.trans h2)⟩)
    · have h1 := (H w1 hm).2 j (ready_mono hj hji)
      obtain ⟨hjun, oj, hoj, hall⟩ := mem_ready.1 hj
      have hnot : ∀ e ∈ oj.after, Region.binds md e = true → e.on ≠ i := fun e he hb heq => by
        have h1 := hall e he hb
        have h0 := (mem_ready.1 hr).1
        rw [heq] at h1
        rcases Nat.lt_or_ge i listed.size with h' | h'
        · simp [h'] at h0 h1; rw [h0] at h1; cases h1
        · simp [Array.getElem?_eq_none h'] at h1
      have hap := hfree j oj hoj hji hjun hnot
      obtain ⟨_, _, p3⟩ := Oper.apart_spec hap
      have hyf : YieldsIf P ops (fun _ => False) oi v a := hy.imp (fun ⟨h, _⟩ => ⟨h, fun _ h => h.elim⟩) id
      have h2 := wpOp_behind hoj (wpOp_putIf hoj hap (fun cs b => hsel i oi cs b hi) (fun cs b => hsel j oj cs b hoj) hQ hyf h1)
      have hfree' : ∀ k ok, ops[k]? = some ok → k ≠ i → (listed.setIfInBounds j true).getD k true = false →
          (∀ e ∈ ok.after, Region.binds md e = true → e.on ≠ i) → oi.apart ops ok = true := fun k ok hk hki hun hno => by
        refine hfree k ok hk hki ?_ hno
        by_cases hjk : j = k
        · subst hjk; exact hjun
        · rw [getD_set_ne true hjk] at hun; exact hun
      refine wpOp_mono (fun a' w' h3 => ?_) h2
      obtain ⟨⟨u, ds, rfl⟩, _, h4, h5⟩ := h3
      have hy' : Tame P ops A oi v (Act.put { a with defers := ds } oj.dst u) :=
        (hy.same (a' := { a with defers := ds }) rfl rfl).same (execOp_put oi (fun cs b => hsel i oi cs b hi) _ oj.dst u p3) (wanted_put oi _ oj.dst u p3)
      have h4' : S (listed.setIfInBounds j true) w' := by
        rw [Array.setIfInBounds_comm _ _ (Ne.symm hji)] at h4
        exact (hSi _ _).1 h4
      refine ⟨h4', ih (listed.setIfInBounds j true) _ w' hfree' (ready_mono hr (Ne.symm hji)) hy' h4' (hI _ _ hIl hr hj hji) ?_⟩
      rw [Array.setIfInBounds_comm _ _ hji]
      exact h5
/-- Number i first. -/
theorem wpAnyU_take {S : Array Bool → World → Prop} {A : World → Prop} {i : Nat} {oi : Oper} {v : Value} {fuel : Nat} {listed : Array Bool} {a a' : Act} {w : World} (hSm : ∀ L w w', S L w → Mo w w' → S L w') (hSi : ∀ L w, S (L.setIfInBounds i true) w ↔ S L w) (hSA : ∀ L w, S L w → A w)
    (hi : ops[i]? = some oi) (hs : Region.noSelect ops = true) (hf : Region.free md ops listed i = true) (hr : (Region.ready md ops listed).contains i = true)
    (hQ : ∀ c a w, Q (.panic c) (a.put oi.dst v) w → Q (.panic c) a w) (hS : S listed w) (hy : Tame P ops A oi v a) (ha : a.put oi.dst v = a')
    (h : wpAnyU P md ops Q S fuel (listed.setIfInBounds i true) a' w) : wpAnyU P md ops Q S (fuel + 1) listed a w :=
  wpAnyU_first (I := fun _ => True) hSm hSi (fun L w h _ => hSA L w h) hi (Region.noSelect_spec hs) (fun _ _ _ _ _ _ => trivial) hQ fuel listed a w (Region.free_spec hi hf) (by simpa using hr) hy hS trivial (ha ▸ h)
/-- Number i first: it may look at what stands until number k comes up, which waits for it. -/
theorem wpAnyU_takeK {S : Array Bool → World → Prop} {A : World → Prop} {i : Nat} (k : Nat) {oi ok : Oper} {v : Value} {fuel : Nat} {listed : Array Bool} {a a' : Act} {w : World} (hSm : ∀ L w w', S L w → Mo w w' → S L w') (hSi : ∀ L w, S (L.setIfInBounds i true) w ↔ S L w) (hSA : ∀ L w, S L w → L.getD k false = false → A w)
    (hi : ops[i]? = some oi) (hk : ops[k]? = some ok) (hki : (ok.after.any fun e => Region.binds md e && e.on == i) = true) (hkl : listed.getD k false = false)
    (hs : Region.noSelect ops = true) (hf : Region.free md ops listed i = true) (hr : (Region.ready md ops listed).contains i = true)
    (hQ : ∀ c a w, Q (.panic c) (a.put oi.dst v) w → Q (.panic c) a w) (hS : S listed w) (hy : Tame P ops A oi v a) (ha : a.put oi.dst v = a')
    (h : wpAnyU P md ops Q S fuel (listed.setIfInBounds i true) a' w) : wpAnyU P md ops Q S (fuel + 1) listed a w := by
  subst ha
  refine wpAnyU_first (I := fun L => L.getD k false = false) hSm hSi hSA hi (Region.noSelect_spec hs) (fun L j hL hiL hjL hji => ?_) hQ fuel listed a w (Region.free_spec hi hf) (by simpa using hr) hy hS hkl h
  by_cases hjk : j = k
  · exfalso
    subst hjk
    obtain ⟨_, oj, hoj, hall⟩ := mem_ready.1 hjL
    rw [hk] at hoj
    obtain rfl := Option.some.inj hoj
    obtain ⟨e, he, hb⟩ := Array.any_eq_true'.1 hki
    simp only [Bool.and_eq_true, beq_iff_eq] at hb
    have h1 := hall e he hb.1
    rw [hb.2] at h1
    have h0 := (mem_ready.1 hiL).1
    rcases Nat.lt_or_ge i L.size with h' | h'
    · simp [h'] at h0 h1; rw [h0] at h1; cases h1
    · simp [Array.getElem?_eq_none h'] at h1
  · rw [getD_set_ne false hjk]; exact hL
theorem wpAnyU_all {S : Array Bool → World → Prop} {rs : List Nat} {fuel : Nat} {listed : Array Bool} {a : Act} {w : World} (hr : Region.ready md ops listed = rs) (hne : rs ≠ [])
    (h : ∀ w', Mo w w' → ∀ i ∈ rs, wpOp P ops Q i (fun a' w'' => S (listed.setIfInBounds i true) w'' ∧ wpAnyU P md ops Q S fuel (listed.setIfInBounds i true) a' w'') a w') : wpAnyU P md ops Q S (fuel + 1) listed a w :=
  fun w' hm => ⟨fun h0 => absurd (hr ▸ h0) hne, hr ▸ h w' hm⟩
theorem wpAnyU_done {S : Array Bool → World → Prop} {listed : Array Bool} {a : Act} {w : World} (hr : Region.ready md ops listed = []) (h : ∀ w', Mo w w' → Q .normal a w') :
    ∀ fuel, wpAnyU P md ops Q S fuel listed a w
  | 0 => ⟨hr, h⟩
  | _ + 1 => fun w' hm => ⟨fun _ => h w' hm, by rw [hr]; simp⟩
theorem wp_region_up {S : Array Bool → World → Prop} {id : Nat} {a : Act} {w : World} (hm : P.follows .mixedOrders = true)
    (h : wpAnyU P .any ops Q S ops.size (Array.replicate ops.size false) a { w with drawn := w.drawn + 1 }) : (Code.region id ops true).wp P Q a w :=
  wp_region_any hm (wpAny_of_up _ _ _ _ h)
theorem wp_region_upN {S : Array Bool → World → Prop} {id : Nat} {a : Act} {w : World} (N : Nat) (hN : ops.size = N) (hm : P.follows .mixedOrders = true)
    (h : wpAnyU P .any ops Q S N (Array.replicate N false) a (w.drewN 1)) : (Code.region id ops true).wp P Q a w := by
  subst hN
  exact wp_region_up hm h
theorem run_ldOp {ρ : Operand → Value} {dst : Option Tmp} {ty : TypeId} {pos : String} {after : Array Edge} {guard : Option (Nat × Bool)} {t : TypeId} {x : Operand} {v : Value} {w : World} (h : (ldOp t (ρ x)).run P w = .ok v w) :
    (execOp ρ { dst, op := .load t x, type := ty, pos, after, guard }).run P w = .ok (.value v) w := by
  rw [ex_ld, Sem.run_bind, h]; rfl
theorem run_stoOp {ρ : Operand → Value} {dst : Option Tmp} {ty : TypeId} {pos : String} {after : Array Edge} {guard : Option (Nat × Bool)} {t : TypeId} {x y : Operand} {w w' : World} (h : (stoOp t (ρ x) (ρ y)).run P w = .ok () w') :
    (execOp ρ { dst, op := .store t x y, type := ty, pos, after, guard }).run P w = .ok .skip w' := by
  rw [ex_st, Sem.run_bind, h]; rfl
theorem run_bsOp {ρ : Operand → Value} {dst : Option Tmp} {ty : TypeId} {pos : String} {after : Array Edge} {guard : Option (Nat × Bool)} {t : TypeId} {n : Nat} {parts : Array (Nat × Operand)} {vals : Array (Nat × Value)} {v : Value} {w w' : World} (hp : (parts.map fun (i, x) => (i, ρ x)) = vals) (h : (bsOp t n vals).run P w = .ok v w') :
    (execOp ρ { dst, op := .buildSlice t n parts, type := ty, pos, after, guard }).run P w = .ok (.value v) w' := by
  rw [ex_bs, hp, Sem.run_bind, h]; rfl
theorem run_append {o : Oper} {a : Act} {w w' : World} {t tx : TypeId} {v1 v2 v' : Value} {s x : Operand}
    (hrun : (Builtin.append_ #[t, tx] o.type #[v1, v2]).run P w = .ok v' w') (ho : o.op = .call { callee := .builtin .append, args := #[s, x], argTypes := #[t, tx] }) (hs : a.eval s = v1) (hx : a.eval x = v2) :
    (execOp a.eval o).run P w = .ok (.value v') w' := by
  unfold execOp
  simp only [ho, resolve, invoke, builtin, Sem.run_bind, Sem.run_pure, Result.andThen_ok, List.map_toArray, List.map_cons, List.map_nil, hs, hx, hrun]
/-- A slice of rows. -/
theorem bsOp_rows {t e : TypeId} {z : Value} {s : Nat} {vs : List (List Value)} {n : Nat} {parts : Array (Nat × Value)} {w : World} (hu : P.underlying t = some (.slice e)) (hz : (P.info? e).map (fun i => (i.zero, i.size)) = some (some z, s)) (hs : 0 < s) (hn : n = vs.length) (hs2 : n * s ≤ 10000) (h0 : 0 < n)
    (_hzs : z.cells.size = s) (hc : ∀ v ∈ vs, v.length = s) (hp : parts.toList = ((vs.map fun v => Value.agg v.toArray).zipIdx 0).map fun x => (x.2, x.1)) :
    (bsOp t n parts).run P w = .ok (.slice (some ⟨w.heap.size, 0, none⟩) n n) (w.alloc (.cells vs.flatten.toArray e)) := by
  obtain ⟨i, hi, hzz⟩ := Option.map_eq_some_iff.1 hz
  simp only [Prod.mk.injEq] at hzz
  obtain ⟨hz1, hz2⟩ := hzz
  refine run_buildSlice w t e n _ _ i z hu hi hz1 (by rw [hz2]; omega) (by rw [hz2]; exact Nat.ne_of_gt (Nat.mul_pos h0 hs)) ?_
  rw [hz2, hp]
  have := Great.fill_whole hs (vs.map fun v => Value.agg v.toArray) ((Array.range (n * s)).map (z.cells[· % z.cells.size]!)) (fun v hv => by
    obtain ⟨y, hy, rfl⟩ := List.mem_map.1 hv
    simp [Value.cells, hc y hy]) (by simp [hn])
  rw [this]
  congr 2
  rw [List.flatMap_map]
  simp [Value.cells, List.flatMap]
/-! One operation that comes up. -/
theorem wpOp_val {i : Nat} {o : Oper} {v : Value} {a a' : Act} {K : Act → World → Prop} {w w' : World} (hi : ops[i]? = some o) (hw : o.guard = none) (hr : (execOp a.eval o).run P w = .ok (.value v) w') (ha : a.put o.dst v = a') (h : K a' w') : wpOp P ops Q i K a w := by
  subst ha
  unfold Go.wpOp
  simp only [hi]
  have : Region.wanted o (yielded ops a.tmps) = true := by unfold Region.wanted; rw [hw]
  rw [this, if_pos rfl]
  refine .inl ?_
  unfold Oper.wp
  rw [hr]; exact h
theorem wpOp_skip {i : Nat} {o : Oper} {a a' : Act} {K : Act → World → Prop} {w w' : World} (hi : ops[i]? = some o) (hw : o.guard = none) (hr : (execOp a.eval o).run P w = .ok .skip w') (ha : a.put o.dst undef = a') (h : K a' w') : wpOp P ops Q i K a w := by
  subst ha
  unfold Go.wpOp
  simp only [hi]
  have : Region.wanted o (yielded ops a.tmps) = true := by unfold Region.wanted; rw [hw]
  rw [this, if_pos rfl]
  refine .inl ?_
  unfold Oper.wp
  rw [hr]; exact h
theorem wpOp_enter {i : Nat} {o : Oper} {f : FuncId} {args : Array Value} {a : Act} {K : Act → World → Prop} {w : World} (hi : ops[i]? = some o) (hw : o.guard = none) (hr : (execOp a.eval o).run P w = .ok (.enter f args) w)
    (h : Calls P f args w fun e w' => ∃ u, e = .returned u ∧ K (a.put o.dst u) w') : wpOp P ops Q i K a w := by
  unfold Go.wpOp
  simp only [hi]
  have : Region.wanted o (yielded ops a.tmps) = true := by unfold Region.wanted; rw [hw]
  rw [this, if_pos rfl]
  refine .inl ?_
  unfold Oper.wp
  rw [hr]
  refine Calls.mono h ?_
  rintro e w' ⟨u, rfl, hk⟩
  exact hk
theorem Tame.val {o : Oper} {v : Value} {a : Act} (hw : o.guard = none) (h : ∀ w, S w → (execOp a.eval o).run P w = .ok (.value v) w) : Tame P ops S o v a :=
  .inl ⟨by unfold Region.wanted; rw [hw], fun w hS => .inl (h w hS)⟩
theorem Tame.enter {o : Oper} {v : Value} {a : Act} {f : FuncId} {args : Array Value} (hw : o.guard = none) (hr : ∀ w, (execOp a.eval o).run P w = .ok (.enter f args) w) (h : ∀ w, S w → Calls P f args w fun e w' => e = .returned v ∧ Mo w w') : Tame P ops S o v a :=
  .inl ⟨by unfold Region.wanted; rw [hw], fun w hS => .inr ⟨f, args, hr w, h w hS⟩⟩
end
end Go.Hd
set_option maxRecDepth 20000
namespace Go.Proofs.YtpchogicdnfggaaGreatDoor
open Go.RowKit Go.Hd
attribute [local go_sem ↓] h_ldV h_stV h_alV h_ldID h_stID h_alID
attribute [local go_sem] r_ldV r_stV r_alV r_ldID r_stID r_alID

/-- A text, a list, an id as six cells. -/
def txtS (t : List UInt8) : List Value := [.int .i64 5, .int .i64 0, .slice none 0 0, strV t, .slice none 0 0, .slice none 0 0]
def lstC (v : Value) : List Value := [.int .i64 6, .int .i64 0, .slice none 0 0, strV [], .slice none 0 0, v]
def bytC (v : Value) : List Value := [.int .i64 4, .int .i64 0, v, strV [], .slice none 0 0, .slice none 0 0]
theorem VAtP.txtS {ok : Nat → Prop} (w : World) {t : List UInt8} (h : t.length ≤ maxLen) : VAtP ok w (txtS t) (pTxt t) :=
  .mk (b := []) (t := t) (ks := []) (l := []) [] (by unfold in64; omega) (by unfold in64; omega) (Row.nil _ _) ⟨Nat.le_refl _, Nat.zero_le _⟩ h (Row.nil _ _) ⟨Nat.le_refl _, Nat.zero_le _⟩ (by simp) (Row.nil _ _) ⟨Nat.le_refl _, Nat.zero_le _⟩ rfl (by simp) (by simp) (by simp) (by simp) (by simp)
theorem VAtP.numb {ok : Nat → Prop} (w : World) {n : Int} (h : in64 n) : VAtP ok w (numC n) (pNum n) :=
  .mk (b := []) (t := []) (ks := []) (l := []) [] (by unfold in64; omega) h (Row.nil _ _) ⟨Nat.le_refl _, Nat.zero_le _⟩ (Nat.zero_le _) (Row.nil _ _) ⟨Nat.le_refl _, Nat.zero_le _⟩ (by simp) (Row.nil _ _) ⟨Nat.le_refl _, Nat.zero_le _⟩ rfl (by simp) (by simp) (by simp) (by simp) (by simp)
theorem VAtP.bytS {ok : Nat → Prop} {w : World} {a : Option Addr} {c : Nat} {l : List UInt8} (hr : Row w a (l.map b8)) (hl : l.length ≤ c) (hc : c ≤ maxLen) (ho : 0 < l.length → ok (hd a).block) : VAtP ok w (bytC (.slice a l.length c)) (pByt l) :=
  .mk (b := l) (t := []) (ks := []) (l := []) [] (by unfold in64; omega) (by unfold in64; omega) hr ⟨hl, hc⟩ (Nat.zero_le _) (Row.nil _ _) ⟨Nat.le_refl _, Nat.zero_le _⟩ (by simp) (Row.nil _ _) ⟨Nat.le_refl _, Nat.zero_le _⟩ rfl (by simp) ho (by simp) (by simp) (by simp)
/-- A list out of a row of values. -/
theorem VAtP.lst {ok : Nat → Prop} {w : World} {a : Option Addr} {c : Nat} {css : List (List Value)} {l : List PV} (hr : Row w a css.flatten) (hl : l.length ≤ c) (hc : c ≤ maxLen) (hcs : css.length = l.length) (h6 : ∀ c ∈ css, c.length = 6)
    (ho : 0 < l.length → ok (hd a).block) (sub : ∀ (i : Nat) (c : List Value) (v : PV), css[i]? = some c → l[i]? = some v → VAtP ok w c v) : VAtP ok w (lstC (.slice a l.length c)) (pList l) :=
  .mk (b := []) (t := []) (ks := []) (l := l) css (by unfold in64; omega) (by unfold in64; omega) (Row.nil _ _) ⟨Nat.le_refl _, Nat.zero_le _⟩ (Nat.zero_le _) (Row.nil _ _) ⟨Nat.le_refl _, Nat.zero_le _⟩ (by simp) hr ⟨hl, hc⟩ hcs h6 (by simp) (by simp) ho sub
/-- A map out of a row of keys and a row of values. -/
theorem VAtP.map {ok : Nat → Prop} {w : World} {ak a : Option Addr} {ck c : Nat} {ks : List (List UInt8)} {css : List (List Value)} {l : List PV} (hk : Row w ak (ks.map strV)) (hkl : ks.length ≤ ck) (hkc : ck ≤ maxLen) (hkt : ∀ x ∈ ks, x.length ≤ maxLen) (oks : 0 < ks.length → ok (hd ak).block)
    (hr : Row w a css.flatten) (hl : l.length ≤ c) (hc : c ≤ maxLen) (hcs : css.length = l.length) (h6 : ∀ c ∈ css, c.length = 6)
    (ho : 0 < l.length → ok (hd a).block) (sub : ∀ (i : Nat) (c : List Value) (v : PV), css[i]? = some c → l[i]? = some v → VAtP ok w c v) :
    VAtP ok w [.int .i64 7, .int .i64 0, .slice none 0 0, strV [], .slice ak ks.length ck, .slice a l.length c] (.mk 7 0 [] [] ks l) :=
  .mk (b := []) (t := []) (ks := ks) (l := l) css (by unfold in64; omega) (by unfold in64; omega) (Row.nil _ _) ⟨Nat.le_refl _, Nat.zero_le _⟩ (Nat.zero_le _) hk ⟨hkl, hkc⟩ hkt hr ⟨hl, hc⟩ hcs h6 (by simp) oks ho sub
/-- A value more, out of a row of memory. -/
theorem VsAt.appR {ok ok' : Nat → Prop} {base : Nat} {w : World} {u : Value} {vs : List PV} {c : List Value} {x : PV} {ty : TypeId} {a2 : Option Addr} {c2 : Nat} (h : VsAt ok base w u vs) (hok : ∀ b, ok b → u.ownBlock ≠ some b) (hx : VAtP ok w c x) (hok' : ∀ b, ok b → b < w.heap.size → ok' b)
    (hn : vs.length ≤ 1000000000) (hb : base ≤ w.heap.size) (hrow : Row w a2 c) :
    ∃ a' c' w', (Builtin.append_ #[48, 48] ty #[u, .slice a2 1 c2]).run Tryz.prog w = .ok (.slice a' (vs.length + 1) c') w' ∧ VsAt ok' base w' (.slice a' (vs.length + 1) c') (vs ++ [x]) ∧ Gro w w' u (.slice a' (vs.length + 1) c') := by
  obtain ⟨css, hc1, hc2, hown, hel⟩ := h
  have hl6 := hx.len
  have hsrc : Src Tryz.prog 6 48 (.slice a2 1 c2) 1 c w := Src.ofRow eV.ht _ 1 c2 c (by decide) (by rw [hl6]) hrow hx.one
  obtain ⟨v', w', h1, h2, h3, h4⟩ := append_srcK (ty := ty) eV hown hsrc (by unfold maxLen; omega) (by omega) hb
  obtain ⟨a', c', rfl, _⟩ := owns_rowN h2 (by decide)
  have hG : Gro w w' u (.slice a' (vs.length + 1) c') := ⟨h3, h4⟩
  have keep : ∀ {d : List Value} {y : PV}, VAtP ok w d y → VAtP ok' w' d y := fun hd =>
    (hd.mono (ok' := fun b => ok b ∧ b < w.heap.size) (fun b h1 h2 => ⟨h1, h2⟩)).same (w' := w') (fun b h1 h2 => hG.gr.block b h2 (fun e => hok b h1.1 e.symm)) |>.mono (fun b h1 _ => hok' b h1.1 h1.2)
  refine ⟨a', c', w', h1, ⟨css ++ [c], by simp [hc1], ?_, ?_, ?_⟩, hG⟩
  · intro d hd
    rcases List.mem_append.1 hd with h | h
    · exact hc2 d h
    · simp at h; subst h; exact hl6
  · rw [flat_snoc]; simpa using h2
  · intro i d y hd hy
    rcases Nat.lt_or_ge i css.length with h | h
    · rw [List.getElem?_append_left h] at hd
      rw [List.getElem?_append_left (by omega)] at hy
      exact keep (hel i d y hd hy)
    · rw [List.getElem?_append_right h] at hd
      rw [List.getElem?_append_right (by omega)] at hy
      have hi : i - css.length = 0 := by
        rcases Nat.eq_zero_or_pos (i - css.length) with h0 | h0
        · exact h0
        · rw [List.getElem?_eq_none (by simp; omega)] at hd; cases hd
      rw [hi] at hd
      rw [← hc1, hi] at hy
      simp at hd hy
      subst hd hy
      exact keep hx
theorem ptext_any (t : List UInt8) (w : World) : Calls Tryz.prog 42 #[.string (str t)] w fun e w' => e = .returned (.agg (List.toArray (txtS t))) ∧ Below w.heap.size w w' := by
  have zs := zV_size
  have hO6 := oneC6
  have B3 : Blk (w.alloc (.cells (List.toArray (txtS t)) 50)) w.heap.size 50 (txtS t) := Blk.new _ _ _
  have hb : Below w.heap.size w (w.alloc (.cells (List.toArray (txtS t)) 50)) := (Below.refl _ _).alloc (Nat.le_refl _) _
  go_enter Tryz.func42, Tryz.ntmps42
  go_wp2
  refine bodyPost_ret (results_cell_row (fn := Tryz.f42) (by rfl) _ _ w.heap.size 50 _ (0, 0) _ (by rfl) B3 Tryz.underlying50 rfl sizeV) rfl ⟨rfl, hb⟩
end Go.Proofs.YtpchogicdnfggaaGreatDoor
set_option maxRecDepth 20000
namespace Go.Proofs.YtpchogicdnfggaaGreatDoor
open Go.RowKit Go.Hd

theorem intR_cf (l : List UInt8) : intR 207 l = (leastR 8 4294967296 l).bind fun x r => if 9223372036854775807 < x then .no 4 else .ok (x : Int) r := by
  unfold intR; rw [if_neg (by decide), if_neg (by decide), if_neg (by decide), if_pos rfl]
theorem intR_208 (l : List UInt8) : intR 208 l = signedR 1 (-32) l := by
  unfold intR; rw [if_neg (by decide), if_neg (by decide), if_neg (by decide), if_neg (by decide), if_pos rfl]
theorem intR_209 (l : List UInt8) : intR 209 l = signedR 2 (-128) l := by
  unfold intR; rw [if_neg (by decide), if_neg (by decide), if_neg (by decide), if_neg (by decide), if_neg (by decide), if_pos rfl]
theorem intR_210 (l : List UInt8) : intR 210 l = signedR 4 (-32768) l := by
  unfold intR; rw [if_neg (by decide), if_neg (by decide), if_neg (by decide), if_neg (by decide), if_neg (by decide), if_neg (by decide), if_pos rfl]
theorem intR_211 (l : List UInt8) : intR 211 l = signedR 8 (-2147483648) l := by
  unfold intR; rw [if_neg (by decide), if_neg (by decide), if_neg (by decide), if_neg (by decide), if_neg (by decide), if_neg (by decide), if_neg (by decide)]
end Go.Proofs.YtpchogicdnfggaaGreatDoor
set_option maxRecDepth 20000
namespace Go.Proofs.YtpchogicdnfggaaGreatDoor
open Go.ChangeShapes Go.WideShapes Go.ChangeAt Go.RowKit Go.Hd

def gV (l : List UInt8) : Nat := if 1 ≤ l.length ∧ l.length ≤ 8 then getL l else 0
def gB (l : List UInt8) : Bool := decide (1 ≤ l.length ∧ l.length ≤ 8)
theorem get_all {a : Option Addr} {n c : Nat} {l : List UInt8} {w : World} (hn : n = l.length) (hl : Row w a (l.map b8)) :
    Calls Tryz.prog 98 #[.slice a n c] w fun e w' => e = .returned (.tuple #[.int .u64 (gV l : Int), .bool (gB l)]) ∧ w = w' := by
  by_cases h : 1 ≤ l.length ∧ l.length ≤ 8
  · have e1 : gV l = getL l := if_pos h
    have e2 : gB l = true := decide_eq_true h
    rw [e1, e2]
    exact get_any a n c l w hn hl h.1 h.2
  · have e1 : gV l = 0 := if_neg h
    have e2 : gB l = false := decide_eq_false h
    rw [e1, e2]
    exact get_none a n c w (by omega)
theorem rget_all {a : Option Addr} {n c : Nat} {l : List UInt8} {w : World} (hn : n = l.length) (hl : Row w a (l.map b8)) :
    Calls Tryz.prog 15 #[.slice a n c] w fun e w' => e = .returned (.tuple #[.int .u64 (gV l : Int), .bool (gB l)]) ∧ w = w' := by
  by_cases h : 1 ≤ l.length ∧ l.length ≤ 8
  · have e1 : gV l = getL l := if_pos h
    have e2 : gB l = true := decide_eq_true h
    rw [e1, e2]
    exact rget_any a n c l w hn hl h.1 h.2
  · have e1 : gV l = 0 := if_neg h
    have e2 : gB l = false := decide_eq_false h
    rw [e1, e2]
    exact rget_none a n c w (by omega)
theorem getbig_all {a : Option Addr} {n c : Nat} {l : List UInt8} {w : World} (hn : n = l.length) (hl : Row w a (l.map b8)) :
    Calls Tryz.prog 24 #[.slice a n c] w fun e w' => e = .returned (.tuple #[.int .u64 (gV l.reverse : Int), .bool (gB l)]) ∧ w = w' := by
  by_cases h : 1 ≤ l.length ∧ l.length ≤ 8
  · have e1 : gV l.reverse = getL l.reverse := if_pos (by simpa using h)
    have e2 : gB l = true := decide_eq_true h
    rw [e1, e2]
    exact getbig_any a n c l w hn hl h.1 h.2
  · have e1 : gV l.reverse = 0 := if_neg (by simpa using h)
    have e2 : gB l = false := decide_eq_false h
    rw [e1, e2]
    exact getbig_none a n c w (by omega)

section
variable {H : Type} {enc : TypeId × Value → H} {W : World} {base : Nat} {v0 v1 v2 : Value} {d0 d1 d2 : DataW H} {p0 p1 p2 : List MemPlace}
end
end Go.Proofs.YtpchogicdnfggaaGreatDoor
set_option maxRecDepth 20000
namespace Go.Proofs.YtpchogicdnfggaaGreatDoor
open Go.RowKit Go.Hd
variable {B : Nat}

/-- The reader in block g has l left, and the error e. -/
def RdAt (B : Nat) (w : World) (g : Nat) (l : List UInt8) (e : Int) : Prop :=
  ∃ a c, Blk w g 60 [.slice a l.length c, .int .i64 e, .bool true] ∧ Row w a (l.map b8) ∧ l.length ≤ c ∧ c ≤ maxLen ∧ (0 < l.length → (hd a).block < B)

theorem rd_cells (a : Option Addr) (n c : Nat) (e : Int) (b : Bool) (i : Nat) (m : Int) : [Value.slice a n c, .int .i64 e, .bool b][i]? ≠ some (.int .u8 m) := by
  match i with
  | 0 => simp
  | 1 => simp
  | 2 => simp
  | i + 3 => simp
theorem RdAt.row {w w' : World} {g : Nat} {l : List UInt8} {e : Int} (h : RdAt B w g l e) {a : Option Addr} {m : List UInt8} (hr : Row w a (m.map b8)) (hg : w.grownBy w' (some g)) : Row w' a (m.map b8) := by
  obtain ⟨a0, c, hB, _⟩ := h
  exact Row.grown hr hg (fun hm => Blk.apart hB (rd_cells _ _ _ _ _) hr (by simpa using hm))
/-- A reader stays where another block is written. -/
theorem RdAt.keep {w w' : World} {g : Nat} {l : List UInt8} {e : Int} (h : RdAt B w g l e) (hb : Below w.heap.size w w') : RdAt B w' g l e := by
  obtain ⟨a, c, hB, hr, h1, h2, hk⟩ := h
  refine ⟨a, c, ?_, hr.below hb, h1, h2, hk⟩
  unfold Blk at *
  rw [hb.block g (Array.getElem?_eq_some_iff.1 hB).1]; exact hB
/-- A reader stays where a row of a caller's is written. -/
theorem RdAt.keptOwn {w w' : World} {g : Nat} {l : List UInt8} {e : Int} {r : Option Nat} (h : RdAt B w g l e) (hg : w.grownBy w' r) (hr : ∀ k, r = some k → B ≤ k ∧ k ≠ g) : RdAt B w' g l e := by
  obtain ⟨a, c, hB, hrow, h1, h2, hk⟩ := h
  refine ⟨a, c, ?_, ?_, h1, h2, hk⟩
  · unfold Blk at *
    rw [hg.block g (Array.getElem?_eq_some_iff.1 hB).1 (fun e => (hr g e.symm).2 rfl)]; exact hB
  · refine Row.keptFar hrow hg (fun h0 e => ?_)
    have := hk (by simpa using h0)
    have := (hr _ e).1
    omega

theorem RdAt.lt {w : World} {g : Nat} {l : List UInt8} {e : Int} (h : RdAt B w g l e) : g < w.heap.size := by obtain ⟨a, c, hB, _⟩ := h; exact hB.lt

theorem err_any {w : World} {g : Nat} {l : List UInt8} {e : Int} (h : RdAt B w g l e) :
    Calls Tryz.prog 26 #[.pointer (some ⟨g, 0, none⟩)] w fun r w' => r = .returned (.int .i64 e) ∧ w = w' := by
  obtain ⟨a, c, hB, hr, h1, h2, hk⟩ := h
  have c0 : w.cell? ⟨g, 0, none⟩ = _ := hB.cell rfl
  have c1 : w.cell? ⟨g, 1, none⟩ = _ := hB.cell rfl
  have c2 : w.cell? ⟨g, 2, none⟩ = _ := hB.cell rfl
  go_enter Tryz.func26, Tryz.ntmps26
  go_wp2
  go_ret
  exact ⟨rfl, rfl⟩
theorem left_any {w : World} {g : Nat} {l : List UInt8} {e : Int} (h : RdAt B w g l e) :
    Calls Tryz.prog 12 #[.pointer (some ⟨g, 0, none⟩)] w fun r w' => r = .returned (.int .i64 l.length) ∧ w = w' := by
  obtain ⟨a, c, hB, hr, h1, h2, hk⟩ := h
  have c0 : w.cell? ⟨g, 0, none⟩ = _ := hB.cell rfl
  have c1 : w.cell? ⟨g, 1, none⟩ = _ := hB.cell rfl
  have c2 : w.cell? ⟨g, 2, none⟩ = _ := hB.cell rfl
  go_enter Tryz.func12, Tryz.ntmps12
  go_wp2
  go_ret
  exact ⟨rfl, rfl⟩
/-- The error, or ErrRest. -/
def rdEnd (l : List UInt8) (e : Int) : Int := if e ≠ 0 then e else if 0 < l.length then 6 else 0
theorem end_any {w : World} {g : Nat} {l : List UInt8} {e : Int} (h : RdAt B w g l e) :
    Calls Tryz.prog 47 #[.pointer (some ⟨g, 0, none⟩)] w fun r w' => r = .returned (.int .i64 (rdEnd l e)) ∧ w = w' := by
  have h' := h
  obtain ⟨a, c, hB, hr, h1, h2, hk⟩ := h
  have c0 : w.cell? ⟨g, 0, none⟩ = _ := hB.cell rfl
  have c1 : w.cell? ⟨g, 1, none⟩ = _ := hB.cell rfl
  have c2 : w.cell? ⟨g, 2, none⟩ = _ := hB.cell rfl
  by_cases he : e = 0
  · subst he
    by_cases hl : 0 < l.length
    · have HR : Hid (rdEnd l 0 = 6) := by show _ = _; simp [rdEnd, hl]
      go_enter Tryz.func47, Tryz.ntmps47
      go_wp2_with (go_at_call 26; refine (err_any h').mono ?_; rintro e w' ⟨rfl, rfl⟩)
      go_ret
      exact ⟨ret_int HR.out.symm, rfl⟩
    · have HR : Hid (rdEnd l 0 = 0) := by show _ = _; simp [rdEnd, hl]
      go_enter Tryz.func47, Tryz.ntmps47
      go_wp2_with (go_at_call 26; refine (err_any h').mono ?_; rintro e w' ⟨rfl, rfl⟩)
      go_ret
      exact ⟨ret_int HR.out.symm, rfl⟩
  · have HR : Hid (rdEnd l e = e) := by show _ = _; simp [rdEnd, he]
    have hne : (e != 0) = true := by simp [he]
    go_enter Tryz.func47, Tryz.ntmps47
    go_wp2_with (go_at_call 26; refine (err_any h').mono ?_; rintro e w' ⟨rfl, rfl⟩)
    go_ret
    exact ⟨ret_int HR.out.symm, rfl⟩

/-- What n bytes more are; what is left; the error. -/
def rdGot (l : List UInt8) (e n : Int) : List UInt8 := if e ≠ 0 ∨ n < 0 ∨ (l.length : Int) < n then [] else l.take n.toNat
def rdRest (l : List UInt8) (e n : Int) : List UInt8 := if e ≠ 0 ∨ n < 0 ∨ (l.length : Int) < n then l else l.drop n.toNat
def rdErr (l : List UInt8) (e n : Int) : Int := if e ≠ 0 then e else if n < 0 then 2 else if (l.length : Int) < n then 3 else 0

def rdOk (l : List UInt8) (e n : Int) : Bool := decide (e = 0 ∧ 0 ≤ n ∧ n ≤ l.length)
/-- What take hands back, and leaves behind. -/
def Took (B : Nat) (w : World) (g : Nat) (l : List UInt8) (e n : Int) (r : Ending) (w' : World) : Prop :=
  ∃ a c, r = .returned (.tuple #[.slice a (rdGot l e n).length c, .bool (rdOk l e n)]) ∧ (rdGot l e n).length ≤ c ∧ c ≤ maxLen ∧ Row w' a ((rdGot l e n).map b8) ∧ RdAt B w' g (rdRest l e n) (rdErr l e n) ∧ w.grownBy w' (some g)

theorem take_any {w : World} {g : Nat} {l : List UInt8} {e n : Int} (h : RdAt B w g l e) :
    Calls Tryz.prog 45 #[.pointer (some ⟨g, 0, none⟩), .int .i64 n] w fun r w' => Took B w g l e n r w' := by
  have h' := h
  obtain ⟨a, c, hB, hr, h1, h2, hk⟩ := h
  have c0 : w.cell? ⟨g, 0, none⟩ = _ := hB.cell rfl
  have c1 : w.cell? ⟨g, 1, none⟩ = _ := hB.cell rfl
  have c2 : w.cell? ⟨g, 2, none⟩ = _ := hB.cell rfl
  have f0 := hB.free 0
  have f1 := hB.free 1
  by_cases he : e = 0
  · subst he
    by_cases hn : n < 0
    · have HG : Hid (rdGot l 0 n = [] ∧ rdRest l 0 n = l ∧ rdErr l 0 n = 2 ∧ rdOk l 0 n = false) := by show _ ∧ _; simp [rdGot, rdRest, rdErr, rdOk, hn] <;> omega
      go_enter Tryz.func45, Tryz.ntmps45
      go_wp2_with (go_at_call 26; refine (err_any h').mono ?_; rintro e w' ⟨rfl, rfl⟩)
      go_ret2
      obtain ⟨e1, e2, e3, e4⟩ := HG.out
      have hg : w.grownBy (w.setCell ⟨g, 1, none⟩ (.int .i64 2)) (some g) := grown_set (World.grownBy.refl _ _) _ _
      unfold Took
      rw [e1, e2, e3, e4]
      exact ⟨none, 0, rfl, Nat.le_refl _, Nat.zero_le _, Row.nil _ _, ⟨a, c, hB.set 1 (.int .i64 2), h'.row hr hg, h1, h2, hk⟩, hg⟩
    · by_cases hl : (l.length : Int) < n
      · have HG : Hid (rdGot l 0 n = [] ∧ rdRest l 0 n = l ∧ rdErr l 0 n = 3 ∧ rdOk l 0 n = false) := by show _ ∧ _; simp [rdGot, rdRest, rdErr, rdOk, hl]; omega
        go_enter Tryz.func45, Tryz.ntmps45
        go_wp2_with (go_at_call 26; refine (err_any h').mono ?_; rintro e w' ⟨rfl, rfl⟩)
        go_ret2
        obtain ⟨e1, e2, e3, e4⟩ := HG.out
        have hg : w.grownBy (w.setCell ⟨g, 1, none⟩ (.int .i64 3)) (some g) := grown_set (World.grownBy.refl _ _) _ _
        unfold Took
        rw [e1, e2, e3, e4]
        exact ⟨none, 0, rfl, Nat.le_refl _, Nat.zero_le _, Row.nil _ _, ⟨a, c, hB.set 1 (.int .i64 3), h'.row hr hg, h1, h2, hk⟩, hg⟩
      · obtain ⟨N, rfl⟩ := Int.eq_ofNat_of_zero_le (show 0 ≤ n by omega)
        have hNl : N ≤ l.length := by omega
        have hNc : (N : Int) ≤ c := by omega
        have hNc2 : N ≤ c := by omega
        have HG : Hid (rdGot l 0 N = l.take N ∧ rdRest l 0 N = l.drop N ∧ rdErr l 0 N = 0 ∧ rdOk l 0 N = true) := by show _ ∧ _; simp [rdGot, rdRest, rdErr, rdOk]; omega
        by_cases hcN : c = N
        · subst hcN
          have hln : l.length = c := by omega
          have hd0 : l.length - c = 0 := by omega
          have HL := Lib.hid hln
          clear hln
          go_enter Tryz.func45, Tryz.ntmps45
          go_wp2_with (go_at_call 26; refine (err_any h').mono ?_; rintro e w' ⟨rfl, rfl⟩)
          go_ret2
          obtain ⟨e1, e2, e3, e4⟩ := HG.out
          have hln := HL.out
          have hg : w.grownBy (w.setCell ⟨g, 0, none⟩ (.slice a 0 0)) (some g) := grown_set (World.grownBy.refl _ _) _ _
          unfold Took
          rw [e1, e2, e3, e4]
          refine ⟨a, c, ?_, by simp; omega, h2, ?_, ⟨a, 0, ?_, ?_, by simp; omega, Nat.zero_le _, by simp; omega⟩, hg⟩
          · rw [List.length_take, hln, Nat.min_self]; rfl
          · rw [List.map_take]; exact (h'.row hr hg).take c
          · rw [List.length_drop, hd0]; exact hB.set 0 (.slice a 0 0)
          · rw [List.drop_of_length_le (by omega)]; exact Row.nil _ _
        · go_enter Tryz.func45, Tryz.ntmps45
          go_wp2_with (go_at_call 26; refine (err_any h').mono ?_; rintro e w' ⟨rfl, rfl⟩)
          go_ret2
          obtain ⟨e1, e2, e3, e4⟩ := HG.out
          have hg : w.grownBy (w.setCell ⟨g, 0, none⟩ (.slice (Option.map (fun x => x.add N) a) (l.length - N) (c - N))) (some g) := grown_set (World.grownBy.refl _ _) _ _
          have hr' := h'.row hr hg
          unfold Took
          rw [e1, e2, e3, e4]
          refine ⟨a, N, ?_, by simp; omega, by omega, ?_, ⟨Option.map (fun x => x.add N) a, c - N, ?_, ?_, by simp; omega, by omega, fun h0 => ?_⟩, hg⟩
          · rw [List.length_take, Nat.min_eq_left hNl]; rfl
          · rw [List.map_take]; exact hr'.take N
          · rw [List.length_drop]; exact hB.set 0 _
          · rw [List.map_drop]; exact hr'.drop N
          · have h1' : 0 < l.length := by rw [List.length_drop] at h0; omega
            rw [hd_map_block (hr.byteSome h1')]; exact hk h1'
  · have HG : Hid (rdGot l e n = [] ∧ rdRest l e n = l ∧ rdErr l e n = e ∧ rdOk l e n = false) := by show _ ∧ _; simp [rdGot, rdRest, rdErr, rdOk, he]
    have hne : (e != 0) = true := by simp [he]
    go_enter Tryz.func45, Tryz.ntmps45
    go_wp2_with (go_at_call 26; refine (err_any h').mono ?_; rintro e w' ⟨rfl, rfl⟩)
    go_ret2
    obtain ⟨e1, e2, e3, e4⟩ := HG.out
    unfold Took
    rw [e1, e2, e3, e4]
    exact ⟨none, 0, rfl, Nat.le_refl _, Nat.zero_le _, Row.nil _ _, ⟨a, c, hB, hr, h1, h2, hk⟩, World.grownBy.refl _ _⟩
end Go.Proofs.YtpchogicdnfggaaGreatDoor
set_option maxRecDepth 20000
namespace Go.Proofs.YtpchogicdnfggaaGreatDoor
open Go.RowKit Go.Hd
variable {B : Nat}

theorem open_far {a : Option Addr} {n c : Nat} {l : List UInt8} {w : World} (hn : n = l.length) (hl : Row w a (l.map b8)) (hm : l.length ≤ 140737488355328) :
    Calls Tryz.prog 11 #[.slice a n c] w fun e w' => ∃ g a1 c1, e = .returned (.pointer (some ⟨g, 0, none⟩)) ∧ w.heap.size ≤ g ∧ Blk w' g 60 [.slice a1 l.length c1, .int .i64 0, .bool true] ∧ Row w' a1 (l.map b8) ∧ l.length ≤ c1 ∧ c1 ≤ maxLen ∧
      (0 < l.length → w.heap.size ≤ (hd a1).block ∧ (hd a1).block < w'.heap.size) ∧ Below w.heap.size w w' := by
  subst hn
  go_enter Tryz.func11, Tryz.ntmps11
  go_wp2_with fail
  refine (clone_any a _ c l w rfl hl hm).mono ?_
  rintro e w1 ⟨v, rfl, hF⟩
  have hF1 := hF.1
  obtain ⟨a1, c1, rfl, hr, hb, h1, h2⟩ := hF.open
  go_wp2
  go_ret
  have hb2 := (Below.refl w1.heap.size w1).alloc (Nat.le_refl _) (.cells #[.slice a1 l.length c1, .int .i64 0, .bool true] 60)
  obtain ⟨_, _, hv, _, hm2, _⟩ := owns_row hF1
  refine ⟨w1.heap.size, a1, c1, rfl, hb.size, Blk.new w1 _ _, hr.below hb2, h2, ?_, fun h0 => ⟨?_, ?_⟩, Gr.trans hb hb2⟩
  · cases hv; exact hm2
  · rcases owns_bytes hF1 with ⟨_, h⟩ | ⟨g, c, rest, hv, hg, _⟩
    · subst h; simp at h0
    · cases hv; exact hg
  · have := Row.block_lt hr (by simpa using h0)
    simp; omega
theorem open_any {a : Option Addr} {n c : Nat} {l : List UInt8} {w : World} (hn : n = l.length) (hl : Row w a (l.map b8)) (hm : l.length ≤ 140737488355328) :
    Calls Tryz.prog 11 #[.slice a n c] w fun e w' => ∃ g, e = .returned (.pointer (some ⟨g, 0, none⟩)) ∧ w.heap.size ≤ g ∧ RdAt w'.heap.size w' g l 0 ∧ Below w.heap.size w w' := by
  refine (open_far hn hl hm).mono ?_
  rintro e w1 ⟨g, a1, c1, rfl, h1, h2, h3, h4, h5, h6, h7⟩
  exact ⟨g, rfl, h1, ⟨a1, c1, h2, h3, h4, h5, fun h0 => (h6 h0).2⟩, h7⟩

theorem bytes_any {w : World} {g : Nat} {l : List UInt8} {e n : Int} (h : RdAt B w g l e) (hl : l.length ≤ 140737488355328) :
    Calls Tryz.prog 25 #[.pointer (some ⟨g, 0, none⟩), .int .i64 n] w fun r w' => ∃ v, r = .returned v ∧ w'.ownsRow w.heap.size 5 1 v (rdGot l e n).length ((rdGot l e n).map b8) ∧ RdAt B w' g (rdRest l e n) (rdErr l e n) ∧ w.grownBy w' (some g) := by
  have hgl : (rdGot l e n).length ≤ l.length := by unfold rdGot; split <;> simp; omega
  go_enter Tryz.func25, Tryz.ntmps25
  go_wp2_with fail
  refine (take_any h).mono ?_
  rintro e1 w1 ⟨a, c, rfl, h1, h2, hr, hrd, hg⟩
  go_wp2_with fail
  refine (clone_any a _ c _ w1 rfl hr (by omega)).mono ?_
  rintro e2 w2 ⟨v, rfl, ho, hb⟩
  go_wp2
  go_ret
  exact ⟨v, rfl, ownsRow_mono ho hg.size, hrd.keep hb, grownBy_trans hg (grownBy_below hb)⟩

theorem text_any {w : World} {g : Nat} {l : List UInt8} {e n : Int} (h : RdAt B w g l e) :
    Calls Tryz.prog 99 #[.pointer (some ⟨g, 0, none⟩), .int .i64 n] w fun r w' => r = .returned (.string (str (rdGot l e n))) ∧ RdAt B w' g (rdRest l e n) (rdErr l e n) ∧ w.grownBy w' (some g) := by
  go_enter Tryz.func99, Tryz.ntmps99
  go_wp2_with fail
  refine (take_any h).mono ?_
  rintro e1 w1 ⟨a, c, rfl, h1, h2, hr, hrd, hg⟩
  have hcv := run_convert_row (P := Tryz.prog) (src := 22) (e := 5) (dst := 9) (c := c) eB.ht Tryz.underlying5 Tryz.underlying9 rfl hr
  go_wp2
  go_ret
  exact ⟨rfl, hrd, hg⟩

/-- Num asks ErrArg first. -/
def numE (e n : Int) : Int := if e = 0 ∧ (n < 1 ∨ 8 < n) then 2 else e
theorem num_any {w : World} {g : Nat} {l : List UInt8} {e n : Int} (h : RdAt B w g l e) :
    Calls Tryz.prog 70 #[.pointer (some ⟨g, 0, none⟩), .int .i64 n] w fun r w' => r = .returned (.int .u64 (gV (rdGot l (numE e n) n) : Int)) ∧ RdAt B w' g (rdRest l (numE e n) n) (rdErr l (numE e n) n) ∧ w.grownBy w' (some g) := by
  have h' := h
  obtain ⟨a, c, hB, hr, h1, h2, hk⟩ := h
  have c1 : w.cell? ⟨g, 1, none⟩ = _ := hB.cell rfl
  have f1 := hB.free 1
  by_cases hc : e = 0 ∧ (n < 1 ∨ 8 < n)
  · have hE : numE e n = 2 := if_pos hc
    rw [hE]
    clear hE
    obtain ⟨rfl, hn⟩ := hc
    have hg1 : w.grownBy (w.setCell ⟨g, 1, none⟩ (.int .i64 2)) (some g) := grown_set (World.grownBy.refl _ _) _ _
    have h2' : RdAt B (w.setCell ⟨g, 1, none⟩ (.int .i64 2)) g l 2 := ⟨a, c, hB.set 1 (.int .i64 2), h'.row hr hg1, h1, h2, hk⟩
    rcases hn with hn | hn
    · go_enter Tryz.func70, Tryz.ntmps70
      go_wp2_with fail
      refine (err_any h').mono ?_
      rintro e1 w1 ⟨rfl, rfl⟩
      go_wp2_with fail
      refine (take_any h2').mono ?_
      rintro e1 w1 ⟨a1, c1, rfl, _, _, hr1, hrd, hg⟩
      go_wp2_with fail
      refine (get_all rfl hr1).mono ?_
      rintro e1 w2 ⟨rfl, rfl⟩
      go_wp2
      go_ret
      exact ⟨rfl, hrd, grownBy_trans hg1 hg⟩
    · have hn1 : ¬ n < 1 := by omega
      go_enter Tryz.func70, Tryz.ntmps70
      go_wp2_with fail
      refine (err_any h').mono ?_
      rintro e1 w1 ⟨rfl, rfl⟩
      go_wp2_with fail
      refine (take_any h2').mono ?_
      rintro e1 w1 ⟨a1, c1, rfl, _, _, hr1, hrd, hg⟩
      go_wp2_with fail
      refine (get_all rfl hr1).mono ?_
      rintro e1 w2 ⟨rfl, rfl⟩
      go_wp2
      go_ret
      exact ⟨rfl, hrd, grownBy_trans hg1 hg⟩
  · have hE : numE e n = e := if_neg hc
    rw [hE]
    clear hE
    by_cases he : e = 0
    · subst he
      have hn1 : ¬ n < 1 := fun h => hc ⟨rfl, .inl h⟩
      have hn8 : ¬ 8 < n := fun h => hc ⟨rfl, .inr h⟩
      clear hc
      go_enter Tryz.func70, Tryz.ntmps70
      go_wp2_with fail
      refine (err_any h').mono ?_
      rintro e1 w1 ⟨rfl, rfl⟩
      go_wp2_with fail
      refine (take_any h').mono ?_
      rintro e1 w1 ⟨a1, c1, rfl, _, _, hr1, hrd, hg⟩
      go_wp2_with fail
      refine (get_all rfl hr1).mono ?_
      rintro e1 w2 ⟨rfl, rfl⟩
      go_wp2
      go_ret
      exact ⟨rfl, hrd, hg⟩
    · have hne : (e == 0) = false := by simp [he]
      clear hc he
      go_enter Tryz.func70, Tryz.ntmps70
      go_wp2_with fail
      refine (err_any h').mono ?_
      rintro e1 w1 ⟨rfl, rfl⟩
      go_wp2_with fail
      refine (take_any h').mono ?_
      rintro e1 w1 ⟨a1, c1, rfl, _, _, hr1, hrd, hg⟩
      go_wp2_with fail
      refine (get_all rfl hr1).mono ?_
      rintro e1 w2 ⟨rfl, rfl⟩
      go_wp2
      go_ret
      exact ⟨rfl, hrd, hg⟩

end Go.Proofs.YtpchogicdnfggaaGreatDoor
set_option maxRecDepth 20000
namespace Go.Proofs.YtpchogicdnfggaaGreatDoor
open Go.RowKit Go.Hd

/-- A state as the document has it, and the reader's own: bytes left, error, bad. -/
def PRst {α : Type} (s : Rs α) (l : List UInt8) (e : Int) (bad : Bool) : Prop := match s with
  | .ok _ r => l = r ∧ e = 0 ∧ bad = false
  | .no c => (bad = true ∧ c = 4) ∨ (bad = false ∧ e = c ∧ c ≠ 0)
def PRs {α : Type} (B : Nat) (w : World) (gr g : Nat) (s : Rs α) : Prop := ∃ l e bad, Blk w gr 96 [.pointer (some ⟨g, 0, none⟩), .bool bad] ∧ RdAt B w g l e ∧ PRst s l e bad ∧ l.length ≤ 65536 ∧ gr ≠ g
/-- What reading may change: the reader's two blocks. -/
structure Dk (gr g : Nat) (w w' : World) : Prop where
  os : w'.os = w.os
  tape : w'.tape = w.tape
  output : w'.output = w.output
  size : w.heap.size ≤ w'.heap.size
  block : ∀ k, k < w.heap.size → k ≠ gr → k ≠ g → w'.heap[k]? = w.heap[k]?
theorem Dk.refl (gr g : Nat) (w : World) : Dk gr g w w := ⟨rfl, rfl, rfl, Nat.le_refl _, fun _ _ _ _ => rfl⟩
theorem Dk.trans {gr g : Nat} {a b c : World} (h : Dk gr g a b) (k : Dk gr g b c) : Dk gr g a c :=
  ⟨k.os.trans h.os, k.tape.trans h.tape, k.output.trans h.output, Nat.le_trans h.size k.size, fun i hi h1 h2 => (k.block i (Nat.lt_of_lt_of_le hi h.size) h1 h2).trans (h.block i hi h1 h2)⟩
theorem Dk.ofBelow {gr g : Nat} {a b : World} (h : Below a.heap.size a b) : Dk gr g a b := ⟨h.os, h.tape, h.output, h.size, fun i hi _ _ => h.block i hi⟩
theorem Dk.ofGrown {gr g q : Nat} {a b : World} (h : a.grownBy b (some q)) (hq : q = gr ∨ q = g) : Dk gr g a b := ⟨h.os, h.tape, h.output, h.size, fun i hi h1 h2 => h.block i hi (by simp; omega)⟩
theorem Dk.below {gr g base : Nat} {a b : World} (h : Dk gr g a b) (hb : base ≤ a.heap.size) (h1 : base ≤ gr) (h2 : base ≤ g) : Below base a b := ⟨h.os, h.tape, h.output, h.size, fun i hi => h.block i (by omega) (by omega) (by omega)⟩
theorem Dk.drew {gr g : Nat} {a b : World} (h : Dk gr g a.drew b) : Dk gr g a b := ⟨h.os, h.tape, h.output, h.size, h.block⟩
theorem PRs.keep {α : Type} {B gr g : Nat} {w w' : World} {s : Rs α} (h : PRs B w gr g s) (hb : Below w.heap.size w w') : PRs B w' gr g s := by
  obtain ⟨l, e, bad, h1, h2, h3, h4, h5⟩ := h
  exact ⟨l, e, bad, h1.below hb, h2.keep hb, h3, h4, h5⟩
/-- The reader stays where other memory is written. -/
theorem PRs.far {α : Type} {B gr g : Nat} {w w' : World} {s : Rs α} (h : PRs B w gr g s) {r : Option Nat} (hg : w.grownBy w' r) (hr : ∀ k, r = some k → B ≤ k ∧ k ≠ g ∧ k ≠ gr) : PRs B w' gr g s := by
  obtain ⟨l, e, bad, h1, h2, h3, h4, h5⟩ := h
  exact ⟨l, e, bad, h1.keptBy hg (fun e => (hr gr e).2.2 rfl), h2.keptOwn hg (fun k hk => ⟨(hr k hk).1, (hr k hk).2.1⟩), h3, h4, h5⟩
theorem PRs.lt {α : Type} {B gr g : Nat} {w : World} {s : Rs α} (h : PRs B w gr g s) : gr < w.heap.size ∧ g < w.heap.size := by
  obtain ⟨l, e, bad, h1, h2, _⟩ := h
  exact ⟨h1.lt, h2.lt⟩
theorem PRs.ptr {α : Type} {B gr g : Nat} {w : World} {s : Rs α} (h : PRs B w gr g s) : w.cell? ⟨gr, 0, none⟩ = some (.pointer (some ⟨g, 0, none⟩)) := by
  obtain ⟨l, e, bad, h1, _⟩ := h; exact h1.cell rfl
theorem PRs.cast {α β : Type} {B gr g : Nat} {w : World} {s : Rs α} {s' : Rs β} (h : PRs B w gr g s) (hs : ∀ l e bad, PRst s l e bad → PRst s' l e bad) : PRs B w gr g s' := by
  obtain ⟨l, e, bad, h1, h2, h3, h4, h5⟩ := h
  exact ⟨l, e, bad, h1, h2, hs _ _ _ h3, h4, h5⟩
/-- The field is set: the reader is bad. -/
theorem PRs.bad {α β : Type} {B gr g : Nat} {w : World} {s : Rs α} (h : PRs B w gr g s) : PRs B (w.setCell ⟨gr, 1, none⟩ (.bool true)) gr g (.no 4 : Rs β) ∧ Dk gr g w (w.setCell ⟨gr, 1, none⟩ (.bool true)) ∧ w.frozen? ⟨gr, 1, none⟩ = false ∧ (∃ z, w.cell? ⟨gr, 1, none⟩ = some (.bool z)) := by
  obtain ⟨l, e, bad, h1, h2, h3, h4, h5⟩ := h
  have hg : w.grownBy (w.setCell ⟨gr, 1, none⟩ (.bool true)) (some gr) := grown_set (World.grownBy.refl _ _) _ _
  refine ⟨⟨l, e, true, h1.set 1 (.bool true), ?_, .inl ⟨rfl, rfl⟩, h4, h5⟩, Dk.ofGrown hg (.inl rfl), h1.free 1, bad, h1.cell rfl⟩
  obtain ⟨a, c, k1, k2, k3, k4, k5⟩ := h2
  refine ⟨a, c, k1.grown hg (Ne.symm h5), Row.grown k2 hg (fun h0 => ?_), k3, k4, k5⟩
  refine Blk.apart h1 (fun i n => ?_) k2 (by simpa using h0)
  match i with
  | 0 => simp
  | 1 => simp
  | i + 2 => simp
theorem took_st {α : Type} {s : Rs α} {l : List UInt8} {e : Int} {bad : Bool} (n : Nat) (h : PRst s l e bad) : PRst (s.bind fun _ r => takeR n r) (rdRest l e n) (rdErr l e n) bad ∧ (∀ b r, (s.bind fun _ r => takeR n r) = .ok b r → rdGot l e n = b) ∧ (rdRest l e n).length ≤ l.length ∧ (rdGot l e n).length ≤ n ∧ (∀ c, (s.bind fun _ r => takeR n r) = .no c → c = 4 ∨ rdGot l e n = []) := by
  have hlen : (rdRest l e n).length ≤ l.length := by unfold rdRest; split <;> simp
  have hgl : (rdGot l e n).length ≤ n := by unfold rdGot; split <;> simp; omega
  cases s with
  | ok x r =>
    obtain ⟨rfl, rfl, rfl⟩ := h
    refine ⟨?_, ?_, hlen, hgl, fun c hc => .inr ?_⟩
    · show PRst (takeR n l) _ _ _
      unfold takeR
      by_cases hl : l.length < n
      · have e1 : rdRest l 0 n = l := by unfold rdRest; rw [if_pos (by omega)]
        have e2 : rdErr l 0 n = 3 := by unfold rdErr; rw [if_neg (by simp), if_neg (by omega), if_pos (by omega)]
        rw [if_pos hl, e1, e2]
        exact .inr ⟨rfl, rfl, by decide⟩
      · have e1 : rdRest l 0 n = l.drop n := by unfold rdRest; rw [if_neg (by omega), Int.toNat_natCast]
        have e2 : rdErr l 0 n = 0 := by unfold rdErr; rw [if_neg (by simp), if_neg (by omega), if_neg (by omega)]
        rw [if_neg hl, e1, e2]
        exact ⟨rfl, rfl, rfl⟩
    · intro b r hb
      have hb : takeR n l = .ok b r := hb
      unfold takeR at hb
      split at hb
      · cases hb
      · rename_i hl
        cases hb
        unfold rdGot
        rw [if_neg (by simp; omega)]; simp
    · have hc : takeR n l = .no c := hc
      unfold takeR at hc
      split at hc
      · rename_i hl
        unfold rdGot
        rw [if_pos (by omega)]
      · cases hc
  | no c =>
    rcases h with ⟨rfl, rfl⟩ | ⟨rfl, rfl, hc⟩
    · exact ⟨.inl ⟨rfl, rfl⟩, (fun b r hb => by cases hb), hlen, hgl, fun c hc => by cases hc; exact .inl rfl⟩
    · refine ⟨.inr ⟨rfl, ?_, hc⟩, (fun b r hb => by cases hb), hlen, hgl, fun c _ => .inr ?_⟩
      · unfold rdErr
        rw [if_pos hc]
      · unfold rdGot
        rw [if_pos (.inl hc)]

theorem Rs.isNo_ok {α : Type} (x : α) (r : List UInt8) : (Rs.ok x r).isNo = false := rfl
theorem Rs.isNo_no {α : Type} (c : Int) : (Rs.no c : Rs α).isNo = true := rfl
theorem failed_any {α : Type} {B gr g : Nat} {w : World} {s : Rs α} (h : PRs B w gr g s) :
    Calls Tryz.prog 71 #[.pointer (some ⟨gr, 0, none⟩)] w fun e w' => e = .returned (.bool s.isNo) ∧ w = w' := by
  obtain ⟨l, e, bad, h1, h2, h3, h4, h5⟩ := h
  have c0 : w.cell? ⟨gr, 0, none⟩ = some (.pointer (some ⟨g, 0, none⟩)) := h1.cell rfl
  have c1 : w.cell? ⟨gr, 1, none⟩ = some (.bool bad) := h1.cell rfl
  have he := err_any h2
  cases bad with
  | true =>
    have HB : Hid (s.isNo = true) := by
      cases s with
      | ok x r => obtain ⟨_, _, h⟩ := h3; cases h
      | no c => rfl
    go_enter Tryz.func71, Tryz.ntmps71
    go_wp2
    go_ret
    exact ⟨by rw [HB.out]; rfl, rfl⟩
  | false =>
    cases s with
    | ok x r =>
      obtain ⟨rfl, rfl, _⟩ := h3
      go_enter Tryz.func71, Tryz.ntmps71
      go_wp2_with fail
      refine he.mono ?_
      rintro e w' ⟨rfl, rfl⟩
      go_wp2
      go_ret
      exact ⟨rfl, rfl⟩
    | no c =>
      rcases h3 with ⟨h, _⟩ | ⟨_, rfl, hc⟩
      · cases h
      · have hne : (e != 0) = true := by simpa using hc
        go_enter Tryz.func71, Tryz.ntmps71
        go_wp2_with fail
        refine he.mono ?_
        rintro e w' ⟨rfl, rfl⟩
        go_wp2
        go_ret
        exact ⟨rfl, rfl⟩
/-- What a reading of a number answers. -/
def NumP (B gr g : Nat) (w : World) (lim : Nat) (R : Rs Nat) (e : Ending) (w' : World) : Prop :=
  ∃ x : Nat, e = .returned (.int .u64 (x : Int)) ∧ x < lim ∧ (∀ x0 r, R = .ok x0 r → x = x0) ∧ (∀ c, R = .no c → c = 4 ∨ x = 0) ∧ PRs B w' gr g R ∧ Dk gr g w w'
theorem getL_lim {l : List UInt8} {n : Nat} (h : l.length ≤ n) (_h8 : n ≤ 8) : getL l.reverse < 256 ^ n := by
  have h1 := getL_lt l.reverse
  rw [List.length_reverse] at h1
  exact Nat.lt_of_lt_of_le h1 (Nat.pow_le_pow_right (by decide) h)
set_option maxHeartbeats 1000000 in
theorem rdbig_any {α : Type} {B gr g n : Nat} {w : World} {s : Rs α} (h : PRs B w gr g s) (h1n : 1 ≤ n) (h8 : n ≤ 8) :
    Calls Tryz.prog 76 #[.pointer (some ⟨gr, 0, none⟩), .int .i64 (n : Int)] w (NumP B gr g w (256 ^ n) (s.bind fun _ r => bigR n r)) := by
  have c0 := h.ptr
  obtain ⟨l, e, bad, h1, h2, h3, h4, h5⟩ := h
  obtain ⟨t1, t2, t3, t4, t5⟩ := took_st n h3
  have hby := bytes_any (n := (n : Int)) h2 (by omega)
  have HR : Hid ((s.bind fun _ r => bigR n r) = (s.bind fun _ r => takeR n r).bind fun b r => .ok (getL b.reverse) r) := by
    show _ = _
    cases s <;> rfl
  generalize rdGot l e n = G at *
  generalize rdRest l e n = r1 at *
  generalize rdErr l e n = e1 at *
  generalize (s.bind fun _ r => takeR n r) = T at *
  generalize (s.bind fun _ r => bigR n r) = R at *
  have HL := Lib.hid t4
  have HN := Lib.hid (And.intro h1n h8)
  clear t4 h1n h8
  go_enter Tryz.func76, Tryz.ntmps76
  go_wp2_with fail
  refine hby.mono ?_
  rintro ee w1 ⟨v, rfl, hown, hrd, hg⟩
  obtain ⟨a, c, rfl, hc, hm, hr, _⟩ := Own.at (E := 5) hown
  have hB1 := h1.grown hg h5
  have hP : PRs B w1 gr g T := ⟨_, _, _, hB1, hrd, t1, by omega, h5⟩
  have hk : Dk gr g w w1 := Dk.ofGrown hg (.inr rfl)
  by_cases h0 : G.length < 1
  · have hgb := getbig_none a G.length c w1 (.inl h0)
    go_wp2_with fail
    refine hgb.mono ?_
    rintro ee w2 ⟨rfl, rfl⟩
    go_wp2
    go_ret
    refine ⟨0, rfl, Nat.pow_pos (by decide), fun x0 r hx => ?_, fun _ _ => .inr rfl, ?_, hk⟩
    · rw [HR.out] at hx
      cases hT : T with
      | ok b r' =>
        rw [hT] at hx
        cases hx
        have := t2 _ _ hT
        subst this
        have : G = [] := List.eq_nil_of_length_eq_zero (by omega)
        rw [this]; rfl
      | no c => rw [hT] at hx; cases hx
    · rw [HR.out]
      refine hP.cast (fun l e bad hh => ?_)
      cases T <;> exact hh
  · have hgb := getbig_any a G.length c G w1 rfl hr (by omega) (Nat.le_trans HL.out HN.out.2)
    go_wp2_with fail
    refine hgb.mono ?_
    rintro ee w2 ⟨rfl, rfl⟩
    go_wp2
    go_ret
    refine ⟨_, rfl, getL_lim HL.out HN.out.2, fun x0 r hx => ?_, fun c hc => ?_, ?_, hk⟩
    · rw [HR.out] at hx
      cases hT : T with
      | ok b r' =>
        rw [hT] at hx
        cases hx
        rw [t2 _ _ hT]
      | no c => rw [hT] at hx; cases hx
    · rw [HR.out] at hc
      cases hT : T with
      | ok b r' => rw [hT] at hc; cases hc
      | no c' =>
        rw [hT] at hc
        cases hc
        rcases t5 _ hT with h | h
        · exact .inl h
        · rw [h] at h0; simp at h0
    · rw [HR.out]
      refine hP.cast (fun l e bad hh => ?_)
      cases T <;> exact hh
end Go.Proofs.YtpchogicdnfggaaGreatDoor
