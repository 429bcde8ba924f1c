/- Joined: what one statement of this layer stands on, part 15 of 20; nothing is assumed. -/
import Derived.BigQuiet
import Derived.Deep.CutBlock
import Derived.Deep.DeepCutAuto
import Derived.Deep.RegionHeld3
import Derived.Deep.RegionLaw
import Derived.Test.YtpchogicdnfggaaDoorKS14
set_option maxRecDepth 20000
namespace Go.Proofs.YtpchogicdnfggaaDoor
open Go.RowKit Go.Hd
/-- An item, none of it too long. -/
def cutI (x : Itm) : Itm := { x with path := x.path.take 250, target := x.target.take 250, parts := x.parts.take 70 }
/-- One element of s cells put behind a row of the call's own. -/
theorem own_appS {t ty e : TypeId} {z : Value} {s bytes : Nat} (E : Elem Tryd.prog t e z s bytes) (hs : 0 < s) {w : World} {base : Nat} {v : Value} {n : Nat} {xs : List Value} (hown : w.ownsRow base e s v n xs)
    (cs : List Value) (hc : cs.length = s) (h1 : ∀ u ∈ cs, u.oneCell' = true) (h63 : n + 1 ≤ maxLen) (hbytes : (n + 1) * bytes ≤ 140737488355328) (hbase : base ≤ w.heap.size) :
    ∃ a' c' w', (Builtin.append_ #[t, t] ty #[v, .slice (some ⟨w.heap.size, 0, none⟩) 1 1]).run Tryd.prog (w.alloc (.cells cs.toArray e)) = .ok (.slice a' (n + 1) c') w' ∧ w'.ownsRow base e s (.slice a' (n + 1) c') (n + 1) (xs ++ cs) ∧ Gro w w' v (.slice a' (n + 1) c') := by
  have hsrc : Src Tryd.prog s t (.slice (some ⟨w.heap.size, 0, none⟩) 1 1) 1 cs (w.alloc (.cells cs.toArray e)) :=
    Src.ofRow E.ht _ 1 1 cs hs (by simpa using hc) (by simpa using (Blk.new w e cs.toArray).row) h1
  obtain ⟨v', w', h1, h2, h3, h4⟩ := append_srcK (ty := ty) E (hown.alloc _) hsrc h63 hbytes (by simp; omega)
  obtain ⟨a', c', rfl, _⟩ := owns_rowN h2 hs
  have hb0 : Below w.heap.size w (w.alloc (.cells cs.toArray e)) := (Below.refl _ _).alloc (Nat.le_refl _) _
  exact ⟨a', c', w', h1, h2, (Gro.ofBelow hb0).trans ⟨h3, h4⟩⟩
theorem prtC_one (p : Prt) : ∀ u ∈ prtC p, u.oneCell' = true := by
  intro u hu
  rcases List.mem_append.1 hu with h | h
  · exact bytes_one _ _ h
  · simp at h; subst h; rfl
theorem Gro.blkB {w w' : World} {v u : Value} {q base : Nat} {T : TypeId} {xs : List Value} (h : Gro w w' v u) (hb : Blk w q T xs) (hv : ∀ k, v.ownBlock = some k → base ≤ k) (hq : q < base) : Blk w' q T xs :=
  (h.blk hb (fun e => by have := hv _ e; omega)).1
/-- An item's cells, its parts in blocks of this kind. -/
def ItP (ok : Nat → Prop) (w : World) (cs : List Value) (x : Itm) : Prop := ∃ a c, cs = itC x a c ∧ x.parts.length ≤ c ∧ c ≤ maxLen ∧ Row w a (x.parts.map prtC).flatten ∧ ItmOk x ∧ (0 < x.parts.length → ok (hd a).block)
theorem ItP.at {ok : Nat → Prop} {w : World} {cs : List Value} {x : Itm} (h : ItP ok w cs x) : ItAt w cs x := by
  obtain ⟨a, c, h1, h2, h3, h4, h5, _⟩ := h
  exact ⟨a, c, h1, h2, h3, h4, h5⟩
theorem ItP.below {ok : Nat → Prop} {w w' : World} {cs : List Value} {x : Itm} (h : ItP ok w cs x) (hb : Below w.heap.size w w') : ItP ok w' cs x := by
  obtain ⟨a, c, h1, h2, h3, h4, h5, h6⟩ := h
  exact ⟨a, c, h1, h2, h3, h4.below hb, h5, h6⟩
theorem ItP.mono {ok ok' : Nat → Prop} {w : World} {cs : List Value} {x : Itm} (h : ItP ok w cs x) (hk : ∀ b, ok b → b < w.heap.size → ok' b) : ItP ok' w cs x := by
  obtain ⟨a, c, h1, h2, h3, h4, h5, h6⟩ := h
  refine ⟨a, c, h1, h2, h3, h4, h5, fun h0 => hk _ (h6 h0) (h4.block_lt ?_)⟩
  rw [flatten_len (s := 33) (prts33I h5.parts), List.length_map]; omega
theorem ItP.kept {ok : Nat → Prop} {w w' : World} {cs : List Value} {x : Itm} {r : Option Nat} (h : ItP ok w cs x) (hg : w.grownBy w' r) (hr : ∀ b, ok b → r ≠ some b) : ItP ok w' cs x := by
  obtain ⟨a, c, h1, h2, h3, h4, h5, h6⟩ := h
  refine ⟨a, c, h1, h2, h3, h4.keptFar hg (fun h0 => hr _ (h6 ?_)), h5, h6⟩
  rw [flatten_len (s := 33) (prts33I h5.parts), List.length_map] at h0; omega
/-- Items in a row of the call's own. -/
def ItsO (base : Nat) (w : World) (v : Value) (l : List Itm) : Prop := ∃ css : List (List Value), css.length = l.length ∧ w.ownsRow base 24 7 v l.length css.flatten ∧ (∀ c ∈ css, c.length = 7) ∧ ∀ (i : Nat) (c : List Value) (x : Itm), css[i]? = some c → l[i]? = some x → ItP (fun b => base ≤ b ∧ v.ownBlock ≠ some b) w c x
theorem ItsO.nil (base : Nat) (w : World) : ItsO base w (.slice none 0 0) [] := ⟨[], rfl, World.ownsRow_nil _ _ _ _, by simp, by simp⟩
theorem ItsO.below {base : Nat} {w w' : World} {v : Value} {l : List Itm} (h : ItsO base w v l) (hb : Below w.heap.size w w') : ItsO base w' v l := by
  obtain ⟨css, h1, h2, h3, h4⟩ := h
  exact ⟨css, h1, ownsRow_below h2 hb, h3, fun i c x hc hx => (h4 i c x hc hx).below hb⟩
theorem ItsO.at {base : Nat} {w : World} {v : Value} {l : List Itm} (h : ItsO base w v l) : ∃ a c, v = .slice a l.length c ∧ l.length ≤ c ∧ c ≤ maxLen ∧ ItsAt w a l := by
  obtain ⟨css, h1, h2, h3, h4⟩ := h
  obtain ⟨a, c, rfl, k1, k2, k3, k4⟩ := owns_rowN h2 (by decide)
  exact ⟨a, c, rfl, k1, k2, css, h1, k3, h3, fun i c x hc hx => (h4 i c x hc hx).at⟩
theorem ItsO.lo {base : Nat} {w : World} {v : Value} {l : List Itm} (h : ItsO base w v l) : ∀ k, v.ownBlock = some k → base ≤ k ∧ k < w.heap.size := by
  obtain ⟨css, h1, h2, h3, h4⟩ := h
  exact fun k hk => ⟨own_lt h2 k hk, own_old h2 k hk⟩
theorem eIT7 : Elem Tryd.prog 39 24 (.agg zIT) 7 88 := eIT
theorem ItsO.app {base : Nat} {w : World} {v : Value} {l : List Itm} {ds : List Value} {x : Itm} (h : ItsO base w v l) (hx : ItP (fun b => base ≤ b ∧ v.ownBlock ≠ some b) w ds x) (hl : l.length ≤ 1000000) (hb : base ≤ w.heap.size) :
    ∃ a' c' w', (Builtin.append_ #[39, 39] 39 #[v, .slice (some ⟨w.heap.size, 0, none⟩) 1 1]).run Tryd.prog (w.alloc (.cells ds.toArray 24)) = .ok (.slice a' (l.length + 1) c') w' ∧ ItsO base w' (.slice a' (l.length + 1) c') (l ++ [x]) ∧ Gro w w' v (.slice a' (l.length + 1) c') := by
  obtain ⟨css, h1, h2, h3, h4⟩ := h
  obtain ⟨a', c', w', r1, r2, r3⟩ := own_appS (ty := 39) eIT7 (by decide) h2 ds hx.at.len hx.at.one (by unfold maxLen; omega) (by omega) hb
  have hup : ∀ {cs : List Value} {y : Itm}, ItP (fun b => base ≤ b ∧ v.ownBlock ≠ some b) w cs y → ItP (fun b => base ≤ b ∧ (Value.slice a' (l.length + 1) c').ownBlock ≠ some b) w' cs y := fun {cs y} hy =>
    (hy.mono (ok' := fun b => (base ≤ b ∧ (Value.slice a' (l.length + 1) c').ownBlock ≠ some b) ∧ v.ownBlock ≠ some b) (fun b hk hlt => ⟨⟨hk.1, fun e => by
      rcases r3.own b e with h | h
      · exact hk.2 h
      · omega⟩, hk.2⟩)).kept r3.gr (fun b hk => hk.2) |>.mono (fun b hk _ => hk.1)
  refine ⟨a', c', w', r1, ⟨css ++ [ds], by simp [h1], ?_, ?_, ?_⟩, r3⟩
  · rw [List.length_append, List.flatten_append]; simpa using r2
  · intro c hc
    rcases List.mem_append.1 hc with h | h
    · exact h3 c h
    · simp at h; subst h; exact hx.at.len
  · intro i c y hc hy
    by_cases hi : i < l.length
    · rw [List.getElem?_append_left (by omega)] at hc
      rw [List.getElem?_append_left hi] at hy
      exact hup (h4 i c y hc hy)
    · rw [List.getElem?_append_right (by omega)] at hc
      rw [List.getElem?_append_right (by omega)] at hy
      rw [h1] at hc
      match hk : i - l.length with
      | 0 => rw [hk] at hc hy; simp at hc hy; subst hc hy; exact hup hx
      | k + 1 => rw [hk] at hc; simp at hc
/-- The loop of Cut: j parts have been taken over. -/
def CutR (w : World) (x : Itm) (X : List Value) (j : Nat) (a' : Option Addr) (c' : Nat) (wr : World) : Prop :=
  Blk wr (w.heap.size + 1 + 1) 24 [.string (str (x.path.take 250)), .int .i64 x.kind, .int .i64 x.mode, .int .i64 x.time, .string (str (x.target.take 250)), .int .i64 x.size, .slice a' j c'] ∧ Blk wr w.heap.size 24 X ∧ Blk wr (w.heap.size + 1) 24 zIT.toList ∧ Below w.heap.size w wr ∧ wr.ownsRow (w.heap.size + 3) 65 33 (.slice a' j c') j ((x.parts.take j).map prtC).flatten ∧ w.heap.size + 3 ≤ wr.heap.size
theorem st_rowI {w : World} {q : Nat} {T : TypeId} {old : List Value} (h : Blk w q T old) (ho : old.length = 7) : ∀ cs : Array Value, cs.size = 7 → OneC cs → (stoOp 24 (.pointer (some ⟨q, 0, none⟩)) (.agg cs)).run Tryd.prog w = .ok () (w.setRow q cs) := by
  intro cs h6 h1
  unfold stoOp
  simp only [Instr.storeAt, Instr.sureAddr, Sem.run_bind, Sem.run_pure, Result.andThen]
  rw [run_storeVar_row w q T 24 old.toArray cs h (by rw [h6]; exact sizeIT) (by simp [ho, h6]) h1]
attribute [local go_sem ↓] h_ldPA h_bsPA h_ldIT h_stIT h_alIT
attribute [local go_sem] r_ldIT r_stIT r_alIT r_bsPA
set_option maxHeartbeats 4000000 in
theorem rcut_any {cs : List Value} {x : Itm} {w : World} (h : ItAt w cs x) : Calls Tryd.prog 9 #[.agg (List.toArray cs)] w fun e w' => ∃ ds, e = .returned (.agg (List.toArray ds)) ∧ ItP (fun b => w.heap.size ≤ b) w' ds (cutI x) ∧ Below w.heap.size w w' := by
  obtain ⟨a, c, rfl, p1, p2, hr, hok⟩ := h
  have h7 : (List.toArray (itC x a c)).size = 7 := rfl
  have hone : OneC (List.toArray (itC x a c)) := all_oneCell_toArray (ItAt.one (w := w) ⟨a, c, rfl, p1, p2, hr, hok⟩)
  have zs := zIT_size
  obtain ⟨X, hX⟩ : ∃ X, X = itC x a c := ⟨_, rfl⟩
  have hall : Hid (∀ W, W = ((w.alloc (.cells (List.toArray X) 24)).alloc (.cells zIT 24)).alloc (.cells (List.toArray X) 24) → Blk W w.heap.size 24 X ∧ Blk W (w.heap.size + 1) 24 zIT.toList ∧ Blk W (w.heap.size + 1 + 1) 24 X ∧ Below w.heap.size w W ∧ W.heap.size = w.heap.size + 3) := by
    rintro W rfl
    refine ⟨?_, ?_, ?_, (((Below.refl _ _).alloc (Nat.le_refl _) _).alloc (by simp) _).alloc (by simp; omega) _, by simp⟩
    · simpa using ((Blk.new w 24 (List.toArray X)).alloc (.cells zIT 24)).alloc (.cells (List.toArray X) 24)
    · have := (Blk.new (w.alloc (.cells (List.toArray X) 24)) 24 zIT).alloc (.cells (List.toArray X) 24)
      simpa using this
    · have := Blk.new ((w.alloc (.cells (List.toArray X) 24)).alloc (.cells zIT 24)) 24 (List.toArray X)
      simpa using this
  have hld : ∀ {w'}, Blk w' w.heap.size 24 X → (ldOp 24 (.pointer (some ⟨w.heap.size, 0, none⟩))).run Tryd.prog w' = .ok (.agg (List.toArray X)) w' := fun {w'} hb => ldOp_all (P := Tryd.prog) (ty := 24) hb Tryd.underlying24 rfl (by rw [hX]; exact sizeIT)
  have q0 := hld (w' := (w.alloc (.cells (List.toArray X) 24)).alloc (.cells zIT 24)) (by simpa using (Blk.new w 24 (List.toArray X)).alloc (.cells zIT 24))
  rw [← hX] at h7 hone ⊢
  have HX := Lib.hid hX
  clear hX
  go_enter Tryd.func9, Tryd.ntmps9
  go_upto_region 2 with (fail)
  generalize hW : ((w.alloc (.cells (List.toArray X) 24)).alloc (.cells zIT 24)).alloc (.cells (List.toArray X) 24) = W at *
  obtain ⟨A0, R0, B0, hb0, S0⟩ := hall.out W rfl
  clear hall hW q0
  have HXc : ∀ {w' q}, Blk w' q 24 X → w'.cell? ⟨q, 0, none⟩ = some (.string (str x.path)) ∧ w'.cell? ⟨q, 4, none⟩ = some (.string (str x.target)) := fun {w' q} hb => by
    rw [HX.out] at hb
    exact ⟨hb.cell rfl, hb.cell rfl⟩
  obtain ⟨a0, a4⟩ := HXc A0
  obtain ⟨b0, b4⟩ := HXc B0
  have hsh := fun (l : List UInt8) (w' : World) => short_any l 250 w' (by decide)
  have hgr : ∀ (W' : World) (i : Nat) (v : Value), Blk W' w.heap.size 24 X → Blk W' (w.heap.size + 1) 24 zIT.toList → Below w.heap.size w W' → Blk (W'.setCell ⟨w.heap.size + 1 + 1, i, none⟩ v) w.heap.size 24 X ∧ Blk (W'.setCell ⟨w.heap.size + 1 + 1, i, none⟩ v) (w.heap.size + 1) 24 zIT.toList ∧ Below w.heap.size w (W'.setCell ⟨w.heap.size + 1 + 1, i, none⟩ v) := fun W' i v h1 h2 h3 => by
    have hg := grown_set (⟨rfl, rfl, rfl, Nat.le_refl _, fun _ _ _ => rfl⟩ : W'.grownBy W' (some (w.heap.size + 1 + 1))) i v
    exact ⟨h1.grown hg (by omega), h2.grown hg (by omega), Below.grown h3 hg h3.size (fun k hk => by cases hk; omega)⟩
  obtain ⟨A1, R1, hb1⟩ := hgr W 0 (.string (str (x.path.take 250))) A0 R0 hb0
  obtain ⟨A3, R3, hb3⟩ := hgr _ 4 (.string (str (x.target.take 250))) A1 R1 hb1
  have B1 := B0.set 0 (.string (str (x.path.take 250)))
  have B3 := B1.set 4 (.string (str (x.target.take 250)))
  have f0 := B0.free 0
  have f4 := B1.free 4
  obtain ⟨c0, c4⟩ := HXc A1
  have HN : Hid (Blk ((W.setCell ⟨w.heap.size + 1 + 1, 0, none⟩ (.string (str (x.path.take 250)))).setCell ⟨w.heap.size + 1 + 1, 4, none⟩ (.string (str (x.target.take 250)))) (w.heap.size + 1 + 1) 24 ((X.set 0 (.string (str (x.path.take 250)))).set 4 (.string (str (x.target.take 250)))) ∧ Blk ((W.setCell ⟨w.heap.size + 1 + 1, 0, none⟩ (.string (str (x.path.take 250)))).setCell ⟨w.heap.size + 1 + 1, 4, none⟩ (.string (str (x.target.take 250)))) w.heap.size 24 X ∧ Blk ((W.setCell ⟨w.heap.size + 1 + 1, 0, none⟩ (.string (str (x.path.take 250)))).setCell ⟨w.heap.size + 1 + 1, 4, none⟩ (.string (str (x.target.take 250)))) (w.heap.size + 1) 24 zIT.toList ∧ Below w.heap.size w ((W.setCell ⟨w.heap.size + 1 + 1, 0, none⟩ (.string (str (x.path.take 250)))).setCell ⟨w.heap.size + 1 + 1, 4, none⟩ (.string (str (x.target.take 250))))) := ⟨B3, A3, R3, hb3⟩
  clear A0 R0 B0 A1 R1 B1 A3 R3 B3 hb1 hb3 hgr
  go_cut [] (fun wx => Blk wx (w.heap.size + 1 + 1) 24 ((X.set 0 (.string (str (x.path.take 250)))).set 4 (.string (str (x.target.take 250)))) ∧ Blk wx w.heap.size 24 X ∧ Blk wx (w.heap.size + 1) 24 zIT.toList ∧ Below w.heap.size w wx)
  case first =>
    go_wp2
    go_region_law ((first | (go_simp; go_at_call 24; refine (hsh _ _).mono ?_; rintro e wq ⟨rfl, rfl⟩)))
    all_goals
      go_wp2
      go_meet
      exact ⟨HN.out.1.drewN 1, HN.out.2.1.drewN 1, HN.out.2.2.1.drewN 1, Below.drewN HN.out.2.2.2 1⟩
  case rest =>
    clear HN a0 a4 b0 b4 f0 f4 c0 c4
    obtain ⟨Y0, A0, R0, hb0⟩ := hcut
    have hITR : ∀ {w' : World}, w'.heap.size = w'.heap.size := rfl
    have eY : (X.set 0 (.string (str (x.path.take 250)))).set 4 (.string (str (x.target.take 250))) = [.string (str (x.path.take 250)), .int .i64 x.kind, .int .i64 x.mode, .int .i64 x.time, .string (str (x.target.take 250)), .int .i64 x.size, .slice a x.parts.length c] := by rw [HX.out]; rfl
    rw [eY] at Y0
    have HA6 : ∀ {w'}, Blk w' w.heap.size 24 X → w'.cell? ⟨w.heap.size, 6, none⟩ = some (.slice a x.parts.length c) := fun {w'} hb => by
      rw [HX.out] at hb
      exact hb.cell rfl
    have y6 := Y0.free 6
    have z6 : wc.cell? ⟨w.heap.size + 1 + 1, 6, none⟩ = some (.slice a x.parts.length c) := Y0.cell rfl
    have hset := fun (W' : World) (v : Value) (h1 : Blk W' w.heap.size 24 X) (h2 : Blk W' (w.heap.size + 1) 24 zIT.toList) (h3 : Below w.heap.size w W') => (show Blk (W'.setCell ⟨w.heap.size + 1 + 1, 6, none⟩ v) w.heap.size 24 X ∧ Blk (W'.setCell ⟨w.heap.size + 1 + 1, 6, none⟩ v) (w.heap.size + 1) 24 zIT.toList ∧ Below w.heap.size w (W'.setCell ⟨w.heap.size + 1 + 1, 6, none⟩ v) from by
      have hg := grown_set (⟨rfl, rfl, rfl, Nat.le_refl _, fun _ _ _ => rfl⟩ : W'.grownBy W' (some (w.heap.size + 1 + 1))) 6 v
      exact ⟨h1.grown hg (by omega), h2.grown hg (by omega), Below.grown h3 hg h3.size (fun k hk => by cases hk; omega)⟩)
    have Y1 := Y0.set 6 (.slice none 0 0)
    obtain ⟨A1, R1, hb1⟩ := hset wc (.slice none 0 0) A0 R0 hb0
    have hI0 : Hid (CutR w x X 0 none 0 (wc.setCell ⟨w.heap.size + 1 + 1, 6, none⟩ (.slice none 0 0))) := by
      show CutR _ _ _ _ _ _ _
      exact ⟨Y1, A1, R1, hb1, World.ownsRow_nil _ _ _ _, by have := Y1.lt; omega⟩
    clear Y0 A0 R0 hb0 eY Y1 A1 R1 hb1 hITR
    go_wp2
    go_loopw [4] (fun i wr => ∃ (j : Nat) (a' : Option Addr) (c' : Nat), j ≤ x.parts.length ∧ j ≤ 70 ∧ i = .int .i64 j ∧ Hid (CutR w x X j a' c' wr)) (fun i _ => x.parts.length - (intOf i).toNat)
    case atStart => exact ⟨0, none, 0, Nat.zero_le _, Nat.zero_le _, rfl, hI0⟩
    case round =>
      clear hI0
      obtain ⟨j, a', c', hj, hj70, rfl, hI⟩ := hrel
      obtain ⟨Y, A, R, hb, hO, hsz⟩ := hI.out
      have a6 := HA6 A
      have y6 : wr.cell? ⟨w.heap.size + 1 + 1, 6, none⟩ = some (.slice a' j c') := Y.cell rfl
      have j0 : (0 : Int) ≤ (j : Int) := by omega
      have jb : IntKind.i64.wrap ((j : Int) + 1) = (j : Int) + 1 := IntWalk.i64_in _ (by omega)
      by_cases hlt : j < x.parts.length ∧ j < 70
      · have j1 : (j : Int) < (x.parts.length : Int) := by omega
        have j2 : (j : Int) < 70 := by omega
        have hpo := hok.parts _ (List.getElem_mem hlt.1)
        have hr2 := hr.below hb
        have s1 := hr2.elemSome (s := 33) (prts33I hok.parts) (by decide) (i := j) (by simpa using hlt.1)
        have q1 := ldOp_at (P := Tryd.prog) (ty := 65) (hr2.elem (s := 33) (prts33I hok.parts) (i := j) (c := prtC x.parts[j]) (by simp [hlt.1])) Tryd.underlying65 rfl (by rw [prtC_len hpo]; exact sizePA)
        have hT : Hid (((x.parts.take (j + 1)).map prtC).flatten = ((x.parts.take j).map prtC).flatten ++ prtC x.parts[j]) := by
          show _ = _
          rw [List.take_succ_eq_append_getElem hlt.1, List.map_append, List.flatten_append]; congr 1; simp
        have p33 : (List.toArray (prtC x.parts[j])).size = 33 := by simpa using prtC_len hpo
        obtain ⟨a2, c2, w2, happ, hO2, hG2⟩ := own_appS (ty := 22) ePA (by decide) hO (prtC x.parts[j]) (prtC_len hpo) (prtC_one _) (by unfold maxLen; omega) (by omega) hsz
        have hlo := own_lt hO
        have Y2 := hG2.blkB Y hlo (by omega)
        have A2 := hG2.blkB A hlo (by omega)
        have R2 := hG2.blkB R hlo (by omega)
        have hb2 := hb.trans (hG2.below hlo (old := w.heap.size) (by omega) (by omega))
        have fz := Y2.free 6
        have z6 : w2.cell? ⟨w.heap.size + 1 + 1, 6, none⟩ = some (.slice a' j c') := Y2.cell rfl
        have Y3 := Y2.set 6 (.slice a2 (j + 1) c2)
        obtain ⟨A3, R3, hb3⟩ := hset w2 (.slice a2 (j + 1) c2) A2 R2 hb2
        have hO3 := ownsRow_setCell_other hO2 (a := ⟨w.heap.size + 1 + 1, 6, none⟩) (fun e => by have := own_lt hO2 _ e; simp at this; omega) (.slice a2 (j + 1) c2)
        have hnext : Hid (CutR w x X (j + 1) a2 c2 (w2.setCell ⟨w.heap.size + 1 + 1, 6, none⟩ (.slice a2 (j + 1) c2))) := by
          show CutR _ _ _ _ _ _ _
          exact ⟨Y3, A3, R3, hb3, by rw [hT.out]; exact hO3, by have := hG2.size; simp; omega⟩
        generalize prtC x.parts[j] = E at *
        clear Y Y2 Y3 A A2 A3 R R2 R3 hb hb2 hb3 hO hO2 hO3 hT hI hr2 hpo
        go_wp2_with (at_builtin; refine wpList_append_run happ rfl rfl rfl rfl ?_)
        first
          | exact ⟨⟨j + 1, a2, c2, by omega, by omega, (by first | rfl | go_num | (congr 1; omega)), hnext⟩, by simp [intOf] <;> omega⟩
          | (refine ⟨?_, by simp [intOf] <;> omega⟩; (repeat apply Exists.intro); exact ⟨⟨j + 1, a2, c2, by omega, by omega, (by first | rfl | go_num | (congr 1; omega)), hnext⟩, rfl⟩)
      · have hfin : Hid (j = (x.parts.take 70).length ∧ x.parts.take j = x.parts.take 70) := by
          have e : j = (x.parts.take 70).length := by simp; omega
          refine ⟨e, ?_⟩
          by_cases h : x.parts.length ≤ 70
          · rw [List.take_of_length_le (l := x.parts) h, List.take_of_length_le]; omega
          · have : j = 70 := by omega
            rw [this]
        have hxo : ItmOk (cutI x) := ⟨hok.kind, hok.mode, hok.time, hok.size, by have := hok.path; show (x.path.take 250).length ≤ _; simp; omega, by have := hok.target; show (x.target.take 250).length ≤ _; simp; omega, fun p hp => hok.parts p (List.mem_of_mem_take hp)⟩
        obtain ⟨Z, hZ⟩ : ∃ Z : List Value, Z = [.string (str (x.path.take 250)), .int .i64 x.kind, .int .i64 x.mode, .int .i64 x.time, .string (str (x.target.take 250)), .int .i64 x.size, .slice a' j c'] := ⟨_, rfl⟩
        rw [← hZ] at Y
        have hZ7 : (List.toArray Z).size = 7 := by rw [hZ]; rfl
        have hZo : OneC (List.toArray Z) := all_oneCell_toArray (by rw [hZ]; intro u hu; simp at hu; rcases hu with rfl | rfl | rfl | rfl | rfl | rfl | rfl <;> rfl)
        have Z1 := ldOp_all (P := Tryd.prog) (ty := 24) Y Tryd.underlying24 rfl (by rw [hZ]; exact sizeIT)
        have hst := st_rowI R (by rfl) (List.toArray Z) hZ7 hZo
        have HB2 := setRow_blk R Z
        have HG2 := setRow_gr wr (w.heap.size + 1) (List.toArray Z)
        have HV : Hid (ItP (fun b => w.heap.size ≤ b) (wr.setRow (w.heap.size + 1) (List.toArray Z)) Z (cutI x) ∧ Below w.heap.size w (wr.setRow (w.heap.size + 1) (List.toArray Z))) := by
          obtain ⟨a9, c9, e9, k1, k2, k3, k4⟩ := owns_rowN hO (by decide)
          simp only [Value.slice.injEq] at e9
          obtain ⟨rfl, _, rfl⟩ := e9
          refine ⟨⟨a', c', ?_, ?_, k2, ?_, hxo, fun h0 => ?_⟩, Below.grown hb HG2 hb.size (fun k hk => by cases hk; omega)⟩
          · rw [hZ]; unfold itC strV cutI
            rw [hfin.out.1]
          · show (x.parts.take 70).length ≤ _
            rw [← hfin.out.1]; exact k1
          · show Row _ _ ((x.parts.take 70).map prtC).flatten
            rw [← hfin.out.2]
            exact k3.keptFar HG2 (fun h0 e => by
              have h1 := (k4 h0).2.1
              simp at e
              omega)
          · have h1 := (k4 (by
              rw [hfin.out.2]
              show 0 < ((cutI x).parts.map prtC).flatten.length
              rw [flatten_len (s := 33) (prts33I hxo.parts), List.length_map]
              have : 0 < (x.parts.take 70).length := h0
              omega)).2.1
            omega
        clear Y A R hO hI hfin hxo hb HG2 hr hZ hZo
        by_cases hj1 : j < x.parts.length
        · have j1 : (j : Int) < (x.parts.length : Int) := by omega
          have j2 : ¬ (j : Int) < 70 := by omega
          go_wp2
          exact bodyPost_ret (results_cell_row (fn := Tryd.f9) (by rfl) _ _ (w.heap.size + 1) 24 _ (0, 0) _ (by rfl) HB2 Tryd.underlying24 rfl (by rw [hZ7]; exact sizeIT)) rfl ⟨Z, rfl, HV.out⟩
        · have j1 : ¬ (j : Int) < (x.parts.length : Int) := by omega
          go_wp2
          exact bodyPost_ret (results_cell_row (fn := Tryd.f9) (by rfl) _ _ (w.heap.size + 1) 24 _ (0, 0) _ (by rfl) HB2 Tryd.underlying24 rfl (by rw [hZ7]; exact sizeIT)) rfl ⟨Z, rfl, HV.out⟩
end Go.Proofs.YtpchogicdnfggaaDoor
set_option maxRecDepth 20000
namespace Go.Proofs.YtpchogicdnfggaaDoor
open Go.RowKit Go.Hd
def fewIt (l : List Itm) (m : Nat) : List Itm := (l.take m).map cutI
theorem fewIt_len {l : List Itm} {j : Nat} (h : j ≤ l.length) : (fewIt l j).length = j := by unfold fewIt; simp; omega
attribute [local go_sem ↓] h_ldIT h_stIT h_alIT h_bsIT
attribute [local go_sem] r_ldIT r_stIT r_alIT r_bsIT
set_option maxHeartbeats 2000000 in
theorem fewI_any {a : Option Addr} {n c m : Nat} {l : List Itm} {w : World} (hn : n = l.length) (hI : ItsAt w a l) (hl : l.length ≤ maxLen) (hm : m ≤ 1000) :
    Calls Tryd.prog 17 #[.slice a n c, .int .i64 (m : Int)] w fun e w' => ∃ u, e = .returned u ∧ ItsO w.heap.size w' u (fewIt l m) ∧ Below w.heap.size w w' := by
  subst hn
  have HI := Lib.hid hI
  clear hI
  go_enter Tryd.func17, Tryd.ntmps17
  go_wp2
  go_loopw [5, 6] (fun u i wr => ∃ j : Nat, j ≤ l.length ∧ j ≤ m ∧ i = .int .i64 j ∧ Hid (ItsO w.heap.size wr u (fewIt l j)) ∧ Hid (Below w.heap.size w wr)) (fun _ i _ => l.length - (intOf i).toNat)
  case atStart => exact ⟨0, Nat.zero_le _, Nat.zero_le _, rfl, Lib.hid (ItsO.nil _ _), Lib.hid (Below.refl _ _)⟩
  case round =>
    obtain ⟨j, hj, hjm, rfl, hO, hb⟩ := hrel
    have j0 : (0 : Int) ≤ (j : Int) := by omega
    have jb : IntKind.i64.wrap ((j : Int) + 1) = (j : Int) + 1 := IntWalk.i64_in _ (by omega)
    by_cases hlt : j < l.length ∧ j < m
    · have j1 : (j : Int) < (l.length : Int) := by omega
      have j2 : (j : Int) < (m : Int) := by omega
      obtain ⟨cs, c7, hIt, s1, hcl⟩ := (HI.out.below hb.out).get hlt.1
      have q1 := ldOp_at (P := Tryd.prog) (ty := 24) (cs := cs) hcl Tryd.underlying24 rfl (by rw [c7]; exact sizeIT)
      have hT : Hid (fewIt l (j + 1) = fewIt l j ++ [cutI l[j]]) := by show _ = _; unfold fewIt; rw [List.take_succ_eq_append_getElem hlt.1, List.map_append]; rfl
      generalize l[j] = x at *
      clear hcl
      go_wp2_with fail
      refine (rcut_any hIt).mono ?_
      rintro e w2 ⟨ds, rfl, hD, hb2⟩
      have hlo := hO.out.lo
      have hO2 := hO.out.below hb2
      have hsz := hb2.size
      have hbs := hb.out.size
      obtain ⟨a', c', w3, happ, hO3, hG3⟩ := hO2.app (hD.mono (fun b hk hlt2 => ⟨by omega, fun e => by have := (hlo _ e).2; omega⟩)) (by rw [fewIt_len hj]; omega) (by omega)
      rw [fewIt_len hj] at happ hO3 hG3
      have hb3 := Lib.hid ((hb.out.trans (hb2.mono hbs)).trans (hG3.below (base := w.heap.size) (old := w.heap.size) (fun k hk => (hO2.lo k hk).1) (Nat.le_refl _) (by omega)))
      have hO4 : Hid (ItsO w.heap.size w3 (.slice a' (j + 1) c') (fewIt l (j + 1))) := by show ItsO _ _ _ _; rw [hT.out]; exact hO3
      have x7 : (List.toArray ds).size = 7 := hD.at.len
      clear hO2 hO3 hG3 hD hO hb hb2 hT hIt q1
      go_wp2_with (at_builtin; refine wpList_append_run happ rfl rfl rfl rfl ?_)
      first
        | exact ⟨⟨j + 1, by omega, by omega, (by first | rfl | go_num | (congr 1; omega)), hO4, hb3⟩, by simp [intOf] <;> omega⟩
        | (refine ⟨?_, by simp [intOf] <;> omega⟩; (repeat apply Exists.intro); exact ⟨⟨j + 1, by omega, by omega, (by first | rfl | go_num | (congr 1; omega)), hO4, hb3⟩, rfl⟩)
    · have hf : Hid (ItsO w.heap.size wr u5 (fewIt l m) ∧ Below w.heap.size w wr) := by
        refine ⟨?_, hb.out⟩
        have h := hO.out
        have e : l.take j = l.take m := by
          by_cases h : l.length ≤ m
          · rw [List.take_of_length_le h, List.take_of_length_le]; omega
          · have : j = m := by omega
            rw [this]
        unfold fewIt at h ⊢
        rw [e] at h; exact h
      clear hO hb
      by_cases hj1 : j < l.length
      · have j1 : (j : Int) < (l.length : Int) := by omega
        have j2 : ¬ (j : Int) < (m : Int) := by omega
        go_wp2
        go_ret
        exact ⟨_, rfl, hf.out⟩
      · have j1 : ¬ (j : Int) < (l.length : Int) := by omega
        go_wp2
        go_ret
        exact ⟨_, rfl, hf.out⟩
end Go.Proofs.YtpchogicdnfggaaDoor
set_option maxRecDepth 20000
namespace Go.Proofs.YtpchogicdnfggaaDoor
open Go.RowKit Go.Hd
theorem cell_field {w : World} {a : Addr} {i j : Nat} {v : Value} (h : w.cell? (a.add (i + j)) = some v) : w.cell? ⟨(a.add i).block, (a.add i).off + j, none⟩ = some v := by
  unfold World.cell? Addr.add at *
  by_cases hi : i = 0 <;> by_cases hj : j = 0 <;> simp [hi, hj, Nat.add_assoc] at h ⊢
  · cases hb : w.heap[a.block]? with
    | none => rw [hb] at h; cases h
    | some o =>
      rw [hb] at h
      cases o with
      | cells c e f =>
        simp only at h ⊢
        split at h
        · cases h
        · exact h
      | _ => cases h
  all_goals exact h
end Go.Proofs.YtpchogicdnfggaaDoor
set_option maxRecDepth 20000
namespace Go.Proofs.YtpchogicdnfggaaDoor
open Go.RowKit Go.Hd
section
variable (ρ : Operand → Value) (dst : Option Tmp) (ty : TypeId) (pos : String) (after : Array Edge) (guard : Option (Nat × Bool))
theorem h_bsLVn (n : Nat) (parts : Array (Nat × Operand)) : execOp ρ { dst, op := .buildSlice 28 n parts, type := ty, pos, after, guard } = (do pure (.value (← bsOp 28 n (parts.map fun (i, x) => (i, ρ x))))) := rfl
end
attribute [local go_sem ↓] h_ldV h_stV h_alV h_ldIT h_bsLVn
attribute [local go_sem] r_ldV r_stV r_alV r_bsV1
theorem checkI_kind (x : Itm) (h : checkI x = 0) : x.kind = 1 ∨ x.kind = 2 ∨ x.kind = 3 := by
  by_cases h1 : x.kind = 1
  · exact .inl h1
  · by_cases h2 : x.kind = 2
    · exact .inr (.inl h2)
    · by_cases h3 : x.kind = 3
      · exact .inr (.inr h3)
      · exfalso
        unfold checkI at h
        have hf : fitsF x = false := by unfold fitsF; rw [if_neg h1, if_neg h2, if_neg h3]
        rw [hf] at h
        by_cases h0 : checkF x.path ≠ 0
        · rw [if_pos h0] at h; exact h0 h
        · rw [if_neg h0] at h
          split at h <;> simp at h
end Go.Proofs.YtpchogicdnfggaaDoor
set_option maxRecDepth 20000
namespace Go.Proofs.YtpchogicdnfggaaDoor
open Go.RowKit Go.Hd
theorem normV_kind (v : PV) : (normV v).kind = v.kind := by
  cases v with
  | mk k n b t ks l =>
    rw [normV_mk]
    by_cases h3 : k = 3
    · rw [if_pos h3]; exact h3.symm
    by_cases h4 : k = 4
    · rw [if_neg h3, if_pos h4]; exact h4.symm
    by_cases h5 : k = 5
    · rw [if_neg h3, if_neg h4, if_pos h5]; exact h5.symm
    by_cases h6 : k = 6
    · rw [if_neg h3, if_neg h4, if_neg h5, if_pos h6]; exact h6.symm
    by_cases h7 : k = 7
    · rw [if_neg h3, if_neg h4, if_neg h5, if_neg h6, if_pos h7]; exact h7.symm
    rw [if_neg h3, if_neg h4, if_neg h5, if_neg h6, if_neg h7]; rfl
theorem normV_3 {v : PV} (h : v.kind = 3) : normV v = pNum v.int := by
  cases v with
  | mk k n b t ks l => have h' : k = 3 := h; subst h'; rw [normV_mk, if_pos rfl]; rfl
theorem normV_4 {v : PV} (h : v.kind = 4) : normV v = pByt v.bytes := by
  cases v with
  | mk k n b t ks l => have h' : k = 4 := h; subst h'; rw [normV_mk, if_neg (by decide), if_pos rfl]; rfl
theorem normV_5 {v : PV} (h : v.kind = 5) : normV v = pTxt v.text := by
  cases v with
  | mk k n b t ks l => have h' : k = 5 := h; subst h'; rw [normV_mk, if_neg (by decide), if_neg (by decide), if_pos rfl]; rfl
theorem normV_6 {v : PV} (h : v.kind = 6) : normV v = pList (normL v.list) := by
  cases v with
  | mk k n b t ks l => have h' : k = 6 := h; subst h'; rw [normV_mk, if_neg (by decide), if_neg (by decide), if_neg (by decide), if_pos rfl]; rfl
theorem normV_7 {v : PV} (h : v.kind = 7) : normV v = .mk 7 0 [] [] v.keys (normL v.list) := by
  cases v with
  | mk k n b t ks l => have h' : k = 7 := h; subst h'; rw [normV_mk, if_neg (by decide), if_neg (by decide), if_neg (by decide), if_neg (by decide), if_pos rfl]; rfl
theorem is_num {v : PV} {n : Int} (h : normV v = pNum n) : v.kind = 3 ∧ v.int = n := by
  have hk : v.kind = 3 := by rw [← normV_kind, h]; rfl
  rw [normV_3 hk] at h
  exact ⟨hk, congrArg PV.int h⟩
theorem is_byt {v : PV} {b : List UInt8} (h : normV v = pByt b) : v.kind = 4 ∧ v.bytes = b := by
  have hk : v.kind = 4 := by rw [← normV_kind, h]; rfl
  rw [normV_4 hk] at h
  exact ⟨hk, congrArg PV.bytes h⟩
theorem is_txt {v : PV} {t : List UInt8} (h : normV v = pTxt t) : v.kind = 5 ∧ v.text = t := by
  have hk : v.kind = 5 := by rw [← normV_kind, h]; rfl
  rw [normV_5 hk] at h
  exact ⟨hk, congrArg PV.text h⟩
theorem is_lst {v : PV} {l : List PV} (h : normV v = pList l) : v.kind = 6 ∧ normL v.list = l := by
  have hk : v.kind = 6 := by rw [← normV_kind, h]; rfl
  rw [normV_6 hk] at h
  exact ⟨hk, congrArg PV.list h⟩
theorem normV_num (n : Int) : normV (pNum n) = pNum n := normV_3 rfl
theorem normV_byt (n : List UInt8) : normV (pByt n) = pByt n := normV_4 rfl
theorem normV_txt (n : List UInt8) : normV (pTxt n) = pTxt n := normV_5 rfl
theorem normV_lst (l : List PV) : normV (pList l) = pList (normL l) := normV_6 rfl
theorem normL_nil : normL [] = [] := by rw [normL]
theorem normL_cons (x : PV) (l : List PV) : normL (x :: l) = normV x :: normL l := by rw [normL]
theorem normV_pt (p : Prt) : normV (ptV p) = ptV p := by
  unfold ptV
  rw [normV_lst, normL_cons, normL_cons, normL_nil, normV_byt, normV_num]
theorem normL_pts : ∀ l : List Prt, normL (l.map ptV) = l.map ptV
  | [] => normL_nil
  | p :: l => by rw [List.map_cons, normL_cons, normV_pt, normL_pts l]
theorem getV_norm (v : PV) (key : List UInt8) : getV v key = normV (fldV v key) := by
  have h0 : normV pv0 = pv0 := by unfold pv0; rw [normV_mk]; rfl
  unfold getV fldV
  by_cases h : v.kind = 7
  · rw [if_pos h, if_pos h]
    cases findK v.keys v.list key with
    | none => exact h0.symm
    | some x => rfl
  · rw [if_neg h, if_neg h, h0]
def z32 : List UInt8 := List.replicate 32 0
/-- A part, as the document reads it. -/
def refP (v : PV) : Prt := match v.list with
  | [a, b] => if a.bytes.length = 32 then ⟨a.bytes, b.int⟩ else ⟨z32, 0⟩
  | _ => ⟨z32, 0⟩
/-- A part, as the program reads it. -/
def partV (v : PV) : Option Prt := if v.kind = 6 then (match v.list with
  | [a, b] => if a.kind = 4 ∧ a.bytes.length = 32 ∧ b.kind = 3 then some ⟨a.bytes, b.int⟩ else none
  | _ => none) else none
theorem refP_id (v : PV) : (refP v).id.length = 32 := by
  unfold refP
  split
  · split
    · assumption
    · simp [z32]
  · simp [z32]
theorem partV_id {v : PV} {p : Prt} (h : partV v = some p) : p.id.length = 32 := by
  unfold partV at h
  split at h
  · split at h
    · split at h
      · rename_i h1; cases h; exact h1.2.1
      · cases h
    · cases h
  · cases h
theorem refP_pt {a : PV} {p : Prt} (h : normV a = ptV p) (hp : p.id.length = 32) : refP a = p := by
  obtain ⟨_, h2⟩ := is_lst h
  have hl : a.list.length = 2 := by rw [← normL_len, h2]; rfl
  unfold refP
  generalize a.list = l at *
  match l, hl, h2 with
  | [x, y], _, h2 =>
    rw [normL_cons, normL_cons, normL_nil] at h2
    obtain ⟨e1, e2⟩ := List.cons.inj h2
    obtain ⟨e2, _⟩ := List.cons.inj e2
    have h3 := (is_byt e1).2
    have h4 := (is_num e2).2
    simp only [h3, h4, if_pos hp]
theorem refP_pts : ∀ {l : List PV} {ps : List Prt}, normL l = ps.map ptV → (∀ p ∈ ps, p.id.length = 32) → l.map refP = ps
  | [], [], _, _ => rfl
  | [], p :: ps, h, _ => by rw [normL_nil] at h; cases h
  | a :: l, [], h, _ => by rw [normL_cons] at h; cases h
  | a :: l, p :: ps, h, hp => by
    rw [normL_cons, List.map_cons] at h
    obtain ⟨e1, e2⟩ := List.cons.inj h
    rw [List.map_cons, refP_pt e1 (hp p (List.mem_cons_self ..)), refP_pts e2 (fun q hq => hp q (List.mem_cons_of_mem _ hq))]
theorem partV_pt {p : Prt} (hp : p.id.length = 32) : partV (ptV p) = some p := by
  have hk : (ptV p).kind = 6 := rfl
  have hl : (ptV p).list = [pByt p.id, pNum p.size] := rfl
  unfold partV
  rw [if_pos hk, hl]
  have h4 : (pByt p.id).kind = 4 ∧ (pByt p.id).bytes.length = 32 ∧ (pNum p.size).kind = 3 := ⟨rfl, hp, rfl⟩
  show (if (pByt p.id).kind = 4 ∧ (pByt p.id).bytes.length = 32 ∧ (pNum p.size).kind = 3 then some (Prt.mk (pByt p.id).bytes (pNum p.size).int) else none) = some p
  rw [if_pos h4]; rfl
theorem partV_pts : ∀ {ps : List Prt}, (∀ p ∈ ps, p.id.length = 32) → (ps.map ptV).filterMap partV = ps ∧ (ps.map ptV).all (fun v => (partV v).isSome) = true
  | [], _ => ⟨rfl, rfl⟩
  | p :: ps, hp => by
    obtain ⟨h1, h2⟩ := partV_pts (ps := ps) (fun q hq => hp q (List.mem_cons_of_mem _ hq))
    have h3 := partV_pt (hp p (List.mem_cons_self ..))
    refine ⟨?_, ?_⟩
    · rw [List.map_cons, List.filterMap_cons, h3]; simp only [h1]
    · rw [List.map_cons, List.all_cons, h2, h3]; rfl
/-- What stands under a key, if it is of a kind. -/
def getR (v : PV) (key : List UInt8) (kind : Int) : PV := if (getV v key).kind = kind then getV v key else pv0
def refX (v : PV) : Itm where
  path := (fldV v [112]).text
  kind := (fldV v [107]).int
  mode := (fldV v [109]).int
  time := (fldV v [116]).int
  target := if (fldV v [107]).int = 3 then (fldV v [108]).text else []
  size := if (fldV v [107]).int = 1 then (fldV v [115]).int else 0
  parts := if (fldV v [107]).int = 1 then ((fldV v [99]).list.take 65).map refP else []
def progX (v : PV) : Itm where
  path := (getR v [112] 5).text
  kind := (getR v [107] 3).int
  mode := (getR v [109] 3).int
  time := (getR v [116] 3).int
  target := if (getR v [107] 3).int = 3 then (getR v [108] 5).text else []
  size := if (getR v [107] 3).int = 1 then (getR v [115] 3).int else 0
  parts := if (getR v [107] 3).int = 1 then (getR v [99] 6).list.filterMap partV else []
def badK (v : PV) (key : List UInt8) (kind : Int) : Bool := !decide ((getV v key).kind = kind)
def badF (v : PV) : Bool := badK v [112] 5 || (badK v [107] 3 || (badK v [109] 3 || (badK v [116] 3 || (
  if (getR v [107] 3).int = 1 then badK v [115] 3 || (badK v [99] 6 || !(getR v [99] 6).list.all (fun x => (partV x).isSome))
  else if (getR v [107] 3).int = 3 then badK v [108] 5 else false))))
def keysN (kind : Int) : Nat := if kind = 1 then 6 else if kind = 3 then 5 else 4
def itZ : Itm := ⟨[], 0, 0, 0, [], 0, []⟩
theorem refX_ids (v : PV) : ∀ p ∈ (refX v).parts, p.id.length = 32 := by
  intro p hp
  unfold refX at hp
  simp only at hp
  split at hp
  · obtain ⟨y, _, rfl⟩ := List.mem_map.1 hp; exact refP_id y
  · cases hp
theorem progX_ids (v : PV) : ∀ p ∈ (progX v).parts, p.id.length = 32 := by
  intro p hp
  unfold progX at hp
  simp only at hp
  split at hp
  · obtain ⟨y, _, h⟩ := List.mem_filterMap.1 hp; exact partV_id h
  · cases hp
theorem check_fits {x : Itm} (h : checkI x = 0) : fitsF x = true := by
  unfold checkI at h
  by_cases h0 : checkF x.path ≠ 0
  · rw [if_pos h0] at h; exact absurd h h0
  · rw [if_neg h0] at h
    by_cases h1 : modeF x = true
    · rw [if_pos h1] at h
      by_cases h2 : fitsF x = true
      · exact h2
      · rw [if_neg h2] at h; omega
    · rw [if_neg h1] at h; omega
theorem check_1 {x : Itm} (h : checkI x = 0) (hk : x.kind = 1) : x.target = [] ∧ x.parts.length ≤ 64 := by
  have := check_fits h
  unfold fitsF at this
  rw [if_pos hk] at this
  unfold wholeF at this
  simp only [Bool.and_eq_true, decide_eq_true_eq] at this
  exact ⟨this.1, this.2.1⟩
theorem check_2 {x : Itm} (h : checkI x = 0) (hk : x.kind = 2) : x.target = [] ∧ x.parts = [] ∧ x.size = 0 := by
  have := check_fits h
  unfold fitsF at this
  rw [if_neg (by omega), if_pos hk] at this
  unfold emptyF at this
  simp only [Bool.and_eq_true, decide_eq_true_eq] at this
  exact ⟨this.2, List.eq_nil_of_length_eq_zero this.1.1, this.1.2⟩
theorem check_3 {x : Itm} (h : checkI x = 0) (hk : x.kind = 3) : x.parts = [] ∧ x.size = 0 := by
  have := check_fits h
  unfold fitsF at this
  rw [if_neg (by omega), if_neg (by omega), if_pos hk] at this
  unfold emptyF at this
  simp only [Bool.and_eq_true, decide_eq_true_eq] at this
  exact ⟨List.eq_nil_of_length_eq_zero this.1.1, this.1.2⟩
theorem getR_hit {v x : PV} {key : List UInt8} {kind : Int} (h : getV v key = x) (hk : x.kind = kind) : getR v key kind = x ∧ badK v key kind = false := by
  subst h
  unfold getR badK
  rw [if_pos hk, hk]
  simp
theorem itm_ext {x y : Itm} (h1 : x.path = y.path) (h2 : x.kind = y.kind) (h3 : x.mode = y.mode) (h4 : x.time = y.time) (h5 : x.target = y.target) (h6 : x.size = y.size) (h7 : x.parts = y.parts) : x = y := by
  cases x; cases y; simp only at *; subst h1; subst h2; subst h3; subst h4; subst h5; subst h6; subst h7; rfl
/-- The item, if its value is the same. -/
theorem of_main {v : PV} {Y : Itm} (hc : checkI Y = 0) (hids : ∀ p ∈ Y.parts, p.id.length = 32) (hs : sameV (itV Y) v = true) :
    v.kind = 7 ∧ refX v = Y ∧ progX v = Y ∧ badF v = false ∧ v.keys.length = keysN Y.kind ∧ v.list.length = keysN Y.kind := by
  have hn := (sameV_norm _ _).1 hs
  have hkk := checkI_kind Y hc
  have hi7 : (itV Y).kind = 7 := by
    unfold itV
    rw [if_neg (by simpa using hc)]
    split
    · rfl
    · split <;> rfl
  have h7 : v.kind = 7 := by rw [← normV_kind, ← hn, normV_kind, hi7]
  rw [normV_7 hi7, normV_7 h7] at hn
  obtain ⟨_, _, _, _, hK, hL⟩ := PV.mk.inj hn
  clear hn hs hi7
  have HN : ∀ key, getV v key = normV (fldV v key) := getV_norm v
  unfold itV at hK hL
  rw [if_neg (by simpa using hc)] at hK hL
  rcases hkk with h1 | h2 | h3
  · rw [if_pos h1] at hK hL
    have hlen : v.list.length = 6 := by rw [← normL_len, ← hL, normL_len]; rfl
    obtain ⟨a1, a2, a3, a4, a5, a6, hl⟩ : ∃ a1 a2 a3 a4 a5 a6, v.list = [a1, a2, a3, a4, a5, a6] := by
      generalize v.list = l at hlen
      match l, hlen with
      | [a1, a2, a3, a4, a5, a6], _ => exact ⟨a1, a2, a3, a4, a5, a6, rfl⟩
    have hks : v.keys = [[99], [107], [109], [112], [115], [116]] := hK.symm
    have hL2 : normL [a1, a2, a3, a4, a5, a6] = normL [pList (Y.parts.map ptV), pNum Y.kind, pNum Y.mode, pTxt Y.path, pNum Y.size, pNum Y.time] := by rw [← hl]; exact hL.symm
    simp only [normL_cons, normL_nil, normV_lst, normL_pts, normV_num, normV_txt, List.cons.injEq, and_true] at hL2
    obtain ⟨n1, n2, n3, n4, n5, n6⟩ := hL2
    have f1 : fldV v [99] = a1 := by unfold fldV; rw [if_pos h7, hks, hl]; rfl
    have f2 : fldV v [107] = a2 := by unfold fldV; rw [if_pos h7, hks, hl]; rfl
    have f3 : fldV v [109] = a3 := by unfold fldV; rw [if_pos h7, hks, hl]; rfl
    have f4 : fldV v [112] = a4 := by unfold fldV; rw [if_pos h7, hks, hl]; rfl
    have f5 : fldV v [115] = a5 := by unfold fldV; rw [if_pos h7, hks, hl]; rfl
    have f6 : fldV v [116] = a6 := by unfold fldV; rw [if_pos h7, hks, hl]; rfl
    obtain ⟨g1, b1⟩ := getR_hit (kind := 6) (by rw [HN, f1, n1] : getV v [99] = pList (Y.parts.map ptV)) rfl
    obtain ⟨g2, b2⟩ := getR_hit (kind := 3) (by rw [HN, f2, n2] : getV v [107] = pNum Y.kind) rfl
    obtain ⟨g3, b3⟩ := getR_hit (kind := 3) (by rw [HN, f3, n3] : getV v [109] = pNum Y.mode) rfl
    obtain ⟨g4, b4⟩ := getR_hit (kind := 5) (by rw [HN, f4, n4] : getV v [112] = pTxt Y.path) rfl
    obtain ⟨g5, b5⟩ := getR_hit (kind := 3) (by rw [HN, f5, n5] : getV v [115] = pNum Y.size) rfl
    obtain ⟨g6, b6⟩ := getR_hit (kind := 3) (by rw [HN, f6, n6] : getV v [116] = pNum Y.time) rfl
    obtain ⟨ht, hp⟩ := check_1 hc h1
    obtain ⟨p1, p2⟩ := partV_pts hids
    have hr := refP_pts (is_lst n1).2 hids
    have hlp : a1.list.length = Y.parts.length := by rw [← hr]; simp
    have e2 := (is_num n2).2
    refine ⟨h7, ?_, ?_, ?_, ?_, ?_⟩
    · refine itm_ext ?_ ?_ ?_ ?_ ?_ ?_ ?_ <;> unfold refX <;> simp only [f1, f2, f3, f4, f5, f6, e2]
      · exact (is_txt n4).2
      · exact (is_num n3).2
      · exact (is_num n6).2
      · rw [if_neg (by omega), ht]
      · rw [if_pos h1]; exact (is_num n5).2
      · rw [if_pos h1, List.take_of_length_le (by omega), hr]
    · refine itm_ext ?_ ?_ ?_ ?_ ?_ ?_ ?_ <;> unfold progX <;> simp only [g1, g2, g3, g4, g5, g6, pNum, pTxt, pList, PV.int, PV.text, PV.list]
      · rw [if_neg (by omega), ht]
      · rw [if_pos h1]
      · rw [if_pos h1, p1]
    · unfold badF
      rw [b1, b2, b3, b4, b5, b6, g2, g1]
      simp only [pNum, pList, PV.int, PV.list, if_pos h1, p2]; rfl
    · rw [hks]; unfold keysN; rw [if_pos h1]; rfl
    · rw [hl]; unfold keysN; rw [if_pos h1]; rfl
  · rw [if_neg (by omega), if_pos h2] at hK hL
    have hlen : v.list.length = 4 := by rw [← normL_len, ← hL, normL_len]; rfl
    obtain ⟨a2, a3, a4, a6, hl⟩ : ∃ a2 a3 a4 a6, v.list = [a2, a3, a4, a6] := by
      generalize v.list = l at hlen
      match l, hlen with
      | [a2, a3, a4, a6], _ => exact ⟨a2, a3, a4, a6, rfl⟩
    have hks : v.keys = [[107], [109], [112], [116]] := hK.symm
    have hL2 : normL [a2, a3, a4, a6] = normL [pNum Y.kind, pNum Y.mode, pTxt Y.path, pNum Y.time] := by rw [← hl]; exact hL.symm
    simp only [normL_cons, normL_nil, normV_num, normV_txt, List.cons.injEq, and_true] at hL2
    obtain ⟨n2, n3, n4, n6⟩ := hL2
    have f2 : fldV v [107] = a2 := by unfold fldV; rw [if_pos h7, hks, hl]; rfl
    have f3 : fldV v [109] = a3 := by unfold fldV; rw [if_pos h7, hks, hl]; rfl
    have f4 : fldV v [112] = a4 := by unfold fldV; rw [if_pos h7, hks, hl]; rfl
    have f6 : fldV v [116] = a6 := by unfold fldV; rw [if_pos h7, hks, hl]; rfl
    obtain ⟨g2, b2⟩ := getR_hit (kind := 3) (by rw [HN, f2, n2] : getV v [107] = pNum Y.kind) rfl
    obtain ⟨g3, b3⟩ := getR_hit (kind := 3) (by rw [HN, f3, n3] : getV v [109] = pNum Y.mode) rfl
    obtain ⟨g4, b4⟩ := getR_hit (kind := 5) (by rw [HN, f4, n4] : getV v [112] = pTxt Y.path) rfl
    obtain ⟨g6, b6⟩ := getR_hit (kind := 3) (by rw [HN, f6, n6] : getV v [116] = pNum Y.time) rfl
    obtain ⟨ht, hp, hz⟩ := check_2 hc h2
    have e2 := (is_num n2).2
    refine ⟨h7, ?_, ?_, ?_, ?_, ?_⟩
    · refine itm_ext ?_ ?_ ?_ ?_ ?_ ?_ ?_ <;> unfold refX <;> simp only [f2, f3, f4, f6, e2]
      · exact (is_txt n4).2
      · exact (is_num n3).2
      · exact (is_num n6).2
      · rw [if_neg (by omega), ht]
      · rw [if_neg (by omega), hz]
      · rw [if_neg (by omega), hp]
    · refine itm_ext ?_ ?_ ?_ ?_ ?_ ?_ ?_ <;> unfold progX <;> simp only [g2, g3, g4, g6, pNum, pTxt, PV.int, PV.text]
      · rw [if_neg (by omega), ht]
      · rw [if_neg (by omega), hz]
      · rw [if_neg (by omega), hp]
    · unfold badF
      have k2 : (pNum Y.kind).int = Y.kind := rfl
      rw [b2, b3, b4, b6, g2, k2, if_neg (show ¬ Y.kind = 1 by omega), if_neg (show ¬ Y.kind = 3 by omega)]; rfl
    · rw [hks]; unfold keysN; rw [if_neg (by omega), if_neg (by omega)]; rfl
    · rw [hl]; unfold keysN; rw [if_neg (by omega), if_neg (by omega)]; rfl
  · rw [if_neg (by omega), if_neg (by omega)] at hK hL
    have hlen : v.list.length = 5 := by rw [← normL_len, ← hL, normL_len]; rfl
    obtain ⟨a2, a5, a3, a4, a6, hl⟩ : ∃ a2 a5 a3 a4 a6, v.list = [a2, a5, a3, a4, a6] := by
      generalize v.list = l at hlen
      match l, hlen with
      | [a2, a5, a3, a4, a6], _ => exact ⟨a2, a5, a3, a4, a6, rfl⟩
    have hks : v.keys = [[107], [108], [109], [112], [116]] := hK.symm
    have hL2 : normL [a2, a5, a3, a4, a6] = normL [pNum Y.kind, pTxt Y.target, pNum Y.mode, pTxt Y.path, pNum Y.time] := by rw [← hl]; exact hL.symm
    simp only [normL_cons, normL_nil, normV_num, normV_txt, List.cons.injEq, and_true] at hL2
    obtain ⟨n2, n5, n3, n4, n6⟩ := hL2
    have f2 : fldV v [107] = a2 := by unfold fldV; rw [if_pos h7, hks, hl]; rfl
    have f3 : fldV v [109] = a3 := by unfold fldV; rw [if_pos h7, hks, hl]; rfl
    have f4 : fldV v [112] = a4 := by unfold fldV; rw [if_pos h7, hks, hl]; rfl
    have f5 : fldV v [108] = a5 := by unfold fldV; rw [if_pos h7, hks, hl]; rfl
    have f6 : fldV v [116] = a6 := by unfold fldV; rw [if_pos h7, hks, hl]; rfl
    obtain ⟨g2, b2⟩ := getR_hit (kind := 3) (by rw [HN, f2, n2] : getV v [107] = pNum Y.kind) rfl
    obtain ⟨g3, b3⟩ := getR_hit (kind := 3) (by rw [HN, f3, n3] : getV v [109] = pNum Y.mode) rfl
    obtain ⟨g4, b4⟩ := getR_hit (kind := 5) (by rw [HN, f4, n4] : getV v [112] = pTxt Y.path) rfl
    obtain ⟨g5, b5⟩ := getR_hit (kind := 5) (by rw [HN, f5, n5] : getV v [108] = pTxt Y.target) rfl
    obtain ⟨g6, b6⟩ := getR_hit (kind := 3) (by rw [HN, f6, n6] : getV v [116] = pNum Y.time) rfl
    obtain ⟨hp, hz⟩ := check_3 hc h3
    have e2 := (is_num n2).2
    refine ⟨h7, ?_, ?_, ?_, ?_, ?_⟩
    · refine itm_ext ?_ ?_ ?_ ?_ ?_ ?_ ?_ <;> unfold refX <;> simp only [f2, f3, f4, f5, f6, e2]
      · exact (is_txt n4).2
      · exact (is_num n3).2
      · exact (is_num n6).2
      · rw [if_pos h3]; exact (is_txt n5).2
      · rw [if_neg (by omega), hz]
      · rw [if_neg (by omega), hp]
    · refine itm_ext ?_ ?_ ?_ ?_ ?_ ?_ ?_ <;> unfold progX <;> simp only [g2, g3, g4, g5, g6, pNum, pTxt, PV.int, PV.text]
      · rw [if_pos h3]
      · rw [if_neg (by omega), hz]
      · rw [if_neg (by omega), hp]
    · unfold badF
      have k2 : (pNum Y.kind).int = Y.kind := rfl
      rw [b2, b3, b4, b5, b6, g2, k2, if_neg (show ¬ Y.kind = 1 by omega), if_pos h3]; rfl
    · rw [hks]; unfold keysN; rw [if_neg (by omega), if_pos h3]; rfl
    · rw [hl]; unfold keysN; rw [if_neg (by omega), if_pos h3]; rfl
/-- Which item a value is of. -/
def ofF (v : PV) : Itm × Int := if v.kind = 7 ∧ checkI (refX v) = 0 ∧ sameV (itV (refX v)) v = true then (refX v, 0) else (itZ, 4)
theorem of_prog (v : PV) : (if badF v = false ∧ v.keys.length = keysN (progX v).kind ∧ v.list.length = keysN (progX v).kind ∧ checkI (progX v) = 0 ∧ sameV (itV (progX v)) v = true then (progX v, (0 : Int)) else (itZ, 4)) = ofF v := by
  unfold ofF
  by_cases h : v.kind = 7 ∧ checkI (refX v) = 0 ∧ sameV (itV (refX v)) v = true
  · obtain ⟨_, h1, h2⟩ := h
    obtain ⟨k1, k2, k3, k4, k5, k6⟩ := of_main h1 (refX_ids v) h2
    have hA : badF v = false ∧ v.keys.length = keysN (progX v).kind ∧ v.list.length = keysN (progX v).kind ∧ checkI (progX v) = 0 ∧ sameV (itV (progX v)) v = true := by rw [k3]; exact ⟨k4, k5, k6, h1, h2⟩
    rw [if_pos hA, if_pos ⟨k1, h1, h2⟩, k3]
  · rw [if_neg h, if_neg]
    rintro ⟨_, _, _, h1, h2⟩
    obtain ⟨k1, k2, _⟩ := of_main h1 (progX_ids v) h2
    exact h ⟨k1, by rw [k2]; exact h1, by rw [k2]; exact h2⟩
end Go.Proofs.YtpchogicdnfggaaDoor
set_option maxRecDepth 20000
namespace Go.Proofs.YtpchogicdnfggaaDoor
open Go.RowKit Go.Hd
attribute [local go_sem ↓] h_ldV h_stV h_alV
attribute [local go_sem] r_ldV r_stV r_alV
def GetQ (w : World) (v : PV) (e : Ending) (w' : World) : Prop := ∃ ds f, e = .returned (.tuple #[.agg (List.toArray ds), .bool f]) ∧ VAtP (fun b => w.heap.size ≤ b) w' ds v ∧ Below w.heap.size w w' ∧ (f = false → v = pv0)
set_option maxHeartbeats 1000000 in
theorem vget2_any {w0 : World} {cs : List Value} {v : PV} (key : List UInt8) (h : VAt w0 cs v) (hsm : Sm v) (w : World) (hbw : Below w0.heap.size w0 w) : Calls Tryd.prog 74 #[.agg cs.toArray, .string (str key)] w (GetQ w (getV v key)) := by
  cases h with
  | @mk k n b t ks l ab ak al cb ck cl css hk hn hb hbc ht hks hkc hkt hl hlc hcs h6 sub =>
  have hsz := hbw.size
  obtain ⟨s1, s2, s3, s4⟩ := hsm.parts
  obtain ⟨box, hbox⟩ : ∃ box : List Value, box = [.int .i64 k, .int .i64 n, .slice ab b.length cb, strV t, .slice ak ks.length ck, .slice al l.length cl] := ⟨_, rfl⟩
  have hall : Hid (∀ W, W = (w.alloc (.cells (List.toArray (α := Value) box) 30)).alloc (.cells zV 30) → Blk W w.heap.size 30 box ∧ Blk W (w.heap.size + 1) 30 zV.toList ∧ Below w.heap.size w W ∧ W.heap.size = w.heap.size + 2) := by
    rintro W rfl
    refine ⟨?_, ?_, ((Below.refl _ _).alloc (Nat.le_refl _) _).alloc (by simp) _, by simp⟩
    · simpa using (Blk.new w 30 box.toArray).alloc (.cells zV 30)
    · have := Blk.new (w.alloc (.cells (List.toArray (α := Value) box) 30)) 30 zV
      simpa using this
  have zs := zV_size
  have hO6 := oneC6
  rw [← hbox]
  have HB := Lib.hid hbox
  clear hbox
  go_enter Tryd.func74, Tryd.ntmps74
  go_upto_region 1 with (fail)
  generalize hW : (w.alloc (.cells (List.toArray (α := Value) box) 30)).alloc (.cells zV 30) = W at *
  obtain ⟨A0, R0, hbW, S0⟩ := hall.out W rfl
  clear hall hW
  have a0 : W.cell? ⟨w.heap.size, 0, none⟩ = some (.int .i64 k) := A0.cell (by rw [HB.out]; rfl)
  have a4 : W.cell? ⟨w.heap.size, 4, none⟩ = some (.slice ak ks.length ck) := A0.cell (by rw [HB.out]; rfl)
  have a5 : W.cell? ⟨w.heap.size, 5, none⟩ = some (.slice al l.length cl) := A0.cell (by rw [HB.out]; rfl)
  obtain ⟨Wz, z1, z2, z3, z4⟩ := res_zero R0 (by rfl) (by omega) hbW
  by_cases h7 : k = 7
  · subst h7
    have HG : Hid (getV (.mk 7 n b t ks l) key = ((findK ks l key).map normV).getD pv0) := by show _ = _; rw [getV_mk, if_pos rfl]
    have j65 : (ks.length : Int) ≤ 65536 := by omega
    go_wp2
    go_loopw [15] (fun i wr => ∃ j : Nat, j ≤ ks.length ∧ i = .int .i64 j ∧ wr = W ∧ Hid (findK ks l key = findK (ks.drop j) (l.drop j) key)) (fun i _ => ks.length - (intOf i).toNat)
    case atStart => exact ⟨0, Nat.zero_le _, rfl, rfl, Lib.hid (by rw [List.drop_zero, List.drop_zero])⟩
    case round =>
      obtain ⟨j, hj, rfl, rfl, hF⟩ := hrel
      have j0 : (0 : Int) ≤ (j : Int) := by omega
      have jb : IntKind.i64.wrap ((j : Int) + 1) = (j : Int) + 1 := IntWalk.i64_in _ (by omega)
      by_cases hlt : j < ks.length
      · have j1 : (j : Int) < (ks.length : Int) := by omega
        have hkW := hks.below (hbw.trans (hbW.mono hsz))
        have s5 := hkW.isSome (i := j) (by simpa using hlt)
        have c5 : wr.cell? ((hd ak).add j) = some (.string (str ks[j])) := hkW.cell (i := j) (u := strV ks[j]) (by simp [hlt])
        have hsb := str_beq ks[j] key
        by_cases hhit : ks[j] = key ∧ j < l.length
        · obtain ⟨hk1, hk2⟩ := hhit
          have hk3 : ((str ks[j]).toList == (str key).toList) = true := by rw [hsb]; simpa using hk1
          have j2 : (j : Int) < (l.length : Int) := by omega
          have hr2 := hl.below (hbw.trans (hbW.mono hsz))
          have s6 := hr2.elemSome (s := 6) h6 (by decide) (i := j) (by omega)
          have hxc := sub j css[j] l[j] (by simp [hcs, hk2]) (by simp [hk2])
          have q1 := ldOp_at (P := Tryd.prog) (ty := 30) (hr2.elem (s := 6) h6 (i := j) (c := css[j]) (by simp [hcs, hk2])) Tryd.underlying30 rfl (by rw [hxc.len]; exact sizeV)
          have HE : Hid (getV (.mk 7 n b t ks l) key = normV l[j]) := by show _ = _; rw [HG.out, hF.out, findK_hit hlt hk2 hk1]; rfl
          have hcl := vclone_any hxc wr (hbw.trans (hbW.mono hsz)) (s4 _ (List.getElem_mem hk2))
          clear HG hF hsb hr2
          generalize ks[j] = kj at *
          generalize l[j] = x at *
          generalize css[j] = cx at *
          go_wp2_with fail
          refine hcl.mono ?_
          rintro e w2 ⟨ds, rfl, hds, hb2⟩
          obtain ⟨W2, y1, y2, y3, y4⟩ := res_any (w := w) (R0.below hb2) (by rfl) (by omega) (hds.mono (fun b hb _ => by omega)) (hbW.trans (hb2.mono hbW.size))
          have hd6 : (List.toArray ds).size = 6 := by simpa using hds.len
          go_wp2
          refine bodyPost_ret (results_cell_tmp (fn := Tryd.f74) (p := 4) (t := 5) (by rfl) _ _ (w.heap.size + 1) 30 _ (0, 0) _ (by rfl) y2 Tryd.underlying30 rfl (by rw [hd6]; exact sizeV)) rfl ⟨_, _, rfl, by rw [HE.out]; exact y3, y4, (fun h => by cases h)⟩
        · have HF2 : Hid (findK ks l key = findK (ks.drop (j + 1)) (l.drop (j + 1)) key) := hF.out.trans (findK_step hlt hhit)
          by_cases hk1 : ks[j] = key
          · have hk3 : ((str ks[j]).toList == (str key).toList) = true := by rw [hsb]; simpa using hk1
            have j2 : ¬ (j : Int) < (l.length : Int) := fun h => hhit ⟨hk1, by omega⟩
            clear hhit hsb
            generalize ks[j] = kj at *
            go_wp2
            first
              | exact ⟨⟨j + 1, by omega, (by first | rfl | go_num | (congr 1; omega)), (by first | rfl | trivial), HF2⟩, by simp [intOf] <;> omega⟩
              | (refine ⟨?_, by simp [intOf] <;> omega⟩; (repeat apply Exists.intro); exact ⟨⟨j + 1, by omega, (by first | rfl | go_num | (congr 1; omega)), (by first | rfl | trivial), HF2⟩, rfl⟩)
          · have hk3 : ((str ks[j]).toList == (str key).toList) = false := by rw [hsb]; simpa using hk1
            clear hhit hsb
            generalize ks[j] = kj at *
            go_wp2
            first
              | exact ⟨⟨j + 1, by omega, (by first | rfl | go_num | (congr 1; omega)), (by first | rfl | trivial), HF2⟩, by simp [intOf] <;> omega⟩
              | (refine ⟨?_, by simp [intOf] <;> omega⟩; (repeat apply Exists.intro); exact ⟨⟨j + 1, by omega, (by first | rfl | go_num | (congr 1; omega)), (by first | rfl | trivial), HF2⟩, rfl⟩)
      · obtain rfl : j = ks.length := by omega
        have j1 : ¬ (ks.length : Int) < (ks.length : Int) := by omega
        have HE : Hid (getV (.mk 7 n b t ks l) key = pv0) := by show _ = _; rw [HG.out, hF.out, findK_end]; rfl
        go_wp2
        refine bodyPost_ret (results_cell_tmp (fn := Tryd.f74) (p := 4) (t := 5) (by rfl) _ _ (w.heap.size + 1) 30 _ (0, 0) _ (by rfl) z2 Tryd.underlying30 rfl sizeV) rfl ⟨_, _, rfl, by rw [HE.out]; exact z3, z4, (fun _ => HE.out)⟩
  · have t7 : (k != 7) = true := by simpa using h7
    have HE : Hid (getV (.mk k n b t ks l) key = pv0) := by show _ = _; rw [getV_mk, if_neg h7]
    go_wp2
    refine bodyPost_ret (results_cell_tmp (fn := Tryd.f74) (p := 4) (t := 5) (by rfl) _ _ (w.heap.size + 1) 30 _ (0, 0) _ (by rfl) z2 Tryd.underlying30 rfl sizeV) rfl ⟨_, _, rfl, by rw [HE.out]; exact z3, z4, (fun _ => HE.out)⟩

end Go.Proofs.YtpchogicdnfggaaDoor
