/- Layer 20: read. -/
import Derived.Test.YtcanlgcifnjfaaaDoorPt9
import Derived.Deep.CutBlock
set_option maxRecDepth 20000
namespace Go.Hd
def styB : Nat → List UInt8
  | 0 => [112, 102, 58]
  | 1 => [112, 112, 58]
  | 2 => [102, 109, 58]
  | _ => [115, 104, 58]
/-- The first style from i on that s has, and what follows it. -/
def styF (s : List UInt8) : Nat × List UInt8 :=
  if beginsB s (styB 0) then (0, s.drop 3) else if beginsB s (styB 1) then (1, s.drop 3) else if beginsB s (styB 2) then (2, s.drop 3) else if beginsB s (styB 3) then (3, s.drop 3) else (1, s)
def readF (s : List UInt8) : Except Int (Nat × List UInt8 × List Tok) :=
  if 100 < s.length then .error 5
  else if (styF s).2 = [] then .error 4
  else if (styF s).1 < 2 then .ok ((styF s).1, (styF s).2, [])
  else match toksF ((styF s).1 == 3) ((styF s).2.length + 1) true (styF s).2 with
    | none => .error 4
    | some T => .ok ((styF s).1, (styF s).2, T)
end Go.Hd
namespace Go.Proofs.YtcanlgcifnjfaaaDoor
open Go.RowKit Go.Hd
theorem h_stPT (ρ : Operand → Value) (dst : Option Tmp) (ty : TypeId) (pos : String) (after : Array Edge) (guard : Option (Nat × Bool)) (x y : Operand) : execOp ρ { dst, op := .store 52 x y, type := ty, pos, after, guard } = (do stoOp 52 (ρ x) (ρ y); pure .skip) := rfl
theorem sizePT : (Tryd.prog.info? 52).map (·.size) = some 3 := by kernel_rfl
theorem st_PT {w : World} {q : Nat} {old : List Value} (h : Blk w q 52 old) (ho : old.length = 3) : ∀ x y z : Value, OneC #[x, y, z] → (stoOp 52 (.pointer (some ⟨q, 0, none⟩)) (.agg #[x, y, z])).run Tryd.prog w = .ok () (w.setRow q #[x, y, z]) := by
  intro x y z h1
  unfold stoOp
  simp only [Instr.storeAt, Instr.sureAddr, Sem.run_bind, Sem.run_pure, Result.andThen]
  rw [run_storeVar_row w q 52 52 old.toArray #[x, y, z] h (by exact sizePT) (by simpa using ho) h1]
theorem setPT {w : World} {q : Nat} {old : List Value} (h : Blk w q 52 old) (x y z : Value) : Blk (w.setRow q #[x, y, z]) q 52 [x, y, z] := by
  have := setRow_heap w q old.toArray #[x, y, z] 52 (0, 0) h
  simpa [Blk] using this
theorem setPT_gr (w : World) (q : Nat) (cs : Array Value) : w.grownBy (w.setRow q cs) (some q) := ⟨rfl, rfl, rfl, by simp, fun k _ hk => setRow_other w q k _ (fun e => hk (by rw [e]))⟩
theorem results_c2 {P : Program} {fn : Func} {p t : Tmp} {ty : TypeId} (h : fn.results = #[.cell p ty, .tmp t]) (tmps : Array Value) (w : World) (g : Nat) (tt : TypeId) (cs : Array Value) (fr : Nat × Nat) (d : TypeDesc)
    (hp : tmps.getD p undef = .pointer (some ⟨g, 0, none⟩)) (hg : w.heap[g]? = some (.cells cs tt fr))
    (hu : P.underlying ty = some d) (hd : (match d with | .struct _ | .array _ _ => true | _ => false) = true) (hi : (P.info? ty).map (·.size) = some cs.size) :
    (results fn tmps).run P w = .ok (.tuple #[.agg cs, tmps.getD t undef]) w := by
  have hp' : tmps[p]?.getD undef = .pointer (some ⟨g, 0, none⟩) := by simpa using hp
  simp [results, h, hp', asAddr, run_loadVar_row w g tt ty cs fr d hg hu hd hi]
theorem cutPrefix_any (s p : List UInt8) (w : World) :
    Calls Tryd.prog 48 #[.string (str s), .string (str p)] w fun e w' => e = .returned (.tuple #[.string (str (if beginsB s p then s.drop p.length else s)), .bool (beginsB s p)]) ∧ w = w' := by
  refine (Tryd.strings_CutPrefix (str s) (str p) w).mono ?_
  rintro e w1 ⟨rfl, rfl⟩
  rw [str_data, str_data]
  exact ⟨rfl, rfl⟩
def ReadP (w : World) (s : List UInt8) (e : Ending) (w' : World) : Prop :=
  (match readF s with
    | .error c => e = .returned (.tuple #[.agg #[.string .empty, .string .empty, .slice none 0 0], .int .i64 c])
    | .ok (k, rest, T) => ∃ a c, e = .returned (.tuple #[.agg #[.string (styS k), .string (str rest), .slice a T.length c], .int .i64 0]) ∧ TokRow w' a T) ∧ Below w.heap.size w w'
theorem r_stPT {w : World} {b : Nat} {old cs : Array Value} {T : TypeId} (hb : w.heap.size = b) (ho : old.size = 3) (hs : cs.size = 3) (h1 : OneC cs) : (stoOp 52 (.pointer (some ⟨b, 0, none⟩)) (.agg cs)).run Tryd.prog (w.alloc (.cells old T)) = .ok () (w.alloc (.cells cs T)) :=
  stOp_new hb (by rw [hs]; exact sizePT) (by rw [ho, hs]) h1
theorem fin_PT {w w2 : World} {x y z : Value} {old : List Value} (hr : Blk w2 w.heap.size 52 old) (ho : old.length = 3) (hb : Below w.heap.size w w2) (h1 : OneC #[x, y, z]) :
    (stoOp 52 (.pointer (some ⟨w.heap.size, 0, none⟩)) (.agg #[x, y, z])).run Tryd.prog w2 = .ok () (w2.setRow w.heap.size #[x, y, z]) ∧
      (w2.setRow w.heap.size #[x, y, z]).heap[w.heap.size]? = some (.cells #[x, y, z] 52 (0, 0)) ∧ Below w.heap.size w (w2.setRow w.heap.size #[x, y, z]) :=
  ⟨st_PT hr ho x y z h1, setPT hr x y z, Below.grown hb (setPT_gr w2 _ _) hb.size (fun k hk => by cases hk; exact Nat.le_refl _)⟩
attribute [local go_sem ↓] h_stPT
attribute [local go_sem] r_stPT
theorem styF_le (s : List UInt8) : (styF s).1 ≤ 3 ∧ (styF s).2.length ≤ s.length := by
  unfold styF
  split
  · exact ⟨by simp, by simp⟩
  · split
    · exact ⟨by simp, by simp⟩
    · split
      · exact ⟨by simp, by simp⟩
      · split
        · exact ⟨by simp, by simp⟩
        · exact ⟨by simp, Nat.le_refl _⟩
set_option maxHeartbeats 1600000 in
theorem read_any (s : List UInt8) (w : World) (hs : s.length ≤ 100000) :
    Calls Tryd.prog 36 #[.string (str s)] w (ReadP w s) := by
  have o1 : ∀ (a b : ByteArray) (x : Option Addr) (n c : Nat), OneC #[.string a, .string b, .slice x n c] := by intros; unfold OneC; simp [Value.oneCell']
  have o1' := o1 { data := #[] } { data := #[] } none 0 0
  by_cases h100 : 100 < s.length
  · have hR : Hid (readF s = .error 5) := by show _ = _; unfold readF; rw [if_pos h100]
    have i1 : (100 : Int) < (s.length : Int) := by omega
    have hb0 : Below w.heap.size w (w.alloc (.cells #[.string { data := #[] }, .string { data := #[] }, .slice none 0 0] 52)) := (Below.refl _ _).alloc (Nat.le_refl _) _
    go_enter Tryd.func36, Tryd.ntmps36
    go_wp2
    refine bodyPost_ret (results_c2 (fn := Tryd.f36) (by rfl) _ _ w.heap.size 52 _ (0, 0) _ (by rfl) (heap_alloc_new _ _) Tryd.underlying52 rfl sizePT) rfl ?_
    unfold ReadP
    rw [hR.out]
    exact ⟨rfl, hb0⟩
  · have i1 : ¬ (100 : Int) < (s.length : Int) := by omega
    have o2 := o1 { data := #[112, 112, 58] } (str s) none 0 0
    go_enter Tryd.func36, Tryd.ntmps36
    go_upto_block 0 with (fail)
    have hall : Hid (∀ W, W = ((w.alloc (.cells #[.string { data := #[] }, .string { data := #[] }, .slice none 0 0] 52)).alloc (.cells #[.string { data := #[112, 112, 58] }, .string (str s), .slice none 0 0] 52)).alloc (.cells #[.string { data := #[112, 102, 58] }, .string { data := #[112, 112, 58] }, .string { data := #[102, 109, 58] }, .string { data := #[115, 104, 58] }] 9) →
        Blk W w.heap.size 52 [.string { data := #[] }, .string { data := #[] }, .slice none 0 0] ∧ Blk W (w.heap.size + 1) 52 [.string { data := #[112, 112, 58] }, .string (str s), .slice none 0 0] ∧ Blk W (w.heap.size + 2) 9 [.string { data := #[112, 102, 58] }, .string { data := #[112, 112, 58] }, .string { data := #[102, 109, 58] }, .string { data := #[115, 104, 58] }] ∧ Below w.heap.size w W) := by
      rintro W rfl
      refine ⟨((Blk.new w 52 _).alloc _).alloc _, ?_, ?_, (((Below.refl _ _).alloc (Nat.le_refl _) _).alloc (by simp) _).alloc (by simp; omega) _⟩
      · have := (Blk.new (w.alloc (.cells #[.string { data := #[] }, .string { data := #[] }, .slice none 0 0] 52)) 52 #[.string { data := #[112, 112, 58] }, .string (str s), .slice none 0 0]).alloc (.cells #[.string { data := #[112, 102, 58] }, .string { data := #[112, 112, 58] }, .string { data := #[102, 109, 58] }, .string { data := #[115, 104, 58] }] 9)
        simpa using this
      · have := Blk.new ((w.alloc (.cells #[.string { data := #[] }, .string { data := #[] }, .slice none 0 0] 52)).alloc (.cells #[.string { data := #[112, 112, 58] }, .string (str s), .slice none 0 0] 52)) 9 #[.string { data := #[112, 102, 58] }, .string { data := #[112, 112, 58] }, .string { data := #[102, 109, 58] }, .string { data := #[115, 104, 58] }]
        simpa using this
    generalize hW : ((w.alloc (.cells #[.string { data := #[] }, .string { data := #[] }, .slice none 0 0] 52)).alloc (.cells #[.string { data := #[112, 112, 58] }, .string (str s), .slice none 0 0] 52)).alloc (.cells #[.string { data := #[112, 102, 58] }, .string { data := #[112, 112, 58] }, .string { data := #[102, 109, 58] }, .string { data := #[115, 104, 58] }] 9) = W at *
    obtain ⟨g1, g2, g3, g4⟩ := hall.out W rfl
    clear hall hW
    go_cut [19] (fun _ wx => ∃ k rest, styF s = (k, rest) ∧ Blk wx (w.heap.size + 1) 52 [.string (styS k), .string (str rest), .slice none 0 0] ∧ Blk wx w.heap.size 52 [.string { data := #[] }, .string { data := #[] }, .slice none 0 0] ∧ Below w.heap.size w wx)
    case first =>
      go_wp2
      go_loopw [19] (fun i wr => ∃ j : Nat, j ≤ 4 ∧ i = .int .i64 j ∧ Hid (wr = W) ∧ Hid (∀ q, q < j → beginsB s (styB q) = false)) (fun i _ => 4 - (intOf i).toNat)
      case atStart => exact ⟨0, by omega, rfl, Lib.hid rfl, Lib.hid (fun q hq => by omega)⟩
      case round =>
        obtain ⟨j, hj, rfl, hwr, hno⟩ := hrel
        have hwr := hwr.out
        subst hwr
        rcases (by omega : j = 0 ∨ j = 1 ∨ j = 2 ∨ j = 3 ∨ j = 4) with rfl | rfl | rfl | rfl | rfl
        · have q1 : wr.cell? ⟨w.heap.size + 2, 0, none⟩ = some (.string { data := #[112, 102, 58] }) := g3.cell rfl
          have hcp := cutPrefix_any s (styB 0) wr
          change Calls _ _ #[.string (str s), .string { data := #[112, 102, 58] }] _ _ at hcp
          cases hP : beginsB s (styB 0)
          · rw [hP, if_neg (by decide)] at hcp
            have hno2 : Hid (∀ q, q < 1 → beginsB s (styB q) = false) := fun q hq => by
              rcases Nat.lt_or_ge q 0 with h | h
              · exact hno.out q h
              · obtain rfl : q = 0 := by omega
                exact hP
            clear hno hP
            go_wp2_with fail
            refine hcp.mono ?_
            rintro e w1 ⟨rfl, hw⟩
            subst hw
            go_wp2
            first
              | exact ⟨⟨1, by omega, (by first | rfl | go_num | (congr 1; omega)), (by first | exact Lib.hid rfl | exact Lib.hid trivial), hno2⟩, by simp [intOf] <;> omega⟩
              | (refine ⟨?_, by simp [intOf] <;> omega⟩; (repeat apply Exists.intro); exact ⟨⟨1, by omega, (by first | rfl | go_num | (congr 1; omega)), (by first | exact Lib.hid rfl | exact Lib.hid trivial), hno2⟩, rfl⟩)
          · have hS : Hid (styF s = (0, s.drop 3)) := by
              show _ = _
              unfold styF
              rw [if_pos hP]
            rw [hP, if_pos rfl, show (styB 0).length = 3 from rfl] at hcp
            clear hno hP
            generalize s.drop 3 = rest at *
            have q2 := st_PT g2 rfl (.string { data := #[112, 102, 58] }) (.string (str rest)) (.slice none 0 0) (o1 _ _ _ _ _)
            go_wp2_with fail
            refine hcp.mono ?_
            rintro e w1 ⟨rfl, hw⟩
            subst hw
            go_wp2
            go_meet
            exact ⟨0, rest, hS.out, setPT g2 _ _ _, g1.grown (setPT_gr _ _ _) (by omega), Gr.ofGrown g4 (setPT_gr _ _ _) (by omega)⟩
        · have q1 : wr.cell? ⟨w.heap.size + 2, 1, none⟩ = some (.string { data := #[112, 112, 58] }) := g3.cell rfl
          have hcp := cutPrefix_any s (styB 1) wr
          change Calls _ _ #[.string (str s), .string { data := #[112, 112, 58] }] _ _ at hcp
          cases hP : beginsB s (styB 1)
          · rw [hP, if_neg (by decide)] at hcp
            have hno2 : Hid (∀ q, q < 2 → beginsB s (styB q) = false) := fun q hq => by
              rcases Nat.lt_or_ge q 1 with h | h
              · exact hno.out q h
              · obtain rfl : q = 1 := by omega
                exact hP
            clear hno hP
            go_wp2_with fail
            refine hcp.mono ?_
            rintro e w1 ⟨rfl, hw⟩
            subst hw
            go_wp2
            first
              | exact ⟨⟨2, by omega, (by first | rfl | go_num | (congr 1; omega)), (by first | exact Lib.hid rfl | exact Lib.hid trivial), hno2⟩, by simp [intOf] <;> omega⟩
              | (refine ⟨?_, by simp [intOf] <;> omega⟩; (repeat apply Exists.intro); exact ⟨⟨2, by omega, (by first | rfl | go_num | (congr 1; omega)), (by first | exact Lib.hid rfl | exact Lib.hid trivial), hno2⟩, rfl⟩)
          · have hS : Hid (styF s = (1, s.drop 3)) := by
              show _ = _
              unfold styF
              rw [if_neg (by rw [hno.out 0 (by omega)]; decide), if_pos hP]
            rw [hP, if_pos rfl, show (styB 1).length = 3 from rfl] at hcp
            clear hno hP
            generalize s.drop 3 = rest at *
            have q2 := st_PT g2 rfl (.string { data := #[112, 112, 58] }) (.string (str rest)) (.slice none 0 0) (o1 _ _ _ _ _)
            go_wp2_with fail
            refine hcp.mono ?_
            rintro e w1 ⟨rfl, hw⟩
            subst hw
            go_wp2
            go_meet
            exact ⟨1, rest, hS.out, setPT g2 _ _ _, g1.grown (setPT_gr _ _ _) (by omega), Gr.ofGrown g4 (setPT_gr _ _ _) (by omega)⟩
        · have q1 : wr.cell? ⟨w.heap.size + 2, 2, none⟩ = some (.string { data := #[102, 109, 58] }) := g3.cell rfl
          have hcp := cutPrefix_any s (styB 2) wr
          change Calls _ _ #[.string (str s), .string { data := #[102, 109, 58] }] _ _ at hcp
          cases hP : beginsB s (styB 2)
          · rw [hP, if_neg (by decide)] at hcp
            have hno2 : Hid (∀ q, q < 3 → beginsB s (styB q) = false) := fun q hq => by
              rcases Nat.lt_or_ge q 2 with h | h
              · exact hno.out q h
              · obtain rfl : q = 2 := by omega
                exact hP
            clear hno hP
            go_wp2_with fail
            refine hcp.mono ?_
            rintro e w1 ⟨rfl, hw⟩
            subst hw
            go_wp2
            first
              | exact ⟨⟨3, by omega, (by first | rfl | go_num | (congr 1; omega)), (by first | exact Lib.hid rfl | exact Lib.hid trivial), hno2⟩, by simp [intOf] <;> omega⟩
              | (refine ⟨?_, by simp [intOf] <;> omega⟩; (repeat apply Exists.intro); exact ⟨⟨3, by omega, (by first | rfl | go_num | (congr 1; omega)), (by first | exact Lib.hid rfl | exact Lib.hid trivial), hno2⟩, rfl⟩)
          · have hS : Hid (styF s = (2, s.drop 3)) := by
              show _ = _
              unfold styF
              rw [if_neg (by rw [hno.out 0 (by omega)]; decide), if_neg (by rw [hno.out 1 (by omega)]; decide), if_pos hP]
            rw [hP, if_pos rfl, show (styB 2).length = 3 from rfl] at hcp
            clear hno hP
            generalize s.drop 3 = rest at *
            have q2 := st_PT g2 rfl (.string { data := #[102, 109, 58] }) (.string (str rest)) (.slice none 0 0) (o1 _ _ _ _ _)
            go_wp2_with fail
            refine hcp.mono ?_
            rintro e w1 ⟨rfl, hw⟩
            subst hw
            go_wp2
            go_meet
            exact ⟨2, rest, hS.out, setPT g2 _ _ _, g1.grown (setPT_gr _ _ _) (by omega), Gr.ofGrown g4 (setPT_gr _ _ _) (by omega)⟩
        · have q1 : wr.cell? ⟨w.heap.size + 2, 3, none⟩ = some (.string { data := #[115, 104, 58] }) := g3.cell rfl
          have hcp := cutPrefix_any s (styB 3) wr
          change Calls _ _ #[.string (str s), .string { data := #[115, 104, 58] }] _ _ at hcp
          cases hP : beginsB s (styB 3)
          · rw [hP, if_neg (by decide)] at hcp
            have hno2 : Hid (∀ q, q < 4 → beginsB s (styB q) = false) := fun q hq => by
              rcases Nat.lt_or_ge q 3 with h | h
              · exact hno.out q h
              · obtain rfl : q = 3 := by omega
                exact hP
            clear hno hP
            go_wp2_with fail
            refine hcp.mono ?_
            rintro e w1 ⟨rfl, hw⟩
            subst hw
            go_wp2
            first
              | exact ⟨⟨4, by omega, (by first | rfl | go_num | (congr 1; omega)), (by first | exact Lib.hid rfl | exact Lib.hid trivial), hno2⟩, by simp [intOf] <;> omega⟩
              | (refine ⟨?_, by simp [intOf] <;> omega⟩; (repeat apply Exists.intro); exact ⟨⟨4, by omega, (by first | rfl | go_num | (congr 1; omega)), (by first | exact Lib.hid rfl | exact Lib.hid trivial), hno2⟩, rfl⟩)
          · have hS : Hid (styF s = (3, s.drop 3)) := by
              show _ = _
              unfold styF
              rw [if_neg (by rw [hno.out 0 (by omega)]; decide), if_neg (by rw [hno.out 1 (by omega)]; decide), if_neg (by rw [hno.out 2 (by omega)]; decide), if_pos hP]
            rw [hP, if_pos rfl, show (styB 3).length = 3 from rfl] at hcp
            clear hno hP
            generalize s.drop 3 = rest at *
            have q2 := st_PT g2 rfl (.string { data := #[115, 104, 58] }) (.string (str rest)) (.slice none 0 0) (o1 _ _ _ _ _)
            go_wp2_with fail
            refine hcp.mono ?_
            rintro e w1 ⟨rfl, hw⟩
            subst hw
            go_wp2
            go_meet
            exact ⟨3, rest, hS.out, setPT g2 _ _ _, g1.grown (setPT_gr _ _ _) (by omega), Gr.ofGrown g4 (setPT_gr _ _ _) (by omega)⟩
        · have hS : Hid (styF s = (1, s)) := by
            show _ = _
            unfold styF
            rw [if_neg (by rw [hno.out 0 (by omega)]; decide), if_neg (by rw [hno.out 1 (by omega)]; decide), if_neg (by rw [hno.out 2 (by omega)]; decide), if_neg (by rw [hno.out 3 (by omega)]; decide)]
          clear hno
          go_wp2
          go_meet
          exact ⟨1, s, hS.out, g2, g1, g4⟩
    case rest =>
      obtain ⟨k, rest, hS, b4, b2, hb⟩ := hcut
      have hkk := styF_le s
      rw [hS] at hkk
      obtain ⟨hk, hrl⟩ := hkk
      simp only at hk hrl
      have hRF : Hid (readF s = if rest = [] then .error 4 else if k < 2 then .ok (k, rest, []) else match toksF (k == 3) (rest.length + 1) true rest with | none => .error 4 | some T => .ok (k, rest, T)) := by
        show _ = _
        unfold readF
        rw [if_neg h100, hS]
      have p0 : wc.cell? ⟨w.heap.size + 1, 0, none⟩ = some (.string (styS k)) := b4.cell rfl
      have p1 : wc.cell? ⟨w.heap.size + 1, 1, none⟩ = some (.string (str rest)) := b4.cell rfl
      have p2 : wc.cell? ⟨w.heap.size + 1, 2, none⟩ = some (.slice none 0 0) := b4.cell rfl
      clear hS
      by_cases hre : rest = []
      · have hR : Hid (readF s = .error 4) := by show _ = _; rw [hRF.out, if_pos hre]
        have e0 : (str rest).toList = [] := by rw [str_toList, hre]
        have e1 : (str rest).toList.isEmpty = true := by rw [e0]; rfl
        obtain ⟨f1, f2, f3⟩ := fin_PT b2 rfl hb (o1 { data := #[] } { data := #[] } none 0 0)
        clear hRF hre
        go_wp2
        refine bodyPost_ret (results_c2 (fn := Tryd.f36) (by rfl) _ _ w.heap.size 52 _ (0, 0) _ (by rfl) f2 Tryd.underlying52 rfl sizePT) rfl ?_
        unfold ReadP
        rw [hR.out]
        exact ⟨rfl, f3⟩
      have e0 : ¬ (str rest).toList = [] := by rw [str_toList]; exact hre
      have e1 : (str rest).toList.isEmpty = false := by rw [str_toList]; simpa using hre
      rcases (by omega : k = 0 ∨ k = 1 ∨ k = 2 ∨ k = 3) with rfl | rfl | rfl | rfl
      · rw [show styS 0 = { data := #[112, 102, 58] } from rfl] at p0
        have hR : Hid (readF s = .ok (0, rest, [])) := by show _ = _; rw [hRF.out, if_neg hre, if_pos (by decide)]
        obtain ⟨f1, f2, f3⟩ := fin_PT b2 rfl hb (o1 { data := #[112, 102, 58] } (str rest) none 0 0)
        clear hRF hre
        go_wp2
        refine bodyPost_ret (results_c2 (fn := Tryd.f36) (by rfl) _ _ w.heap.size 52 _ (0, 0) _ (by rfl) f2 Tryd.underlying52 rfl sizePT) rfl ?_
        unfold ReadP
        rw [hR.out]
        exact ⟨⟨none, 0, rfl, Row.nil _ _⟩, f3⟩
      · rw [show styS 1 = { data := #[112, 112, 58] } from rfl] at p0
        have hR : Hid (readF s = .ok (1, rest, [])) := by show _ = _; rw [hRF.out, if_neg hre, if_pos (by decide)]
        obtain ⟨f1, f2, f3⟩ := fin_PT b2 rfl hb (o1 { data := #[112, 112, 58] } (str rest) none 0 0)
        clear hRF hre
        go_wp2
        refine bodyPost_ret (results_c2 (fn := Tryd.f36) (by rfl) _ _ w.heap.size 52 _ (0, 0) _ (by rfl) f2 Tryd.underlying52 rfl sizePT) rfl ?_
        unfold ReadP
        rw [hR.out]
        exact ⟨⟨none, 0, rfl, Row.nil _ _⟩, f3⟩
      · rw [show styS 2 = { data := #[102, 109, 58] } from rfl] at p0 b4
        have hR0 : Hid (readF s = match toksF false (rest.length + 1) true rest with | none => .error 4 | some T => .ok (2, rest, T)) := by show _ = _; rw [hRF.out, if_neg hre, if_neg (by decide)]; rfl
        have htk := tokens_any false rest wc (by omega)
        clear hRF hre
        go_wp2_with fail
        refine htk.mono ?_
        rintro e w1 ht
        unfold ToksP at ht
        obtain ⟨ht, hb1⟩ := ht
        have b4' := b4.below hb1
        have b2' := b2.below hb1
        have hb' := hb.trans (hb1.mono hb.size)
        have p0 : w1.cell? ⟨w.heap.size + 1, 0, none⟩ = some (.string { data := #[102, 109, 58] }) := b4'.cell rfl
        have p1 : w1.cell? ⟨w.heap.size + 1, 1, none⟩ = some (.string (str rest)) := b4'.cell rfl
        have p2 : w1.cell? ⟨w.heap.size + 1, 2, none⟩ = some (.slice none 0 0) := b4'.cell rfl
        have p3 : w1.frozen? ⟨w.heap.size + 1, 2, none⟩ = false := b4'.free _
        cases hT : toksF false (rest.length + 1) true rest with
        | none =>
          rw [hT] at ht
          subst ht
          have hR : Hid (readF s = .error 4) := by show _ = _; rw [hR0.out, hT]
          obtain ⟨f1, f2, f3⟩ := fin_PT b2' rfl hb' (o1 { data := #[] } { data := #[] } none 0 0)
          clear hT hR0 htk
          go_wp2
          refine bodyPost_ret (results_c2 (fn := Tryd.f36) (by rfl) _ _ w.heap.size 52 _ (0, 0) _ (by rfl) f2 Tryd.underlying52 rfl sizePT) rfl ?_
          unfold ReadP
          rw [hR.out]
          exact ⟨rfl, f3⟩
        | some T =>
          rw [hT] at ht
          obtain ⟨a, c, rfl, hrow, hbk⟩ := ht
          have hR : Hid (readF s = .ok (2, rest, T)) := by show _ = _; rw [hR0.out, hT]
          have hrow2 : TokRow (w1.setCell ⟨w.heap.size + 1, 2, none⟩ (.slice a T.length c)) a T := by
            refine Row.grown hrow (Grown.set (Grown.refl w1 (some (w.heap.size + 1))) 2 (.slice a T.length c)) (fun h => ?_)
            have h1 := hbk (by rw [flatten_len (tokC_all T)] at h; simp at h; omega)
            have h2 := b4.lt
            omega
          have hbk2 : 0 < T.length → (hd a).block ≠ w.heap.size := fun h => by
            have h1 := hbk h
            have h2 := b4.lt
            omega
          go_upto_region 18 with (fail)
          have B4 : Blk (w1.setCell ⟨w.heap.size + 1, 2, none⟩ (.slice a T.length c)) (w.heap.size + 1) 52 [.string { data := #[102, 109, 58] }, .string (str rest), .slice a T.length c] := b4'.set 2 _
          have B2 := b2'.grown (Grown.set (Grown.refl w1 (some (w.heap.size + 1))) 2 (.slice a T.length c)) (by omega)
          have HB := Gr.ofGrown hb' (Grown.set (Grown.refl w1 (some (w.heap.size + 1))) 2 (.slice a T.length c)) (by omega)
          generalize w1.setCell ⟨w.heap.size + 1, 2, none⟩ (.slice a T.length c) = V at *
          clear b4' b2' hb' p0 p1 p2 p3 hb1 b4 b2 hb hrow hT hR0 htk
          have p0 : V.cell? ⟨w.heap.size + 1, 0, none⟩ = some (.string { data := #[102, 109, 58] }) := B4.cell rfl
          have p1 : V.cell? ⟨w.heap.size + 1, 1, none⟩ = some (.string (str rest)) := B4.cell rfl
          have p2 : V.cell? ⟨w.heap.size + 1, 2, none⟩ = some (.slice a T.length c) := B4.cell rfl
          obtain ⟨f1, f2, f3⟩ := fin_PT B2 rfl HB (o1 { data := #[102, 109, 58] } (str rest) a T.length c)
          go_wp2
          refine bodyPost_ret (results_c2 (fn := Tryd.f36) (by rfl) _ _ w.heap.size 52 _ (0, 0) _ (by rfl) f2 Tryd.underlying52 rfl sizePT) rfl ?_
          unfold ReadP
          rw [hR.out]
          exact ⟨⟨a, c, rfl, Row.grown hrow2 (setPT_gr _ _ _) (fun h => hbk2 (by rw [flatten_len (tokC_all T)] at h; simp at h; omega))⟩, f3⟩
      · rw [show styS 3 = { data := #[115, 104, 58] } from rfl] at p0 b4
        have hR0 : Hid (readF s = match toksF true (rest.length + 1) true rest with | none => .error 4 | some T => .ok (3, rest, T)) := by show _ = _; rw [hRF.out, if_neg hre, if_neg (by decide)]; rfl
        have htk := tokens_any true rest wc (by omega)
        clear hRF hre
        go_wp2_with fail
        refine htk.mono ?_
        rintro e w1 ht
        unfold ToksP at ht
        obtain ⟨ht, hb1⟩ := ht
        have b4' := b4.below hb1
        have b2' := b2.below hb1
        have hb' := hb.trans (hb1.mono hb.size)
        have p0 : w1.cell? ⟨w.heap.size + 1, 0, none⟩ = some (.string { data := #[115, 104, 58] }) := b4'.cell rfl
        have p1 : w1.cell? ⟨w.heap.size + 1, 1, none⟩ = some (.string (str rest)) := b4'.cell rfl
        have p2 : w1.cell? ⟨w.heap.size + 1, 2, none⟩ = some (.slice none 0 0) := b4'.cell rfl
        have p3 : w1.frozen? ⟨w.heap.size + 1, 2, none⟩ = false := b4'.free _
        cases hT : toksF true (rest.length + 1) true rest with
        | none =>
          rw [hT] at ht
          subst ht
          have hR : Hid (readF s = .error 4) := by show _ = _; rw [hR0.out, hT]
          obtain ⟨f1, f2, f3⟩ := fin_PT b2' rfl hb' (o1 { data := #[] } { data := #[] } none 0 0)
          clear hT hR0 htk
          go_wp2
          refine bodyPost_ret (results_c2 (fn := Tryd.f36) (by rfl) _ _ w.heap.size 52 _ (0, 0) _ (by rfl) f2 Tryd.underlying52 rfl sizePT) rfl ?_
          unfold ReadP
          rw [hR.out]
          exact ⟨rfl, f3⟩
        | some T =>
          rw [hT] at ht
          obtain ⟨a, c, rfl, hrow, hbk⟩ := ht
          have hR : Hid (readF s = .ok (3, rest, T)) := by show _ = _; rw [hR0.out, hT]
          have hrow2 : TokRow (w1.setCell ⟨w.heap.size + 1, 2, none⟩ (.slice a T.length c)) a T := by
            refine Row.grown hrow (Grown.set (Grown.refl w1 (some (w.heap.size + 1))) 2 (.slice a T.length c)) (fun h => ?_)
            have h1 := hbk (by rw [flatten_len (tokC_all T)] at h; simp at h; omega)
            have h2 := b4.lt
            omega
          have hbk2 : 0 < T.length → (hd a).block ≠ w.heap.size := fun h => by
            have h1 := hbk h
            have h2 := b4.lt
            omega
          go_upto_region 18 with (fail)
          have B4 : Blk (w1.setCell ⟨w.heap.size + 1, 2, none⟩ (.slice a T.length c)) (w.heap.size + 1) 52 [.string { data := #[115, 104, 58] }, .string (str rest), .slice a T.length c] := b4'.set 2 _
          have B2 := b2'.grown (Grown.set (Grown.refl w1 (some (w.heap.size + 1))) 2 (.slice a T.length c)) (by omega)
          have HB := Gr.ofGrown hb' (Grown.set (Grown.refl w1 (some (w.heap.size + 1))) 2 (.slice a T.length c)) (by omega)
          generalize w1.setCell ⟨w.heap.size + 1, 2, none⟩ (.slice a T.length c) = V at *
          clear b4' b2' hb' p0 p1 p2 p3 hb1 b4 b2 hb hrow hT hR0 htk
          have p0 : V.cell? ⟨w.heap.size + 1, 0, none⟩ = some (.string { data := #[115, 104, 58] }) := B4.cell rfl
          have p1 : V.cell? ⟨w.heap.size + 1, 1, none⟩ = some (.string (str rest)) := B4.cell rfl
          have p2 : V.cell? ⟨w.heap.size + 1, 2, none⟩ = some (.slice a T.length c) := B4.cell rfl
          obtain ⟨f1, f2, f3⟩ := fin_PT B2 rfl HB (o1 { data := #[115, 104, 58] } (str rest) a T.length c)
          go_wp2
          refine bodyPost_ret (results_c2 (fn := Tryd.f36) (by rfl) _ _ w.heap.size 52 _ (0, 0) _ (by rfl) f2 Tryd.underlying52 rfl sizePT) rfl ?_
          unfold ReadP
          rw [hR.out]
          exact ⟨⟨a, c, rfl, Row.grown hrow2 (setPT_gr _ _ _) (fun h => hbk2 (by rw [flatten_len (tokC_all T)] at h; simp at h; omega))⟩, f3⟩
end Go.Proofs.YtcanlgcifnjfaaaDoor
