/- Layer 05: the reader's list. -/
import Derived.Test.YtjdkcocfjbjopaaV27
set_option maxRecDepth 20000
namespace Go.Proofs.Ytjdkcocfjbjopaa
open Go.RowKit Go.Hd
attribute [local go_sem ↓] h_ldV h_stV h_alV h_bsV
attribute [local go_sem] r_ldV r_stV r_alV r_bsV

/-- What value answers, so deep (the step of an induction). -/
def ValH (d : Nat) : Prop := ∀ (B gr g : Nat) (w : World) (s : Rs Unit), PRs B w gr g s → B ≤ w.heap.size → Calls Try.prog 31 #[.pointer (some ⟨gr, 0, none⟩), .int .i64 (d : Int)] w (ValP B gr g w (s.bind fun _ r => decV d r))
def Rs.unit {α : Type} (s : Rs α) : Rs Unit := match s with | .ok _ r => .ok () r | .no c => .no c
theorem PRs.unit {α : Type} {B gr g : Nat} {w : World} {s : Rs α} (h : PRs B w gr g s) : PRs B w gr g s.unit := h.cast (fun _ _ _ hh => by cases s <;> exact hh)
/-- What list answers. -/
def ListP (B gr g : Nat) (w : World) (n : Nat) (R : Rs (List PV)) (e : Ending) (w' : World) : Prop :=
  ∃ a c vs, e = .returned (.slice a (List.length vs) c) ∧ VsAt (fun b => w.heap.size ≤ b ∧ (Value.slice a (List.length vs) c).ownBlock ≠ some b) w.heap.size w' (.slice a (List.length vs) c) vs ∧ (∀ v0 r, R = .ok v0 r → vs = v0) ∧ PRs B w' gr g R ∧ Dk gr g w w' ∧ vs.length ≤ n
/-- The rest of a list. -/
def restR (f : List UInt8 → Rs PV) (n : Nat) (T : Rs (List PV)) : Rs (List PV) := T.bind fun vs r => (listR f n r).bind fun ws r2 => .ok (vs ++ ws) r2
def stepR (f : List UInt8 → Rs PV) (T : Rs (List PV)) : Rs (List PV) := T.bind fun vs r => (f r).bind fun v r2 => .ok (vs ++ [v]) r2
theorem restR_zero (f : List UInt8 → Rs PV) (T : Rs (List PV)) : restR f 0 T = T := by
  unfold restR
  cases T with
  | no c => rfl
  | ok vs r => simp [listR]
theorem restR_succ (f : List UInt8 → Rs PV) (n : Nat) (T : Rs (List PV)) : restR f (n + 1) T = restR f n (stepR f T) := by
  unfold restR stepR
  cases T with
  | no c => rfl
  | ok vs r =>
    simp only [Rs.bind_ok, listR]
    cases f r with
    | no c => rfl
    | ok v r2 =>
      simp only [Rs.bind_ok]
      cases listR f n r2 with
      | no c => rfl
      | ok ws r3 => simp
theorem restR_no (f : List UInt8 → Rs PV) (n : Nat) (c : Int) : restR f n (.no c) = .no c := rfl
theorem VsAt.own {ok : Nat → Prop} {base : Nat} {w : World} {u : Value} {vs : List PV} (h : VsAt ok base w u vs) : ∀ b, u.ownBlock = some b → base ≤ b ∧ b < w.heap.size := by
  obtain ⟨css, _, _, hO, _⟩ := h
  exact fun b hb => World.ownsRow.lt hO b hb
/-- The state of list's loop. -/
structure ListI (B gr g : Nat) (w wr : World) (u : Value) (vs : List PV) (T : Rs (List PV)) : Prop where
  row : VsAt (fun b => w.heap.size ≤ b ∧ u.ownBlock ≠ some b) w.heap.size wr u vs
  got : ∀ v0 r, T = .ok v0 r → vs = v0
  st : PRs B wr gr g T
  dk : Dk gr g w wr
theorem ListI.step {d B gr g : Nat} {w wr w5 : World} {u : Value} {vs : List PV} {T : Rs (List PV)} {cs : List Value} {v : PV} {ty : TypeId} (h : ListI B gr g w wr u vs T) (hB : B ≤ w.heap.size) (h1 : gr < w.heap.size) (h2 : g < w.heap.size) (hn : vs.length ≤ 1000000000)
    (hv : VAtP (fun b => wr.heap.size ≤ b) w5 cs v) (hv0 : ∀ v0 r, (T.unit.bind fun _ r => decV d r) = .ok v0 r → v = v0) (hP : PRs B w5 gr g (T.unit.bind fun _ r => decV d r)) (hk : Dk gr g wr w5) :
    ∃ a' c' w', (Builtin.append_ #[24, 24] ty #[u, .slice (some ⟨w5.heap.size, 0, none⟩) 1 1]).run Try.prog (w5.alloc (.cells cs.toArray 26)) = .ok (.slice a' (vs.length + 1) c') w' ∧ ListI B gr g w w' (.slice a' (vs.length + 1) c') (vs ++ [v]) (stepR (decV d) T) := by
  have hsz := h.dk.size
  have hown := h.row.own
  have hvs5 : VsAt (fun b => w.heap.size ≤ b ∧ u.ownBlock ≠ some b) w.heap.size w5 u vs := by
    refine h.row.same hk.size (fun b hb => hk.block b (hown b hb).2 (by have := (hown b hb).1; omega) (by have := (hown b hb).1; omega)) (fun b hb hlt => ⟨hk.block b hlt (by have := hb.1; omega) (by have := hb.1; omega), hb⟩)
  have hv5 : VAtP (fun b => w.heap.size ≤ b ∧ u.ownBlock ≠ some b) w5 cs v := hv.mono (fun b hb _ => ⟨by omega, fun e => by have := (hown b e).2; omega⟩)
  obtain ⟨a', c', w', e1, e2, e3⟩ := VsAt.app (ty := ty) (ok' := fun b => (w.heap.size ≤ b ∧ u.ownBlock ≠ some b) ∧ b < w5.heap.size) hvs5 (fun b hb => hb.2) hv5 (fun b hb hlt => ⟨hb, hlt⟩) hn (Nat.le_trans hsz hk.size)
  refine ⟨a', c', w', e1, ?_, ?_, ?_, ?_⟩
  · exact e2.mono (fun b hb => ⟨hb.1.1, fun e => by
      rcases e3.own b e with h4 | h4
      · exact hb.1.2 h4
      · have := hb.2; omega⟩)
  · intro v1 r hT
    unfold stepR at hT
    cases T with
    | no c => cases hT
    | ok vs0 r0 =>
      simp only [Rs.bind_ok] at hT
      cases hf : decV d r0 with
      | no c => rw [hf] at hT; cases hT
      | ok v2 r2 =>
        rw [hf] at hT
        cases hT
        rw [h.got vs0 r0 rfl, hv0 v2 r (by show decV d r0 = _; rw [hf])]
  · have hP2 : PRs B w5 gr g (stepR (decV d) T) := hP.cast (fun l e bad hh => by
      unfold stepR
      cases T with
      | no c => exact hh
      | ok vs0 r0 =>
        have hh : PRst (decV d r0) l e bad := hh
        simp only [Rs.bind_ok]
        cases hf : decV d r0 with
        | no c => rw [hf] at hh; exact hh
        | ok v2 r2 => rw [hf] at hh; exact hh)
    exact hP2.far e3.gr (fun k hk' => by have := hown k hk'; exact ⟨by omega, by omega, by omega⟩)
  · exact ⟨(e3.gr.os.trans hk.os).trans h.dk.os, (e3.gr.tape.trans hk.tape).trans h.dk.tape, (e3.gr.output.trans hk.output).trans h.dk.output, Nat.le_trans (Nat.le_trans hsz hk.size) e3.gr.size, fun i hi g1 g2 => by
      rw [e3.gr.block i (by have := hk.size; omega) (fun e => by have := (hown i e.symm).1; omega), hk.block i (by omega) g1 g2]
      exact h.dk.block i hi g1 g2⟩
set_option maxHeartbeats 1000000 in
theorem rdlist_any {d : Nat} (HV : ValH d) {B gr g n : Nat} {w : World} {s : Rs Unit} (h : PRs B w gr g s) (hB : B ≤ w.heap.size) (hn : n ≤ 65536) :
    Calls Try.prog 48 #[.pointer (some ⟨gr, 0, none⟩), .int .i64 (n : Int), .int .i64 (d : Int)] w (ListP B gr g w n (s.bind fun _ r => listR (decV d) n r)) := by
  obtain ⟨hg1, hg2⟩ := h.lt
  have HR : Hid ((s.bind fun _ r => listR (decV d) n r) = restR (decV d) n (s.bind fun _ r => .ok [] r)) := by
    show _ = _
    unfold restR
    cases s with
    | no c => rfl
    | ok x r =>
      simp only [Rs.bind_ok, List.nil_append]
      cases listR (decV d) n r <;> rfl
  have hI0 : ListI B gr g w w (.slice none 0 0) [] (s.bind fun _ r => .ok [] r) := ⟨VsAt.nil _ _ _, fun v0 r hv => by cases s <;> cases hv; rfl, h.cast (fun _ _ _ hh => by cases s <;> exact hh), Dk.refl _ _ _⟩
  generalize (s.bind fun _ r => listR (decV d) n r) = R at *
  generalize (s.bind fun _ r => (.ok [] r : Rs (List PV))) = T0 at *
  have HVd := Lib.hid HV
  clear HV
  go_enter Try.func48, Try.ntmps48
  go_wp2
  go_loopw [7, 8] (fun u i wr => ∃ (j : Nat) (a : Option Addr) (c : Nat) (vs : List PV) (T : Rs (List PV)), u = .slice a vs.length c ∧ j ≤ n ∧ vs.length = j ∧ i = .int .i64 j ∧ R = restR (decV d) (n - j) T ∧ ListI B gr g w wr (.slice a vs.length c) vs T) (fun _ i _ => n - (intOf i).toNat)
  case atStart => exact ⟨0, none, 0, [], T0, rfl, Nat.zero_le _, rfl, rfl, HR.out, hI0⟩
  case round =>
    clear hI0 HR
    obtain ⟨j, a, c, vs, T, rfl, hj, hvl, rfl, hR, hI⟩ := hrel
    have HVL := Lib.hid hvl
    have HR := Lib.hid hR
    clear hR hvl
    have hf := failed_any hI.st
    by_cases hlt : j < n
    · have j1 : (j : Int) < (n : Int) := by omega
      cases T with
      | no cc =>
        rw [Rs.isNo_no] at hf
        go_wp2_with fail
        refine hf.mono ?_
        rintro ee w2 ⟨rfl, rfl⟩
        go_wp2
        go_ret
        have hr := HR.out
        rw [restR_no] at hr
        rw [hr]
        exact ⟨a, c, vs, rfl, hI.row, (fun _ _ h => by cases h), hI.st, hI.dk, by have := HVL.out; omega⟩
      | ok v0 r =>
        rw [Rs.isNo_ok] at hf
        have hval := HVd.out B gr g wr _ hI.st.unit (Nat.le_trans hB hI.dk.size)
        have j0 : (0 : Int) ≤ (j : Int) := by omega
        have jb : IntKind.i64.wrap ((j : Int) + 1) = (j : Int) + 1 := IntWalk.i64_in _ (by omega)
        go_wp2_with fail
        refine hf.mono ?_
        rintro ee w2 ⟨rfl, rfl⟩
        clear hf
        go_wp2_with fail
        refine hval.mono ?_
        rintro ee w5 ⟨cs, v, rfl, hv, hv0, hP, hk⟩
        obtain ⟨a', c', w', hrun, hI2⟩ := ListI.step (ty := 24) hI hB hg1 hg2 (by have := HVL.out; omega) hv hv0 hP hk
        have x6 : (List.toArray cs).size = 6 := hv.len
        have HR2 : Hid (R = restR (decV d) (n - (j + 1)) (stepR (decV d) (.ok v0 r))) := by
          show _ = _
          rw [HR.out, show n - j = (n - (j + 1)) + 1 by omega, restR_succ]
        have hl2 : (vs ++ [v]).length = j + 1 := by have := HVL.out; simp; omega
        have hl3 : vs.length + 1 = (vs ++ [v]).length := by simp
        rw [hl3] at hrun hI2
        have HL2 := Lib.hid hl2
        generalize vs ++ [v] = vs2 at *
        clear hI hv hv0 hP hk hval HR hl2 hl3
        go_wp2_with (at_builtin; refine wpList_append_run hrun rfl rfl rfl rfl ?_)
        first
          | exact ⟨⟨j + 1, a', c', vs2, _, rfl, by omega, HL2.out, (by first | rfl | go_num | (congr 1; omega)), HR2.out, hI2⟩, by simp [intOf] <;> omega⟩
          | (refine ⟨?_, by simp [intOf] <;> omega⟩; (repeat apply Exists.intro); exact ⟨⟨j + 1, a', c', vs2, _, rfl, by omega, HL2.out, (by first | rfl | go_num | (congr 1; omega)), HR2.out, hI2⟩, rfl⟩)
    · obtain rfl : j = n := by omega
      go_wp2
      go_ret
      have hr := HR.out
      rw [Nat.sub_self, restR_zero] at hr
      rw [hr]
      exact ⟨a, c, vs, rfl, hI.row, hI.got, hI.st, hI.dk, by have := HVL.out; omega⟩
end Go.Proofs.Ytjdkcocfjbjopaa
