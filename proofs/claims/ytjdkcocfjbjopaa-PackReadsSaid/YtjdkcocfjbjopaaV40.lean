/- Layer 05: the document's reader: its state, take, num; what lists and maps need. -/
import Derived.Test.YtjdkcocfjbjopaaV32
set_option maxRecDepth 20000
namespace Go.Proofs.Ytjdkcocfjbjopaa
open Go.RowKit Go.Hd

/-- The state as the document's own reader has it: place, error. -/
def RSst {α : Type} (s : Rs α) (L : List UInt8) (p : Nat) (e : Int) : Prop := match s with
  | .ok _ r => r = L.drop p ∧ e = 0
  | .no c => e = c ∧ c ≠ 0
def RRs {α : Type} (B : Nat) (w : World) (g : Nat) (L : List UInt8) (s : Rs α) : Prop :=
  ∃ (a : Option Addr) (c p : Nat) (e : Int), Blk w g 68 [.slice a L.length c, .int .i64 (p : Int), .int .i64 e] ∧ Row w a (L.map b8) ∧ (L.length ≤ c ∧ c ≤ maxLen) ∧ (0 < L.length → (hd a).block < B) ∧ B ≤ g ∧ p ≤ L.length ∧ L.length ≤ 65536 ∧ RSst s L p e
theorem RRs.keep {α : Type} {B g : Nat} {w w' : World} {L : List UInt8} {s : Rs α} (h : RRs B w g L s) (hb : Below w.heap.size w w') : RRs B w' g L s := by
  obtain ⟨a, c, p, e, h1, h2, h3⟩ := h
  exact ⟨a, c, p, e, h1.below hb, h2.below hb, h3⟩
theorem RRs.far {α : Type} {B g : Nat} {w w' : World} {L : List UInt8} {s : Rs α} (h : RRs B w g L s) {r : Option Nat} (hg : w.grownBy w' r) (hr : ∀ k, r = some k → B ≤ k ∧ k ≠ g) : RRs B w' g L s := by
  obtain ⟨a, c, p, e, h1, h2, h3, h4, h5⟩ := h
  exact ⟨a, c, p, e, h1.keptBy hg (fun e => (hr g e).2 rfl), Row.keptFar h2 hg (fun h0 e => by have := (hr _ e).1; have := h4 (by simpa using h0); omega), h3, h4, h5⟩
theorem RRs.lt {α : Type} {B g : Nat} {w : World} {L : List UInt8} {s : Rs α} (h : RRs B w g L s) : g < w.heap.size := by
  obtain ⟨a, c, p, e, h1, _⟩ := h; exact h1.lt
theorem RRs.cast {α β : Type} {B g : Nat} {w : World} {L : List UInt8} {s : Rs α} {s' : Rs β} (h : RRs B w g L s) (hs : ∀ p e, RSst s L p e → RSst s' L p e) : RRs B w g L s' := by
  obtain ⟨a, c, p, e, h1, h2, h3, h4, h5, h6, h7, h8⟩ := h
  exact ⟨a, c, p, e, h1, h2, h3, h4, h5, h6, h7, hs _ _ h8⟩
theorem RRs.unit {α : Type} {B g : Nat} {w : World} {L : List UInt8} {s : Rs α} (h : RRs B w g L s) : RRs B w g L s.unit := h.cast (fun _ _ hh => by cases s <;> exact hh)
/-- The error's cell. -/
theorem RRs.err {α : Type} {B g : Nat} {w : World} {L : List UInt8} {s : Rs α} (h : RRs B w g L s) : ∃ e : Int, w.cell? ⟨g, 2, none⟩ = some (.int .i64 e) ∧ w.frozen? ⟨g, 2, none⟩ = false ∧ (s.isNo = false → e = 0) ∧ (s.isNo = true → e ≠ 0) := by
  obtain ⟨a, c, p, e, h1, h2, h3, h4, h5, h6, h7, h8⟩ := h
  refine ⟨e, h1.cell rfl, h1.free 2, fun hs => ?_, fun hs => ?_⟩
  · cases s with
    | ok x r => exact h8.2
    | no c => cases hs
  · cases s with
    | ok x r => cases hs
    | no c => rw [h8.1]; exact h8.2
theorem RRs.ok0 {α : Type} {B g : Nat} {w : World} {L r : List UInt8} {x : α} (h : RRs B w g L (.ok x r)) : w.cell? ⟨g, 2, none⟩ = some (.int .i64 0) := by
  obtain ⟨a, c, p, e, h1, h2, h3, h4, h5, h6, h7, h8⟩ := h
  obtain ⟨_, rfl⟩ := h8
  exact h1.cell rfl
theorem RRs.noC {α : Type} {B g : Nat} {w : World} {L : List UInt8} {c : Int} (h : RRs B w g L (.no c : Rs α)) : w.cell? ⟨g, 2, none⟩ = some (.int .i64 c) ∧ c ≠ 0 := by
  obtain ⟨a, c, p, e, h1, h2, h3, h4, h5, h6, h7, h8⟩ := h
  obtain ⟨rfl, hc⟩ := h8
  exact ⟨h1.cell rfl, hc⟩
/-- An error is set. -/
theorem RRs.fail {α β : Type} {B g : Nat} {w : World} {L : List UInt8} {s : Rs α} (h : RRs B w g L s) (x : Int) (hx : x ≠ 0) : RRs B (w.setCell ⟨g, 2, none⟩ (.int .i64 x)) g L (.no x : Rs β) ∧ w.grownBy (w.setCell ⟨g, 2, none⟩ (.int .i64 x)) (some g) ∧ w.frozen? ⟨g, 2, none⟩ = false ∧ (∃ z, w.cell? ⟨g, 2, none⟩ = some (.int .i64 z)) := by
  obtain ⟨a, c, p, e, h1, h2, h3, h4, h5, h6, h7, h8⟩ := h
  have hg : w.grownBy (w.setCell ⟨g, 2, none⟩ (.int .i64 x)) (some g) := grown_set (World.grownBy.refl _ _) _ _
  refine ⟨⟨a, c, p, x, h1.set 2 (.int .i64 x), ?_, h3, h4, h5, h6, h7, rfl, hx⟩, hg, h1.free 2, e, h1.cell rfl⟩
  exact Row.grown h2 hg (fun h0 => by have := h4 (by simpa using h0); omega)
theorem Dk.one {g : Nat} {a b : World} (h : a.grownBy b (some g)) : Dk g g a b := Dk.ofGrown h (.inl rfl)
/-- What take answers. -/
def RTkP (B g : Nat) (L : List UInt8) (w : World) (n : Nat) (R : Rs (List UInt8)) (e : Ending) (w' : World) : Prop :=
  ∃ (a : Option Addr) (c : Nat) (t : List UInt8), e = .returned (.slice a t.length c) ∧ (t.length ≤ c ∧ c ≤ maxLen) ∧ Row w' a (t.map b8) ∧ (∀ t0 r, R = .ok t0 r → t = t0) ∧ (R.isNo = true → t = []) ∧ t.length ≤ n ∧ RRs B w' g L R ∧ Dk g g w w'
set_option maxHeartbeats 1000000 in
theorem rtake_any {α : Type} {B g n : Nat} {L : List UInt8} {w : World} {s : Rs α} (h : RRs B w g L s) (hn : n ≤ 4294967295) :
    Calls Try.prog 55 #[.pointer (some ⟨g, 0, none⟩), .int .i64 (n : Int)] w (RTkP B g L w n (s.bind fun _ r => takeR n r)) := by
  have h' := h
  obtain ⟨a, c, p, e, hB, hr, ⟨hc1, hc2⟩, hk, hBg, hp, hL, hst⟩ := h
  have c0 : w.cell? ⟨g, 0, none⟩ = _ := hB.cell rfl
  have c1 : w.cell? ⟨g, 1, none⟩ = _ := hB.cell rfl
  have c2 : w.cell? ⟨g, 2, none⟩ = _ := hB.cell rfl
  have f1 := hB.free 1
  have f2 := hB.free 2
  have w1 : IntKind.i64.wrap ((L.length : Int) - (p : Int)) = (L.length : Int) - (p : Int) := IntWalk.i64_in _ (by omega)
  cases s with
  | no cc =>
    obtain ⟨rfl, hne⟩ := hst
    have e1 : (e == 0) = false := by simpa using hne
    have e2 : (e != 0) = true := by simpa using hne
    go_enter Try.func55, Try.ntmps55
    go_wp2
    go_quiet (fail)
    go_wp2
    go_ret
    exact ⟨none, 0, [], rfl, ⟨Nat.le_refl _, Nat.zero_le _⟩, Row.nil _ _, (fun _ _ h => by cases h), fun _ => rfl, Nat.zero_le _, (h'.keep (Gr.drewN w _)).cast (fun _ _ hh => hh), Dk.ofBelow (Gr.drewN w _)⟩
  | ok x r =>
    obtain ⟨hrr, rfl⟩ := hst
    have HRR := Lib.hid hrr
    clear hrr
    have hrl : r.length = L.length - p := by rw [HRR.out, List.length_drop]
    by_cases hl : L.length - p < n
    · have HT : Hid (((Rs.ok x r).bind fun _ r => takeR n r) = .no 3) := by
        show _ = _
        rw [Rs.bind_ok]; unfold takeR; rw [if_pos (by omega)]
      have i1 : (L.length : Int) - (p : Int) < (n : Int) := by omega
      have HQ := fun m => RRs.fail (β := List UInt8) (h'.keep (Gr.drewN w m)) 3 (by decide)
      clear hrl hl
      go_enter Try.func55, Try.ntmps55
      go_wp2
      go_quiet (fail)
      go_wp2
      go_ret
      rw [HT.out]
      exact ⟨none, 0, [], rfl, ⟨Nat.le_refl _, Nat.zero_le _⟩, Row.nil _ _, (fun _ _ h => by cases h), fun _ => rfl, Nat.zero_le _, (HQ _).1, (Dk.ofBelow (Gr.drewN w _)).trans (Dk.one (HQ _).2.1)⟩
    · have HT : Hid (((Rs.ok x r).bind fun _ r => takeR n r) = .ok (r.take n) (r.drop n)) := by
        show _ = _
        rw [Rs.bind_ok]; unfold takeR; rw [if_neg (by omega)]
      have i1 : ¬ (L.length : Int) - (p : Int) < (n : Int) := by omega
      have w2 : IntKind.i64.wrap ((p : Int) + (n : Int)) = (p : Int) + (n : Int) := IntWalk.i64_in _ (by omega)
      have w3 : IntKind.i64.wrap ((p : Int) + (n : Int) - (n : Int)) = (p : Int) := by rw [IntWalk.i64_in _ (by omega)]; omega
      obtain ⟨a', c', hcut, k1, k2, k3⟩ := cut_lh (P := Try.prog) (t := 22) (e := 5) (s := 1) (by rfl) (by kernel_rfl) hr (n := L.length) (c := c) (k1 := .i64) (k2 := .i64) (i := (p : Int)) (j := (p : Int) + (n : Int)) (p := p) (q := p + n) rfl (by omega) (by omega) (by omega)
      rw [Nat.add_sub_cancel_left] at hcut k1 k3
      have hg : ∀ m k : Nat, w.grownBy (((w.drewN m).setCell ⟨g, 1, none⟩ (.int .i64 ((p : Int) + (n : Int)))).drewN k) (some g) := fun m k => grownBy_drewN (grown_set (grownBy_drewN (World.grownBy.refl _ _) m) _ _) k
      have hR2 : ∀ m k : Nat, RRs B (((w.drewN m).setCell ⟨g, 1, none⟩ (.int .i64 ((p : Int) + (n : Int)))).drewN k) g L (.ok (r.take n) (r.drop n)) := by
        intro m k
        refine ⟨a, c, p + n, 0, ?_, Row.grown hr (hg m k) (fun h0 => by have := hk (by simpa using h0); omega), ⟨hc1, hc2⟩, hk, hBg, by omega, hL, ?_, rfl⟩
        · have := hB.set 1 (.int .i64 ((p : Int) + (n : Int)))
          exact this
        · rw [HRR.out, List.drop_drop]
      have hrow : ∀ m k : Nat, Row (((w.drewN m).setCell ⟨g, 1, none⟩ (.int .i64 ((p : Int) + (n : Int)))).drewN k) a' ((r.take n).map b8) := by
        intro m k
        have hr2 := Row.grown hr (hg m k) (fun h0 => by have := hk (by simpa using h0); omega)
        obtain ⟨a2, c2', hcut2, _, _, j3⟩ := cut_lh (P := Try.prog) (t := 22) (e := 5) (s := 1) (by rfl) (by kernel_rfl) hr2 (n := L.length) (c := c) (k1 := .i64) (k2 := .i64) (i := (p : Int)) (j := (p : Int) + (n : Int)) (p := p) (q := p + n) rfl (by omega) (by omega) (by omega)
        rw [Nat.add_sub_cancel_left] at hcut2 j3
        have e1 := (hcut w).symm.trans (hcut2 w)
        simp only [Result.ok.injEq, Value.slice.injEq] at e1
        rw [e1.1.1, HRR.out, List.map_take, List.map_drop]
        simpa using j3
      have htl : (r.take n).length = n := by rw [List.length_take]; omega
      have HF : Hid (∀ m k : Nat, RTkP B g L w n (.ok (r.take n) (r.drop n)) (.returned (.slice a' n c')) (((w.drewN m).setCell ⟨g, 1, none⟩ (.int .i64 ((p : Int) + (n : Int)))).drewN k)) := fun m k =>
        ⟨a', c', r.take n, by rw [htl], ⟨by rw [htl]; exact k1, by omega⟩, hrow m k, (fun _ _ h => by cases h; rfl), (fun h => by cases h), by rw [htl]; exact Nat.le_refl _, hR2 m k, Dk.one (hg m k)⟩
      clear hrow htl hR2 hg hrl hl k1 k2 k3 hr
      go_enter Try.func55, Try.ntmps55
      go_wp2
      go_quiet (fail)
      go_wp2
      go_quiet (fail)
      go_wp2
      go_ret
      rw [HT.out]
      exact HF.out _ _
/-- What num answers. -/
def RNumP (B g : Nat) (L : List UInt8) (w : World) (lim : Nat) (R : Rs Nat) (e : Ending) (w' : World) : Prop :=
  ∃ x : Nat, e = .returned (.int .u64 (x : Int)) ∧ x < lim ∧ (∀ x0 r, R = .ok x0 r → x = x0) ∧ RRs B w' g L R ∧ Dk g g w w'
set_option maxHeartbeats 1000000 in
theorem rrnum_any {α : Type} {B g n lo : Nat} {L : List UInt8} {w : World} {s : Rs α} (h : RRs B w g L s) (h1n : 1 ≤ n) (h8 : n ≤ 8) (hlo : lo < 18446744073709551616) :
    Calls Try.prog 66 #[.pointer (some ⟨g, 0, none⟩), .int .i64 (n : Int), .int .u64 (lo : Int)] w (RNumP B g L w (256 ^ n) (s.bind fun _ r => leastR n lo r)) := by
  have htk := rtake_any (n := n) h (by omega)
  have HR : Hid ((s.bind fun _ r => leastR n lo r) = (s.bind fun _ r => takeR n r).bind fun b r => if getL b.reverse < lo then .no 4 else .ok (getL b.reverse) r) := by
    show _ = _
    cases s with
    | no c => rfl
    | ok x r =>
      simp only [Rs.bind_ok]
      unfold leastR bigR
      rw [Rs.bind_bind]; rfl
  generalize (s.bind fun _ r => leastR n lo r) = R at *
  generalize (s.bind fun _ r => takeR n r) = T at *
  have HN := Lib.hid (And.intro h1n h8)
  have HLO := Lib.hid hlo
  clear h1n h8 hlo h
  go_enter Try.func66, Try.ntmps66
  go_wp2_with fail
  refine htk.mono ?_
  rintro ee w1 ⟨a, c, t, rfl, ⟨hc, hm⟩, hrow, ht, htn, htl, hP, hk⟩
  have hbk := back_any a t.length c t w1 rfl hrow (by have := HN.out; omega)
  clear htk
  go_wp2_with fail
  refine hbk.mono ?_
  rintro ee w2 ⟨v, rfl, hfr⟩
  obtain ⟨a2, c2, rfl, hrow2, hb2, hm2, hc2⟩ := hfr.open
  have hP2 := hP.keep hb2
  have hk2 := hk.trans (Dk.ofBelow hb2)
  have htl8 : t.reverse.length ≤ n := by rw [List.length_reverse]; exact htl
  have hget : Calls Try.prog 71 #[.slice a2 t.length c2] w2 fun e w' => (∃ bb, e = .returned (.tuple #[.int .u64 (getL t.reverse : Int), .bool bb])) ∧ w2 = w' := by
    by_cases h0 : t.reverse.length < 1
    · have ht0 : t.reverse = [] := List.eq_nil_of_length_eq_zero (by omega)
      rw [ht0]
      rw [List.length_reverse] at h0
      exact (rget_none a2 _ c2 w2 (.inl h0)).mono fun e w' ⟨h1, h2⟩ => ⟨⟨false, h1⟩, h2⟩
    · exact (rget_any a2 _ c2 t.reverse w2 (by rw [List.length_reverse]) hrow2 (by omega) (Nat.le_trans htl8 HN.out.2)).mono fun e w' ⟨h1, h2⟩ => ⟨⟨true, h1⟩, h2⟩
  have hlim : getL t.reverse < 256 ^ n := getL_lim htl HN.out.2
  have htx : ∀ b r, T = .ok b r → getL t.reverse = getL b.reverse := fun b r hb => by rw [ht b r hb]
  clear hbk hfr hrow hrow2 hP hk ht htn
  generalize getL t.reverse = x at *
  cases T with
  | no cc =>
    obtain ⟨q1, q2⟩ := hP2.noC
    have e1 : (cc == 0) = false := by simpa using q2
    have HF : Hid (RNumP B g L w (256 ^ n) R (.returned (.int .u64 (x : Int))) w2) := by
      show RNumP _ _ _ _ _ _ _ _
      rw [HR.out]
      exact ⟨x, rfl, hlim, (fun _ _ h => by cases h), hP2.cast (fun _ _ hh => hh), hk2⟩
    clear hP2 hk2 hlim
    go_wp2_with fail
    refine hget.mono ?_
    rintro ee w3 ⟨⟨bb, rfl⟩, rfl⟩
    go_wp2
    go_ret
    exact HF.out
  | ok b r =>
    have hxb := htx b r rfl
    have q1 := hP2.ok0
    by_cases hlt : x < lo
    · have i1 : (x : Int) < (lo : Int) := by omega
      obtain ⟨hP3, hg3, f2, z, c2'⟩ := RRs.fail (β := Nat) hP2 4 (by decide)
      have HF : Hid (RNumP B g L w (256 ^ n) R (.returned (.int .u64 (x : Int))) (w2.setCell ⟨g, 2, none⟩ (.int .i64 4))) := by
        show RNumP _ _ _ _ _ _ _ _
        rw [HR.out, Rs.bind_ok, if_pos (by rw [← hxb]; exact hlt)]
        exact ⟨x, rfl, hlim, (fun _ _ h => by cases h), hP3, hk2.trans (Dk.one hg3)⟩
      clear hP2 hk2 hlim hlt hxb htx hP3 hg3
      go_wp2_with fail
      refine hget.mono ?_
      rintro ee w3 ⟨⟨bb, rfl⟩, rfl⟩
      go_wp2
      go_ret
      exact HF.out
    · have i1 : ¬ (x : Int) < (lo : Int) := by omega
      have HF : Hid (RNumP B g L w (256 ^ n) R (.returned (.int .u64 (x : Int))) w2) := by
        show RNumP _ _ _ _ _ _ _ _
        rw [HR.out, Rs.bind_ok, if_neg (by rw [← hxb]; exact hlt)]
        exact ⟨x, rfl, hlim, (fun _ _ h => by cases h; exact hxb), hP2.cast (fun _ _ hh => hh), hk2⟩
      clear hP2 hk2 hlim hlt hxb htx
      go_wp2_with fail
      refine hget.mono ?_
      rintro ee w3 ⟨⟨bb, rfl⟩, rfl⟩
      go_wp2
      go_ret
      exact HF.out
attribute [local go_sem ↓] h_ldV h_stV h_alV
attribute [local go_sem] r_ldV r_stV r_alV

/-- What a reading of a value answers. -/
def RValP (B g : Nat) (L : List UInt8) (w : World) (R : Rs PV) (e : Ending) (w' : World) : Prop :=
  ∃ cs v, e = .returned (.agg (List.toArray cs)) ∧ VAtP (fun b => w.heap.size ≤ b) w' cs v ∧ (∀ v0 r, R = .ok v0 r → v = v0) ∧ RRs B w' g L R ∧ Dk g g w w'
theorem rval_end {α : Type} {B g : Nat} {L : List UInt8} {w w2 : World} {cs old : List Value} {v : PV} {S : Rs α} {R : Rs PV} (hres : Blk w2 w.heap.size 26 old) (ho : old.length = 6) (hP : RRs B w2 g L S) (hk : Dk g g w w2) (hv : VAtP (fun b => w.heap.size + 1 ≤ b) w2 cs v) (hB : B ≤ w.heap.size) (h1 : g < w.heap.size)
    (hc : ∀ p e, RSst S L p e → RSst R L p e) (hg : ∀ v0 r, R = .ok v0 r → v = v0) :
    (stoOp 26 (.pointer (some ⟨w.heap.size, 0, none⟩)) (.agg (List.toArray cs))).run Try.prog w2 = .ok () (w2.setRow w.heap.size (List.toArray cs)) ∧ Blk (w2.setRow w.heap.size (List.toArray cs)) w.heap.size 26 cs ∧ Hid (RValP B g L w R (.returned (.agg (List.toArray cs))) (w2.setRow w.heap.size (List.toArray cs))) := by
  have hgr := setRow_gr w2 w.heap.size (List.toArray cs)
  refine ⟨st_row hres ho _ hv.len (all_oneCell_toArray hv.one), setRow_blk hres cs, ?_⟩
  show RValP _ _ _ _ _ _ _
  refine ⟨_, _, rfl, ?_, hg, (hP.far hgr (fun k hk => by cases hk; exact ⟨hB, by omega⟩)).cast hc, ?_⟩
  · exact (hv.same (w' := w2.setRow w.heap.size _) (fun z hz hlt => hgr.block z hlt (by have hz : w.heap.size + 1 ≤ z := hz; simp; omega))).mono (fun z hz _ => by have hz : w.heap.size + 1 ≤ z := hz; omega)
  · exact ⟨hk.os, hk.tape, hk.output, by simp; exact hk.size, fun i hi g1 g2 => (hgr.block i (by have := hk.size; omega) (by simp; omega)).trans (hk.block i hi g1 g2)⟩
theorem least0 (n : Nat) (r : List UInt8) : leastR n 0 r = bigR n r := by
  unfold leastR
  cases bigR n r with
  | no c => rfl
  | ok x r => simp
theorem VAtP.numP {ok : Nat → Prop} (w : World) {n : Int} (h : in64 n) : VAtP ok w [.int .i64 3, .int .i64 n, .slice none 0 0, .string { data := #[] }, .slice none 0 0, .slice none 0 0] (pNum n) := VAtP.num w h

theorem VAtP.kindP {ok : Nat → Prop} (w : World) {k : Int} (h : in64 k) : VAtP ok w [.int .i64 k, .int .i64 0, .slice none 0 0, .string { data := #[] }, .slice none 0 0, .slice none 0 0] (pKind k) := VAtP.plain (n := 0) (t := []) w h (by unfold in64; omega) (Nat.zero_le _)
theorem hd_add0 (a : Option Addr) : (hd a).add 0 = hd a := by unfold Addr.add; simp

/-- The state of a list's, a map's loop. -/
structure RJ {α : Type} (B g : Nat) (L : List UInt8) (w wr : World) (k : Int) (uK uL : Value) (ks : List (List UInt8)) (vs : List PV) (S : Rs α) : Prop where
  res : Blk wr w.heap.size 26 zV.toList
  vb : VB (w.heap.size + 1) (w.heap.size + 1) wr (.mk k 0 [] [] ks vs) (.slice none 0 0) uK uL
  st : RRs B wr g L S
  dk : Dk g g w wr
theorem RJ.call {α β : Type} {B g : Nat} {L : List UInt8} {w wr w2 : World} {k : Int} {uK uL : Value} {ks : List (List UInt8)} {vs : List PV} {S : Rs α} {S2 : Rs β} (h : RJ B g L w wr k uK uL ks vs S) (h1 : g < w.heap.size) (hP : RRs B w2 g L S2) (hk : Dk g g wr w2) : RJ B g L w w2 k uK uL ks vs S2 :=
  ⟨hk.blk h.res (by omega) (by omega), h.vb.keep hk.size (fun b hb hlt => hk.block b hlt (by omega) (by omega)), hP, h.dk.trans hk⟩
theorem RJ.cast {α β : Type} {B g : Nat} {L : List UInt8} {w wr : World} {k : Int} {uK uL : Value} {ks : List (List UInt8)} {vs : List PV} {S : Rs α} {S2 : Rs β} (h : RJ B g L w wr k uK uL ks vs S) (hc : ∀ p e, RSst S L p e → RSst S2 L p e) : RJ B g L w wr k uK uL ks vs S2 := ⟨h.res, h.vb, h.st.cast hc, h.dk⟩
theorem RJ.drew {α : Type} {B g : Nat} {L : List UInt8} {w wr : World} {k : Int} {uK uL : Value} {ks : List (List UInt8)} {vs : List PV} {S : Rs α} (h : RJ B g L w wr k uK uL ks vs S) : RJ B g L w wr.drew k uK uL ks vs S :=
  ⟨h.res, h.vb.keep (Nat.le_refl _) (fun _ _ _ => rfl), h.st.keep (Gr.drewN wr 1), ⟨h.dk.os, h.dk.tape, h.dk.output, h.dk.size, h.dk.block⟩⟩
theorem RJ.drewN {α : Type} {B g : Nat} {L : List UInt8} {w wr : World} {k : Int} {uK uL : Value} {ks : List (List UInt8)} {vs : List PV} {S : Rs α} (h : RJ B g L w wr k uK uL ks vs S) (m : Nat) : RJ B g L w (wr.drewN m) k uK uL ks vs S :=
  ⟨h.res, h.vb.keep (Nat.le_refl _) (fun _ _ _ => rfl), h.st.keep (Gr.drewN wr m), ⟨h.dk.os, h.dk.tape, h.dk.output, h.dk.size, h.dk.block⟩⟩
theorem RJ.after {α : Type} {B g : Nat} {L : List UInt8} {w wr w' : World} {k : Int} {uK uL u2 uK2 uL2 x : Value} {ks ks2 : List (List UInt8)} {vs vs2 : List PV} {S : Rs α} {i : Nat} (h : RJ B g L w wr k uK uL ks vs S) (hB : B ≤ w.heap.size) (h1 : g < w.heap.size) (hg : Gro wr w' uK u2 ∨ Gro wr w' uL u2)
    (hv : VB (w.heap.size + 1) (w.heap.size + 1) (w'.setCell ⟨w.heap.size + 1, i, none⟩ x) (.mk k 0 [] [] ks2 vs2) (.slice none 0 0) uK2 uL2) : RJ B g L w (w'.setCell ⟨w.heap.size + 1, i, none⟩ x) k uK2 uL2 ks2 vs2 S := by
  have hk := h.vb.kown
  have hs : w'.grownBy (w'.setCell ⟨w.heap.size + 1, i, none⟩ x) (some (w.heap.size + 1)) := grown_set (World.grownBy.refl _ _) _ _
  have key : ∀ {u : Value}, (∀ b, u.ownBlock = some b → w.heap.size + 1 ≤ b ∧ b < wr.heap.size) → wr.grownBy w' u.ownBlock → RJ B g L w (w'.setCell ⟨w.heap.size + 1, i, none⟩ x) k uK2 uL2 ks2 vs2 S := by
    intro u hu hgr
    refine ⟨?_, hv, (h.st.far hgr (fun k hk => by have := (hu k hk).1; exact ⟨by omega, by omega⟩)).far hs (fun k hk => by cases hk; exact ⟨by omega, by omega⟩), ?_⟩
    · exact (h.res.keptBy hgr (fun e => by have := (hu _ e).1; omega)).grown hs (by omega)
    · refine ⟨hgr.os.trans h.dk.os, hgr.tape.trans h.dk.tape, hgr.output.trans h.dk.output, Nat.le_trans h.dk.size (by simpa using hgr.size), fun k hk1 g1 g2 => ?_⟩
      have hws := h.dk.size
      rw [hs.block k (by have := hgr.size; omega) (by simp; omega), hgr.block k (by omega) (fun e => by have := (hu k e.symm).1; omega)]
      exact h.dk.block k hk1 g1 g2
  rcases hg with hg | hg
  · exact key hk.1 hg.gr
  · exact key hk.2 hg.gr
/-- What a list, a map is at the end. -/
theorem RJ.done {α : Type} {B g : Nat} {L : List UInt8} {w wc : World} {k : Int} {uK uL : Value} {ks : List (List UInt8)} {vs : List PV} {S : Rs α} {R : Rs PV} (hI : RJ B g L w wc k uK uL ks vs S) (hB : B ≤ w.heap.size) (h1 : g < w.heap.size) (hc : ∀ p e, RSst S L p e → RSst R L p e) (hg : ∀ v0 r, R = .ok v0 r → PV.mk k 0 [] [] ks vs = v0) :
    (ldOp 26 (.pointer (some ⟨w.heap.size + 1, 0, none⟩))).run Try.prog wc = .ok (.agg (List.toArray (α := Value) [.int .i64 k, .int .i64 0, .slice none 0 0, strV [], uK, uL])) wc ∧
    (stoOp 26 (.pointer (some ⟨w.heap.size, 0, none⟩)) (.agg (List.toArray [.int .i64 k, .int .i64 0, .slice none 0 0, strV [], uK, uL]))).run Try.prog wc = .ok () (wc.setRow w.heap.size (List.toArray [.int .i64 k, .int .i64 0, .slice none 0 0, strV [], uK, uL])) ∧
    Blk (wc.setRow w.heap.size (List.toArray [.int .i64 k, .int .i64 0, .slice none 0 0, strV [], uK, uL])) w.heap.size 26 [.int .i64 k, .int .i64 0, .slice none 0 0, strV [], uK, uL] ∧
    Hid (RValP B g L w R (.returned (.agg (List.toArray (α := Value) [.int .i64 k, .int .i64 0, .slice none 0 0, strV [], uK, uL]))) (wc.setRow w.heap.size (List.toArray [.int .i64 k, .int .i64 0, .slice none 0 0, strV [], uK, uL]))) := by
  have HP := hI.vb.done
  obtain ⟨a1, a2, a3⟩ := rval_end (R := R) (cs := [.int .i64 k, .int .i64 0, .slice none 0 0, strV [], uK, uL]) hI.res (by rfl) hI.st hI.dk (HP.mono (fun z hz _ => by have := hz.1; omega)) hB h1 hc hg
  exact ⟨ldOp_all (P := Try.prog) (ty := 26) hI.vb.blk Try.underlying26 rfl sizeV, a1, a2, a3⟩
end Go.Proofs.Ytjdkcocfjbjopaa
