/- Joined: what one statement of this layer stands on, part 18 of 25; nothing is assumed. -/
import Derived.Deep.CutBlock
import Derived.Test.YtakliplkabgmbaaKR9
set_option maxRecDepth 20000
namespace Go.Proofs.Ytakliplkabgmbaa
open Go.RowKit Go.Hd
def RSst {α : Type} (s : Rs α) (L : List UInt8) (p : Nat) (e : Int) : Prop := match s with
  | .ok _ r => r = L.drop p ∧ e = 0
  | .no c => e = c ∧ c ≠ 0
def RRs {α : Type} (B : Nat) (w : World) (g : Nat) (L : List UInt8) (s : Rs α) : Prop :=
  ∃ (a : Option Addr) (c p : Nat) (e : Int), Blk w g 106 [.slice a L.length c, .int .i64 (p : Int), .int .i64 e] ∧ Row w a (L.map b8) ∧ (L.length ≤ c ∧ c ≤ maxLen) ∧ (0 < L.length → (hd a).block < B) ∧ B ≤ g ∧ p ≤ L.length ∧ L.length ≤ 65536 ∧ RSst s L p e
theorem RRs.keep {α : Type} {B g : Nat} {w w' : World} {L : List UInt8} {s : Rs α} (h : RRs B w g L s) (hb : Below w.heap.size w w') : RRs B w' g L s := by
  obtain ⟨a, c, p, e, h1, h2, h3⟩ := h
  exact ⟨a, c, p, e, h1.below hb, h2.below hb, h3⟩
theorem RRs.far {α : Type} {B g : Nat} {w w' : World} {L : List UInt8} {s : Rs α} (h : RRs B w g L s) {r : Option Nat} (hg : w.grownBy w' r) (hr : ∀ k, r = some k → B ≤ k ∧ k ≠ g) : RRs B w' g L s := by
  obtain ⟨a, c, p, e, h1, h2, h3, h4, h5⟩ := h
  exact ⟨a, c, p, e, h1.keptBy hg (fun e => (hr g e).2 rfl), Row.keptFar h2 hg (fun h0 e => by have := (hr _ e).1; have := h4 (by simpa using h0); omega), h3, h4, h5⟩
theorem RRs.lt {α : Type} {B g : Nat} {w : World} {L : List UInt8} {s : Rs α} (h : RRs B w g L s) : g < w.heap.size := by
  obtain ⟨a, c, p, e, h1, _⟩ := h; exact h1.lt
theorem RRs.cast {α β : Type} {B g : Nat} {w : World} {L : List UInt8} {s : Rs α} {s' : Rs β} (h : RRs B w g L s) (hs : ∀ p e, RSst s L p e → RSst s' L p e) : RRs B w g L s' := by
  obtain ⟨a, c, p, e, h1, h2, h3, h4, h5, h6, h7, h8⟩ := h
  exact ⟨a, c, p, e, h1, h2, h3, h4, h5, h6, h7, hs _ _ h8⟩
theorem RRs.unit {α : Type} {B g : Nat} {w : World} {L : List UInt8} {s : Rs α} (h : RRs B w g L s) : RRs B w g L s.unit := h.cast (fun _ _ hh => by cases s <;> exact hh)
theorem RRs.ok0 {α : Type} {B g : Nat} {w : World} {L r : List UInt8} {x : α} (h : RRs B w g L (.ok x r)) : w.cell? ⟨g, 2, none⟩ = some (.int .i64 0) := by
  obtain ⟨a, c, p, e, h1, h2, h3, h4, h5, h6, h7, h8⟩ := h
  obtain ⟨_, rfl⟩ := h8
  exact h1.cell rfl
theorem RRs.noC {α : Type} {B g : Nat} {w : World} {L : List UInt8} {c : Int} (h : RRs B w g L (.no c : Rs α)) : w.cell? ⟨g, 2, none⟩ = some (.int .i64 c) ∧ c ≠ 0 := by
  obtain ⟨a, c, p, e, h1, h2, h3, h4, h5, h6, h7, h8⟩ := h
  obtain ⟨rfl, hc⟩ := h8
  exact ⟨h1.cell rfl, hc⟩
theorem RRs.fail {α β : Type} {B g : Nat} {w : World} {L : List UInt8} {s : Rs α} (h : RRs B w g L s) (x : Int) (hx : x ≠ 0) : RRs B (w.setCell ⟨g, 2, none⟩ (.int .i64 x)) g L (.no x : Rs β) ∧ w.grownBy (w.setCell ⟨g, 2, none⟩ (.int .i64 x)) (some g) ∧ w.frozen? ⟨g, 2, none⟩ = false ∧ (∃ z, w.cell? ⟨g, 2, none⟩ = some (.int .i64 z)) := by
  obtain ⟨a, c, p, e, h1, h2, h3, h4, h5, h6, h7, h8⟩ := h
  have hg : w.grownBy (w.setCell ⟨g, 2, none⟩ (.int .i64 x)) (some g) := grown_set (World.grownBy.refl _ _) _ _
  refine ⟨⟨a, c, p, x, h1.set 2 (.int .i64 x), ?_, h3, h4, h5, h6, h7, rfl, hx⟩, hg, h1.free 2, e, h1.cell rfl⟩
  exact Row.grown h2 hg (fun h0 => by have := h4 (by simpa using h0); omega)
theorem Dk.one {g : Nat} {a b : World} (h : a.grownBy b (some g)) : Dk g g a b := Dk.ofGrown h (.inl rfl)
def RTkP (B g : Nat) (L : List UInt8) (w : World) (n : Nat) (R : Rs (List UInt8)) (e : Ending) (w' : World) : Prop :=
  ∃ (a : Option Addr) (c : Nat) (t : List UInt8), e = .returned (.slice a t.length c) ∧ (t.length ≤ c ∧ c ≤ maxLen) ∧ Row w' a (t.map b8) ∧ (∀ t0 r, R = .ok t0 r → t = t0) ∧ (R.isNo = true → t = []) ∧ t.length ≤ n ∧ RRs B w' g L R ∧ Dk g g w w'
set_option maxHeartbeats 1000000 in
theorem rtake_any {α : Type} {B g n : Nat} {L : List UInt8} {w : World} {s : Rs α} (h : RRs B w g L s) (hn : n ≤ 4294967295) :
    Calls Try.prog 86 #[.pointer (some ⟨g, 0, none⟩), .int .i64 (n : Int)] w (RTkP B g L w n (s.bind fun _ r => takeR n r)) := by
  have h' := h
  obtain ⟨a, c, p, e, hB, hr, ⟨hc1, hc2⟩, hk, hBg, hp, hL, hst⟩ := h
  have c0 : w.cell? ⟨g, 0, none⟩ = _ := hB.cell rfl
  have c1 : w.cell? ⟨g, 1, none⟩ = _ := hB.cell rfl
  have c2 : w.cell? ⟨g, 2, none⟩ = _ := hB.cell rfl
  have f1 := hB.free 1
  have f2 := hB.free 2
  have w1 : IntKind.i64.wrap ((L.length : Int) - (p : Int)) = (L.length : Int) - (p : Int) := IntWalk.i64_in _ (by omega)
  cases s with
  | no cc =>
    obtain ⟨rfl, hne⟩ := hst
    have e1 : (e == 0) = false := by simpa using hne
    have e2 : (e != 0) = true := by simpa using hne
    go_enter Try.func86, Try.ntmps86
    go_wp2
    go_quiet (fail)
    go_wp2
    go_ret
    exact ⟨none, 0, [], rfl, ⟨Nat.le_refl _, Nat.zero_le _⟩, Row.nil _ _, (fun _ _ h => by cases h), fun _ => rfl, Nat.zero_le _, (h'.keep (Gr.drewN w _)).cast (fun _ _ hh => hh), Dk.ofBelow (Gr.drewN w _)⟩
  | ok x r =>
    obtain ⟨hrr, rfl⟩ := hst
    have HRR := Lib.hid hrr
    clear hrr
    have hrl : r.length = L.length - p := by rw [HRR.out, List.length_drop]
    by_cases hl : L.length - p < n
    · have HT : Hid (((Rs.ok x r).bind fun _ r => takeR n r) = .no 3) := by
        show _ = _
        rw [Rs.bind_ok]; unfold takeR; rw [if_pos (by omega)]
      have i1 : (L.length : Int) - (p : Int) < (n : Int) := by omega
      have HQ := fun m => RRs.fail (β := List UInt8) (h'.keep (Gr.drewN w m)) 3 (by decide)
      clear hrl hl
      go_enter Try.func86, Try.ntmps86
      go_wp2
      go_quiet (fail)
      go_wp2
      go_ret
      rw [HT.out]
      exact ⟨none, 0, [], rfl, ⟨Nat.le_refl _, Nat.zero_le _⟩, Row.nil _ _, (fun _ _ h => by cases h), fun _ => rfl, Nat.zero_le _, (HQ _).1, (Dk.ofBelow (Gr.drewN w _)).trans (Dk.one (HQ _).2.1)⟩
    · have HT : Hid (((Rs.ok x r).bind fun _ r => takeR n r) = .ok (r.take n) (r.drop n)) := by
        show _ = _
        rw [Rs.bind_ok]; unfold takeR; rw [if_neg (by omega)]
      have i1 : ¬ (L.length : Int) - (p : Int) < (n : Int) := by omega
      have w2 : IntKind.i64.wrap ((p : Int) + (n : Int)) = (p : Int) + (n : Int) := IntWalk.i64_in _ (by omega)
      have w3 : IntKind.i64.wrap ((p : Int) + (n : Int) - (n : Int)) = (p : Int) := by rw [IntWalk.i64_in _ (by omega)]; omega
      obtain ⟨a', c', hcut, k1, k2, k3⟩ := cut_lh (P := Try.prog) (t := 35) (e := 5) (s := 1) (by rfl) (by kernel_rfl) hr (n := L.length) (c := c) (k1 := .i64) (k2 := .i64) (i := (p : Int)) (j := (p : Int) + (n : Int)) (p := p) (q := p + n) rfl (by omega) (by omega) (by omega)
      rw [Nat.add_sub_cancel_left] at hcut k1 k3
      have hg : ∀ m k : Nat, w.grownBy (((w.drewN m).setCell ⟨g, 1, none⟩ (.int .i64 ((p : Int) + (n : Int)))).drewN k) (some g) := fun m k => grownBy_drewN (grown_set (grownBy_drewN (World.grownBy.refl _ _) m) _ _) k
      have hR2 : ∀ m k : Nat, RRs B (((w.drewN m).setCell ⟨g, 1, none⟩ (.int .i64 ((p : Int) + (n : Int)))).drewN k) g L (.ok (r.take n) (r.drop n)) := by
        intro m k
        refine ⟨a, c, p + n, 0, ?_, Row.grown hr (hg m k) (fun h0 => by have := hk (by simpa using h0); omega), ⟨hc1, hc2⟩, hk, hBg, by omega, hL, ?_, rfl⟩
        · have := hB.set 1 (.int .i64 ((p : Int) + (n : Int)))
          exact this
        · rw [HRR.out, List.drop_drop]
      have hrow : ∀ m k : Nat, Row (((w.drewN m).setCell ⟨g, 1, none⟩ (.int .i64 ((p : Int) + (n : Int)))).drewN k) a' ((r.take n).map b8) := by
        intro m k
        have hr2 := Row.grown hr (hg m k) (fun h0 => by have := hk (by simpa using h0); omega)
        obtain ⟨a2, c2', hcut2, _, _, j3⟩ := cut_lh (P := Try.prog) (t := 35) (e := 5) (s := 1) (by rfl) (by kernel_rfl) hr2 (n := L.length) (c := c) (k1 := .i64) (k2 := .i64) (i := (p : Int)) (j := (p : Int) + (n : Int)) (p := p) (q := p + n) rfl (by omega) (by omega) (by omega)
        rw [Nat.add_sub_cancel_left] at hcut2 j3
        have e1 := (hcut w).symm.trans (hcut2 w)
        simp only [Result.ok.injEq, Value.slice.injEq] at e1
        rw [e1.1.1, HRR.out, List.map_take, List.map_drop]
        simpa using j3
      have htl : (r.take n).length = n := by rw [List.length_take]; omega
      have HF : Hid (∀ m k : Nat, RTkP B g L w n (.ok (r.take n) (r.drop n)) (.returned (.slice a' n c')) (((w.drewN m).setCell ⟨g, 1, none⟩ (.int .i64 ((p : Int) + (n : Int)))).drewN k)) := fun m k =>
        ⟨a', c', r.take n, by rw [htl], ⟨by rw [htl]; exact k1, by omega⟩, hrow m k, (fun _ _ h => by cases h; rfl), (fun h => by cases h), by rw [htl]; exact Nat.le_refl _, hR2 m k, Dk.one (hg m k)⟩
      clear hrow htl hR2 hg hrl hl k1 k2 k3 hr
      go_enter Try.func86, Try.ntmps86
      go_wp2
      go_quiet (fail)
      go_wp2
      go_quiet (fail)
      go_wp2
      go_ret
      rw [HT.out]
      exact HF.out _ _
def RNumP (B g : Nat) (L : List UInt8) (w : World) (lim : Nat) (R : Rs Nat) (e : Ending) (w' : World) : Prop :=
  ∃ x : Nat, e = .returned (.int .u64 (x : Int)) ∧ x < lim ∧ (∀ x0 r, R = .ok x0 r → x = x0) ∧ RRs B w' g L R ∧ Dk g g w w'
set_option maxHeartbeats 1000000 in
theorem rrnum_any {α : Type} {B g n lo : Nat} {L : List UInt8} {w : World} {s : Rs α} (h : RRs B w g L s) (h1n : 1 ≤ n) (h8 : n ≤ 8) (hlo : lo < 18446744073709551616) :
    Calls Try.prog 97 #[.pointer (some ⟨g, 0, none⟩), .int .i64 (n : Int), .int .u64 (lo : Int)] w (RNumP B g L w (256 ^ n) (s.bind fun _ r => leastR n lo r)) := by
  have htk := rtake_any (n := n) h (by omega)
  have HR : Hid ((s.bind fun _ r => leastR n lo r) = (s.bind fun _ r => takeR n r).bind fun b r => if getL b.reverse < lo then .no 4 else .ok (getL b.reverse) r) := by
    show _ = _
    cases s with
    | no c => rfl
    | ok x r =>
      simp only [Rs.bind_ok]
      unfold leastR bigR
      rw [Rs.bind_bind]; rfl
  generalize (s.bind fun _ r => leastR n lo r) = R at *
  generalize (s.bind fun _ r => takeR n r) = T at *
  have HN := Lib.hid (And.intro h1n h8)
  have HLO := Lib.hid hlo
  clear h1n h8 hlo h
  go_enter Try.func97, Try.ntmps97
  go_wp2_with fail
  refine htk.mono ?_
  rintro ee w1 ⟨a, c, t, rfl, ⟨hc, hm⟩, hrow, ht, htn, htl, hP, hk⟩
  have hbk := back_any a t.length c t w1 rfl hrow (by have := HN.out; omega)
  clear htk
  go_wp2_with fail
  refine hbk.mono ?_
  rintro ee w2 ⟨v, rfl, hfr⟩
  obtain ⟨a2, c2, rfl, hrow2, hb2, hm2, hc2⟩ := hfr.open
  have hP2 := hP.keep hb2
  have hk2 := hk.trans (Dk.ofBelow hb2)
  have htl8 : t.reverse.length ≤ n := by rw [List.length_reverse]; exact htl
  have hget : Calls Try.prog 102 #[.slice a2 t.length c2] w2 fun e w' => (∃ bb, e = .returned (.tuple #[.int .u64 (getL t.reverse : Int), .bool bb])) ∧ w2 = w' := by
    by_cases h0 : t.reverse.length < 1
    · have ht0 : t.reverse = [] := List.eq_nil_of_length_eq_zero (by omega)
      rw [ht0]
      rw [List.length_reverse] at h0
      exact (rget_none a2 _ c2 w2 (.inl h0)).mono fun e w' ⟨h1, h2⟩ => ⟨⟨false, h1⟩, h2⟩
    · exact (rget_any a2 _ c2 t.reverse w2 (by rw [List.length_reverse]) hrow2 (by omega) (Nat.le_trans htl8 HN.out.2)).mono fun e w' ⟨h1, h2⟩ => ⟨⟨true, h1⟩, h2⟩
  have hlim : getL t.reverse < 256 ^ n := getL_lim htl HN.out.2
  have htx : ∀ b r, T = .ok b r → getL t.reverse = getL b.reverse := fun b r hb => by rw [ht b r hb]
  clear hbk hfr hrow hrow2 hP hk ht htn
  generalize getL t.reverse = x at *
  cases T with
  | no cc =>
    obtain ⟨q1, q2⟩ := hP2.noC
    have e1 : (cc == 0) = false := by simpa using q2
    have HF : Hid (RNumP B g L w (256 ^ n) R (.returned (.int .u64 (x : Int))) w2) := by
      show RNumP _ _ _ _ _ _ _ _
      rw [HR.out]
      exact ⟨x, rfl, hlim, (fun _ _ h => by cases h), hP2.cast (fun _ _ hh => hh), hk2⟩
    clear hP2 hk2 hlim
    go_wp2_with fail
    refine hget.mono ?_
    rintro ee w3 ⟨⟨bb, rfl⟩, rfl⟩
    go_wp2
    go_ret
    exact HF.out
  | ok b r =>
    have hxb := htx b r rfl
    have q1 := hP2.ok0
    by_cases hlt : x < lo
    · have i1 : (x : Int) < (lo : Int) := by omega
      obtain ⟨hP3, hg3, f2, z, c2'⟩ := RRs.fail (β := Nat) hP2 4 (by decide)
      have HF : Hid (RNumP B g L w (256 ^ n) R (.returned (.int .u64 (x : Int))) (w2.setCell ⟨g, 2, none⟩ (.int .i64 4))) := by
        show RNumP _ _ _ _ _ _ _ _
        rw [HR.out, Rs.bind_ok, if_pos (by rw [← hxb]; exact hlt)]
        exact ⟨x, rfl, hlim, (fun _ _ h => by cases h), hP3, hk2.trans (Dk.one hg3)⟩
      clear hP2 hk2 hlim hlt hxb htx hP3 hg3
      go_wp2_with fail
      refine hget.mono ?_
      rintro ee w3 ⟨⟨bb, rfl⟩, rfl⟩
      go_wp2
      go_ret
      exact HF.out
    · have i1 : ¬ (x : Int) < (lo : Int) := by omega
      have HF : Hid (RNumP B g L w (256 ^ n) R (.returned (.int .u64 (x : Int))) w2) := by
        show RNumP _ _ _ _ _ _ _ _
        rw [HR.out, Rs.bind_ok, if_neg (by rw [← hxb]; exact hlt)]
        exact ⟨x, rfl, hlim, (fun _ _ h => by cases h; exact hxb), hP2.cast (fun _ _ hh => hh), hk2⟩
      clear hP2 hk2 hlim hlt hxb htx
      go_wp2_with fail
      refine hget.mono ?_
      rintro ee w3 ⟨⟨bb, rfl⟩, rfl⟩
      go_wp2
      go_ret
      exact HF.out
attribute [local go_sem ↓] h_ldV h_stV h_alV
attribute [local go_sem] r_ldV r_stV r_alV
def RValP (B g : Nat) (L : List UInt8) (w : World) (R : Rs PV) (e : Ending) (w' : World) : Prop :=
  ∃ cs v, e = .returned (.agg (List.toArray cs)) ∧ VAtP (fun b => w.heap.size ≤ b) w' cs v ∧ (∀ v0 r, R = .ok v0 r → v = v0) ∧ RRs B w' g L R ∧ Dk g g w w'
theorem rval_end {α : Type} {B g : Nat} {L : List UInt8} {w w2 : World} {cs old : List Value} {v : PV} {S : Rs α} {R : Rs PV} (hres : Blk w2 w.heap.size 63 old) (ho : old.length = 6) (hP : RRs B w2 g L S) (hk : Dk g g w w2) (hv : VAtP (fun b => w.heap.size + 1 ≤ b) w2 cs v) (hB : B ≤ w.heap.size) (h1 : g < w.heap.size)
    (hc : ∀ p e, RSst S L p e → RSst R L p e) (hg : ∀ v0 r, R = .ok v0 r → v = v0) :
    (stoOp 63 (.pointer (some ⟨w.heap.size, 0, none⟩)) (.agg (List.toArray cs))).run Try.prog w2 = .ok () (w2.setRow w.heap.size (List.toArray cs)) ∧ Blk (w2.setRow w.heap.size (List.toArray cs)) w.heap.size 63 cs ∧ Hid (RValP B g L w R (.returned (.agg (List.toArray cs))) (w2.setRow w.heap.size (List.toArray cs))) := by
  have hgr := setRow_gr w2 w.heap.size (List.toArray cs)
  refine ⟨st_row hres ho _ hv.len (all_oneCell_toArray hv.one), setRow_blk hres cs, ?_⟩
  show RValP _ _ _ _ _ _ _
  refine ⟨_, _, rfl, ?_, hg, (hP.far hgr (fun k hk => by cases hk; exact ⟨hB, by omega⟩)).cast hc, ?_⟩
  · exact (hv.same (w' := w2.setRow w.heap.size _) (fun z hz hlt => hgr.block z hlt (by have hz : w.heap.size + 1 ≤ z := hz; simp; omega))).mono (fun z hz _ => by have hz : w.heap.size + 1 ≤ z := hz; omega)
  · exact ⟨hk.os, hk.tape, hk.output, by simp; exact hk.size, fun i hi g1 g2 => (hgr.block i (by have := hk.size; omega) (by simp; omega)).trans (hk.block i hi g1 g2)⟩
theorem least0 (n : Nat) (r : List UInt8) : leastR n 0 r = bigR n r := by
  unfold leastR
  cases bigR n r with
  | no c => rfl
  | ok x r => simp
theorem VAtP.numP {ok : Nat → Prop} (w : World) {n : Int} (h : in64 n) : VAtP ok w [.int .i64 3, .int .i64 n, .slice none 0 0, .string { data := #[] }, .slice none 0 0, .slice none 0 0] (pNum n) := VAtP.num w h
theorem VAtP.kindP {ok : Nat → Prop} (w : World) {k : Int} (h : in64 k) : VAtP ok w [.int .i64 k, .int .i64 0, .slice none 0 0, .string { data := #[] }, .slice none 0 0, .slice none 0 0] (pKind k) := VAtP.plain (n := 0) (t := []) w h (by unfold in64; omega) (Nat.zero_le _)
theorem hd_add0 (a : Option Addr) : (hd a).add 0 = hd a := by unfold Addr.add; simp
structure RJ {α : Type} (B g : Nat) (L : List UInt8) (w wr : World) (k : Int) (uK uL : Value) (ks : List (List UInt8)) (vs : List PV) (S : Rs α) : Prop where
  res : Blk wr w.heap.size 63 zV.toList
  vb : VB (w.heap.size + 1) (w.heap.size + 1) wr (.mk k 0 [] [] ks vs) (.slice none 0 0) uK uL
  st : RRs B wr g L S
  dk : Dk g g w wr
theorem RJ.call {α β : Type} {B g : Nat} {L : List UInt8} {w wr w2 : World} {k : Int} {uK uL : Value} {ks : List (List UInt8)} {vs : List PV} {S : Rs α} {S2 : Rs β} (h : RJ B g L w wr k uK uL ks vs S) (h1 : g < w.heap.size) (hP : RRs B w2 g L S2) (hk : Dk g g wr w2) : RJ B g L w w2 k uK uL ks vs S2 :=
  ⟨hk.blk h.res (by omega) (by omega), h.vb.keep hk.size (fun b hb hlt => hk.block b hlt (by omega) (by omega)), hP, h.dk.trans hk⟩
theorem RJ.cast {α β : Type} {B g : Nat} {L : List UInt8} {w wr : World} {k : Int} {uK uL : Value} {ks : List (List UInt8)} {vs : List PV} {S : Rs α} {S2 : Rs β} (h : RJ B g L w wr k uK uL ks vs S) (hc : ∀ p e, RSst S L p e → RSst S2 L p e) : RJ B g L w wr k uK uL ks vs S2 := ⟨h.res, h.vb, h.st.cast hc, h.dk⟩
theorem RJ.drew {α : Type} {B g : Nat} {L : List UInt8} {w wr : World} {k : Int} {uK uL : Value} {ks : List (List UInt8)} {vs : List PV} {S : Rs α} (h : RJ B g L w wr k uK uL ks vs S) : RJ B g L w wr.drew k uK uL ks vs S :=
  ⟨h.res, h.vb.keep (Nat.le_refl _) (fun _ _ _ => rfl), h.st.keep (Gr.drewN wr 1), ⟨h.dk.os, h.dk.tape, h.dk.output, h.dk.size, h.dk.block⟩⟩
theorem RJ.drewN {α : Type} {B g : Nat} {L : List UInt8} {w wr : World} {k : Int} {uK uL : Value} {ks : List (List UInt8)} {vs : List PV} {S : Rs α} (h : RJ B g L w wr k uK uL ks vs S) (m : Nat) : RJ B g L w (wr.drewN m) k uK uL ks vs S :=
  ⟨h.res, h.vb.keep (Nat.le_refl _) (fun _ _ _ => rfl), h.st.keep (Gr.drewN wr m), ⟨h.dk.os, h.dk.tape, h.dk.output, h.dk.size, h.dk.block⟩⟩
theorem RJ.after {α : Type} {B g : Nat} {L : List UInt8} {w wr w' : World} {k : Int} {uK uL u2 uK2 uL2 x : Value} {ks ks2 : List (List UInt8)} {vs vs2 : List PV} {S : Rs α} {i : Nat} (h : RJ B g L w wr k uK uL ks vs S) (hB : B ≤ w.heap.size) (h1 : g < w.heap.size) (hg : Gro wr w' uK u2 ∨ Gro wr w' uL u2)
    (hv : VB (w.heap.size + 1) (w.heap.size + 1) (w'.setCell ⟨w.heap.size + 1, i, none⟩ x) (.mk k 0 [] [] ks2 vs2) (.slice none 0 0) uK2 uL2) : RJ B g L w (w'.setCell ⟨w.heap.size + 1, i, none⟩ x) k uK2 uL2 ks2 vs2 S := by
  have hk := h.vb.kown
  have hs : w'.grownBy (w'.setCell ⟨w.heap.size + 1, i, none⟩ x) (some (w.heap.size + 1)) := grown_set (World.grownBy.refl _ _) _ _
  have key : ∀ {u : Value}, (∀ b, u.ownBlock = some b → w.heap.size + 1 ≤ b ∧ b < wr.heap.size) → wr.grownBy w' u.ownBlock → RJ B g L w (w'.setCell ⟨w.heap.size + 1, i, none⟩ x) k uK2 uL2 ks2 vs2 S := by
    intro u hu hgr
    refine ⟨?_, hv, (h.st.far hgr (fun k hk => by have := (hu k hk).1; exact ⟨by omega, by omega⟩)).far hs (fun k hk => by cases hk; exact ⟨by omega, by omega⟩), ?_⟩
    · exact (h.res.keptBy hgr (fun e => by have := (hu _ e).1; omega)).grown hs (by omega)
    · refine ⟨hgr.os.trans h.dk.os, hgr.tape.trans h.dk.tape, hgr.output.trans h.dk.output, Nat.le_trans h.dk.size (by simpa using hgr.size), fun k hk1 g1 g2 => ?_⟩
      have hws := h.dk.size
      rw [hs.block k (by have := hgr.size; omega) (by simp; omega), hgr.block k (by omega) (fun e => by have := (hu k e.symm).1; omega)]
      exact h.dk.block k hk1 g1 g2
  rcases hg with hg | hg
  · exact key hk.1 hg.gr
  · exact key hk.2 hg.gr
theorem RJ.done {α : Type} {B g : Nat} {L : List UInt8} {w wc : World} {k : Int} {uK uL : Value} {ks : List (List UInt8)} {vs : List PV} {S : Rs α} {R : Rs PV} (hI : RJ B g L w wc k uK uL ks vs S) (hB : B ≤ w.heap.size) (h1 : g < w.heap.size) (hc : ∀ p e, RSst S L p e → RSst R L p e) (hg : ∀ v0 r, R = .ok v0 r → PV.mk k 0 [] [] ks vs = v0) :
    (ldOp 63 (.pointer (some ⟨w.heap.size + 1, 0, none⟩))).run Try.prog wc = .ok (.agg (List.toArray (α := Value) [.int .i64 k, .int .i64 0, .slice none 0 0, strV [], uK, uL])) wc ∧
    (stoOp 63 (.pointer (some ⟨w.heap.size, 0, none⟩)) (.agg (List.toArray [.int .i64 k, .int .i64 0, .slice none 0 0, strV [], uK, uL]))).run Try.prog wc = .ok () (wc.setRow w.heap.size (List.toArray [.int .i64 k, .int .i64 0, .slice none 0 0, strV [], uK, uL])) ∧
    Blk (wc.setRow w.heap.size (List.toArray [.int .i64 k, .int .i64 0, .slice none 0 0, strV [], uK, uL])) w.heap.size 63 [.int .i64 k, .int .i64 0, .slice none 0 0, strV [], uK, uL] ∧
    Hid (RValP B g L w R (.returned (.agg (List.toArray (α := Value) [.int .i64 k, .int .i64 0, .slice none 0 0, strV [], uK, uL]))) (wc.setRow w.heap.size (List.toArray [.int .i64 k, .int .i64 0, .slice none 0 0, strV [], uK, uL]))) := by
  have HP := hI.vb.done
  obtain ⟨a1, a2, a3⟩ := rval_end (R := R) (cs := [.int .i64 k, .int .i64 0, .slice none 0 0, strV [], uK, uL]) hI.res (by rfl) hI.st hI.dk (HP.mono (fun z hz _ => by have := hz.1; omega)) hB h1 hc hg
  exact ⟨ldOp_all (P := Try.prog) (ty := 63) hI.vb.blk Try.underlying63 rfl sizeV, a1, a2, a3⟩
end Go.Proofs.Ytakliplkabgmbaa
set_option maxRecDepth 20000
namespace Go.Proofs.Ytakliplkabgmbaa
open Go.RowKit Go.Hd
attribute [local go_sem ↓] h_ldV h_stV h_alV h_bsV
attribute [local go_sem] r_ldV r_stV r_alV r_bsV
def RValH (d : Nat) : Prop := ∀ (B g : Nat) (L : List UInt8) (w : World) (s : Rs Unit) (D : Int), D = 17 - (d : Int) → RRs B w g L s → B ≤ w.heap.size → Calls Try.prog 66 #[.pointer (some ⟨g, 0, none⟩), .int .i64 D] w (RValP B g L w (s.bind fun _ r => decV d r))
set_option maxHeartbeats 4000000 in
theorem rrlist_any {d : Nat} (hd : d ≤ 16) (HV : RValH d) {B g n : Nat} {L : List UInt8} {w : World} {s : Rs Unit} (h : RRs B w g L s) (hB : B ≤ w.heap.size) (hn : n ≤ 65536) :
    Calls Try.prog 88 #[.pointer (some ⟨g, 0, none⟩), .int .i64 (n : Int), .int .i64 (16 - (d : Int))] w (RValP B g L w (s.bind fun _ r => (listR (decV d) n r).bind fun l r2 => .ok (pList l) r2)) := by
  have hg1 := h.lt
  have zs := zV_size
  have hO6 := oneC6
  have HR : Hid ((s.bind fun _ r => (listR (decV d) n r).bind fun l r2 => .ok (pList l) r2) = (restR (decV d) n (s.bind fun _ r => .ok [] r)).bind fun l r2 => .ok (pList l) r2) := by
    show _ = _
    unfold restR
    cases s with
    | no c => rfl
    | ok x r =>
      simp only [Rs.bind_ok, List.nil_append]
      cases listR (decV d) n r <;> rfl
  obtain ⟨W, hW⟩ : ∃ W, W = (w.alloc (.cells zV 63)).alloc (.cells (List.toArray (α := Value) [.int .i64 6, .int .i64 0, .slice none 0 0, .string { data := #[] }, .slice none 0 0, .slice none 0 0]) 63) := ⟨_, rfl⟩
  have hbW : Below w.heap.size w W := by rw [hW]; exact ((Below.refl _ _).alloc (Nat.le_refl _) _).alloc (by simp) _
  have R0 : Blk W w.heap.size 63 zV.toList := by rw [hW]; exact (Blk.new w 63 zV).alloc _
  have B0 : Blk W (w.heap.size + 1) 63 [.int .i64 6, .int .i64 0, .slice none 0 0, strV [], .slice none 0 0, .slice none 0 0] := by
    have := Blk.new (w.alloc (.cells zV 63)) 63 (List.toArray (α := Value) [.int .i64 6, .int .i64 0, .slice none 0 0, .string { data := #[] }, .slice none 0 0, .slice none 0 0])
    rw [drew_alloc_size, ← hW] at this
    exact this
  have hWs : W.heap.size = w.heap.size + 2 := by rw [hW]; simp
  have hI0 : RJ B g L w W 6 (.slice none 0 0) (.slice none 0 0) [] [] (s.bind fun _ r => .ok ([] : List PV) r) :=
    ⟨R0, VB.new (b := []) (t := []) B0 (Nat.le_refl _) (by omega) (by unfold in64; omega) (by unfold in64; omega) (Nat.zero_le _) ⟨Nat.le_refl _, Nat.zero_le _⟩ (Row.nil _ _) (by simp), (h.keep hbW).cast (fun _ _ hh => by cases s <;> exact hh), Dk.ofBelow hbW⟩
  have hgot0 : ∀ ps r, (s.bind fun _ r => .ok ([] : List PV) r) = .ok ps r → ([] : List PV) = ps := fun ps r hv => by cases s <;> cases hv; rfl
  generalize (s.bind fun _ r => (listR (decV d) n r).bind fun l r2 => .ok (pList l) r2) = R at *
  generalize (s.bind fun _ r => (.ok [] r : Rs (List PV))) = T0 at *
  have HVd := Lib.hid HV
  have HW := Lib.hid hWs
  have HD := Lib.hid hd
  have wd : IntKind.i64.wrap ((16 : Int) - (d : Int) + 1) = 17 - (d : Int) := by rw [IntWalk.i64_in _ (by omega)]; omega
  clear HV hWs h R0 B0 hbW hd
  generalize (16 : Int) - (d : Int) = D at *
  go_enter Try.func88, Try.ntmps88
  go_upto_region 2 with (fail)
  rw [← hW]
  clear hW
  go_upto_block 0 with (fail)
  go_cut [8] (fun _ wx => ∃ (vs : List PV) (uK uL : Value) (T : Rs (List PV)), RJ B g L w wx 6 uK uL [] vs T ∧ (∀ ps r, T = .ok ps r → vs = ps) ∧ R = T.bind fun ps r2 => .ok (pList ps) r2)
  case first =>
    go_wp2
    go_loopw [8] (fun i wr => ∃ (j : Nat) (vs : List PV) (uK uL : Value) (T : Rs (List PV)), j ≤ n ∧ i = .int .i64 j ∧ vs.length = j ∧ RJ B g L w wr 6 uK uL [] vs T ∧ (∀ ps r, T = .ok ps r → vs = ps) ∧ R = (restR (decV d) (n - j) T).bind fun ps r2 => .ok (pList ps) r2) (fun i _ => n - (intOf i).toNat)
    case atStart => exact ⟨0, [], _, _, T0, Nat.zero_le _, rfl, rfl, hI0, hgot0, HR.out⟩
    case round =>
      clear hI0 HR hgot0
      obtain ⟨j, vs, uK, uL, T, hj, rfl, hvl, hI, hgot, hR⟩ := hrel
      have HVL := Lib.hid hvl
      have HGOT := Lib.hid hgot
      have HR := Lib.hid hR
      clear hR hvl hgot
      by_cases hlt : j < n
      · have j1 : (j : Int) < (n : Int) := by omega
        cases T with
        | no cc =>
          obtain ⟨q1, q2⟩ := hI.st.noC
          have e1 : (cc == 0) = false := by simpa using q2
          go_wp2
          go_meet
          exact ⟨vs, uK, uL, _, hI, HGOT.out, by rw [HR.out, restR_no]⟩
        | ok v0 r =>
          have q1 := hI.st.ok0
          have HSTEP : Hid (R = (restR (decV d) (n - (j + 1)) (stepR (decV d) (.ok v0 r))).bind fun ps r2 => .ok (pList ps) r2) := by
            show _ = _
            rw [HR.out, show n - j = (n - (j + 1)) + 1 by omega, restR_succ]
          have hId := hI.drew
          have hval := HVd.out B g L _ _ (17 - (d : Int)) rfl hId.st.unit (Nat.le_trans hB hId.dk.size)
          have q5 : wr.cell? ⟨w.heap.size + 1, 5, none⟩ = some uL := hI.vb.blk.cell rfl
          have HIK := Lib.hid hId
          clear HR hI hId
          go_upto_region 5 with (fail)
          go_region_law ((first
            | (go_simp; go_at_call 66; refine hval.mono ?_; rintro e7 w7 ⟨cs7, v7, rfl, hv7, hv70, hP7, hk7⟩; have hI7 := RJ.call HIK.out hg1 hP7 hk7; obtain ⟨a8, c8, w8, hrun8, d8, f8, hVB8, hG8, hGs8⟩ := VB.stepL (ty := 61) hI7.vb (hv7.mono (fun z hz _ => fresh_okB HIK.out.vb hz)) (by have := HVL.out; omega); have q7 : w7.cell? ⟨w.heap.size + 1, 5, none⟩ = some uL := hI7.vb.blk.cell rfl; have hql7 := hI7.vb.blk.lt; have q7b : (w7.alloc (.cells (List.toArray cs7) 63)).cell? ⟨w.heap.size + 1, 5, none⟩ = some uL := Eq.trans (((Below.refl w7.heap.size w7).alloc (Nat.le_refl _) (.cells (List.toArray cs7) 63)).cell hql7) q7; have x6 : (List.toArray cs7).size = 6 := hv7.len)
            | (refine step_append_run hrun8 rfl rfl rfl rfl ?_)))
          all_goals
            have hI9 := RJ.after hI7 hB hg1 (.inr hG8) hVB8
            have hI10 : RJ B g L w (w8.setCell ⟨w.heap.size + 1, 5, none⟩ (.slice a8 (vs.length + 1) c8)) 6 uK (.slice a8 (vs.length + 1) c8) [] (vs ++ [v7]) (stepR (decV d) (.ok v0 r)) := hI9.cast (fun p e hh => by
              unfold stepR
              have hh : RSst (decV d r) L p e := hh
              rw [Rs.bind_ok]
              cases hd : decV d r with
              | no c => rw [hd] at hh; exact hh
              | ok v r3 => rw [hd] at hh; exact hh)
            have hgot : ∀ ps2 r2, stepR (decV d) (.ok v0 r) = .ok ps2 r2 → vs ++ [v7] = ps2 := fun ps2 r2 h => by
              unfold stepR at h
              rw [Rs.bind_ok] at h
              cases hd : decV d r with
              | no c => rw [hd] at h; cases h
              | ok v r4 =>
                rw [hd] at h
                cases h
                have e2 := hv70 v r2 (by show decV d r = _; exact hd)
                rw [HGOT.out v0 r rfl, e2]
            have hl2 : (vs ++ [v7]).length = j + 1 := by have := HVL.out; simp; omega
            have HL12 := Lib.hid hl2
            have HGG := Lib.hid hgot
            have jb : IntKind.i64.wrap ((j : Int) + 1) = (j : Int) + 1 := IntWalk.i64_in _ (by omega)
            clear hl2 hgot hI9 hI7 hrun8 d8 f8 hVB8 hG8 hGs8 q7 q7b hql7 hP7 hk7 hv7 hv70 hval q5 x6
            go_wp2
            first
              | exact ⟨⟨j + 1, vs ++ [v7], _, _, _, by omega, (by first | rfl | go_num | (congr 1; omega)), HL12.out, hI10, HGG.out, HSTEP.out⟩, by simp [intOf] <;> omega⟩
              | (refine ⟨?_, by simp [intOf] <;> omega⟩; (repeat apply Exists.intro); exact ⟨⟨j + 1, vs ++ [v7], _, _, _, by omega, (by first | rfl | go_num | (congr 1; omega)), HL12.out, hI10, HGG.out, HSTEP.out⟩, rfl⟩)
      · obtain rfl : j = n := by omega
        go_wp2
        go_meet
        refine ⟨vs, uK, uL, T, hI, HGOT.out, ?_⟩
        have hr := HR.out
        rw [Nat.sub_self, restR_zero] at hr
        exact hr
  case rest =>
    clear hI0 hgot0 HR
    obtain ⟨vs, uK, uL, T, hI, hgot, hR⟩ := hcut
    obtain ⟨q1, a1, a2, HV⟩ := RJ.done (R := R) hI hB hg1 (fun p e hh => by rw [hR]; cases T <;> exact hh) (fun v0 r hv => by
      rw [hR] at hv
      cases T with
      | no c => cases hv
      | ok ps r' => cases hv; rw [hgot _ _ rfl]; rfl)
    clear hI hgot hR
    generalize strV [] = sT at *
    go_wp2
    exact bodyPost_ret (results_cell_row (fn := Try.f88) (by rfl) _ _ w.heap.size 63 _ (0, 0) _ (by rfl) a2 Try.underlying63 rfl sizeV) rfl HV.out
end Go.Proofs.Ytakliplkabgmbaa
