/- opcode's reader: count, kind, text, by their contracts. -/
import Derived.Test.YtgjabbffpfhmjaaDoorSText
import Derived.Test.YtgjabbffpfhmjaaDoorAs
import Derived.Test.YtgjabbffpfhmjaaDoorExt
import Derived.Deep.RegionHeld3
namespace Go.Proofs.YtgjabbffpfhmjaaDoor
open Go.RowKit Go.Extern.Stop Go.Stop Go.Extern Go.Proofs.YtgjabbffpfhmjaaDoorW.PrintWords

theorem blk_keeps {S : Nat → Prop} {w w' : World} {b : Nat} {o : Obj} (h : w.heap[b]? = some o) (hk : Keeps S w w') (hn : ¬ S b) : w'.heap[b]? = some o := (hk.block b (blk_lt' h) hn).trans h
theorem IsErr.keeps {sp : Nat → Addr} {S : Nat → Prop} {w w' : World} {v : Value} {e : Er} (h : IsErr sp w v e) (hk : Keeps S w w')
    (hS : ∀ k, S k → ∀ cs t, w.heap[k]? = some (.cells cs t (0, 0)) → t ≠ 139 ∧ t ≠ 144) : IsErr sp w' v e := by
  induction h with
  | sent c hc => exact .sent c hc
  | «at» b p v e hc _ ih => exact .at b p v e (blk_keeps hc hk (fun h => (hS b h _ _ hc).1 rfl)) ih
  | flt b p v e hc _ ih => exact .flt b p v e (blk_keeps hc hk (fun h => (hS b h _ _ hc).2 rfl)) ih
theorem IsErrO.keeps {sp : Nat → Addr} {S : Nat → Prop} {w w' : World} {v : Value} {e : Option Er} (h : IsErrO sp w v e) (hk : Keeps S w w')
    (hS : ∀ k, S k → ∀ cs t, w.heap[k]? = some (.cells cs t (0, 0)) → t ≠ 139 ∧ t ≠ 144) : IsErrO sp w' v e := by
  cases e with
  | none => exact h
  | some e => exact IsErr.keeps h hk hS

/-- A reader: where it is, and its error. -/
structure RSt where
  at_ : Int
  err : Option Er
def RSt.ok (st : RSt) : Prop := -9223372036854775808 ≤ st.at_ ∧ st.at_ ≤ 9223372036854775807
def rdBlk (s : ByteArray) (at_ : Int) (ev : Value) : Obj := .cells #[.string s, .int .i64 at_, ev] 82 (0, 0)
def RdAt (sp : Nat → Addr) (w : World) (R : Nat) (s : ByteArray) (st : RSt) : Prop := ∃ ev, w.heap[R]? = some (rdBlk s st.at_ ev) ∧ IsErrO sp w ev st.err
theorem rd_cells {w : World} {R : Nat} {s : ByteArray} {p : Int} {ev : Value} (h : w.heap[R]? = some (rdBlk s p ev)) :
    w.cell? ⟨R, 0, none⟩ = some (.string s) ∧ w.cell? ⟨R, 1, none⟩ = some (.int .i64 p) ∧ w.cell? ⟨R, 2, none⟩ = some ev ∧ ∀ i, w.frozen? ⟨R, i, none⟩ = false :=
  ⟨blk_cell h 0, blk_cell h 1, blk_cell h 2, fun i => blk_frozen h i⟩
theorem rd_set1 {w : World} {R : Nat} {s : ByteArray} {p : Int} {ev : Value} (h : w.heap[R]? = some (rdBlk s p ev)) (q : Int) : (w.setCell ⟨R, 1, none⟩ (.int .i64 q)).heap[R]? = some (rdBlk s q ev) := blk_set h 1 _
theorem rd_set2 {w : World} {R : Nat} {s : ByteArray} {p : Int} {ev : Value} (h : w.heap[R]? = some (rdBlk s p ev)) (fv : Value) : (w.setCell ⟨R, 2, none⟩ fv).heap[R]? = some (rdBlk s p fv) := blk_set h 2 _
theorem rd_below {w w' : World} {R : Nat} {o : Obj} (h : w.heap[R]? = some o) (hb : Below w.heap.size w w') : w'.heap[R]? = some o := blk_below hb h
/-- An error goes on behind a store into the reader's block. -/
theorem IsErr.set_rd {sp : Nat → Addr} {w : World} {v : Value} {e : Er} {R i : Nat} {s : ByteArray} {p : Int} {ev u : Value} (h : IsErr sp w v e) (hr : w.heap[R]? = some (rdBlk s p ev)) : IsErr sp (w.setCell ⟨R, i, none⟩ u) v e :=
  h.keeps (S := (· = R)) ((Keeps.refl _ _).setCell _ _ (fun _ => rfl)) (fun k hk cs t hc => by
    subst hk
    rw [hr] at hc
    unfold rdBlk at hc
    injection hc with hc
    injection hc with _ ht
    subst ht
    exact ⟨by decide, by decide⟩)

theorem below_undrew {w w1 : World} (h : Below w.drew.heap.size w.drew w1) : Below w.heap.size w w1 := ((Below.refl _ _).drew).trans h
theorem keeps_rd {w w1 : World} (R i : Nat) (u : Value) (h : Below w.heap.size w w1) : Keeps (· = R) w (w1.setCell ⟨R, i, none⟩ u) := (Keeps.of_below h).setCell _ _ (fun _ => rfl)
def countT (most c : Nat) (p : Int) : TR → Nat × RSt
  | .bad k => (0, ⟨p, some (.at p (.sent k))⟩)
  | .ok n nx => if most < n then (0, ⟨p, some (.at p (.sent c))⟩) else (n, ⟨nx, none⟩)
def countF (s : ByteArray) (most c : Nat) (st : RSt) : Nat × RSt :=
  match st.err with
  | some _ => (0, st)
  | none => countT most c st.at_ (stake s st.at_)
def RPost (sp : Nat → Addr) (R : Nat) (s : ByteArray) (w : World) (v : Value) (st : RSt) (e : Ending) (w' : World) : Prop :=
  e = .returned v ∧ RdAt sp w' R s st ∧ Keeps (· = R) w w'

set_option maxRecDepth 100000 in
set_option maxHeartbeats 4000000 in
theorem count_calls {sp : Nat → Addr} (R : Nat) (s : ByteArray) (st : RSt) (most c : Nat) (w : World) (hL : Laid sp w) (hr : RdAt sp w R s st) (hs : s.size ≤ 10000000) (hst : st.ok) (hm : most ≤ 10000000) (hc : isCode c) :
    Calls Tryd.prog 48 #[.pointer (some ⟨R, 0, none⟩), .int .i64 most, .int .i64 c] w fun e w' => RPost sp R s w (.int .i64 (countF s most c st).1) (countF s most c st).2 e w' := by
  obtain ⟨p, err⟩ := st
  obtain ⟨ev, hb, he⟩ := hr
  obtain ⟨c0, c1, c2, hfz⟩ := rd_cells hb
  simp only at c1
  have f1 := hfz 1
  have f2 := hfz 2
  clear hfz
  have HBL := Lib.hid hb
  have HL := Lib.hid hL
  have HE := Lib.hid he
  have HC := Lib.hid hc
  clear hb hL hc
  cases err with
  | some er =>
    obtain ⟨t, a, rfl⟩ := IsErr.form he
    clear he
    go_enter Tryd.func48, Tryd.ntmps48
    go_wp2
    go_ret
    exact ⟨rfl, ⟨_, HBL.out, HE.out⟩, Keeps.refl _ _⟩
  | none =>
    obtain rfl : ev = .nilIface := he
    have HT := Lib.hid (fun W (hL : Laid sp W) => take_calls (sp := sp) s p W hL hs hst)
    obtain ⟨T, hT⟩ : ∃ T, stake s p = T := ⟨_, rfl⟩
    rw [hT] at HT
    have hF : countF s most c ⟨p, none⟩ = countT most c p T := by unfold countF; simp only [hT]
    rw [hF]
    have HTT := Lib.hid hT
    clear hF hT
    cases T with
    | bad k =>
      go_enter Tryd.func48, Tryd.ntmps48
      go_wp2_with fail
      have g0 : w.drew.cell? ⟨R, 0, none⟩ = some (.string s) := c0
      have g1 : w.drew.cell? ⟨R, 1, none⟩ = some (.int .i64 p) := c1
      go_region_held3 (fun w' => w'.cell? ⟨R, 0, none⟩ = some (.string s) ∧ w'.cell? ⟨R, 1, none⟩ = some (.int .i64 p)) (go_keep) (first | (go_at_call 89; refine (HT.out _ (HL.out.below ((Below.refl _ _).drew))).mono ?_; rintro e w1 ⟨v, rfl, h1, h2⟩; obtain ⟨t, a, rfl⟩ := h1.form; have HB1 := Lib.hid (rd_below (w := w.drew) HBL.out h2); obtain ⟨e0, e1, e2, e3⟩ := rd_cells HB1.out; have HF1 := Lib.hid (And.intro h1 (below_undrew h2)); clear h1 h2))
      have e4 := e3 2
      clear e3 g0 g1 c0 c1 c2 f1 f2
      go_wp2
      go_ret
      exact ⟨rfl, ⟨_, rd_set2 HB1.out _, IsErr.set_rd HF1.out.1 HB1.out⟩, keeps_rd (w := w) _ _ _ HF1.out.2⟩
    | ok n nx =>
      have hnl := stake_lt HTT.out
      have hnn := stake_next HTT.out
      have ew : IntKind.u64.wrap (most : Int) = (most : Int) := IntWalk.u64_in _ ⟨by omega, by omega⟩
      by_cases hlt : most < n
      · have hF : countT most c p (.ok n nx) = (0, ⟨p, some (.at p (.sent c))⟩) := by unfold countT; simp only; rw [if_pos hlt]
        rw [hF]
        have hlt' : (most : Int) < (n : Int) := by omega
        clear hF hlt
        go_enter Tryd.func48, Tryd.ntmps48
        go_wp2_with fail
        have g0 : w.drew.cell? ⟨R, 0, none⟩ = some (.string s) := c0
        have g1 : w.drew.cell? ⟨R, 1, none⟩ = some (.int .i64 p) := c1
        go_region_held3 (fun w' => w'.cell? ⟨R, 0, none⟩ = some (.string s) ∧ w'.cell? ⟨R, 1, none⟩ = some (.int .i64 p)) (go_keep) (first | (go_at_call 89; refine (HT.out _ (HL.out.below ((Below.refl _ _).drew))).mono ?_; rintro e w1 ⟨rfl, h2⟩; have HB1 := Lib.hid (rd_below (w := w.drew) HBL.out h2); obtain ⟨e0, e1, e2, e3⟩ := rd_cells HB1.out; have HF1 := Lib.hid (below_undrew h2); clear h2))
        have e4 := e3 2
        have e5 := e3 1
        clear e3 g0 g1 c0 c1 c2 f1 f2
        go_wp2_with fail
        have HL1 := Lib.hid (HL.out.below HF1.out)
        have g1 : w1.drew.cell? ⟨R, 1, none⟩ = some (.int .i64 p) := e1
        go_region_held3 (fun w' => w'.cell? ⟨R, 1, none⟩ = some (.int .i64 p)) (go_keep) (first | (go_at_call 47; refine (new_calls (sp := sp) c HC.out _ (HL1.out.below ((Below.refl _ _).drew))).mono ?_; rintro e w2 ⟨rfl, rfl⟩) | (go_at_call 46; refine (at_calls (sp := sp) p _ (.sent c) _ (.sent c HC.out)).mono ?_; rintro e w2 ⟨v, rfl, h1, h2⟩; obtain ⟨t, a, rfl⟩ := h1.form; have HB2 := Lib.hid (rd_below (w := w1.drew) HB1.out h2); obtain ⟨k0, k1, k2, k3⟩ := rd_cells HB2.out; have HF2 := Lib.hid (And.intro h1 (below_trans HF1.out (below_undrew h2))); clear h1 h2))
        have k4 := k3 2
        clear k3 e0 e1 e2 e4 e5 g1
        go_wp2
        go_ret
        exact ⟨rfl, ⟨_, rd_set2 HB2.out _, IsErr.set_rd HF2.out.1 HB2.out⟩, keeps_rd (w := w) _ _ _ HF2.out.2⟩
      · have hF : countT most c p (.ok n nx) = (n, ⟨nx, none⟩) := by unfold countT; simp only; rw [if_neg hlt]
        rw [hF]
        have hlt' : (n : Int) ≤ (most : Int) := by omega
        have ew2 : wrap64 (n : Int) = (n : Int) := by unfold wrap64; omega
        clear hF hlt
        go_enter Tryd.func48, Tryd.ntmps48
        go_wp2_with fail
        have g0 : w.drew.cell? ⟨R, 0, none⟩ = some (.string s) := c0
        have g1 : w.drew.cell? ⟨R, 1, none⟩ = some (.int .i64 p) := c1
        go_region_held3 (fun w' => w'.cell? ⟨R, 0, none⟩ = some (.string s) ∧ w'.cell? ⟨R, 1, none⟩ = some (.int .i64 p)) (go_keep) (first | (go_at_call 89; refine (HT.out _ (HL.out.below ((Below.refl _ _).drew))).mono ?_; rintro e w1 ⟨rfl, h2⟩; have HB1 := Lib.hid (rd_below (w := w.drew) HBL.out h2); obtain ⟨e0, e1, e2, e3⟩ := rd_cells HB1.out; have HF1 := Lib.hid (below_undrew h2); clear h2))
        have e4 := e3 2
        have e5 := e3 1
        clear e3 g0 g1 c0 c1 c2 f1 f2
        go_wp2
        go_ret
        exact ⟨rfl, ⟨_, rd_set1 HB1.out _, rfl⟩, keeps_rd (w := w) _ _ _ HF1.out⟩

theorem keeps_below {W w w1 : World} {S : Nat → Prop} (h : Below W.heap.size W w) (hk : Keeps S w w1) (hS : ∀ k, S k → W.heap.size ≤ k) : Below W.heap.size W w1 :=
  h.trans (hk.below h.size (fun k hk e => by have := hS k e; omega))
def kindF (s : ByteArray) (most : Nat) (st : RSt) : Nat × RSt :=
  match (countF s most 5 st).2.err with
  | none => if (countF s most 5 st).1 = 0 then (0, ⟨(countF s most 5 st).2.at_, some (.at st.at_ (.sent 5))⟩) else countF s most 5 st
  | some _ => countF s most 5 st
set_option maxRecDepth 100000 in
set_option maxHeartbeats 4000000 in
theorem kind_calls {sp : Nat → Addr} (R : Nat) (s : ByteArray) (st : RSt) (most : Nat) (W w : World) (hL : Laid sp W) (hW : Below W.heap.size W w) (hR : W.heap.size ≤ R) (hr : RdAt sp w R s st) (hs : s.size ≤ 10000000) (hst : st.ok) (hm : most ≤ 10000000) :
    Calls Tryd.prog 90 #[.pointer (some ⟨R, 0, none⟩), .int .i64 most] w fun e w' => RPost sp R s w (.int .i64 (kindF s most st).1) (kindF s most st).2 e w' := by
  have HC := Lib.hid (count_calls R s st most 5 w (hL.below hW) hr hs hst hm (by unfold isCode; omega))
  have hK : kindF s most st = match (countF s most 5 st).2.err with
    | none => if (countF s most 5 st).1 = 0 then (0, ⟨(countF s most 5 st).2.at_, some (.at st.at_ (.sent 5))⟩) else countF s most 5 st
    | some _ => countF s most 5 st := rfl
  generalize kindF s most st = K at hK
  generalize countF s most 5 st = r at HC hK
  obtain ⟨n, p1, err1⟩ := r
  obtain ⟨p, err⟩ := st
  obtain ⟨ev, hb, _⟩ := hr
  obtain ⟨_, c1, _, _⟩ := rd_cells hb
  simp only at c1 hK HC
  have HL := Lib.hid hL
  have HW := Lib.hid hW
  clear hL hW hb
  cases err1 with
  | some er =>
    simp only at hK
    subst hK
    go_enter Tryd.func90, Tryd.ntmps90
    go_wp2_with fail
    refine HC.out.mono ?_
    rintro e w1 ⟨rfl, ⟨ev1, hb1, he1⟩, hk1⟩
    obtain ⟨t, a, rfl⟩ := IsErr.form he1
    obtain ⟨_, _, d2, _⟩ := rd_cells hb1
    have HB1 := Lib.hid hb1
    have HE1 := Lib.hid he1
    clear hb1 he1
    go_wp2
    go_ret
    exact ⟨rfl, ⟨_, HB1.out, HE1.out⟩, hk1⟩
  | none =>
    simp only at hK
    by_cases h0 : n = 0
    · rw [if_pos h0] at hK
      subst hK
      subst h0
      go_enter Tryd.func90, Tryd.ntmps90
      go_wp2_with fail
      refine HC.out.mono ?_
      rintro e w1 ⟨rfl, ⟨ev1, hb1, he1⟩, hk1⟩
      obtain rfl : ev1 = .nilIface := he1
      obtain ⟨_, _, d2, d3⟩ := rd_cells hb1
      have HB1 := Lib.hid hb1
      have HL1 := Lib.hid (HL.out.below (keeps_below HW.out hk1 (fun k e => by omega)))
      have HK1 := Lib.hid hk1
      clear hb1 hk1 d3
      go_wp2_with fail
      refine (new_calls (sp := sp) 5 (by unfold isCode; omega) _ HL1.out).mono ?_
      rintro e w2 ⟨rfl, rfl⟩
      go_wp2_with fail
      refine (at_calls (sp := sp) p _ (.sent 5) _ (.sent 5 (by unfold isCode; omega))).mono ?_
      rintro e w3 ⟨v, rfl, h1, h2⟩
      obtain ⟨t, a, rfl⟩ := h1.form
      have HB2 := Lib.hid (rd_below HB1.out h2)
      obtain ⟨_, _, k2, k3⟩ := rd_cells HB2.out
      have k4 := k3 2
      have HF := Lib.hid (And.intro h1 h2)
      clear h1 h2 k3
      go_wp2
      go_ret
      exact ⟨rfl, ⟨_, rd_set2 HB2.out _, IsErr.set_rd HF.out.1 HB2.out⟩, HK1.out.trans (keeps_rd _ _ _ HF.out.2)⟩
    · rw [if_neg h0] at hK
      subst hK
      have ht : ((n : Int) == 0) = false := by simp; omega
      clear h0
      go_enter Tryd.func90, Tryd.ntmps90
      go_wp2_with fail
      refine HC.out.mono ?_
      rintro e w1 ⟨rfl, ⟨ev1, hb1, he1⟩, hk1⟩
      obtain rfl : ev1 = .nilIface := he1
      obtain ⟨_, _, d2, _⟩ := rd_cells hb1
      have HB1 := Lib.hid hb1
      clear hb1
      go_wp2
      go_ret
      exact ⟨rfl, ⟨_, HB1.out, rfl⟩, hk1⟩

def textT (p : Int) : TX → ByteArray × RSt
  | .bad k => (⟨#[]⟩, ⟨p, some (.at p (.sent k))⟩)
  | .ok t nx => (t, ⟨nx, none⟩)
def textF (s : ByteArray) (most : Nat) (st : RSt) : ByteArray × RSt :=
  match st.err with
  | some _ => (⟨#[]⟩, st)
  | none => textT st.at_ (stext_ s st.at_ most)
set_option maxRecDepth 100000 in
set_option maxHeartbeats 4000000 in
theorem text_calls {sp : Nat → Addr} (R : Nat) (s : ByteArray) (st : RSt) (most : Nat) (w : World) (hL : Laid sp w) (hr : RdAt sp w R s st) (hs : s.size ≤ 10000000) (hst : st.ok) (hm : most ≤ 10000000) :
    Calls Tryd.prog 91 #[.pointer (some ⟨R, 0, none⟩), .int .i64 most] w fun e w' => RPost sp R s w (.string (textF s most st).1) (textF s most st).2 e w' := by
  obtain ⟨p, err⟩ := st
  obtain ⟨ev, hb, he⟩ := hr
  obtain ⟨c0, c1, c2, hfz⟩ := rd_cells hb
  simp only at c1
  have f1 := hfz 1
  have f2 := hfz 2
  clear hfz
  have HBL := Lib.hid hb
  have HL := Lib.hid hL
  have HE := Lib.hid he
  clear hb hL
  cases err with
  | some er =>
    obtain ⟨t, a, rfl⟩ := IsErr.form he
    clear he
    go_enter Tryd.func91, Tryd.ntmps91
    go_wp2
    go_ret
    exact ⟨rfl, ⟨_, HBL.out, HE.out⟩, Keeps.refl _ _⟩
  | none =>
    obtain rfl : ev = .nilIface := he
    have HT := Lib.hid (fun W (hL : Laid sp W) => takeText_calls (sp := sp) s p most W hL hs hst hm)
    obtain ⟨T, hT⟩ : ∃ T, stext_ s p most = T := ⟨_, rfl⟩
    rw [hT] at HT
    have hF : textF s most ⟨p, none⟩ = textT p T := by unfold textF; simp only [hT]
    rw [hF]
    clear hF hT
    have g0 : w.drew.cell? ⟨R, 0, none⟩ = some (.string s) := c0
    have g1 : w.drew.cell? ⟨R, 1, none⟩ = some (.int .i64 p) := c1
    cases T with
    | bad k =>
      go_enter Tryd.func91, Tryd.ntmps91
      go_wp2_with fail
      go_region_held3 (fun w' => w'.cell? ⟨R, 0, none⟩ = some (.string s) ∧ w'.cell? ⟨R, 1, none⟩ = some (.int .i64 p)) (go_keep) (first | (go_at_call 109; refine (HT.out _ (HL.out.below ((Below.refl _ _).drew))).mono ?_; rintro e w1 ⟨v, rfl, h1, h2⟩; obtain ⟨t, a, rfl⟩ := h1.form; have HB1 := Lib.hid (rd_below (w := w.drew) HBL.out h2); obtain ⟨e0, e1, e2, e3⟩ := rd_cells HB1.out; have HF1 := Lib.hid (And.intro h1 (below_undrew h2)); clear h1 h2))
      have e4 := e3 2
      clear e3 g0 g1 c0 c1 c2 f1 f2
      go_wp2
      go_ret
      exact ⟨rfl, ⟨_, rd_set2 HB1.out _, IsErr.set_rd HF1.out.1 HB1.out⟩, keeps_rd (w := w) _ _ _ HF1.out.2⟩
    | ok tx nx =>
      go_enter Tryd.func91, Tryd.ntmps91
      go_wp2_with fail
      go_region_held3 (fun w' => w'.cell? ⟨R, 0, none⟩ = some (.string s) ∧ w'.cell? ⟨R, 1, none⟩ = some (.int .i64 p)) (go_keep) (first | (go_at_call 109; refine (HT.out _ (HL.out.below ((Below.refl _ _).drew))).mono ?_; rintro e w1 ⟨rfl, h2⟩; have HB1 := Lib.hid (rd_below (w := w.drew) HBL.out h2); obtain ⟨e0, e1, e2, e3⟩ := rd_cells HB1.out; have HF1 := Lib.hid (below_undrew h2); clear h2))
      have e5 := e3 1
      clear e3 g0 g1 c0 c1 c2 f1 f2
      go_wp2
      go_ret
      exact ⟨rfl, ⟨_, rd_set1 HB1.out _, rfl⟩, keeps_rd (w := w) _ _ _ HF1.out⟩
end Go.Proofs.YtgjabbffpfhmjaaDoor
