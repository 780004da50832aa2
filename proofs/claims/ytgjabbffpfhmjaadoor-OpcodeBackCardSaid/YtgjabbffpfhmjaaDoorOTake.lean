/- opcode.told, Take, Parse, by their contracts. -/
import Derived.Test.YtgjabbffpfhmjaaDoorOParts
import Derived.Test.YtgjabbffpfhmjaaDoorAsFlt
namespace Go.Proofs.YtgjabbffpfhmjaaDoor
open Go.RowKit Go.Extern.Stop Go.Stop Go.Extern Go.Proofs.YtgjabbffpfhmjaaDoorW.PrintWords

theorem told_flt {sp : Nat → Addr} (E : Value) (p : Int) (er : Er) (w : World) (hL : Laid sp w) (he : IsErr sp w E (.flt p er)) :
    Calls Tryd.prog 52 #[E] w fun e w' => ∃ v, e = .returned v ∧ IsErr sp w' v (.at p er) ∧ Below w.heap.size w w' := by
  generalize hEr : Er.flt p er = E0 at he
  cases he with
  | sent c hc => cases hEr
  | «at» b p' v e hb he => cases hEr
  | flt b p' v e hb he =>
    cases hEr
    have HL := Lib.hid hL
    have HBLK := Lib.hid hb
    have HE := Lib.hid he
    obtain ⟨t1, a1, rfl⟩ := he.form
    clear hL hb he
    go_enter Tryd.func52, Tryd.ntmps52
    go_wp2_with fail
    refine (AsFlt.as_hit (sp := sp) ⟨b, 0, none⟩ w.heap.size (.pointer none) 142 _ (HL.out.below (below_new _ _)) (heap_new _ _)).mono ?_
    rintro e w1 ⟨rfl, hk, hblk1⟩
    have hk2 : Below w.heap.size w w1 := (below_new w _).trans (hk.below (by simp) (fun k hk h => by omega))
    have hc0 : w1.cell? ⟨w.heap.size, 0, none⟩ = some (.pointer (some ⟨b, 0, none⟩)) := blk_cell hblk1 0
    have hc1 : w1.cell? ⟨b, 0, none⟩ = some (.int .i64 p) := blk_cell (blk_below hk2 HBLK.out) 0
    have hc2 : w1.cell? ⟨b, 1, none⟩ = some (.iface t1 (.pointer (some a1))) := blk_cell (blk_below hk2 HBLK.out) 1
    have HE1 := Lib.hid (HE.out.grow hk2)
    have HB1 := Lib.hid hk2
    clear hk hk2 hblk1
    go_wp2_with fail
    have g0 : w1.drew.cell? ⟨w.heap.size, 0, none⟩ = some (.pointer (some ⟨b, 0, none⟩)) := hc0
    have g1 : w1.drew.cell? ⟨b, 0, none⟩ = some (.int .i64 p) := hc1
    have g2 : w1.drew.cell? ⟨b, 1, none⟩ = some (.iface t1 (.pointer (some a1))) := hc2
    go_region_held3 (fun w' => w'.cell? ⟨w.heap.size, 0, none⟩ = some (.pointer (some ⟨b, 0, none⟩)) ∧ w'.cell? ⟨b, 0, none⟩ = some (.int .i64 p) ∧ w'.cell? ⟨b, 1, none⟩ = some (.iface t1 (.pointer (some a1)))) (go_keep) (first | (go_at_call 46; refine (at_calls (sp := sp) p _ er _ (HE1.out.grow ((Below.refl _ _).drew))).mono ?_; rintro e w2 ⟨v, rfl, h1, h2⟩; have k0 := cell_below h2 g0; have k1 := cell_below h2 g1; have k2 := cell_below h2 g2; have HF := Lib.hid (And.intro h1 (below_undrew h2)); clear h1 h2))
    go_wp2
    go_ret
    exact ⟨_, rfl, HF.out.1, below_trans HB1.out HF.out.2⟩
theorem told_plain {sp : Nat → Addr} (E : Value) (er : Er) (w : World) (hL : Laid sp w) (he : IsErr sp w E er) (hp : er.plain) :
    Calls Tryd.prog 52 #[E] w fun e w' => e = .returned E ∧ Below w.heap.size w w' := by
  have HL := Lib.hid hL
  have HE := Lib.hid he
  obtain ⟨t1, a1, rfl⟩ := he.form
  clear hL he
  go_enter Tryd.func52, Tryd.ntmps52
  go_wp2_with fail
  refine (AsFlt.as_plain (sp := sp) _ er _ _ (HL.out.below (below_new _ _)) (HE.out.grow (below_new _ _)) hp).mono ?_
  rintro e w1 ⟨rfl, hb⟩
  have HB := Lib.hid (below_trans (below_new w _) hb)
  clear hb
  go_wp2
  go_ret
  exact ⟨rfl, HB.out⟩
def toldE : Er → Er
  | .flt p e => .at p e
  | e => e
def Er.told? : Er → Prop
  | .flt _ _ => True
  | e => e.plain
theorem told_calls {sp : Nat → Addr} (E : Value) (er : Er) (w : World) (hL : Laid sp w) (he : IsErr sp w E er) (hp : er.told?) :
    Calls Tryd.prog 52 #[E] w fun e w' => ∃ v, e = .returned v ∧ IsErr sp w' v (toldE er) ∧ Below w.heap.size w w' := by
  cases er with
  | flt p er => exact told_flt E p er w hL he
  | sent c => exact (told_plain E _ w hL he hp).mono fun e w' ⟨h1, h2⟩ => ⟨_, h1, he.grow h2, h2⟩
  | «at» p er => exact (told_plain E _ w hL he hp).mono fun e w' ⟨h1, h2⟩ => ⟨_, h1, he.grow h2, h2⟩

/-! ### rows of parts are read -/
theorem flat_get {α : Type} {f : α → List Value} {n : Nat} (hf : ∀ x, (f x).length = n) : ∀ (l : List α) (j i : Nat) (x : α), l[j]? = some x → i < n → (l.flatMap f)[j * n + i]? = (f x)[i]?
  | [], j, i, x, h, _ => by simp at h
  | y :: l, 0, i, x, h, hi => by
    simp at h
    subst h
    rw [List.flatMap_cons, List.getElem?_append_left (by rw [hf]; omega)]
    simp
  | y :: l, j + 1, i, x, h, hi => by
    rw [List.flatMap_cons, List.getElem?_append_right (by rw [hf, Nat.add_mul]; omega), hf]
    have e : (j + 1) * n + i - n = j * n + i := by rw [Nat.add_mul]; omega
    rw [e]
    exact flat_get hf l j i x (by simpa using h) hi
theorem own_grds {w : World} {B : Nat} {gv : Value} {gs : List Grd} (h : w.ownsRow B 72 3 gv gs.length (gs.flatMap gcells)) : Grds w gv gs := by
  rcases h.2 with ⟨rfl, h0⟩ | ⟨g, cap, cur, rfl, _, hh, hn, _⟩
  · obtain rfl := List.eq_nil_of_length_eq_zero h0
    exact ⟨none, 0, rfl, Nat.le_refl _, fun j g hj => by simp at hj⟩
  · refine ⟨_, cap, rfl, hn, fun j x hj => ⟨g, 0, rfl, ?_⟩⟩
    have hc := h.cells (g := g) rfl
    have e : ∀ i, i < 3 → (gs.flatMap gcells)[j * 3 + i]? = (gcells x)[i]? := fun i hi => flat_get (n := 3) (fun _ => rfl) gs j i x hj hi
    have c0 := hc (j * 3 + 0) _ ((e 0 (by omega)).trans rfl)
    have c1 := hc (j * 3 + 1) _ ((e 1 (by omega)).trans rfl)
    have c2 := hc (j * 3 + 2) _ ((e 2 (by omega)).trans rfl)
    rw [add_plain] at c0 c1 c2
    rw [Nat.zero_add]
    exact ⟨c0, c1, c2⟩
theorem own_stps {w : World} {B : Nat} {gv : Value} {gs : List Stp} (h : w.ownsRow B 74 5 gv gs.length (gs.flatMap scells)) : Stps w gv gs := by
  rcases h.2 with ⟨rfl, h0⟩ | ⟨g, cap, cur, rfl, _, hh, hn, _⟩
  · obtain rfl := List.eq_nil_of_length_eq_zero h0
    exact ⟨none, 0, rfl, Nat.le_refl _, fun j g hj => by simp at hj⟩
  · refine ⟨_, cap, rfl, hn, fun j x hj => ⟨g, 0, rfl, ?_⟩⟩
    have hc := h.cells (g := g) rfl
    have e : ∀ i, i < 5 → (gs.flatMap scells)[j * 5 + i]? = (scells x)[i]? := fun i hi => flat_get (n := 5) (fun _ => rfl) gs j i x hj hi
    have c0 := hc (j * 5 + 0) _ ((e 0 (by omega)).trans rfl)
    have c1 := hc (j * 5 + 1) _ ((e 1 (by omega)).trans rfl)
    have c2 := hc (j * 5 + 2) _ ((e 2 (by omega)).trans rfl)
    have c3 := hc (j * 5 + 3) _ ((e 3 (by omega)).trans rfl)
    have c4 := hc (j * 5 + 4) _ ((e 4 (by omega)).trans rfl)
    rw [add_plain] at c0 c1 c2 c3 c4
    rw [Nat.zero_add]
    exact ⟨c0, c1, c2, c3, c4⟩

/-! ### Take -/
inductive OT where
  | ok (o : Opn) (next : Int)
  | bad (e : Er)
def stepsSt (from_ : Int) (r : Nat × RSt) : RSt :=
  match r.2.err with
  | none => if r.1 = 0 then ⟨r.2.at_, some (.at from_ (.sent 4))⟩ else r.2
  | some _ => r.2
def endT (gs : List Grd) (r : RSt × List Stp) : OT :=
  match r.1.err with
  | none => .ok ⟨gs, r.2⟩ r.1.at_
  | some e => .bad (toldE e)
def otake (s : ByteArray) (p : Int) : OT :=
  let r0 := countF s 4 3 ⟨p, none⟩
  let pg := partsG s r0.1 0 r0.2 []
  let r2 := countF s 4 3 pg.1
  endT pg.2 (partsS s r2.1 r0.1 (stepsSt pg.1.at_ r2) [])
def OTPost (sp : Nat → Addr) (w : World) : OT → Ending → World → Prop
  | .ok o nx, e, w' => ∃ v, e = .returned (.tuple #[v, .int .i64 nx, .nilIface]) ∧ OpIn w' v o ∧ Below w.heap.size w w'
  | .bad er, e, w' => ∃ ev, e = .returned (.tuple #[.agg #[.slice none 0 0, .slice none 0 0], .int .i64 0, ev]) ∧ IsErr sp w' ev er ∧ Below w.heap.size w w'
/-- Each error of a reader is one that is told. -/
theorem count_told {s : ByteArray} {most c : Nat} {st : RSt} (h : ∀ e, st.err = some e → e.told?) : ∀ e, (countF s most c st).2.err = some e → e.told? := by
  obtain ⟨p, err⟩ := st
  unfold countF
  cases err with
  | some e => exact h
  | none =>
    simp only
    unfold countT
    split
    · intro e he; cases he; trivial
    · split
      · intro e he; cases he; trivial
      · intro e he; cases he
theorem parts_toldG {s : ByteArray} : ∀ (k j : Nat) (st : RSt) (l : List Grd), (∀ e, st.err = some e → e.told?) → ∀ e, (partsG s k j st l).1.err = some e → e.told?
  | 0, _, st, l, h => h
  | k + 1, j, st, l, h => by
    rw [partsG]
    split
    · exact h
    · split
      · rename_i he
        exact parts_toldG k _ _ _ (fun e h => by rw [he] at h; cases h)
      · intro e he; cases he; trivial
theorem parts_toldS {s : ByteArray} : ∀ (k j : Nat) (st : RSt) (l : List Stp), (∀ e, st.err = some e → e.told?) → ∀ e, (partsS s k j st l).1.err = some e → e.told?
  | 0, _, st, l, h => h
  | k + 1, j, st, l, h => by
    rw [partsS]
    split
    · exact h
    · split
      · rename_i he
        exact parts_toldS k _ _ _ (fun e h => by rw [he] at h; cases h)
      · intro e he; cases he; trivial

theorem take_end {w : World} {G B : Nat} {a b u v gv sv : Value} {gs : List Grd} {ss : List Stp} (hz : w.heap[G]? = some (opBlk a b)) (hg : w.ownsRow B 72 3 gv gs.length (gs.flatMap gcells)) (hs : w.ownsRow B 74 5 sv ss.length (ss.flatMap scells)) :
    OpIn ((w.drew.setCell ⟨G, 0, none⟩ u).setCell ⟨G, 1, none⟩ v) (.agg #[gv, sv]) ⟨gs, ss⟩ := by
  have hg1 : w.drew.ownsRow B 72 3 gv gs.length (gs.flatMap gcells) := hg
  have hs1 : w.drew.ownsRow B 74 5 sv ss.length (ss.flatMap scells) := hs
  have hz1 : w.drew.heap[G]? = some (opBlk a b) := hz
  have hz2 : (w.drew.setCell ⟨G, 0, none⟩ u).heap[G]? = some (opBlk u b) := blk_set hz1 0 u
  have hg2 := own_setCell hg1 (p := ⟨G, 0, none⟩) (own_ne hg1 hz1 (by decide)) u
  have hs2 := own_setCell hs1 (p := ⟨G, 0, none⟩) (own_ne hs1 hz1 (by decide)) u
  exact ⟨_, _, rfl, own_grds (own_setCell hg2 (own_ne hg2 hz2 (by decide)) v), own_stps (own_setCell hs2 (own_ne hs2 hz2 (by decide)) v)⟩
theorem take_err {sp : Nat → Addr} {w : World} {G : Nat} {a b u v E : Value} {e : Er} (he : IsErr sp w E e) (hz : w.heap[G]? = some (opBlk a b)) : IsErr sp ((w.setCell ⟨G, 0, none⟩ u).setCell ⟨G, 1, none⟩ v) E e :=
  he.keeps (S := (· = G)) (((Keeps.refl (· = G) w).setCell ⟨G, 0, none⟩ u (fun _ => rfl)).setCell ⟨G, 1, none⟩ v (fun _ => rfl)) (fun k hk cs t hc => by
    subst hk
    rw [hz] at hc
    unfold opBlk at hc
    injection hc with hc
    injection hc with _ ht
    subst ht
    exact ⟨by decide, by decide⟩)
theorem take_below2 {w Z w1 : World} {u v : Value} (h1 : Below w.heap.size w Z) (h2 : Below Z.heap.size Z w1) : Below w.heap.size w ((w1.setCell ⟨w.heap.size, 0, none⟩ u).setCell ⟨w.heap.size, 1, none⟩ v) :=
  ((below_trans h1 h2).setCell (p := ⟨w.heap.size, 0, none⟩) (Nat.le_refl _) _).setCell (p := ⟨w.heap.size, 1, none⟩) (Nat.le_refl _) _
theorem take_below {w Z w1 : World} {u v : Value} (h1 : Below w.heap.size w Z) (h2 : Below Z.heap.size Z w1) : Below w.heap.size w ((w1.drew.setCell ⟨w.heap.size, 0, none⟩ u).setCell ⟨w.heap.size, 1, none⟩ v) :=
  take_below2 h1 h2.drew
set_option maxRecDepth 100000 in
set_option maxHeartbeats 8000000 in
theorem otake_calls {sp : Nat → Addr} (s : ByteArray) (p : Int) (w : World) (hL : Laid sp w) (hs : s.size ≤ 10000000) (hp : -9223372036854775808 ≤ p ∧ p ≤ 9223372036854775807) :
    Calls Tryd.prog 16 #[.string s, .int .i64 p] w fun e w' => OTPost sp w (otake s p) e w' := by
  obtain ⟨T, hT⟩ : ∃ T, otake s p = T := ⟨_, rfl⟩
  rw [hT]
  obtain ⟨Z, hZ⟩ : ∃ Z, w.alloc (.cells #[.slice none 0 0, .slice none 0 0] 32) = Z := ⟨_, rfl⟩
  obtain ⟨O, hO⟩ : ∃ O, w.heap.size + 1 = O := ⟨_, rfl⟩
  obtain ⟨R, hR⟩ : ∃ R, O + 1 = R := ⟨_, rfl⟩
  have hLZ : Laid sp Z := by rw [← hZ]; exact hL.below (below_new _ _)
  have hZ0 : Z.heap[w.heap.size]? = some (opBlk (.slice none 0 0) (.slice none 0 0)) := by rw [← hZ]; exact heap_new _ _
  have hZb : Below w.heap.size w Z := by rw [← hZ]; exact below_new _ _
  have hZO : Z.heap.size = O := by rw [← hZ, ← hO]; simp
  have hZs : w.heap.size < Z.heap.size := blk_lt' hZ0
  have hOle : Z.heap.size ≤ O := by omega
  have hRle : Z.heap.size ≤ R := by omega
  -- the contracts
  unfold otake at hT
  have k0 := count_ok (s := s) (most := 4) (c := 3) (st := ⟨p, none⟩) hp hs
  have q0 : ∀ e, (countF s 4 3 ⟨p, none⟩).2.err = some e → e.told? := count_told (fun e h => by cases h)
  have HC0 := Lib.hid (fun w (hL : Laid sp w) hr => count_calls (sp := sp) R s ⟨p, none⟩ 4 3 w hL hr hs hp (by omega) (by unfold isCode; omega))
  generalize countF s 4 3 ⟨p, none⟩ = r0 at *
  obtain ⟨n, st0⟩ := r0
  simp only at hT k0 q0 HC0
  have k1 := partsG_ok (s := s) hs n 0 st0 [] k0.1
  have q1 := parts_toldG (s := s) n 0 st0 [] q0
  have HP1 := Lib.hid (fun w hW hr ho => partsG_calls (sp := sp) R O s st0 [] [] (.slice none 0 0) (.slice none 0 0) n 0 Z w hLZ hW hRle hOle hr ho hs k0.1 (by omega) (by omega) (by simp))
  generalize partsG s n 0 st0 [] = r1 at *
  obtain ⟨st1, gs⟩ := r1
  simp only [List.length_nil] at hT k1 q1 HP1
  have k2 := count_ok (s := s) (most := 4) (c := 3) k1.1 hs
  have q2 := count_told (s := s) (most := 4) (c := 3) q1
  have HC2 := Lib.hid (fun w (hL : Laid sp w) hr => count_calls (sp := sp) R s st1 4 3 w hL hr hs k1.1 (by omega) (by unfold isCode; omega))
  generalize countF s 4 3 st1 = r2 at *
  obtain ⟨m, st2⟩ := r2
  simp only at hT k2 q2 HC2
  obtain ⟨st3, h3⟩ : ∃ st3, stepsSt st1.at_ (m, st2) = st3 := ⟨_, rfl⟩
  have k3 : st3.ok := by
    rw [← h3]
    unfold stepsSt
    split
    · split
      · exact k2.1
      · exact k2.1
    · exact k2.1
  have q3 : ∀ e, st3.err = some e → e.told? := by
    rw [← h3]
    unfold stepsSt
    split
    · split
      · intro e he; cases he; trivial
      · exact q2
    · exact q2
  rw [h3] at hT
  have q4 := parts_toldS (s := s) m n st3 [] q3
  have HP2 := Lib.hid (fun gv sv w hW hr ho => partsS_calls (sp := sp) R O s st3 [] gs gv sv m n Z w hLZ hW hRle hOle hr ho hs k3 (by omega) (by omega) (by simp))
  generalize partsS s m n st3 [] = r4 at *
  obtain ⟨st4, ss⟩ := r4
  simp only at hT q4 HP2
  have HL := Lib.hid hLZ
  have HZ0 := Lib.hid hZ0
  have HZB := Lib.hid hZb
  have HZ := Lib.hid hZ
  have HT := Lib.hid hT
  have H3 := Lib.hid h3
  have HO := Lib.hid hO
  have HR := Lib.hid hR
  have HQ := Lib.hid q4
  have hw1 : ∀ o, Below Z.heap.size Z (Z.alloc o) := fun o => below_new _ _
  have hw3 : Below Z.heap.size Z ((Z.alloc (.cells #[.slice none 0 0, .slice none 0 0] 32)).alloc (.cells #[.string s, .int .i64 p, .nilIface] 82)) := below_trans (below_new _ _) (below_new _ _)
  have ho3 : OpAt ((Z.alloc (.cells #[.slice none 0 0, .slice none 0 0] 32)).alloc (.cells #[.string s, .int .i64 p, .nilIface] 82)) Z.heap.size O (.slice none 0 0) (.slice none 0 0) [] [] :=
    ⟨blk_below (below_new _ _) (by rw [← hZO]; exact heap_new _ _), own_nil _ _ _ _, own_nil _ _ _ _⟩
  have hr3 : RdAt sp ((Z.alloc (.cells #[.slice none 0 0, .slice none 0 0] 32)).alloc (.cells #[.string s, .int .i64 p, .nilIface] 82)) R s ⟨p, none⟩ :=
    ⟨.nilIface, by have h := heap_new (Z.alloc (.cells #[.slice none 0 0, .slice none 0 0] 32)) (.cells #[.string s, .int .i64 p, .nilIface] 82); rw [show (Z.alloc (.cells #[.slice none 0 0, .slice none 0 0] 32)).heap.size = R by simp; omega] at h; exact h, rfl⟩
  have HW3 := Lib.hid hw3
  have HO3 := Lib.hid ho3
  have HR3 := Lib.hid hr3
  have hn4 : n ≤ 4 := k0.2
  have hm4 : m ≤ 4 := k2.2
  clear hL hLZ hZ0 hZb hZ hT h3 q0 q1 q2 q3 q4 hw1 hw3 ho3 hr3 hO hR hZO k0 k1 k2 k3
  go_enter Tryd.func16, Tryd.ntmps16
  go_wp2_with fail
  rw [HZ.out, HO.out, HR.out]
  refine (HC0.out _ (HL.out.below HW3.out) HR3.out).mono ?_
  generalize ((Z.alloc (.cells #[.slice none 0 0, .slice none 0 0] 32)).alloc (.cells #[.string s, .int .i64 p, .nilIface] 82)) = w3 at *
  rintro e w4 ⟨rfl, hr4, hk4⟩
  obtain ⟨ev3, hb3, _⟩ := HR3.out
  have HO4 := Lib.hid (HO3.out.rd (sp := sp) hb3 hk4)
  have HW4 := Lib.hid (keeps_below HW3.out hk4 (fun k e => by omega))
  have HR4 := Lib.hid hr4
  clear hr4 hk4 hb3
  go_wp2_with fail
  refine (HP1.out _ HW4.out HR4.out HO4.out).mono ?_
  rintro e w5 ⟨rfl, ⟨ev5, hb5, he5⟩, ⟨gv, sv, ho5⟩, hw5⟩
  obtain ⟨_, c1, _, _⟩ := rd_cells hb5
  have HO5 := Lib.hid ho5
  have HW5 := Lib.hid hw5
  have HB5 := Lib.hid hb5
  have HE5 := Lib.hid he5
  clear ho5 hw5 hb5 he5
  go_wp2_with fail
  refine (HC2.out _ (HL.out.below HW5.out) ⟨_, HB5.out, HE5.out⟩).mono ?_
  rintro e w6 ⟨rfl, ⟨ev6, hb6, he6⟩, hk6⟩
  obtain ⟨_, _, d2, d3⟩ := rd_cells hb6
  have HO6 := Lib.hid (HO5.out.rd (sp := sp) HB5.out hk6)
  have HW6 := Lib.hid (keeps_below HW5.out hk6 (fun k e => by omega))
  have HB6 := Lib.hid hb6
  have HE6 := Lib.hid he6
  clear hb6 he6 hk6 c1 d3
  cases hE2 : st2.err with
  | some er =>
    have he := HE6.out
    rw [hE2] at he
    obtain ⟨t6, a6, rfl⟩ := IsErr.form he
    have h3 := H3.out
    unfold stepsSt at h3
    simp only [hE2] at h3
    subst h3
    have HW8 := HW6
    have HO8 := HO6
    have HR8 := Lib.hid (show RdAt sp w6 R s st2 from ⟨_, HB6.out, HE6.out⟩)
    clear he hE2
    go_wp2_with fail
    refine (HP2.out _ _ _ HW8.out HR8.out HO8.out).mono ?_
    rintro e w9 ⟨rfl, ⟨ev9, hb9, he9⟩, ⟨gv9, sv9, ho9⟩, hw9⟩
    obtain ⟨_, l1, l2, _⟩ := rd_cells hb9
    have hz9 : w9.heap[w.heap.size]? = some (opBlk (.slice none 0 0) (.slice none 0 0)) := blk_below hw9 HZ0.out
    have z0 : w9.cell? ⟨w.heap.size, 0, none⟩ = some (.slice none 0 0) := blk_cell hz9 0
    have z1 : w9.cell? ⟨w.heap.size, 1, none⟩ = some (.slice none 0 0) := blk_cell hz9 1
    have z2 : w9.frozen? ⟨w.heap.size, 0, none⟩ = false := blk_frozen hz9 0
    have z3 : w9.frozen? ⟨w.heap.size, 1, none⟩ = false := blk_frozen hz9 1
    have HO9 := Lib.hid ho9
    have HW9 := Lib.hid hw9
    have HB9 := Lib.hid hb9
    have HE9 := Lib.hid he9
    have HZ9 := Lib.hid hz9
    have HT2 := Lib.hid HT.out
    clear ho9 hw9 hb9 he9 hz9
    cases hE : st4.err with
    | none =>
      have he := HE9.out
      rw [hE] at he
      obtain rfl : ev9 = .nilIface := he
      have hTT := HT2.out
      unfold endT at hTT
      simp only [hE] at hTT
      subst hTT
      obtain ⟨ga, gc, hgv⟩ : ∃ A c, gv9 = .slice A gs.length c := own_slice HO9.out.grow
      obtain ⟨sa, sc, hsv⟩ : ∃ A c, sv9 = .slice A ss.length c := own_slice HO9.out.srow
      subst hgv
      subst hsv
      have o0 : w9.cell? ⟨O, 0, none⟩ = some (.slice ga gs.length gc) := blk_cell HO9.out.blk 0
      have o1 : w9.cell? ⟨O, 1, none⟩ = some (.slice sa ss.length sc) := blk_cell HO9.out.blk 1
      clear hE
      go_wp2_with fail
      go_region
      all_goals
        go_wp2
        refine bodyPost_ret (v := .tuple #[.agg #[.slice ga gs.length gc, .slice sa ss.length sc], .int .i64 st4.at_, .nilIface]) (by simp [results, Tryd.results16, go_sem, *]) rfl ?_
        exact ⟨_, rfl, take_end HZ9.out HO9.out.grow HO9.out.srow, take_below HZB.out HW9.out⟩
    | some er =>
      have he := HE9.out
      rw [hE] at he
      obtain ⟨t, a, rfl⟩ := IsErr.form he
      have hTT := HT2.out
      unfold endT at hTT
      simp only [hE] at hTT
      subst hTT
      have HTO := Lib.hid (told_calls (sp := sp) _ er w9 (HL.out.below HW9.out) he (HQ.out er hE))
      clear he hE
      go_wp2_with fail
      refine HTO.out.mono ?_
      rintro e w10 ⟨v, rfl, h1, h2⟩
      obtain ⟨t2, a2, rfl⟩ := h1.form
      have hz10 := blk_below h2 HZ9.out
      have y0 : w10.cell? ⟨w.heap.size, 0, none⟩ = some (.slice none 0 0) := blk_cell hz10 0
      have y1 : w10.cell? ⟨w.heap.size, 1, none⟩ = some (.slice none 0 0) := blk_cell hz10 1
      have y2 : w10.frozen? ⟨w.heap.size, 0, none⟩ = false := blk_frozen hz10 0
      have y3 : w10.frozen? ⟨w.heap.size, 1, none⟩ = false := blk_frozen hz10 1
      have HF := Lib.hid (And.intro h1 (below_trans HW9.out h2))
      clear h1 h2 hz10 z0 z1 z2 z3 l1 l2
      go_wp2
      refine bodyPost_ret (v := .tuple #[.agg #[.slice none 0 0, .slice none 0 0], .int .i64 0, .iface t2 (.pointer (some a2))]) (by simp [results, Tryd.results16, go_sem, *]) rfl ?_
      exact ⟨_, rfl, take_err HF.out.1 (blk_below HF.out.2 HZ0.out), take_below2 HZB.out HF.out.2⟩
  | none =>
    have he := HE6.out
    rw [hE2] at he
    obtain rfl : ev6 = .nilIface := he
    by_cases hm0 : m = 0
    · have h3 := H3.out
      unfold stepsSt at h3
      simp only [hE2] at h3
      rw [if_pos hm0] at h3
      subst h3
      subst hm0
      clear hE2
      go_wp2_with fail
      refine (new_calls (sp := sp) 4 (by unfold isCode; omega) _ (HL.out.below HW6.out)).mono ?_
      rintro e w7 ⟨rfl, rfl⟩
      go_wp2_with fail
      refine (at_calls (sp := sp) st1.at_ _ (.sent 4) _ (.sent 4 (by unfold isCode; omega))).mono ?_
      rintro e w8 ⟨v, rfl, h1, h2⟩
      obtain ⟨t6, a6, rfl⟩ := h1.form
      have HB7 := Lib.hid (rd_below HB6.out h2)
      obtain ⟨_, _, r2, r3⟩ := rd_cells HB7.out
      have r4 := r3 2
      have HR8 := Lib.hid (show RdAt sp (w8.setCell ⟨R, 2, none⟩ (.iface t6 (.pointer (some a6)))) R s ⟨st2.at_, some (.at st1.at_ (.sent 4))⟩ from ⟨_, rd_set2 HB7.out _, IsErr.set_rd h1 HB7.out⟩)
      have HO8 := Lib.hid ((HO6.out.below h2).rd (sp := sp) HB7.out (keeps_rd R 2 (.iface t6 (.pointer (some a6))) (Below.refl _ _)))
      have HW8 := Lib.hid ((below_trans HW6.out h2).setCell (p := ⟨R, 2, none⟩) hRle (.iface t6 (.pointer (some a6))))
      clear h1 h2 r3 d2
      go_wp2_with fail
      refine (HP2.out _ _ _ HW8.out HR8.out HO8.out).mono ?_
      rintro e w9 ⟨rfl, ⟨ev9, hb9, he9⟩, ⟨gv9, sv9, ho9⟩, hw9⟩
      obtain ⟨_, l1, l2, _⟩ := rd_cells hb9
      have hz9 : w9.heap[w.heap.size]? = some (opBlk (.slice none 0 0) (.slice none 0 0)) := blk_below hw9 HZ0.out
      have z0 : w9.cell? ⟨w.heap.size, 0, none⟩ = some (.slice none 0 0) := blk_cell hz9 0
      have z1 : w9.cell? ⟨w.heap.size, 1, none⟩ = some (.slice none 0 0) := blk_cell hz9 1
      have z2 : w9.frozen? ⟨w.heap.size, 0, none⟩ = false := blk_frozen hz9 0
      have z3 : w9.frozen? ⟨w.heap.size, 1, none⟩ = false := blk_frozen hz9 1
      have HO9 := Lib.hid ho9
      have HW9 := Lib.hid hw9
      have HB9 := Lib.hid hb9
      have HE9 := Lib.hid he9
      have HZ9 := Lib.hid hz9
      have HT2 := Lib.hid HT.out
      clear ho9 hw9 hb9 he9 hz9
      cases hE : st4.err with
      | none =>
        have he := HE9.out
        rw [hE] at he
        obtain rfl : ev9 = .nilIface := he
        have hTT := HT2.out
        unfold endT at hTT
        simp only [hE] at hTT
        subst hTT
        obtain ⟨ga, gc, hgv⟩ : ∃ A c, gv9 = .slice A gs.length c := own_slice HO9.out.grow
        obtain ⟨sa, sc, hsv⟩ : ∃ A c, sv9 = .slice A ss.length c := own_slice HO9.out.srow
        subst hgv
        subst hsv
        have o0 : w9.cell? ⟨O, 0, none⟩ = some (.slice ga gs.length gc) := blk_cell HO9.out.blk 0
        have o1 : w9.cell? ⟨O, 1, none⟩ = some (.slice sa ss.length sc) := blk_cell HO9.out.blk 1
        clear hE
        go_wp2_with fail
        go_region
        all_goals
          go_wp2
          refine bodyPost_ret (v := .tuple #[.agg #[.slice ga gs.length gc, .slice sa ss.length sc], .int .i64 st4.at_, .nilIface]) (by simp [results, Tryd.results16, go_sem, *]) rfl ?_
          exact ⟨_, rfl, take_end HZ9.out HO9.out.grow HO9.out.srow, take_below HZB.out HW9.out⟩
      | some er =>
        have he := HE9.out
        rw [hE] at he
        obtain ⟨t, a, rfl⟩ := IsErr.form he
        have hTT := HT2.out
        unfold endT at hTT
        simp only [hE] at hTT
        subst hTT
        have HTO := Lib.hid (told_calls (sp := sp) _ er w9 (HL.out.below HW9.out) he (HQ.out er hE))
        clear he hE
        go_wp2_with fail
        refine HTO.out.mono ?_
        rintro e w10 ⟨v, rfl, h1, h2⟩
        obtain ⟨t2, a2, rfl⟩ := h1.form
        have hz10 := blk_below h2 HZ9.out
        have y0 : w10.cell? ⟨w.heap.size, 0, none⟩ = some (.slice none 0 0) := blk_cell hz10 0
        have y1 : w10.cell? ⟨w.heap.size, 1, none⟩ = some (.slice none 0 0) := blk_cell hz10 1
        have y2 : w10.frozen? ⟨w.heap.size, 0, none⟩ = false := blk_frozen hz10 0
        have y3 : w10.frozen? ⟨w.heap.size, 1, none⟩ = false := blk_frozen hz10 1
        have HF := Lib.hid (And.intro h1 (below_trans HW9.out h2))
        clear h1 h2 hz10 z0 z1 z2 z3 l1 l2
        go_wp2
        refine bodyPost_ret (v := .tuple #[.agg #[.slice none 0 0, .slice none 0 0], .int .i64 0, .iface t2 (.pointer (some a2))]) (by simp [results, Tryd.results16, go_sem, *]) rfl ?_
        exact ⟨_, rfl, take_err HF.out.1 (blk_below HF.out.2 HZ0.out), take_below2 HZB.out HF.out.2⟩
    · have h3 := H3.out
      unfold stepsSt at h3
      simp only [hE2] at h3
      rw [if_neg hm0] at h3
      subst h3
      have ht : ((m : Int) == 0) = false := by simp; omega
      have HW8 := HW6
      have HO8 := HO6
      have HR8 := Lib.hid (show RdAt sp w6 R s st2 from ⟨_, HB6.out, HE6.out⟩)
      clear hE2 hm0
      go_wp2_with fail
      refine (HP2.out _ _ _ HW8.out HR8.out HO8.out).mono ?_
      rintro e w9 ⟨rfl, ⟨ev9, hb9, he9⟩, ⟨gv9, sv9, ho9⟩, hw9⟩
      obtain ⟨_, l1, l2, _⟩ := rd_cells hb9
      have hz9 : w9.heap[w.heap.size]? = some (opBlk (.slice none 0 0) (.slice none 0 0)) := blk_below hw9 HZ0.out
      have z0 : w9.cell? ⟨w.heap.size, 0, none⟩ = some (.slice none 0 0) := blk_cell hz9 0
      have z1 : w9.cell? ⟨w.heap.size, 1, none⟩ = some (.slice none 0 0) := blk_cell hz9 1
      have z2 : w9.frozen? ⟨w.heap.size, 0, none⟩ = false := blk_frozen hz9 0
      have z3 : w9.frozen? ⟨w.heap.size, 1, none⟩ = false := blk_frozen hz9 1
      have HO9 := Lib.hid ho9
      have HW9 := Lib.hid hw9
      have HB9 := Lib.hid hb9
      have HE9 := Lib.hid he9
      have HZ9 := Lib.hid hz9
      have HT2 := Lib.hid HT.out
      clear ho9 hw9 hb9 he9 hz9
      cases hE : st4.err with
      | none =>
        have he := HE9.out
        rw [hE] at he
        obtain rfl : ev9 = .nilIface := he
        have hTT := HT2.out
        unfold endT at hTT
        simp only [hE] at hTT
        subst hTT
        obtain ⟨ga, gc, hgv⟩ : ∃ A c, gv9 = .slice A gs.length c := own_slice HO9.out.grow
        obtain ⟨sa, sc, hsv⟩ : ∃ A c, sv9 = .slice A ss.length c := own_slice HO9.out.srow
        subst hgv
        subst hsv
        have o0 : w9.cell? ⟨O, 0, none⟩ = some (.slice ga gs.length gc) := blk_cell HO9.out.blk 0
        have o1 : w9.cell? ⟨O, 1, none⟩ = some (.slice sa ss.length sc) := blk_cell HO9.out.blk 1
        clear hE
        go_wp2_with fail
        go_region
        all_goals
          go_wp2
          refine bodyPost_ret (v := .tuple #[.agg #[.slice ga gs.length gc, .slice sa ss.length sc], .int .i64 st4.at_, .nilIface]) (by simp [results, Tryd.results16, go_sem, *]) rfl ?_
          exact ⟨_, rfl, take_end HZ9.out HO9.out.grow HO9.out.srow, take_below HZB.out HW9.out⟩
      | some er =>
        have he := HE9.out
        rw [hE] at he
        obtain ⟨t, a, rfl⟩ := IsErr.form he
        have hTT := HT2.out
        unfold endT at hTT
        simp only [hE] at hTT
        subst hTT
        have HTO := Lib.hid (told_calls (sp := sp) _ er w9 (HL.out.below HW9.out) he (HQ.out er hE))
        clear he hE
        go_wp2_with fail
        refine HTO.out.mono ?_
        rintro e w10 ⟨v, rfl, h1, h2⟩
        obtain ⟨t2, a2, rfl⟩ := h1.form
        have hz10 := blk_below h2 HZ9.out
        have y0 : w10.cell? ⟨w.heap.size, 0, none⟩ = some (.slice none 0 0) := blk_cell hz10 0
        have y1 : w10.cell? ⟨w.heap.size, 1, none⟩ = some (.slice none 0 0) := blk_cell hz10 1
        have y2 : w10.frozen? ⟨w.heap.size, 0, none⟩ = false := blk_frozen hz10 0
        have y3 : w10.frozen? ⟨w.heap.size, 1, none⟩ = false := blk_frozen hz10 1
        have HF := Lib.hid (And.intro h1 (below_trans HW9.out h2))
        clear h1 h2 hz10 z0 z1 z2 z3 l1 l2
        go_wp2
        refine bodyPost_ret (v := .tuple #[.agg #[.slice none 0 0, .slice none 0 0], .int .i64 0, .iface t2 (.pointer (some a2))]) (by simp [results, Tryd.results16, go_sem, *]) rfl ?_
        exact ⟨_, rfl, take_err HF.out.1 (blk_below HF.out.2 HZ0.out), take_below2 HZB.out HF.out.2⟩

/-! ### Parse -/
def oparse (s : ByteArray) : OT :=
  match otake s 0 with
  | .bad e => .bad e
  | .ok o nx => if nx < s.size then .bad (.at nx (.sent 3)) else .ok o nx
end Go.Proofs.YtgjabbffpfhmjaaDoor
