/- opcode.Parse, by its contract. -/
import Derived.Test.YtgjabbffpfhmjaaDoorOTake
namespace Go.Proofs.YtgjabbffpfhmjaaDoor
open Go.RowKit Go.Extern.Stop Go.Stop Go.Extern Go.Proofs.YtgjabbffpfhmjaaDoorW.PrintWords

/-! ### each error's code is a small one -/
def Low (st : RSt) : Prop := ∀ e, st.err = some e → e.code ≤ 5
theorem tgo_low : ∀ (l : List UInt8) (p i N c : Nat), tgo p i N l = .bad c → c ≤ 5
  | [], p, i, N, c, h => by cases h; decide
  | x :: r, p, i, N, c, h => by
    rw [tgo_cons] at h
    split at h
    · cases h; decide
    split at h
    · cases h; decide
    split at h
    · exact tgo_low r p (i + 1) _ c h
    · split at h
      · cases h; decide
      · cases h
theorem stake_low {s : ByteArray} {p : Int} {c : Nat} (h : stake s p = .bad c) : c ≤ 5 := by
  unfold stake at h
  split at h
  · cases h; decide
  · exact tgo_low _ _ _ _ _ h
theorem text_low_ {s : ByteArray} {p : Int} {most c : Nat} (h : stext_ s p most = .bad c) : c ≤ 5 := by
  unfold stext_ at h
  split at h
  · rename_i hT
    cases h
    exact stake_low hT
  · split at h
    · cases h; decide
    · split at h
      · cases h; decide
      · cases h
theorem count_low {s : ByteArray} {most c : Nat} {st : RSt} (hc : c ≤ 5) (h : Low st) : Low (countF s most c st).2 := by
  obtain ⟨p, err⟩ := st
  unfold countF
  cases err with
  | some e => exact h
  | none =>
    simp only
    unfold countT
    split
    · rename_i hT
      intro e he; cases he; exact stake_low hT
    · split
      · intro e he; cases he; exact hc
      · intro e he; cases he
theorem kind_low {s : ByteArray} {most : Nat} {st : RSt} (h : Low st) : Low (kindF s most st).2 := by
  have hc := count_low (s := s) (most := most) (c := 5) (by decide) h
  unfold kindF
  split
  · split
    · intro e he; cases he; exact Nat.le_refl _
    · exact hc
  · exact hc
theorem text_low {s : ByteArray} {most : Nat} {st : RSt} (h : Low st) : Low (textF s most st).2 := by
  obtain ⟨p, err⟩ := st
  unfold textF
  cases err with
  | some e => exact h
  | none =>
    simp only
    cases hT : stext_ s p most with
    | bad k => intro e he; cases he; exact text_low_ hT
    | ok t nx => intro e he; cases he
theorem int_low {s : ByteArray} {st : RSt} (h : Low st) : Low (intF s st).2 := by
  unfold intF
  split
  · exact h
  · split
    · rename_i hT
      intro e he; cases he; exact stake_low hT
    · intro e he; cases he
theorem guard_low {s : ByteArray} {st : RSt} (h : Low st) : Low (guardF s st).2 := by
  have ko := kind_low (s := s) (most := 3) h
  have t1 := text_low (s := s) (most := 16) ko
  have t2 := text_low (s := s) (most := 32) t1
  unfold guardF
  split
  · exact t2
  · exact t1
theorem step_low {s : ByteArray} {st : RSt} (h : Low st) : Low (stepF s st).2 := by
  have ko := kind_low (s := s) (most := 4) h
  have t1 := text_low (s := s) (most := 16) ko
  have t2 := text_low (s := s) (most := 32) t1
  have t3 := text_low (s := s) (most := 32) t2
  unfold stepF
  split
  · exact t2
  split
  · exact int_low t1
  split
  · exact t3
  · exact t1
theorem parts_lowG {s : ByteArray} : ∀ (k j : Nat) (st : RSt) (l : List Grd), Low st → Low (partsG s k j st l).1
  | 0, _, st, l, h => h
  | k + 1, j, st, l, h => by
    have hg := guard_low (s := s) h
    rw [partsG]
    split
    · exact h
    · split
      · exact parts_lowG k _ _ _ hg
      · rename_i e' he'
        intro e he; cases he; exact show e'.code ≤ 5 from hg e' he'
theorem parts_lowS {s : ByteArray} : ∀ (k j : Nat) (st : RSt) (l : List Stp), Low st → Low (partsS s k j st l).1
  | 0, _, st, l, h => h
  | k + 1, j, st, l, h => by
    have hg := step_low (s := s) h
    rw [partsS]
    split
    · exact h
    · split
      · exact parts_lowS k _ _ _ hg
      · rename_i e' he'
        intro e he; cases he; exact show e'.code ≤ 5 from hg e' he'
theorem otake_low {s : ByteArray} {p : Int} {e : Er} (h : otake s p = .bad e) : e.code ≤ 5 := by
  unfold otake at h
  have h0 : Low (⟨p, none⟩ : RSt) := fun e h => by cases h
  have h1 := count_low (s := s) (most := 4) (c := 3) (by decide) h0
  have h2 := parts_lowG (s := s) (countF s 4 3 ⟨p, none⟩).1 0 _ [] h1
  have h3 := count_low (s := s) (most := 4) (c := 3) (by decide) h2
  have h4 : ∀ q, Low (stepsSt q (countF s 4 3 (partsG s (countF s 4 3 ⟨p, none⟩).1 0 (countF s 4 3 ⟨p, none⟩).2 []).1)) := fun q => by
    unfold stepsSt
    split
    · split
      · intro e he; cases he; exact show 4 ≤ 5 by decide
      · exact h3
    · exact h3
  have h5 := parts_lowS (s := s) (countF s 4 3 (partsG s (countF s 4 3 ⟨p, none⟩).1 0 (countF s 4 3 ⟨p, none⟩).2 []).1).1 (countF s 4 3 ⟨p, none⟩).1 _ [] (h4 (partsG s (countF s 4 3 ⟨p, none⟩).1 0 (countF s 4 3 ⟨p, none⟩).2 []).1.at_)
  simp only at h
  unfold endT at h
  split at h
  · cases h
  · rename_i e' he'
    cases h
    have := h5 _ he'
    cases e' <;> exact this

/-! ### the walk -/
def OPPost2 (sp : Nat → Addr) (w : World) : OT → Ending → World → Prop
  | .ok o _, e, w' => ∃ v, e = .returned (.tuple #[v, .nilIface]) ∧ OpIn w' v o ∧ Below w.heap.size w w'
  | .bad er, e, w' => ∃ ev, e = .returned (.tuple #[.agg #[.slice none 0 0, .slice none 0 0], ev]) ∧ IsErr sp w' ev er ∧ Below w.heap.size w w'
theorem OpIn.far {w w1 : World} {v : Value} {o : Opn} (h : OpIn w v o) (hb : Below w.heap.size w w1) {G i : Nat} (hG : w.heap.size ≤ G) (u : Value) : OpIn (w1.setCell ⟨G, i, none⟩ u) v o :=
  h.grow (hb.setCell (p := ⟨G, i, none⟩) hG u)

theorem cell_set_ne {w : World} {a p : Addr} {v : Value} (h : w.cell? a = some v) (hne : a ≠ p) (u : Value) : (w.setCell p u).cell? a = some v := (World.cell?_setCell_other w p a u (Ne.symm hne)).trans h
theorem OpIn.set_ {w : World} {v : Value} {o : Opn} {p : Addr} {A : Option Addr} {n c : Nat} (h : OpIn w v o) (hp : w.cell? p = some (.slice A n c)) (u : Value) : OpIn (w.setCell p u) v o := by
  obtain ⟨a, b, hv, ⟨A1, c1, e1, l1, h1⟩, ⟨A2, c2, e2, l2, h2⟩⟩ := h
  have ne : ∀ {q : Addr} {x : Value}, w.cell? q = some x → (∀ A n c, x ≠ .slice A n c) → (w.setCell p u).cell? q = some x := fun hq hx => cell_set_ne hq (fun e => by rw [e, hp] at hq; exact hx _ _ _ (Option.some.inj hq).symm) u
  refine ⟨a, b, hv, ⟨A1, c1, e1, l1, fun j g hj => ?_⟩, ⟨A2, c2, e2, l2, fun j g hj => ?_⟩⟩
  · obtain ⟨b, off, e, x0, x1, x2⟩ := h1 j g hj
    exact ⟨b, off, e, ne x0 (by simp), ne x1 (by simp), ne x2 (by simp)⟩
  · obtain ⟨b, off, e, x0, x1, x2, x3, x4⟩ := h2 j g hj
    exact ⟨b, off, e, ne x0 (by simp), ne x1 (by simp), ne x2 (by simp), ne x3 (by simp), ne x4 (by simp)⟩
set_option maxRecDepth 100000 in
set_option maxHeartbeats 8000000 in
theorem oparse_calls {sp : Nat → Addr} (s : ByteArray) (w : World) (hL : Laid sp w) (hs : s.size ≤ 10000000) :
    Calls Tryd.prog 15 #[.string s] w fun e w' => OPPost2 sp w (oparse s) e w' := by
  obtain ⟨P, hP⟩ : ∃ P, oparse s = P := ⟨_, rfl⟩
  rw [hP]
  unfold oparse at hP
  have hTk := otake_calls (sp := sp) s 0 (w.alloc (.cells #[.slice none 0 0, .slice none 0 0] 32)) (hL.below (below_new _ _)) hs (by omega)
  have hZ0 : (w.alloc (.cells #[.slice none 0 0, .slice none 0 0] 32)).heap[w.heap.size]? = some (opBlk (.slice none 0 0) (.slice none 0 0)) := heap_new _ _
  have hZb := below_new w (.cells #[.slice none 0 0, .slice none 0 0] 32)
  have HL := Lib.hid (hL.below hZb)
  have HTK := Lib.hid hTk
  have HZ0 := Lib.hid hZ0
  have HZB := Lib.hid hZb
  clear hTk hZ0 hZb hL
  cases hT : otake s 0 with
  | bad er =>
    rw [hT] at hP HTK
    simp only at hP
    subst hP
    have hcode : (er.code == 99) = false := by
      have := otake_low hT
      simp
      omega
    have HCD := Lib.hid hcode
    clear hT hcode
    go_enter Tryd.func15, Tryd.ntmps15
    go_wp2_with fail
    refine HTK.out.mono ?_
    generalize w.alloc (.cells #[.slice none 0 0, .slice none 0 0] 32) = Z at *
    rintro e w1 ⟨v, rfl, h1, h2⟩
    obtain ⟨t, a, rfl⟩ := h1.form
    have hz1 : ∀ o, (w1.alloc o).heap[w.heap.size]? = some (opBlk (.slice none 0 0) (.slice none 0 0)) := fun o => blk_below (below_new _ _) (blk_below h2 HZ0.out)
    have HZ1 := Lib.hid hz1
    have HL1 := Lib.hid (fun o => (HL.out.below h2).below (below_new w1 o))
    have HE1 := Lib.hid (fun o => h1.grow (below_new w1 o))
    have HB1 := Lib.hid (fun o => below_trans (below_trans HZB.out h2) (below_new w1 o))
    have hv := fun o => (HL1.out o).var 99 (by unfold isCode; omega)
    simp only [senVar] at hv
    clear h1 h2 hz1
    go_wp2_with fail
    refine (is_calls (sp := sp) 99 (by unfold isCode; omega) _ (HL1.out _) _ _ (HE1.out _)).mono ?_
    rw [HCD.out]
    rintro e w2 ⟨rfl, rfl⟩
    have z0 : ∀ o, (w1.alloc o).cell? ⟨w.heap.size, 0, none⟩ = some (.slice none 0 0) := fun o => blk_cell (HZ1.out o) 0
    have z1 : ∀ o, (w1.alloc o).cell? ⟨w.heap.size, 1, none⟩ = some (.slice none 0 0) := fun o => blk_cell (HZ1.out o) 1
    have z2 : ∀ o i, (w1.alloc o).frozen? ⟨w.heap.size, i, none⟩ = false := fun o i => blk_frozen (HZ1.out o) i
    go_wp2
    refine bodyPost_ret (v := .tuple #[.agg #[.slice none 0 0, .slice none 0 0], .iface t (.pointer (some a))]) (by simp [results, Tryd.results15, go_sem, *]) rfl ?_
    exact ⟨_, rfl, take_err (HE1.out _) (HZ1.out _), ((HB1.out _).setCell (p := ⟨w.heap.size, 0, none⟩) (Nat.le_refl _) _).setCell (p := ⟨w.heap.size, 1, none⟩) (Nat.le_refl _) _⟩
  | ok o nx =>
    rw [hT] at hP HTK
    simp only at hP
    by_cases hlt : nx < s.size
    · rw [if_pos hlt] at hP
      subst hP
      clear hT
      go_enter Tryd.func15, Tryd.ntmps15
      go_wp2_with fail
      refine HTK.out.mono ?_
      generalize w.alloc (.cells #[.slice none 0 0, .slice none 0 0] 32) = Z at *
      rintro e w1 ⟨v, rfl, ho, h2⟩
      obtain ⟨a, b, rfl, hg, hs'⟩ := ho
      obtain ⟨A, ca, rfl, _, _⟩ := hg
      obtain ⟨C, cc, rfl, _, _⟩ := hs'
      have hz1 : ∀ o, (w1.alloc o).heap[w.heap.size]? = some (opBlk (.slice none 0 0) (.slice none 0 0)) := fun o => blk_below (below_new _ _) (blk_below h2 HZ0.out)
      have HZ1 := Lib.hid hz1
      have HL1 := Lib.hid (fun o => (HL.out.below h2).below (below_new w1 o))
      have HB1 := Lib.hid (fun o => below_trans (below_trans HZB.out h2) (below_new w1 o))
      clear h2 hz1
      go_wp2_with fail
      refine (new_calls (sp := sp) 3 (by unfold isCode; omega) _ (HL1.out _)).mono ?_
      rintro e w2 ⟨rfl, rfl⟩
      go_wp2_with fail
      refine (at_calls (sp := sp) nx _ (.sent 3) _ (.sent 3 (by unfold isCode; omega))).mono ?_
      rintro e w3 ⟨v, rfl, h1, h2⟩
      obtain ⟨t, a, rfl⟩ := h1.form
      have HZ3 := Lib.hid (blk_below h2 (HZ1.out _))
      have HF := Lib.hid (And.intro h1 (below_trans (HB1.out _) h2))
      have z0 : w3.cell? ⟨w.heap.size, 0, none⟩ = some (.slice none 0 0) := blk_cell HZ3.out 0
      have z1 : w3.cell? ⟨w.heap.size, 1, none⟩ = some (.slice none 0 0) := blk_cell HZ3.out 1
      have z2 : ∀ i, w3.frozen? ⟨w.heap.size, i, none⟩ = false := fun i => blk_frozen HZ3.out i
      clear h1 h2
      go_wp2
      refine bodyPost_ret (v := .tuple #[.agg #[.slice none 0 0, .slice none 0 0], .iface t (.pointer (some a))]) (by simp [results, Tryd.results15, go_sem, *]) rfl ?_
      exact ⟨_, rfl, take_err HF.out.1 HZ3.out, (HF.out.2.setCell (p := ⟨w.heap.size, 0, none⟩) (Nat.le_refl _) _).setCell (p := ⟨w.heap.size, 1, none⟩) (Nat.le_refl _) _⟩
    · rw [if_neg hlt] at hP
      subst hP
      clear hT
      have hge : (s.size : Int) ≤ nx := by omega
      clear hlt
      go_enter Tryd.func15, Tryd.ntmps15
      go_wp2_with fail
      refine HTK.out.mono ?_
      generalize w.alloc (.cells #[.slice none 0 0, .slice none 0 0] 32) = Z at *
      rintro e w1 ⟨v, rfl, ho, h2⟩
      have HOI := Lib.hid ho
      obtain ⟨a, b, rfl, hg, hs'⟩ := ho
      obtain ⟨A, ca, rfl, _, _⟩ := hg
      obtain ⟨C, cc, rfl, _, _⟩ := hs'
      have hz2 : (w1.alloc (.cells #[.slice A o.gs.length ca, .slice C o.ss.length cc] 32)).heap[w.heap.size]? = some (opBlk (.slice none 0 0) (.slice none 0 0)) := blk_below (below_new _ _) (blk_below h2 HZ0.out)
      have hn2 : (w1.alloc (.cells #[.slice A o.gs.length ca, .slice C o.ss.length cc] 32)).heap[w1.heap.size]? = some (opBlk (.slice A o.gs.length ca) (.slice C o.ss.length cc)) := heap_new _ _
      have HB2 := Lib.hid (below_trans (below_trans HZB.out h2) (below_new w1 (.cells #[.slice A o.gs.length ca, .slice C o.ss.length cc] 32)))
      have HB12 := Lib.hid (below_new w1 (.cells #[.slice A o.gs.length ca, .slice C o.ss.length cc] 32))
      have HZlt := Lib.hid (Nat.lt_of_lt_of_le (blk_lt' HZ0.out) h2.size)
      clear h2
      go_upto_region 2 with fail
      generalize w1.alloc (.cells #[.slice A o.gs.length ca, .slice C o.ss.length cc] 32) = w2 at *
      have z0 : w2.cell? ⟨w.heap.size, 0, none⟩ = some (.slice none 0 0) := blk_cell hz2 0
      have z1 : w2.cell? ⟨w.heap.size, 1, none⟩ = some (.slice none 0 0) := blk_cell hz2 1
      have z2 : ∀ i, w2.frozen? ⟨w.heap.size, i, none⟩ = false := fun i => blk_frozen hz2 i
      have y0 : w2.cell? ⟨w1.heap.size, 0, none⟩ = some (.slice A o.gs.length ca) := blk_cell hn2 0
      have y1 : w2.cell? ⟨w1.heap.size, 1, none⟩ = some (.slice C o.ss.length cc) := blk_cell hn2 1
      have z0' : (⟨w.heap.size, 1, none⟩ : Addr) ≠ ⟨w.heap.size, 0, none⟩ := by simp
      clear hz2 hn2
      go_wp2
      refine bodyPost_ret (v := .tuple #[.agg #[.slice A o.gs.length ca, .slice C o.ss.length cc], .nilIface]) (by simp [results, Tryd.results15, go_sem, *]) rfl ?_
      refine ⟨_, rfl, ?_, (HB2.out.setCell (p := ⟨w.heap.size, 0, none⟩) (Nat.le_refl _) _).setCell (p := ⟨w.heap.size, 1, none⟩) (Nat.le_refl _) _⟩
      exact ((HOI.out.grow HB12.out).set_ z0 _).set_ (cell_set_ne z1 z0' _) _
end Go.Proofs.YtgjabbffpfhmjaaDoor
