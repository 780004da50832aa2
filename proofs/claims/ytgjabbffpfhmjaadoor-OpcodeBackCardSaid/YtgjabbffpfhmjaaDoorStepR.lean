/- Slices of guards and steps in memory; step.Right. -/
import Derived.Test.YtgjabbffpfhmjaaDoorStep
import Derived.Test.YtgjabbffpfhmjaaDoorErr
import Derived.Test.YtgjabbffpfhmjaaDoorAid
namespace Go.Proofs.YtgjabbffpfhmjaaDoor
open Go.RowKit Go.Extern.Stop Go.Stop Go.Extern Go.Proofs.YtgjabbffpfhmjaaDoorW.PrintWords

/-- A slice of guards that is read. -/
def Grds (w : World) (v : Value) (l : List Grd) : Prop :=
  ∃ A c, v = .slice A l.length c ∧ l.length ≤ c ∧ ∀ (j : Nat) (g : Grd), l[j]? = some g → ∃ b off, A = some ⟨b, off, none⟩ ∧
    w.cell? ⟨b, off + j * 3, none⟩ = some (.int .i64 g.kind) ∧ w.cell? ⟨b, off + j * 3 + 1, none⟩ = some (.string g.key) ∧ w.cell? ⟨b, off + j * 3 + 2, none⟩ = some (.string g.val)
theorem Grds.grow {w w1 : World} {v : Value} {l : List Grd} (h : Grds w v l) (hb : Below w.heap.size w w1) : Grds w1 v l := by
  obtain ⟨A, c, hv, hc, h⟩ := h
  exact ⟨A, c, hv, hc, fun j g hj => let ⟨b, off, h1, h2, h3, h4⟩ := h j g hj; ⟨b, off, h1, cell_below hb h2, cell_below hb h3, cell_below hb h4⟩⟩

set_option maxHeartbeats 2000000 in
theorem notG_calls (g : Grd) (w : World) :
    Calls Tryd.prog 81 #[g.v] w fun e w' => e = .returned (.bool (!goodG g)) ∧ Below w.heap.size w w' := by
  have HG := Lib.hid (rightGuard_calls g)
  obtain ⟨kind, key, val⟩ := g
  unfold Grd.v at HG ⊢
  go_enter Tryd.func81, Tryd.ntmps81
  go_wp2_with fail
  refine (HG.out _).mono ?_
  rintro e w1 ⟨rfl, hb⟩
  have HB := Lib.hid (below_trans (below_new _ _) hb)
  clear hb
  go_wp2
  go_ret
  exact ⟨rfl, HB.out⟩

set_option maxRecDepth 100000 in
set_option maxHeartbeats 4000000 in
/-- The first guard that may not be: its place, or -1. -/
theorem indexG_calls (v : Value) (l : List Grd) (w : World) (hv : Grds w v l) (hl : l.length ≤ 10000000) :
    Calls Tryd.prog 106 #[v, .func (.func 81) #[] #[]] w fun e w' => ∃ i, e = .returned (.int .i64 i) ∧ (0 ≤ i ↔ ∃ g ∈ l, goodG g = false) ∧ Below w.heap.size w w' := by
  obtain ⟨A, c, rfl, hc, h⟩ := hv
  have HH := Lib.hid h
  clear h
  go_enter Tryd.func106, Tryd.ntmps106
  go_wp2
  go_loopw [8] (fun i wl => ∃ k : Nat, i = .int .i64 k ∧ k ≤ l.length ∧ (∀ g ∈ l.take k, goodG g = true) ∧ Below w.heap.size w wl) (fun i _ => l.length - (intOf i).toNat)
  case atStart => exact ⟨0, rfl, by omega, by simp, Below.refl _ _⟩
  case round =>
    obtain ⟨k, rfl, hk, hg, hB⟩ := hrel
    have HGD := Lib.hid hg
    have HB := Lib.hid hB
    clear hg hB
    by_cases hlt : k < l.length
    · have hkr : l[k]? = some l[k] := List.getElem?_eq_getElem hlt
      obtain ⟨b, off, hA, c0, c1, c2⟩ := HH.out k _ hkr
      subst hA
      have d0 := cell_below HB.out c0
      have d1 := cell_below HB.out c1
      have d2 := cell_below HB.out c2
      generalize l[k] = g at *
      clear c0 c1 c2
      have HG := Lib.hid (notG_calls g wr)
      unfold Grd.v at HG
      have HKR := Lib.hid hkr
      clear hkr
      cases hgd : goodG g with
      | true =>
        rw [hgd] at HG
        have HGG := Lib.hid hgd
        clear hgd
        go_wp2_with fail
        refine HG.out.mono ?_
        rintro e w1 ⟨rfl, hb1⟩
        have HB1 := Lib.hid (below_trans HB.out hb1)
        clear hb1
        go_wp2
        go_roundw
        case rel => exact ⟨k + 1, by go_num, by omega, by
          rw [take_one l k g HKR.out]
          intro x hx
          rcases List.mem_append.1 hx with hx | hx
          · exact HGD.out x hx
          · rw [List.mem_singleton.1 hx]; exact HGG.out, HB1.out⟩
        case measure => simp [intOf]; omega
      | false =>
        rw [hgd] at HG
        have HGG := Lib.hid hgd
        clear hgd
        go_wp2_with fail
        refine HG.out.mono ?_
        rintro e w1 ⟨rfl, hb1⟩
        have HB1 := Lib.hid (below_trans HB.out hb1)
        clear hb1
        go_wp2
        go_ret
        exact ⟨_, rfl, iff_of_true (by omega) ⟨g, List.mem_of_getElem? HKR.out, HGG.out⟩, HB1.out⟩
    · obtain rfl : k = l.length := by omega
      go_wp2
      go_ret
      refine ⟨_, rfl, iff_of_false (by decide) ?_, HB.out⟩
      rintro ⟨g, hg, hb⟩
      have h := HGD.out
      rw [List.take_length] at h
      rw [h g hg] at hb
      cases hb

/-- A slice of steps that is read. -/
def Stps (w : World) (v : Value) (l : List Stp) : Prop :=
  ∃ A c, v = .slice A l.length c ∧ l.length ≤ c ∧ ∀ (j : Nat) (g : Stp), l[j]? = some g → ∃ b off, A = some ⟨b, off, none⟩ ∧
    w.cell? ⟨b, off + j * 5, none⟩ = some (.int .i64 g.kind) ∧ w.cell? ⟨b, off + j * 5 + 1, none⟩ = some (.string g.key) ∧ w.cell? ⟨b, off + j * 5 + 2, none⟩ = some (.string g.val) ∧
    w.cell? ⟨b, off + j * 5 + 3, none⟩ = some (.string g.old) ∧ w.cell? ⟨b, off + j * 5 + 4, none⟩ = some (.int .i64 g.n)
theorem Stps.grow {w w1 : World} {v : Value} {l : List Stp} (h : Stps w v l) (hb : Below w.heap.size w w1) : Stps w1 v l := by
  obtain ⟨A, c, hv, hc, h⟩ := h
  exact ⟨A, c, hv, hc, fun j g hj => let ⟨b, off, h1, h2, h3, h4, h5, h6⟩ := h j g hj; ⟨b, off, h1, cell_below hb h2, cell_below hb h3, cell_below hb h4, cell_below hb h5, cell_below hb h6⟩⟩

set_option maxHeartbeats 2000000 in
theorem notS_calls (g : Stp) (w : World) :
    Calls Tryd.prog 84 #[g.v] w fun e w' => e = .returned (.bool (!goodS g)) ∧ Below w.heap.size w w' := by
  have HG := Lib.hid (rightStep_calls g)
  obtain ⟨kind, key, val, old, n⟩ := g
  unfold Stp.v at HG ⊢
  go_enter Tryd.func84, Tryd.ntmps84
  go_wp2_with fail
  refine (HG.out _).mono ?_
  rintro e w1 ⟨rfl, hb⟩
  have HB := Lib.hid (below_trans (below_new _ _) hb)
  clear hb
  go_wp2
  go_ret
  exact ⟨rfl, HB.out⟩

set_option maxRecDepth 100000 in
set_option maxHeartbeats 4000000 in
/-- The first step that may not be: its place, or -1. -/
theorem indexS_calls (v : Value) (l : List Stp) (w : World) (hv : Stps w v l) (hl : l.length ≤ 10000000) :
    Calls Tryd.prog 107 #[v, .func (.func 84) #[] #[]] w fun e w' => ∃ i, e = .returned (.int .i64 i) ∧ (0 ≤ i ↔ ∃ g ∈ l, goodS g = false) ∧ Below w.heap.size w w' := by
  obtain ⟨A, c, rfl, hc, h⟩ := hv
  have HH := Lib.hid h
  clear h
  go_enter Tryd.func107, Tryd.ntmps107
  go_wp2
  go_loopw [8] (fun i wl => ∃ k : Nat, i = .int .i64 k ∧ k ≤ l.length ∧ (∀ g ∈ l.take k, goodS g = true) ∧ Below w.heap.size w wl) (fun i _ => l.length - (intOf i).toNat)
  case atStart => exact ⟨0, rfl, by omega, by simp, Below.refl _ _⟩
  case round =>
    obtain ⟨k, rfl, hk, hg, hB⟩ := hrel
    have HGD := Lib.hid hg
    have HB := Lib.hid hB
    clear hg hB
    by_cases hlt : k < l.length
    · have hkr : l[k]? = some l[k] := List.getElem?_eq_getElem hlt
      obtain ⟨b, off, hA, c0, c1, c2, c3, c4⟩ := HH.out k _ hkr
      subst hA
      have d0 := cell_below HB.out c0
      have d1 := cell_below HB.out c1
      have d2 := cell_below HB.out c2
      have d3 := cell_below HB.out c3
      have d4 := cell_below HB.out c4
      generalize l[k] = g at *
      clear c0 c1 c2 c3 c4
      have HG := Lib.hid (notS_calls g wr)
      unfold Stp.v at HG
      have HKR := Lib.hid hkr
      clear hkr
      cases hgd : goodS g with
      | true =>
        rw [hgd] at HG
        have HGG := Lib.hid hgd
        clear hgd
        go_wp2_with fail
        refine HG.out.mono ?_
        rintro e w1 ⟨rfl, hb1⟩
        have HB1 := Lib.hid (below_trans HB.out hb1)
        clear hb1
        go_wp2
        go_roundw
        case rel => exact ⟨k + 1, by go_num, by omega, by
          rw [take_one l k g HKR.out]
          intro x hx
          rcases List.mem_append.1 hx with hx | hx
          · exact HGD.out x hx
          · rw [List.mem_singleton.1 hx]; exact HGG.out, HB1.out⟩
        case measure => simp [intOf]; omega
      | false =>
        rw [hgd] at HG
        have HGG := Lib.hid hgd
        clear hgd
        go_wp2_with fail
        refine HG.out.mono ?_
        rintro e w1 ⟨rfl, hb1⟩
        have HB1 := Lib.hid (below_trans HB.out hb1)
        clear hb1
        go_wp2
        go_ret
        exact ⟨_, rfl, iff_of_true (by omega) ⟨g, List.mem_of_getElem? HKR.out, HGG.out⟩, HB1.out⟩
    · obtain rfl : k = l.length := by omega
      go_wp2
      go_ret
      refine ⟨_, rfl, iff_of_false (by decide) ?_, HB.out⟩
      rintro ⟨g, hg, hb⟩
      have h := HGD.out
      rw [List.take_length] at h
      rw [h g hg] at hb
      cases hb

theorem any_iff {α : Type} {p : α → Bool} {l : List α} {i : Int} (h : 0 ≤ i ↔ ∃ g ∈ l, p g = false) : decide (0 ≤ i) = !l.all p := by
  rw [Bool.eq_iff_iff, decide_eq_true_eq, h]
  simp
theorem containsG_calls (v : Value) (l : List Grd) (w : World) (hv : Grds w v l) (hl : l.length ≤ 10000000) :
    Calls Tryd.prog 80 #[v, .func (.func 81) #[] #[]] w fun e w' => e = .returned (.bool (!l.all goodG)) ∧ Below w.heap.size w w' := by
  have HI := Lib.hid (indexG_calls v l w hv hl)
  obtain ⟨A, c, rfl, _, _⟩ := hv
  go_enter Tryd.func80, Tryd.ntmps80
  go_wp2_with fail
  refine HI.out.mono ?_
  rintro e w1 ⟨i, rfl, hi, hb⟩
  have HB := Lib.hid hb
  have HA := Lib.hid (any_iff hi)
  clear hi hb
  go_wp2
  go_ret
  exact ⟨ret_bool HA.out, HB.out⟩
theorem containsS_calls (v : Value) (l : List Stp) (w : World) (hv : Stps w v l) (hl : l.length ≤ 10000000) :
    Calls Tryd.prog 83 #[v, .func (.func 84) #[] #[]] w fun e w' => e = .returned (.bool (!l.all goodS)) ∧ Below w.heap.size w w' := by
  have HI := Lib.hid (indexS_calls v l w hv hl)
  obtain ⟨A, c, rfl, _, _⟩ := hv
  go_enter Tryd.func83, Tryd.ntmps83
  go_wp2_with fail
  refine HI.out.mono ?_
  rintro e w1 ⟨i, rfl, hi, hb⟩
  have HB := Lib.hid hb
  have HA := Lib.hid (any_iff hi)
  clear hi hb
  go_wp2
  go_ret
  exact ⟨ret_bool HA.out, HB.out⟩

/-- An operation. -/
structure Opn where
  gs : List Grd
  ss : List Stp
def OpIn (w : World) (v : Value) (o : Opn) : Prop := ∃ a b, v = .agg #[a, b] ∧ Grds w a o.gs ∧ Stps w b o.ss
theorem OpIn.grow {w w1 : World} {v : Value} {o : Opn} (h : OpIn w v o) (hb : Below w.heap.size w w1) : OpIn w1 v o :=
  let ⟨a, b, h1, h2, h3⟩ := h; ⟨a, b, h1, h2.grow hb, h3.grow hb⟩
def goodO (o : Opn) : Bool := decide (o.gs.length ≤ 4) && decide (1 ≤ o.ss.length) && decide (o.ss.length ≤ 4) && o.gs.all goodG && o.ss.all goodS
set_option maxRecDepth 100000 in
set_option maxHeartbeats 4000000 in
theorem right_calls (v : Value) (o : Opn) (w : World) (hv : OpIn w v o) (hg : o.gs.length ≤ 10000000) (hs : o.ss.length ≤ 10000000) :
    Calls Tryd.prog 41 #[v] w fun e w' => e = .returned (.bool (goodO o)) ∧ Below w.heap.size w w' := by
  obtain ⟨gs, ss⟩ := o
  obtain ⟨a, b, rfl, ha, hb⟩ := hv
  simp only at hg hs ha hb
  have HA := Lib.hid ha
  have HB := Lib.hid hb
  obtain ⟨A, c, rfl, _, _⟩ := ha
  obtain ⟨B, d, rfl, _, _⟩ := hb
  unfold goodO
  simp only
  go_enter Tryd.func41, Tryd.ntmps41
  by_cases h1 : 4 < gs.length
  · have e1 : decide (gs.length ≤ 4) = false := by simp; omega
    go_wp2
    all_goals
      go_ret
      exact ⟨by simp [e1], by first | exact below_new _ _ | exact (below_new _ _).drew⟩
  by_cases h2 : ss.length < 1
  · have e1 : decide (1 ≤ ss.length) = false := decide_eq_false (by omega)
    have e2 : (ss.length : Int) < 1 := by omega
    go_wp2
    all_goals
      go_ret
      exact ⟨by simp [e1], by first | exact below_new _ _ | exact (below_new _ _).drew⟩
  by_cases h3 : 4 < ss.length
  · have e1 : decide (ss.length ≤ 4) = false := by simp; omega
    have e2 : (1 : Int) ≤ (ss.length : Int) := by omega
    go_wp2
    all_goals
      go_ret
      exact ⟨by simp [e1], by first | exact below_new _ _ | exact (below_new _ _).drew⟩
  have H1 : Hid (decide (gs.length ≤ 4) = true) := decide_eq_true (by omega)
  have H2 : Hid (decide (1 ≤ ss.length) = true) := decide_eq_true (by omega)
  have H3 : Hid (decide (ss.length ≤ 4) = true) := decide_eq_true (by omega)
  have e2 : (1 : Int) ≤ (ss.length : Int) := by omega
  have e3 : (ss.length : Int) ≤ 4 := by omega
  have e4 : (gs.length : Int) ≤ 4 := by omega
  go_wp2_with fail
  refine (containsG_calls _ gs _ (HA.out.grow (below_new _ _)) hg).mono ?_
  rintro e w1 ⟨rfl, hb1⟩
  have HB1 := Lib.hid (below_trans (below_new w _) hb1)
  have hcell : w1.cell? ⟨w.heap.size, 1, none⟩ = some (.slice B ss.length d) := cell_below hb1 (blk_cell (heap_new w _) 1)
  clear hb1
  go_wp2_with fail
  refine (containsS_calls _ ss _ (HB.out.grow HB1.out) hs).mono ?_
  rintro e w2 ⟨rfl, hb2⟩
  have HB2 := Lib.hid (below_trans HB1.out hb2)
  clear hb2 hcell
  cases h5 : gs.all goodG with
  | true =>
    go_wp2
    go_ret
    exact ⟨ret_bool (by rw [H1.out, H2.out, H3.out]; simp [h5]), HB2.out⟩
  | false =>
    go_wp2
    go_ret
    exact ⟨ret_bool (by rw [H1.out, H2.out, H3.out]; simp [h5]), HB2.out⟩
end Go.Proofs.YtgjabbffpfhmjaaDoor
