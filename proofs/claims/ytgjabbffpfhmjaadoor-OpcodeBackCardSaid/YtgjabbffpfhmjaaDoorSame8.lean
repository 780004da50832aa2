/- philtreref08.Same, by its contract. -/
import Derived.Test.YtgjabbffpfhmjaaDoorEq8
import Derived.Test.YtgjabbffpfhmjaaDoorTake1
import Derived.RegionTactic
import Derived.ChangeAlike
import Derived.BigRegion
import Derived.Deep.QuietTactic
import Derived.BigQuiet
namespace Go.Proofs.YtgjabbffpfhmjaaDoor
open Go.RowKit Go.Extern.Stop Go.Stop Go.Extern Go.Proofs.YtgjabbffpfhmjaaDoorW.PrintWords

theorem toList_eq {x y : ByteArray} (h : x.toList = y.toList) : x = y := str_ext (by rw [ByteArray.toList_eq, ByteArray.toList_eq] at h; exact h)
theorem grdEq_iff (a b : Grd) : grdEq a b = true ↔ a = b := by
  obtain ⟨k, x, y⟩ := a
  obtain ⟨k', x', y'⟩ := b
  simp only [grdEq, Bool.and_eq_true, beq_iff_eq, Grd.mk.injEq]
  constructor
  · rintro ⟨⟨h1, h2⟩, h3⟩; exact ⟨h1, toList_eq h2, toList_eq h3⟩
  · rintro ⟨rfl, rfl, rfl⟩; exact ⟨⟨rfl, rfl⟩, rfl⟩
theorem stpEq_iff (a b : Stp) : stpEq a b = true ↔ a = b := by
  obtain ⟨k, x, y, z, n⟩ := a
  obtain ⟨k', x', y', z', n'⟩ := b
  simp only [stpEq, Bool.and_eq_true, beq_iff_eq, Stp.mk.injEq]
  constructor
  · rintro ⟨⟨⟨⟨h1, h2⟩, h3⟩, h4⟩, h5⟩; exact ⟨h1, toList_eq h2, toList_eq h3, toList_eq h4, h5⟩
  · rintro ⟨rfl, rfl, rfl, rfl, rfl⟩; exact ⟨⟨⟨⟨rfl, rfl⟩, rfl⟩, rfl⟩, rfl⟩
def Same8Post (a b : Opn) (w : World) (e : Ending) (w' : World) : Prop := ∃ x, e = .returned (.bool x) ∧ (x = true ↔ a = b) ∧ Below w.heap.size w w'

/-- Two operations, each in a box of its own. -/
def boxed2 (w : World) (a b c d : Value) : World := (w.alloc (.cells #[a, b] 32)).alloc (.cells #[c, d] 32)
theorem boxed2_below (w : World) (a b c d : Value) : Below w.heap.size w (boxed2 w a b c d) := ((Below.refl _ _).alloc (Nat.le_refl _) _).alloc (by simp) _
theorem boxed2_cells (w : World) (a b c d : Value) : (boxed2 w a b c d).cell? ⟨w.heap.size, 0, none⟩ = some a ∧ (boxed2 w a b c d).cell? ⟨w.heap.size, 1, none⟩ = some b ∧
    (boxed2 w a b c d).cell? ⟨w.heap.size + 1, 0, none⟩ = some c ∧ (boxed2 w a b c d).cell? ⟨w.heap.size + 1, 1, none⟩ = some d := by
  have h1 : (boxed2 w a b c d).heap[w.heap.size]? = some (.cells #[a, b] 32 (0, 0)) := blk_below (below_new _ _) (heap_new w _)
  have h2 : (boxed2 w a b c d).heap[w.heap.size + 1]? = some (.cells #[c, d] 32 (0, 0)) := by
    have h := heap_new (w.alloc (.cells #[a, b] 32)) (.cells #[c, d] 32)
    rw [show (w.alloc (.cells #[a, b] 32)).heap.size = w.heap.size + 1 by simp] at h
    exact h
  exact ⟨blk_cell h1 0, blk_cell h1 1, blk_cell h2 0, blk_cell h2 1⟩

set_option maxRecDepth 100000 in
set_option maxHeartbeats 8000000 in
theorem same8_calls (va vb : Value) (a b : Opn) (w : World) (ha : OpIn w va a) (hb : OpIn w vb b) (h1 : a.gs.length ≤ 10000000) (h2 : b.gs.length ≤ 10000000) (h3 : a.ss.length ≤ 10000000) (h4 : b.ss.length ≤ 10000000) :
    Calls Tryd.prog 17 #[va, vb] w fun e w' => Same8Post a b w e w' := by
  obtain ⟨gs, ss⟩ := a
  obtain ⟨gt, st⟩ := b
  obtain ⟨ag, as_, rfl, hag, has⟩ := ha
  obtain ⟨bg, bs_, rfl, hbg, hbs⟩ := hb
  simp only at h1 h2 h3 h4 hag has hbg hbs
  obtain ⟨A, ca, rfl, _, hA⟩ := hag
  obtain ⟨B, cb, rfl, _, hB⟩ := hbg
  obtain ⟨C, cc, rfl, _, hC⟩ := has
  obtain ⟨D, cd, rfl, _, hD⟩ := hbs
  have HA := Lib.hid hA
  have HB := Lib.hid hB
  have HC := Lib.hid hC
  have HD := Lib.hid hD
  clear hA hB hC hD
  go_enter Tryd.func17, Tryd.ntmps17
  by_cases hg : gs.length = gt.length
  · by_cases hs : ss.length = st.length
    · have ht : (((gs.length : Nat) : Int) != ((gt.length : Nat) : Int)) = false := by rw [hg]; simp
      have ht2 : (((ss.length : Nat) : Int) != ((st.length : Nat) : Int)) = false := by rw [hs]; simp
      have HG := Lib.hid hg
      have HS := Lib.hid hs
      clear hg hs
      go_wp2_with fail
      have HW := Lib.hid (boxed2_below w (.slice A gs.length ca) (.slice C ss.length cc) (.slice B gt.length cb) (.slice D st.length cd))
      have HZ := Lib.hid (boxed2_cells w (.slice A gs.length ca) (.slice C ss.length cc) (.slice B gt.length cb) (.slice D st.length cd))
      obtain ⟨W, hWW⟩ : ∃ W, boxed2 w (.slice A gs.length ca) (.slice C ss.length cc) (.slice B gt.length cb) (.slice D st.length cd) = W := ⟨_, rfl⟩
      change Code.wp _ _ _ _ (boxed2 w (.slice A gs.length ca) (.slice C ss.length cc) (.slice B gt.length cb) (.slice D st.length cd))
      rw [hWW] at HW HZ ⊢
      clear hWW
      go_loopw [5] (fun i wl => ∃ k : Nat, i = .int .i64 k ∧ k ≤ gs.length ∧ gs.take k = gt.take k ∧ Below W.heap.size W wl) (fun i _ => gs.length - (intOf i).toNat)
      case atStart => exact ⟨0, rfl, by omega, by simp, Below.refl _ _⟩
      case round =>
        obtain ⟨k, rfl, hk, hpre, hBl⟩ := hrel
        have HP := Lib.hid hpre
        have HBl := Lib.hid hBl
        obtain ⟨z0, z1, z2, z3⟩ := HZ.out
        have y0 := cell_below HBl.out z0
        have y1 := cell_below HBl.out z1
        have y2 := cell_below HBl.out z2
        have y3 := cell_below HBl.out z3
        clear hpre hBl z0 z1 z2 z3
        by_cases hlt : k < gs.length
        · have hlt2 : k < gt.length := by rw [← HG.out]; exact hlt
          have hka : gs[k]? = some gs[k] := List.getElem?_eq_getElem hlt
          have hkb : gt[k]? = some gt[k] := List.getElem?_eq_getElem hlt2
          obtain ⟨ba, oa, hA, a0, a1, a2⟩ := HA.out k _ hka
          obtain ⟨bb, ob, hB, b0, b1, b2⟩ := HB.out k _ hkb
          subst hA; subst hB
          generalize gs[k] = ga at *
          generalize gt[k] = gb at *
          have HKA := Lib.hid hka
          have HKB := Lib.hid hkb
          have c0 := cell_below HBl.out (cell_below HW.out a0)
          have c1 := cell_below HBl.out (cell_below HW.out a1)
          have c2 := cell_below HBl.out (cell_below HW.out a2)
          have d0 := cell_below HBl.out (cell_below HW.out b0)
          have d1 := cell_below HBl.out (cell_below HW.out b1)
          have d2 := cell_below HBl.out (cell_below HW.out b2)
          have hii : (k : Int) < (gs.length : Int) := by omega
          have hij : (k : Int) < (gt.length : Int) := by omega
          clear hka hkb a0 a1 a2 b0 b1 b2
          have hneq := fun W => neq_grd ga gb W
          unfold Grd.v at hneq
          cases hge : grdEq ga gb with
          | true =>
            rw [hge] at hneq
            simp only [Bool.not_true] at hneq
            have HEQ := Lib.hid (take_eq_step HP.out HKA.out HKB.out ((grdEq_iff _ _).1 hge))
            clear hge
            go_wp2_with fail
            go_quiet (fail)
            go_wp2
            go_roundw
            case rel => exact ⟨k + 1, by go_num, by omega, HEQ.out, pw_below_drewN HBl.out _⟩
            case measure => simp [intOf]; omega
          | false =>
            rw [hge] at hneq
            simp only [Bool.not_false] at hneq
            have HNE : Hid (¬ gs = gt) := fun e => by
              have h := HKA.out
              rw [e, HKB.out] at h
              have h2 := (grdEq_iff ga gb).2 (Option.some.inj h).symm
              rw [hge] at h2
              cases h2
            clear hge
            go_wp2_with fail
            go_quiet (fail)
            go_wp2
            go_ret
            exact ⟨_, rfl, iff_of_false (by decide) (fun e => HNE.out (congrArg Opn.gs e)), below_trans HW.out (pw_below_drewN HBl.out _)⟩
        · obtain rfl : k = gs.length := by omega
          have HGE : Hid (gs = gt) := by
            have h := HP.out
            rw [List.take_length, HG.out, List.take_length] at h
            exact h
          have HBl0 := Lib.hid HBl.out
          go_wp2_with fail
          clear y0 y1 y2 y3 HBl
          go_loopw [6] (fun i wl => ∃ k : Nat, i = .int .i64 k ∧ k ≤ ss.length ∧ ss.take k = st.take k ∧ Below W.heap.size W wl) (fun i _ => ss.length - (intOf i).toNat)
          case atStart => exact ⟨0, rfl, by omega, by simp, HBl0.out⟩
          case round =>
            obtain ⟨k, rfl, hk, hpre, hBl⟩ := hrel
            have HP := Lib.hid hpre
            have HBl := Lib.hid hBl
            obtain ⟨z0, z1, z2, z3⟩ := HZ.out
            have y0 := cell_below HBl.out z0
            have y1 := cell_below HBl.out z1
            have y2 := cell_below HBl.out z2
            have y3 := cell_below HBl.out z3
            clear hpre hBl z0 z1 z2 z3
            by_cases hlt : k < ss.length
            · have hlt2 : k < st.length := by rw [← HS.out]; exact hlt
              have hka : ss[k]? = some ss[k] := List.getElem?_eq_getElem hlt
              have hkb : st[k]? = some st[k] := List.getElem?_eq_getElem hlt2
              obtain ⟨ba, oa, hA, a0, a1, a2, a3, a4⟩ := HC.out k _ hka
              obtain ⟨bb, ob, hB, b0, b1, b2, b3, b4⟩ := HD.out k _ hkb
              subst hA; subst hB
              generalize ss[k] = ga at *
              generalize st[k] = gb at *
              have HKA := Lib.hid hka
              have HKB := Lib.hid hkb
              have c0 := cell_below HBl.out (cell_below HW.out a0)
              have c1 := cell_below HBl.out (cell_below HW.out a1)
              have c2 := cell_below HBl.out (cell_below HW.out a2)
              have c3 := cell_below HBl.out (cell_below HW.out a3)
              have c4 := cell_below HBl.out (cell_below HW.out a4)
              have d0 := cell_below HBl.out (cell_below HW.out b0)
              have d1 := cell_below HBl.out (cell_below HW.out b1)
              have d2 := cell_below HBl.out (cell_below HW.out b2)
              have d3 := cell_below HBl.out (cell_below HW.out b3)
              have d4 := cell_below HBl.out (cell_below HW.out b4)
              have hii : (k : Int) < (ss.length : Int) := by omega
              have hij : (k : Int) < (st.length : Int) := by omega
              clear hka hkb a0 a1 a2 a3 a4 b0 b1 b2 b3 b4
              have hneq := fun W => neq_stp ga gb W
              unfold Stp.v at hneq
              cases hge : stpEq ga gb with
              | true =>
                rw [hge] at hneq
                simp only [Bool.not_true] at hneq
                have HEQ := Lib.hid (take_eq_step HP.out HKA.out HKB.out ((stpEq_iff _ _).1 hge))
                clear hge
                go_wp2_with fail
                go_quiet (fail)
                go_wp2
                go_roundw
                case rel => exact ⟨k + 1, by go_num, by omega, HEQ.out, pw_below_drewN HBl.out _⟩
                case measure => simp [intOf]; omega
              | false =>
                rw [hge] at hneq
                simp only [Bool.not_false] at hneq
                have HNE : Hid (¬ ss = st) := fun e => by
                  have h := HKA.out
                  rw [e, HKB.out] at h
                  have h2 := (stpEq_iff ga gb).2 (Option.some.inj h).symm
                  rw [hge] at h2
                  cases h2
                clear hge
                go_wp2_with fail
                go_quiet (fail)
                go_wp2
                go_ret
                exact ⟨_, rfl, iff_of_false (by decide) (fun e => HNE.out (congrArg Opn.ss e)), below_trans HW.out (pw_below_drewN HBl.out _)⟩
            · obtain rfl : k = ss.length := by omega
              have HSE : Hid (ss = st) := by
                have h := HP.out
                rw [List.take_length, HS.out, List.take_length] at h
                exact h
              go_wp2
              go_ret
              exact ⟨_, rfl, iff_of_true rfl (by rw [HGE.out, HSE.out]), below_trans HW.out HBl.out⟩
    · have ht : (((gs.length : Nat) : Int) != ((gt.length : Nat) : Int)) = false := by rw [hg]; simp
      have ht2 : (((ss.length : Nat) : Int) != ((st.length : Nat) : Int)) = true := by simp; omega
      have HNE : Hid (¬ ss = st) := fun e => hs (by rw [e])
      clear hs hg
      go_wp2
      go_ret
      exact ⟨_, rfl, iff_of_false (by decide) (fun e => HNE.out (congrArg Opn.ss e)), boxed2_below _ _ _ _ _⟩
  · have ht : (((gs.length : Nat) : Int) != ((gt.length : Nat) : Int)) = true := by simp; omega
    have HNE : Hid (¬ gs = gt) := fun e => hg (by rw [e])
    clear hg
    go_wp2
    go_ret
    exact ⟨_, rfl, iff_of_false (by decide) (fun e => HNE.out (congrArg Opn.gs e)), boxed2_below _ _ _ _ _⟩
end Go.Proofs.YtgjabbffpfhmjaaDoor
