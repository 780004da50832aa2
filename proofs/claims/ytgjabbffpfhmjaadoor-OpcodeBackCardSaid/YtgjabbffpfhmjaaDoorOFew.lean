/- philtrelaw09.few, awake, by their contracts. -/
import Derived.Test.YtgjabbffpfhmjaaDoorOLaw
import Derived.Test.YtgjabbffpfhmjaaDoorSame8
namespace Go.Proofs.YtgjabbffpfhmjaaDoor
open Go.RowKit Go.Extern.Stop Go.Stop Go.Extern Go.Proofs.YtgjabbffpfhmjaaDoorW.PrintWords

def FewPost (o : Opn) (w : World) (e : Ending) (w' : World) : Prop := ∃ b, e = .returned (.bool b) ∧ (b = true → o.gs.length ≤ 20 ∧ o.ss.length ≤ 20) ∧ Below w.heap.size w w'
set_option maxRecDepth 100000 in
set_option maxHeartbeats 4000000 in
theorem few_calls (v : Value) (o : Opn) (w : World) (hv : OpIn w v o) :
    Calls Tryd.prog 12 #[v] w fun e w' => FewPost o w e w' := by
  obtain ⟨gs, ss⟩ := o
  obtain ⟨a, b, rfl, ha, hb⟩ := hv
  obtain ⟨A, ca, rfl, _, hA⟩ := ha
  obtain ⟨C, cc, rfl, _, hC⟩ := hb
  simp only at hA hC
  have hw1 := below_new w (.cells #[.slice A gs.length ca, .slice C ss.length cc] 32)
  have hbx := heap_new w (.cells #[.slice A gs.length ca, .slice C ss.length cc] 32)
  have HA := Lib.hid hA
  have HC := Lib.hid hC
  have HW1 := Lib.hid hw1
  have HBX := Lib.hid hbx
  have b0 : ∀ n, ((w.alloc (.cells #[.slice A gs.length ca, .slice C ss.length cc] 32)).drewN n).cell? ⟨w.heap.size, 0, none⟩ = some (.slice A gs.length ca) := fun n => blk_cell hbx 0
  have b1 : ∀ n, ((w.alloc (.cells #[.slice A gs.length ca, .slice C ss.length cc] 32)).drewN n).cell? ⟨w.heap.size, 1, none⟩ = some (.slice C ss.length cc) := fun n => blk_cell hbx 1
  clear hA hC hw1 hbx b0 b1
  by_cases hg : gs.length ≤ 20
  · by_cases hs : ss.length ≤ 20
    · go_enter Tryd.func12, Tryd.ntmps12
      go_wp2_with fail
      generalize w.alloc (.cells #[.slice A gs.length ca, .slice C ss.length cc] 32) = W at *
      go_loopw [3] (fun i wl => ∃ k : Nat, i = .int .i64 k ∧ k ≤ gs.length ∧ Below W.heap.size W wl) (fun i _ => gs.length - (intOf i).toNat)
      case atStart => exact ⟨0, rfl, by omega, Below.refl _ _⟩
      case round =>
        obtain ⟨k, rfl, hk, hB⟩ := hrel
        have HB := Lib.hid hB
        have b0 : wr.cell? ⟨w.heap.size, 0, none⟩ = some (.slice A gs.length ca) := blk_cell (blk_below hB HBX.out) 0
        have b1 : wr.cell? ⟨w.heap.size, 1, none⟩ = some (.slice C ss.length cc) := blk_cell (blk_below hB HBX.out) 1
        clear hB
        by_cases hlt : k < gs.length
        · have hkr : gs[k]? = some gs[k] := List.getElem?_eq_getElem hlt
          obtain ⟨b, off, hA, c0, c1, c2⟩ := HA.out k _ hkr
          subst hA
          have hbw := below_trans HW1.out HB.out
          have d1 := cell_below hbw c1
          have d2 := cell_below hbw c2
          have hij : (k : Int) < (gs.length : Int) := by omega
          generalize gs[k] = g at *
          clear c0 c1 c2 hkr hbw
          go_wp2_with fail
          go_quiet (fail)
          go_wp2
          · go_ret
            exact ⟨false, rfl, (fun h => by cases h), below_trans HW1.out (pw_below_drewN HB.out _)⟩
          · go_roundw
            case rel => exact ⟨k + 1, by go_num, by omega, pw_below_drewN HB.out _⟩
            case measure => simp [intOf]; omega
        · obtain rfl : k = gs.length := by omega
          clear hlt
          go_wp2_with fail
          go_loopw [4] (fun i wl => ∃ k : Nat, i = .int .i64 k ∧ k ≤ ss.length ∧ Below W.heap.size W wl) (fun i _ => ss.length - (intOf i).toNat)
          case atStart => exact ⟨0, rfl, by omega, HB.out⟩
          case round =>
            clear b0 b1 HB
            obtain ⟨k, rfl, hk, hB⟩ := hrel
            have HB := Lib.hid hB
            have b0 : wr.cell? ⟨w.heap.size, 0, none⟩ = some (.slice A gs.length ca) := blk_cell (blk_below hB HBX.out) 0
            have b1 : wr.cell? ⟨w.heap.size, 1, none⟩ = some (.slice C ss.length cc) := blk_cell (blk_below hB HBX.out) 1
            clear hB
            by_cases hlt : k < ss.length
            · have hkr : ss[k]? = some ss[k] := List.getElem?_eq_getElem hlt
              obtain ⟨b, off, hA, c0, c1, c2, c3, c4⟩ := HC.out k _ hkr
              subst hA
              have hbw := below_trans HW1.out HB.out
              have d1 := cell_below hbw c1
              have d2 := cell_below hbw c2
              have d3 := cell_below hbw c3
              have hij : (k : Int) < (ss.length : Int) := by omega
              generalize ss[k] = g at *
              clear c0 c1 c2 c3 c4 hkr hbw
              go_wp2_with fail
              go_quiet (fail)
              go_wp2
              · go_ret
                exact ⟨false, rfl, (fun h => by cases h), below_trans HW1.out (pw_below_drewN HB.out _)⟩
              · go_roundw
                case rel => exact ⟨k + 1, by go_num, by omega, pw_below_drewN HB.out _⟩
                case measure => simp [intOf]; omega
            · obtain rfl : k = ss.length := by omega
              clear hlt
              go_wp2
              go_ret
              exact ⟨true, rfl, fun _ => ⟨hg, hs⟩, below_trans HW1.out HB.out⟩
    · have ht : decide ((20 : Int) < (ss.length : Int)) = true := by simp; omega
      go_enter Tryd.func12, Tryd.ntmps12
      go_wp2
      go_ret
      exact ⟨false, rfl, (fun h => by cases h), HW1.out⟩
  · have ht : decide ((20 : Int) < (gs.length : Int)) = true := by simp; omega
    go_enter Tryd.func12, Tryd.ntmps12
    go_wp2
    go_ret
    exact ⟨false, rfl, (fun h => by cases h), HW1.out⟩

/-! ### awake -/
def awS : Stp := ⟨1, ⟨#[107]⟩, ⟨#[97]⟩, ⟨#[]⟩, 0⟩
def awO : Opn := ⟨[], [awS]⟩
theorem aw_good : goodO awO = true := by decide +kernel
theorem aw_i64 : ∀ x ∈ awO.ss, i64ok x.n := by
  intro x hx
  obtain rfl : x = awS := by simpa [awO] using hx
  exact ⟨by decide, by decide⟩
theorem aw_bytes : obytes awO = [0, 1, 1, 1, 107, 1, 97] := by
  have s0 : sput 0 = [0] := sput_small (by decide)
  have s1 : sput 1 = [1] := sput_small (by decide)
  have t1 : stext ⟨#[107]⟩ = [1, 107] := by show sput 1 ++ [107] = _; rw [s1]; rfl
  have t2 : stext ⟨#[97]⟩ = [1, 97] := by show sput 1 ++ [97] = _; rw [s1]; rfl
  show sput 0 ++ [] ++ sput 1 ++ (sput 1 ++ stext ⟨#[107]⟩ ++ stext ⟨#[97]⟩ ++ []) = _
  rw [s0, s1, t1, t2]
  rfl
theorem aw_parse : oparse ⟨#[0, 1, 1, 1, 107, 1, 97]⟩ = .ok awO 7 := by
  have h := oparse_put aw_good aw_i64
  rw [aw_bytes] at h
  exact h
theorem aw_empty : oparse ⟨#[]⟩ = .bad (.at 0 (.sent 2)) := by kernel_rfl
set_option maxRecDepth 100000 in
set_option maxHeartbeats 4000000 in
theorem awake9_calls {sp : Nat → Addr} (w : World) (hL : Laid sp w) :
    Calls Tryd.prog 13 #[] w fun e w' => e = .returned (.bool true) ∧ Below w.heap.size w w' := by
  have HL := Lib.hid hL
  clear hL
  go_enter Tryd.func13, Tryd.ntmps13
  go_wp2_with fail
  have hw1 := below_new w (.cells #[.int .i64 1, .string ⟨#[107]⟩, .string ⟨#[97]⟩, .string ⟨#[]⟩, .int .i64 0] 74)
  have hb1 := heap_new w (.cells #[.int .i64 1, .string ⟨#[107]⟩, .string ⟨#[97]⟩, .string ⟨#[]⟩, .int .i64 0] 74)
  have hop : OpIn (w.alloc (.cells #[.int .i64 1, .string ⟨#[107]⟩, .string ⟨#[97]⟩, .string ⟨#[]⟩, .int .i64 0] 74)) (.agg #[.slice none 0 0, .slice (some ⟨w.heap.size, 0, none⟩) 1 1]) awO :=
    ⟨_, _, rfl, ⟨none, 0, rfl, Nat.le_refl _, fun j g hj => by simp [awO] at hj⟩, ⟨_, 1, rfl, Nat.le_refl _, fun j g hj => by
      match j, hj with
      | 0, hj =>
        obtain rfl : awS = g := by simpa [awO] using hj
        exact ⟨_, _, rfl, blk_cell hb1 0, blk_cell hb1 1, blk_cell hb1 2, blk_cell hb1 3, blk_cell hb1 4⟩
      | j + 1, hj => simp [awO] at hj⟩⟩
  refine (oprint_calls (sp := sp) _ awO _ (HL.out.below hw1) hop (by decide) (by decide) aw_i64).mono ?_
  have HW1 := Lib.hid hw1
  clear hw1 hb1 hop
  generalize w.alloc (.cells #[.int .i64 1, .string ⟨#[107]⟩, .string ⟨#[97]⟩, .string ⟨#[]⟩, .int .i64 0] 74) = W1 at *
  rintro e w2 ⟨he, hb2⟩
  rw [if_pos aw_good, aw_bytes] at he
  subst he
  have HB2 := Lib.hid (below_trans HW1.out hb2)
  clear hb2
  go_wp2_with fail
  refine (oparse_calls (sp := sp) _ _ (HL.out.below HB2.out) (by decide)).mono ?_
  rw [aw_parse]
  rintro e w3 ⟨v, rfl, ho, hb3⟩
  obtain ⟨a, b, rfl, hg, hs⟩ := ho
  obtain ⟨A, ca, rfl, _, _⟩ := hg
  obtain ⟨C, cc, rfl, _, hC⟩ := hs
  obtain ⟨bb, off, hCC, c0, c1, c2, _, _⟩ := hC 0 awS rfl
  subst hCC
  have HB3 := Lib.hid (below_trans HB2.out hb3)
  clear hb3 hC
  have k2 : w3.cell? ⟨bb, off + 2, none⟩ = some (.string ⟨#[97]⟩) := by have h := c2; rw [Nat.zero_mul, Nat.add_zero] at h; exact h
  clear c0 c1 c2
  have n1 : awO.gs.length = 0 := rfl
  have n2 : awO.ss.length = 1 := rfl
  rw [n1, n2]
  clear n1 n2
  have hw4 := below_new w3 (.cells #[.slice A 0 ca, .slice (some ⟨bb, off, none⟩) 1 cc] 32)
  have hx4 := heap_new w3 (.cells #[.slice A 0 ca, .slice (some ⟨bb, off, none⟩) 1 cc] 32)
  have k4 := cell_below hw4 k2
  have HX4 := Lib.hid hx4
  have HW4 := Lib.hid (below_trans HB3.out hw4)
  clear hw4 hx4 k2
  go_wp2_with fail
  refine (oparse_calls (sp := sp) _ _ (HL.out.below HW4.out) (by decide)).mono ?_
  rw [aw_empty]
  rintro e w5 ⟨v, rfl, he, hb5⟩
  obtain ⟨t, a, rfl⟩ := he.form
  have hx5 := blk_below hb5 HX4.out
  have k5 := cell_below hb5 k4
  clear k4
  have hb6 := below_new w5 (.cells #[.slice none 0 0, .slice none 0 0] 32)
  have x6 : (w5.alloc (.cells #[.slice none 0 0, .slice none 0 0] 32)).cell? ⟨w3.heap.size, 1, none⟩ = some (.slice (some ⟨bb, off, none⟩) 1 cc) := blk_cell (blk_below hb6 hx5) 1
  have k6 := cell_below hb6 k5
  have HE6 := Lib.hid (he.grow hb6)
  have HW6 := Lib.hid (below_trans (below_trans HW4.out hb5) hb6)
  clear hx5 k5 he hb5 hb6
  go_upto_region 4 with fail
  generalize w5.alloc (.cells #[.slice none 0 0, .slice none 0 0] 32) = w6 at *
  go_wp2_with fail
  refine (code_calls (sp := sp) _ (HL.out.below HW6.out) _ _ HE6.out).mono ?_
  rintro e w7 ⟨rfl, rfl⟩
  go_wp2
  go_ret
  exact ⟨rfl, HW6.out⟩
end Go.Proofs.YtgjabbffpfhmjaaDoor
