/- philtrelaw04.awake answers true. -/
import Derived.Test.YtgjabbffpfhmjaaDoorSame
import Derived.Test.YtgjabbffpfhmjaaDoorRef4
import Derived.Test.YtgjabbffpfhmjaaDoorWrong
namespace Go.Proofs.YtgjabbffpfhmjaaDoor
open Go.RowKit Go.Extern.Stop Go.Stop Go.Extern Go.Proofs.YtgjabbffpfhmjaaDoorW.PrintWords

theorem aw_parse : qparse ⟨#[37, 54, 49]⟩ = .bad 0 1 := by kernel_rfl
def awRows : List (List ByteArray) := [[⟨#[97]⟩, ⟨#[98]⟩], [⟨#[99]⟩]]
theorem aw_split : ∃ l, qsplit ⟨#[97, 32, 98, 10, 99, 10]⟩ = .ok l ∧ l.map texts = awRows := ⟨[[[97], [98]], [[99]]], by kernel_rfl, by kernel_rfl⟩
theorem aw_print : qprint ⟨#[97, 32, 98]⟩ = ⟨#[97, 37, 50, 48, 98]⟩ := by decide +kernel
theorem aw_lines : linesOf awRows = [97, 32, 98, 10, 99, 10] := by decide +kernel

def aw1 (w : World) : World := w.alloc (.cells #[.string ⟨#[97]⟩, .string ⟨#[98]⟩] 9)
def aw2 (w : World) : World := (aw1 w).alloc (.cells #[.string ⟨#[99]⟩] 9)
def aw3 (w : World) : World := (aw2 w).alloc (.cells #[.slice (some ⟨w.heap.size, 0, none⟩) 2 2, .slice (some ⟨w.heap.size + 1, 0, none⟩) 1 1] 51)
theorem aw1_size (w : World) : (aw1 w).heap.size = w.heap.size + 1 := by simp [aw1]
theorem aw2_size (w : World) : (aw2 w).heap.size = w.heap.size + 1 + 1 := by simp [aw1, aw2]
theorem aw_rows (w : World) : StrRows (aw3 w) (.slice (some ⟨w.heap.size + 1 + 1, 0, none⟩) 2 2) awRows := by
  have h1 : StrsT (aw1 w) (.slice (some ⟨w.heap.size, 0, none⟩) 2 2) [⟨#[97]⟩, ⟨#[98]⟩] := StrsT.new w [⟨#[97]⟩, ⟨#[98]⟩]
  have h2 : StrsT (aw2 w) (.slice (some ⟨w.heap.size + 1, 0, none⟩) 1 1) [⟨#[99]⟩] := by
    have h := StrsT.new (aw1 w) [⟨#[99]⟩]
    rw [aw1_size] at h
    exact h
  have b2 : Below (aw1 w).heap.size (aw1 w) (aw2 w) := below_new _ _
  have b3 : Below (aw2 w).heap.size (aw2 w) (aw3 w) := below_new _ _
  have h3 : (aw3 w).heap[w.heap.size + 1 + 1]? = some (.cells #[.slice (some ⟨w.heap.size, 0, none⟩) 2 2, .slice (some ⟨w.heap.size + 1, 0, none⟩) 1 1] 51 (0, 0)) := by
    have h := heap_new (aw2 w) (.cells #[.slice (some ⟨w.heap.size, 0, none⟩) 2 2, .slice (some ⟨w.heap.size + 1, 0, none⟩) 1 1] 51)
    rw [aw2_size] at h
    exact h
  refine ⟨_, 2, rfl, Nat.le_refl _, fun j r hj => ?_⟩
  match j, hj with
  | 0, hj =>
    obtain rfl : [⟨#[97]⟩, ⟨#[98]⟩] = r := Option.some.inj hj
    exact ⟨_, _, _, rfl, blk_cell h3 _, ((h1.grow b2).grow b3).reads⟩
  | 1, hj =>
    obtain rfl : [⟨#[99]⟩] = r := Option.some.inj hj
    exact ⟨_, _, _, rfl, blk_cell h3 _, (h2.grow b3).reads⟩
  | j + 2, hj => exact absurd hj (by simp [awRows])
theorem aw_below (w : World) : Below w.heap.size w (aw3 w) :=
  (((Below.refl _ _).alloc (Nat.le_refl _) _).alloc (by simp) _).alloc (by simp; omega) _
theorem aw_short : ∀ r ∈ awRows, r.length ≤ 10000000 := by decide

set_option maxHeartbeats 1000000 in
theorem awake4_calls {sp : Nat → Addr} (w : World) (hL : Laid sp w) (m : Int) (hm : w.cell? ⟨21, 0, none⟩ = some (.int .i64 m)) :
    Calls Tryd.prog 18 #[] w fun e w' => e = .returned (.bool true) ∧ Below w.heap.size w w' := by
  obtain ⟨rows, hsp, hrows⟩ := aw_split
  have HL := Lib.hid hL
  have HM := Lib.hid hm
  have HSP := Lib.hid hsp
  have HRO := Lib.hid hrows
  clear hL hm hsp hrows
  go_enter Tryd.func18, Tryd.ntmps18
  go_wp2_with fail
  refine (parse_calls _ _ HL.out (by decide)).mono ?_
  rw [aw_parse]
  rintro e w1 ⟨v, rfl, he, hb1⟩
  obtain ⟨t, a, rfl⟩ := he.form
  have HE := Lib.hid he
  have HB1 := Lib.hid hb1
  clear he hb1
  go_wp2_with fail
  refine (split_calls _ _ (HL.out.below HB1.out) (by decide) m (cell_below HB1.out HM.out)).mono ?_
  rw [HSP.out]
  rintro e w2 ⟨v, rfl, hr, hb2⟩
  have hsr := hr.reads
  rw [HRO.out] at hsr
  have HB2 := Lib.hid (below_trans HB1.out hb2)
  have HE2 := Lib.hid (HE.out.grow hb2)
  have HS2 := Lib.hid hsr
  clear hr hb2 hsr
  go_wp2_with fail
  refine (print_any _ _ (by decide)).mono ?_
  rintro e w3 ⟨rfl, hb3⟩
  rw [aw_print]
  have HB3 := Lib.hid (below_trans HB2.out hb3)
  have HE3 := Lib.hid (HE2.out.grow hb3)
  have HS3 := Lib.hid (HS2.out.grow hb3)
  clear hb3
  go_wp2_with fail
  refine (wrong_hit _ 0 1 _ (HL.out.below HB3.out) HE3.out).mono ?_
  rintro e w4 ⟨rfl, hb4⟩
  have HB4 := Lib.hid (below_trans HB3.out hb4)
  have HS4 := Lib.hid (HS3.out.grow hb4)
  clear hb4
  go_wp2_with fail
  refine (same_calls _ _ awRows awRows (aw3 w4) (HS4.out.grow (aw_below w4)) (aw_rows w4) (by decide) (by decide) aw_short aw_short).mono ?_
  rintro e w5 ⟨b, rfl, hbe, hb5⟩
  obtain rfl : b = true := hbe.2 rfl
  have hb5' : Below w4.heap.size w4 w5 := below_trans (aw_below w4) hb5
  have HB5 := Lib.hid (below_trans HB4.out hb5')
  have HS5 := Lib.hid (HS4.out.grow hb5')
  clear hb5 hb5' hbe
  go_wp2_with fail
  refine (lines_calls _ awRows _ HS5.out (by rw [aw_lines]; decide) aw_short (by decide)).mono ?_
  rintro e w6 ⟨rfl, hb6⟩
  rw [aw_lines]
  have HB6 := Lib.hid (below_trans HB5.out hb6)
  clear hb6
  go_wp2
  go_ret
  exact ⟨rfl, HB6.out⟩
end Go.Proofs.YtgjabbffpfhmjaaDoor
