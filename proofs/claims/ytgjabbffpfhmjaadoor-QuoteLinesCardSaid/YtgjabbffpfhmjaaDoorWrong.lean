/- philtrelaw02.Wrong at an error that is just what is said. -/
import Derived.Test.YtgjabbffpfhmjaaDoorPlaces
import Derived.Test.YtgjabbffpfhmjaaDoorAid
namespace Go.Proofs.YtgjabbffpfhmjaaDoor
open Go.RowKit Go.Extern.Stop Go.Stop Go.Extern Go.Proofs.YtgjabbffpfhmjaaDoorW.PrintWords

theorem wrong_nil (a : Int) (w : World) :
    Calls Tryd.prog 23 #[.nilIface, .int .i64 0, .int .i64 a] w fun e w' => e = .returned (.bool true) ∧ w' = w := by
  go_enter Tryd.func23, Tryd.ntmps23
  go_wp2
  go_ret
  exact ⟨rfl, rfl⟩

set_option maxHeartbeats 1000000 in
theorem wrong_hit {sp : Nat → Addr} (v : Value) (p : Int) (c : Nat) (w : World) (hL : Laid sp w) (he : IsErr sp w v (.at p (.sent c))) :
    Calls Tryd.prog 23 #[v, .int .i64 c, .int .i64 p] w fun e w' => e = .returned (.bool true) ∧ Below w.heap.size w w' := by
  have hc : isCode c := he.code
  have hc0 : ((c : Int) == 0) = false := by unfold isCode at hc; simp; omega
  have HL := Lib.hid hL
  have HE := Lib.hid he
  obtain ⟨t, a, rfl⟩ := he.form
  clear hL he hc
  go_enter Tryd.func23, Tryd.ntmps23
  go_wp2_with (go_at_call 62; refine (places_calls _ (.at p (.sent c)) _ HL.out HE.out trivial (by simp [Er.places])).mono ?_)
  rintro e w1 ⟨v', rfl, ho, hb⟩
  obtain ⟨A, cp, rfl, hr⟩ := own_reads ho
  obtain ⟨ad, rfl, hcell⟩ := hr.2.2 (by simp [Er.places])
  have hcell0 : w1.cell? ad = some (.int .i64 p) := by
    have h := hcell 0 (by simp [Er.places])
    simpa [Addr.add, Er.places] using h
  have HL1 := Lib.hid (HL.out.below hb)
  have HE1 := Lib.hid (HE.out.grow hb)
  have HB := Lib.hid hb
  clear hcell hr ho hb
  simp only [Er.places, List.length_cons, List.length_nil]
  go_wp2_with (go_at_call 40; refine (code_calls _ HL1.out _ _ HE1.out).mono ?_; rintro e w' ⟨rfl, rfl⟩)
  go_ret
  refine ⟨?_, HB.out⟩
  first | rfl | (simp [Er.code]; done)
end Go.Proofs.YtgjabbffpfhmjaaDoor
