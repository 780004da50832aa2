/- philtrelaw04.QuoteTells answers true. -/
import Derived.Test.YtgjabbffpfhmjaaDoorAwake4
namespace Go.Proofs.YtgjabbffpfhmjaaDoor
open Go.RowKit Go.Extern.Stop Go.Stop Go.Extern Go.Proofs.YtgjabbffpfhmjaaDoorW.PrintWords

set_option maxHeartbeats 1000000 in
theorem tells4_calls {sp : Nat → Addr} (s u : ByteArray) (w : World) (hL : Laid sp w) (m : Int) (hm : w.cell? ⟨21, 0, none⟩ = some (.int .i64 m)) :
    Calls Tryd.prog 5 #[.string s, .string u] w fun e w' => e = .returned (.bool true) ∧ Below w.heap.size w w' := by
  have HL := Lib.hid hL
  have HM := Lib.hid hm
  clear hL hm
  go_enter Tryd.func5, Tryd.ntmps5
  by_cases h1 : 500 < s.size
  · go_wp2_with fail
    refine (awake4_calls _ HL.out m HM.out).mono ?_
    rintro e w1 ⟨rfl, hb⟩
    have HB := Lib.hid hb
    clear hb
    go_wp2
    go_ret
    exact ⟨rfl, HB.out⟩
  by_cases h2 : 500 < u.size
  · go_wp2_with fail
    refine (awake4_calls _ HL.out m HM.out).mono ?_
    rintro e w1 ⟨rfl, hb⟩
    have HB := Lib.hid hb
    clear hb
    go_wp2
    go_ret
    exact ⟨rfl, HB.out⟩
  have HP := Lib.hid (fun w (hL : Laid sp w) => parse_calls (sp := sp) u w hL (by omega))
  have HR := Lib.hid (fun w => rparse_calls u w (by omega))
  have HQ := Lib.hid (fun w => print_any s w (by omega))
  have HRQ := Lib.hid (fun w => rprint_calls s w (by omega))
  cases hq : qparse u with
  | ok l =>
    rw [hq] at HP HR
    clear hq
    go_wp2_with fail
    refine (HP.out _ HL.out).mono ?_
    rintro e w1 ⟨rfl, hb1⟩
    have HB1 := Lib.hid hb1
    clear hb1
    go_wp2_with fail
    refine (HR.out _).mono ?_
    rintro e w2 ⟨rfl, hb2⟩
    have HB2 := Lib.hid (below_trans HB1.out hb2)
    clear hb2
    go_wp2_with fail
    refine (HQ.out _).mono ?_
    rintro e w3 ⟨rfl, hb3⟩
    have HB3 := Lib.hid (below_trans HB2.out hb3)
    clear hb3
    go_wp2_with fail
    refine (HRQ.out _).mono ?_
    rintro e w4 ⟨rfl, hb4⟩
    have HB4 := Lib.hid (below_trans HB3.out hb4)
    clear hb4
    have t1 : ((qprint s).toList == (qprint s).toList) = true := by simp
    have t2 : ((⟨l.toArray⟩ : ByteArray).toList == (⟨l.toArray⟩ : ByteArray).toList) = true := by simp
    go_wp2_with fail
    refine (wrong_nil _ _).mono ?_
    rintro e w5 ⟨rfl, rfl⟩
    go_wp2_with fail
    refine (awake4_calls _ (HL.out.below HB4.out) m (cell_below HB4.out HM.out)).mono ?_
    rintro e w6 ⟨rfl, hb6⟩
    have HB6 := Lib.hid (below_trans HB4.out hb6)
    clear hb6
    go_wp2
    go_ret
    exact ⟨rfl, HB6.out⟩
  | bad p c =>
    rw [hq] at HP HR
    clear hq
    go_wp2_with fail
    refine (HP.out _ HL.out).mono ?_
    rintro e w1 ⟨v, rfl, he1, hb1⟩
    have HB1 := Lib.hid hb1
    have HE1 := Lib.hid he1
    clear hb1 he1
    go_wp2_with fail
    refine (HR.out _).mono ?_
    rintro e w2 ⟨rfl, hb2⟩
    have HB2 := Lib.hid (below_trans HB1.out hb2)
    have HE2 := Lib.hid (HE1.out.grow hb2)
    clear hb2
    go_wp2_with fail
    refine (HQ.out _).mono ?_
    rintro e w3 ⟨rfl, hb3⟩
    have HB3 := Lib.hid (below_trans HB2.out hb3)
    have HE3 := Lib.hid (HE2.out.grow hb3)
    clear hb3
    go_wp2_with fail
    refine (HRQ.out _).mono ?_
    rintro e w4 ⟨rfl, hb4⟩
    have HB4 := Lib.hid (below_trans HB3.out hb4)
    have HE4 := Lib.hid (HE3.out.grow hb4)
    clear hb4
    have t1 : ((qprint s).toList == (qprint s).toList) = true := by simp
    go_wp2_with fail
    refine (wrong_hit v p c _ (HL.out.below HB4.out) HE4.out).mono ?_
    rintro e w5 ⟨rfl, hb5⟩
    have HB5 := Lib.hid (below_trans HB4.out hb5)
    clear hb5
    go_wp2_with fail
    refine (awake4_calls _ (HL.out.below HB5.out) m (cell_below HB5.out HM.out)).mono ?_
    rintro e w6 ⟨rfl, hb6⟩
    have HB6 := Lib.hid (below_trans HB5.out hb6)
    clear hb6
    go_wp2
    go_ret
    exact ⟨rfl, HB6.out⟩
end Go.Proofs.YtgjabbffpfhmjaaDoor
