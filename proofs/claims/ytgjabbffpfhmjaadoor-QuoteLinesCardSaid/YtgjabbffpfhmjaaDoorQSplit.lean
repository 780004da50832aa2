/- quote.Split, by its contract. -/
import Derived.Test.YtgjabbffpfhmjaaDoorQRows
namespace Go.Proofs.YtgjabbffpfhmjaaDoor
open Go.RowKit Go.Extern.Stop Go.Stop Go.Extern Go.Proofs.YtgjabbffpfhmjaaDoorW.PrintWords

def SPost (sp : Nat → Addr) (w : World) : SR → Ending → World → Prop
  | .ok l, e, w' => ∃ v, e = .returned (.tuple #[v, .nilIface]) ∧ RowsT w' w.heap.size v (l.map texts) ∧ Below w.heap.size w w'
  | .bad p, e, w' => ∃ v, e = .returned (.tuple #[.slice none 0 0, v]) ∧ IsErr sp w' v (.at p (.sent 1)) ∧ Below w.heap.size w w'

theorem cut_miss (l : List UInt8) (h : Lib.indexByte l 10 = -1) : Lib.cut l [10] = (l, [], false) := by
  unfold Lib.cut
  rw [index_one', h, if_neg (by decide)]
theorem cut_hit (l : List UInt8) (i : Nat) (h : Lib.indexByte l 10 = i) : Lib.cut l [10] = (l.take i, l.drop (i + 1), true) := by
  unfold Lib.cut
  rw [index_one', h, if_pos (by omega)]
  rfl
theorem index_room' (l : List UInt8) (b : UInt8) (i : Nat) (h : Lib.indexByte l b = i) : i + 1 ≤ l.length := by
  have := Lib.index_room l [b] (by rw [index_one', h]; omega)
  rw [index_one', h] at this
  simp at this
  omega
theorem ext_data (s : ByteArray) (k : Nat) : (s.extract k s.size).data.toList = s.data.toList.drop k := Lib.extract_to_end s k

set_option maxRecDepth 100000 in
set_option maxHeartbeats 4000000 in
theorem split_calls {sp : Nat → Addr} (s : ByteArray) (w : World) (hL : Laid sp w) (hs : s.size ≤ 10000000) (m : Int) (hm : w.cell? ⟨21, 0, none⟩ = some (.int .i64 m)) :
    Calls Tryd.prog 26 #[.string s] w fun e w' => SPost sp w (qsplit s) e w' := by
  obtain ⟨R, hR⟩ : ∃ R, qsplit s = R := ⟨_, rfl⟩
  rw [hR]
  unfold qsplit at hR
  have HR := Lib.hid hR
  have HL := Lib.hid hL
  have HM := Lib.hid hm
  clear hR hL hm
  go_enter Tryd.func26, Tryd.ntmps26
  go_wp2
  go_loopw [4, 5] (fun v i wl => ∃ (fuel k : Nat) (acc : List (List (List UInt8))), i = .int .i64 k ∧ k ≤ s.size ∧ s.size < k + fuel ∧ acc.length ≤ k ∧ RowsT wl w.heap.size v (acc.map texts) ∧ sgo fuel k (s.data.toList.drop k) acc = R ∧ Below w.heap.size w wl) (fun _ i _ => s.size - (intOf i).toNat)
  case atStart => exact ⟨s.size + 1, 0, [], rfl, by omega, by omega, Nat.le_refl _, RowsT.nil _ _, HR.out, Below.refl _ _⟩
  case round =>
    obtain ⟨fuel, k, acc, rfl, hk, hf, hacc, hrows, hrun, hB⟩ := hrel
    obtain ⟨fuel, rfl⟩ : ∃ f, fuel = f + 1 := ⟨fuel - 1, by omega⟩
    have HB := Lib.hid hB
    have HRows := Lib.hid hrows
    have HLr := Lib.hid (HL.out.below hB)
    have HMr := Lib.hid (cell_below hB HM.out)
    clear hB hrows
    by_cases hlt : k < s.size
    · have hne : s.data.toList.drop k ≠ [] := by rw [drop_at s k hlt]; simp
      have hxs : (s.extract k s.size).size ≤ s.size := by simp
      unfold sgo at hrun
      rw [if_neg hne] at hrun
      have hed := ext_data s k
      generalize s.data.toList.drop k = L at hrun hed hne
      by_cases hmi : Lib.indexByte L 10 = -1
      · rw [if_pos hmi] at hrun
        subst hrun
        have hcut := cut_miss L hmi
        have HCut := Lib.hid (Tryd.strings_Cut (s.extract k s.size) ⟨#[10]⟩ m wr (by omega) HMr.out)
        rw [hed, show (⟨#[10]⟩ : ByteArray).data.toList = [10] from rfl, hcut] at HCut
        have hls : (⟨L.toArray⟩ : ByteArray).size ≤ 10000000 := by
          show L.toArray.size ≤ _
          rw [List.size_toArray, ← hed, data_len]; omega
        clear hcut hmi hne
        go_wp2_with (go_at_call 65; refine HCut.out.mono ?_; rintro e w1 ⟨rfl, n, hw1⟩)
        subst hw1
        refine (rows_calls ⟨L.toArray⟩ _ hls m (cell_below (pw_below_drewN (Below.refl _ _) n) HMr.out)).mono ?_
        rintro e w2 ⟨v, b, rfl, hb2, hb, _⟩
        have hB2 : Below wr.heap.size wr w2 := below_trans (pw_below_drewN (Below.refl wr.heap.size wr) n) hb2
        have HB2 := Lib.hid hB2
        clear hb2 hB2 hb
        go_wp2_with (go_at_call 53; refine (qwrong_calls (k : Int) 1 (by unfold isCode; omega) _ (HLr.out.below HB2.out)).mono ?_)
        rintro e w3 ⟨v', rfl, h1, h2⟩
        have HF := Lib.hid (And.intro h1 (below_trans HB.out (below_trans HB2.out h2)))
        clear h1 h2
        go_wp2
        go_ret2
        exact ⟨_, rfl, HF.out.1, HF.out.2⟩
      · rw [if_neg hmi] at hrun
        have hge := index_ge L 10
        obtain ⟨i, hi⟩ : ∃ i : Nat, Lib.indexByte L 10 = i := ⟨(Lib.indexByte L 10).toNat, by omega⟩
        have hroom := index_room' L 10 i hi
        rw [hi, Int.toNat_natCast] at hrun
        have hcut := cut_hit L i hi
        have HCut := Lib.hid (Tryd.strings_Cut (s.extract k s.size) ⟨#[10]⟩ m wr (by omega) HMr.out)
        rw [hed, show (⟨#[10]⟩ : ByteArray).data.toList = [10] from rfl, hcut] at HCut
        have hlk : L.length = s.size - k := by rw [← hed, data_len]; simp
        have hls : (L.take i).length = i := by rw [List.length_take]; omega
        clear hcut hmi hne
        have hdr : L.drop (i + 1) = s.data.toList.drop (k + i + 1) := by
          rw [← hed, ext_data, List.drop_drop]; first | rfl | (congr 1; omega)
        rw [hdr] at hrun
        generalize hl : L.take i = ln at hrun HCut hls
        have hsub : ∀ ln : List UInt8, (⟨ln.toArray⟩ : ByteArray).size = ln.length := fun ln => by show ln.toArray.size = _; simp
        have HSZ := Lib.hid (hsub ln)
        clear hdr hed hl hge hi hsub
        subst hls
        have hb0 : k + ln.length + 1 ≤ s.size := by omega
        clear hroom hlk
        cases hr : rightRow ln with
        | true =>
          rw [if_pos hr] at hrun
          have HRun := Lib.hid hrun
          have HRR := Lib.hid hr
          clear hrun hr
          go_wp2_with (go_at_call 65; refine HCut.out.mono ?_; rintro e w1 ⟨rfl, n, hw1⟩)
          subst hw1
          refine (rows_calls ⟨ln.toArray⟩ _ (by rw [HSZ.out]; omega) m (cell_below (pw_below_drewN (Below.refl _ _) n) HMr.out)).mono ?_
          rintro e w2 ⟨v, b, rfl, hb2, hb, hst⟩
          have hB2 : Below wr.heap.size wr w2 := below_trans (pw_below_drewN (Below.refl wr.heap.size wr) n) hb2
          have hb' : b = true := by rw [hb]; exact HRR.out
          subst hb'
          obtain ⟨hst1, hst2⟩ := hst rfl
          obtain ⟨vA, vn, vc, rfl⟩ : ∃ A n c, v = .slice A n c := by
            rcases hst1 with ⟨_, A, c, h⟩ | ⟨g, off, c, cs, fr, h, _⟩
            · exact ⟨_, _, _, h⟩
            · exact ⟨_, _, _, h⟩
          obtain ⟨cs, hcs, hown, h1, hin⟩ := HRows.out.grow hB2
          have HST := Lib.hid hst1
          have HS2 := Lib.hid hst2
          have HO := Lib.hid hown
          have HIN := Lib.hid hin
          have H1 := Lib.hid h1
          have HCS : Hid (cs.length = acc.length) := by unfold Hid; rw [hcs]; simp
          have HB2 := Lib.hid (below_trans HB.out hB2)
          have hsz := HB2.out.size
          clear hb2 hB2 hst hst1 hst2 hown hin h1 hcs hb
          go_wp2_with (at_builtin; refine print_append (w0 := w) w.heap.size rfl (.tmp 36) (.tmp 38) 50 51 (.slice none 0 0) 24 rfl Tryd.underlying50 infoRow rfl (by decide) _ cs (.slice vA vn vc) rfl rfl rfl HO.out HB2.out hsz (by rw [HCS.out]; omega) ?_; intro v1 w3 ho3 hb3 hg3 hat3)
          have hrows3 : RowsT w3 w.heap.size v1 (acc.map texts ++ [texts (fields 32 ln)]) := RowsT.app (by rw [HCS.out]; simp) H1.out HIN.out HO.out HST.out HS2.out ho3 hg3
          rw [show acc.map texts ++ [texts (fields 32 ln)] = (acc ++ [fields 32 ln]).map texts by simp] at hrows3
          have HR3 := Lib.hid hrows3
          have HB3 := Lib.hid hb3
          clear ho3 hb3 hg3 hat3 hrows3
          go_wp2
          go_roundw
          case rel => exact ⟨fuel, k + ln.length + 1, acc ++ [fields 32 ln], by go_num, by omega, by omega, by simp; omega, HR3.out, HRun.out, HB3.out⟩
          case measure => simp [intOf]; omega
        | false =>
          rw [if_neg (by rw [hr]; decide)] at hrun
          subst hrun
          have HRR := Lib.hid hr
          clear hr
          go_wp2_with (go_at_call 65; refine HCut.out.mono ?_; rintro e w1 ⟨rfl, n, hw1⟩)
          subst hw1
          refine (rows_calls ⟨ln.toArray⟩ _ (by rw [HSZ.out]; omega) m (cell_below (pw_below_drewN (Below.refl _ _) n) HMr.out)).mono ?_
          rintro e w2 ⟨v, b, rfl, hb2, hb, _⟩
          have hB2 : Below wr.heap.size wr w2 := below_trans (pw_below_drewN (Below.refl wr.heap.size wr) n) hb2
          have hb' : b = false := by rw [hb]; exact HRR.out
          subst hb'
          have HB2 := Lib.hid hB2
          clear hb2 hB2 hb
          go_wp2_with fail
          refine (qwrong_calls (k : Int) 1 (by unfold isCode; omega) _ (HLr.out.below HB2.out)).mono ?_
          rintro e w3 ⟨v', rfl, h1, h2⟩
          have HF := Lib.hid (And.intro h1 (below_trans HB.out (below_trans HB2.out h2)))
          clear h1 h2
          go_wp2
          go_ret2
          exact ⟨_, rfl, HF.out.1, HF.out.2⟩
    · rw [List.drop_of_length_le (by simp; omega)] at hrun
      have hrun' : SR.ok acc = R := by rw [← hrun]; simp [sgo]
      subst hrun'
      go_wp2
      go_ret2
      exact ⟨_, rfl, HRows.out, HB.out⟩
end Go.Proofs.YtgjabbffpfhmjaaDoor
