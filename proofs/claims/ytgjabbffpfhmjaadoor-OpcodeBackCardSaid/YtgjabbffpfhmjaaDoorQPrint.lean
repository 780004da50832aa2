/- quote.plain and quote.Print, by their contracts. -/
import Derived.Test.YtgjabbffpfhmjaaDoorBld
import Derived.Test.YtgjabbffpfhmjaaDoorAid
namespace Go.Proofs.YtgjabbffpfhmjaaDoor
open Go.RowKit Go.Extern.Stop Go.Stop Go.Extern Go.Proofs.YtgjabbffpfhmjaaDoorW.PrintWords

/-- Does a byte stand for itself? -/
def plainB (c : Int) : Bool := (decide (97 ≤ c) && decide (c ≤ 122)) || (decide (65 ≤ c) && decide (c ≤ 90)) || (decide (48 ≤ c) && decide (c ≤ 58)) || c == 46 || c == 47 || c == 95


set_option maxHeartbeats 1000000 in
theorem plain_any (c : Int) (w : World) :
    Calls Tryd.prog 56 #[.int .u8 c] w fun e w' => e = .returned (.bool (plainB c)) ∧ w' = w := by
  go_enter Tryd.func56, Tryd.ntmps56
  go_wp2
  all_goals
    go_ret
    refine ⟨ret_bool ?_, rfl⟩
    first
      | rfl
      | (simp only [plainB]
         rw [Bool.eq_iff_iff]
         simp [Array.getD]
         omega)
theorem plain_yes (c : Int) (h : plainB c = true) (w : World) :
    Calls Tryd.prog 56 #[.int .u8 c] w fun e w' => e = .returned (.bool true) ∧ w' = w := by rw [← h]; exact plain_any c w
theorem plain_no (c : Int) (h : plainB c = false) (w : World) :
    Calls Tryd.prog 56 #[.int .u8 c] w fun e w' => e = .returned (.bool false) ∧ w' = w := by rw [← h]; exact plain_any c w

/-! ### quote.Print -/
def signs : List UInt8 := [48, 49, 50, 51, 52, 53, 54, 55, 56, 57, 97, 98, 99, 100, 101, 102]
def sgn (k : Nat) : UInt8 := signs.getD k 0
def encB (c : UInt8) : List UInt8 := if plainB c.toNat then [c] else [37, sgn (c.toNat / 16), sgn (c.toNat % 16)]
def qprint (s : ByteArray) : ByteArray := if s.size = 0 then ⟨#[45]⟩ else ⟨(s.data.toList.flatMap encB).toArray⟩
theorem encB_len (c : UInt8) : (encB c).length ≤ 3 := by unfold encB; split <;> simp
theorem enc_len (l : List UInt8) : (l.flatMap encB).length ≤ 3 * l.length := by
  induction l with
  | nil => simp
  | cons c l ih => simp only [List.flatMap_cons, List.length_append, List.length_cons]; have := encB_len c; omega
theorem print_empty (w : World) :
    Calls Tryd.prog 21 #[.string ⟨#[]⟩] w fun e w' => e = .returned (.string ⟨#[45]⟩) ∧ Below w.heap.size w w' := by
  go_enter Tryd.func21, Tryd.ntmps21
  go_wp2
  go_ret
  exact ⟨rfl, Below.refl _ _⟩

/-- What the index of the signs gives. -/
theorem signs_at (n : Nat) (h : n < (⟨#[48, 49, 50, 51, 52, 53, 54, 55, 56, 57, 97, 98, 99, 100, 101, 102]⟩ : ByteArray).size) : (⟨#[48, 49, 50, 51, 52, 53, 54, 55, 56, 57, 97, 98, 99, 100, 101, 102]⟩ : ByteArray)[n]'h = sgn n := by
  have h' : n < 16 := h
  have h : n = 0 ∨ n = 1 ∨ n = 2 ∨ n = 3 ∨ n = 4 ∨ n = 5 ∨ n = 6 ∨ n = 7 ∨ n = 8 ∨ n = 9 ∨ n = 10 ∨ n = 11 ∨ n = 12 ∨ n = 13 ∨ n = 14 ∨ n = 15 := by omega
  rcases h with rfl | rfl | rfl | rfl | rfl | rfl | rfl | rfl | rfl | rfl | rfl | rfl | rfl | rfl | rfl | rfl <;> rfl

set_option maxHeartbeats 4000000 in
theorem print_calls (s : ByteArray) (w : World) (h0 : s.size ≠ 0) (hs : s.size ≤ 10000000) :
    Calls Tryd.prog 21 #[.string s] w fun e w' => e = .returned (.string (qprint s)) ∧ Below w.heap.size w w' := by
  have hne : s.toList.isEmpty = false := str_some h0
  go_enter Tryd.func21, Tryd.ntmps21
  go_wp2
  go_loopw [10] (fun i wl => ∃ k : Nat, i = .int .i64 k ∧ k ≤ s.size ∧ IsBld w.heap.size w.heap.size (Lib.byteCells ((s.data.toList.take k).flatMap encB)) wl ∧ Below w.heap.size w wl) (fun i _ => s.size - (intOf i).toNat)
  case atStart => exact ⟨0, rfl, by omega, bld_new w, below_new _ _⟩
  case round =>
    obtain ⟨k, rfl, hk, hbld, hB⟩ := hrel
    by_cases hlt : k < s.size
    · have HB := Lib.hid hB
      have hl : (Lib.byteCells ((s.data.toList.take k).flatMap encB)).length ≤ 3 * k := by
        rw [Lib.byteCells_length]; have h1 := enc_len (s.data.toList.take k); have h2 := List.length_take_le k s.data.toList; omega
      have HS : Hid (Lib.byteCells ((s.data.toList.take (k + 1)).flatMap encB) = Lib.byteCells ((s.data.toList.take k).flatMap encB) ++ Lib.byteCells (encB s[k])) := by
        unfold Hid; rw [take_snoc s k hlt]; simp [Lib.byteCells]
      generalize Lib.byteCells ((s.data.toList.take k).flatMap encB) = bs at hbld hl HS
      have HBld := Lib.hid hbld
      clear hbld hB
      have hsz := HB.out.size
      have hc0 : (0 : Int) ≤ (s[k].toNat : Int) := by omega
      have hc1 : (s[k].toNat : Int) ≤ 255 := by have := s[k].toNat_lt; omega
      cases hp : plainB (s[k].toNat : Int) with
      | true =>
        have HP := Lib.hid hp
        clear hp
        go_wp2_with (go_at_call 56; refine (plain_yes _ HP.out _).mono ?_; rintro e w' ⟨rfl, rfl⟩)
        refine (bld_byte w.heap.size w.heap.size bs (s[k].toNat : Int) _ HBld.out (by omega) hsz).mono ?_
        rintro e w1 ⟨rfl, hb1, hk1⟩
        have HF := Lib.hid (And.intro hb1 (HB.out.trans hk1))
        clear hb1 hk1 hsz
        go_wp2
        go_roundw
        case rel => exact ⟨k + 1, by go_num, by omega, by rw [HS.out]; simpa [encB, HP.out, Lib.byteCells] using HF.out.1, HF.out.2⟩
        case measure => simp [intOf]; omega
      | false =>
        have HP := Lib.hid hp
        clear hp
        go_wp2_with (go_at_call 56; refine (plain_no _ HP.out _).mono ?_; rintro e w' ⟨rfl, rfl⟩)
        refine (bld_byte w.heap.size w.heap.size bs 37 _ HBld.out (by omega) hsz).mono ?_
        rintro e w1 ⟨rfl, hb1, hk1⟩
        have hsz1 := Nat.le_trans hsz hk1.size
        have HF1 := Lib.hid (And.intro hb1 (HB.out.trans hk1))
        clear hb1 hk1
        go_wp2_with fail
        refine (bld_byte w.heap.size w.heap.size _ _ _ HF1.out.1 (by simp; omega) hsz1).mono ?_
        rintro e w2 ⟨rfl, hb2, hk2⟩
        have hsz2 := Nat.le_trans hsz1 hk2.size
        have HF2 := Lib.hid (And.intro hb2 (HF1.out.2.trans hk2))
        clear hb2 hk2
        go_wp2_with fail
        refine (bld_byte w.heap.size w.heap.size _ _ _ HF2.out.1 (by simp; omega) hsz2).mono ?_
        rintro e w3 ⟨rfl, hb3, hk3⟩
        rw [signs_at, signs_at] at hb3
        have HF3 := Lib.hid (And.intro hb3 (HF2.out.2.trans hk3))
        clear hb3 hk3
        go_wp2
        go_roundw
        case rel => exact ⟨k + 1, by go_num, by omega, by rw [HS.out]; simpa [encB, HP.out, Lib.byteCells] using HF3.out.1, HF3.out.2⟩
        case measure => simp [intOf]; omega
    · obtain rfl : k = s.size := by omega
      have hq : qprint s = ⟨(s.data.toList.flatMap encB).toArray⟩ := by unfold qprint; rw [if_neg h0]
      rw [List.take_of_length_le (by simp)] at hbld
      have HBld := Lib.hid hbld
      have HQ := Lib.hid hq
      have HB := Lib.hid hB
      clear hbld hB hq
      go_wp2_with (go_at_call 60; refine (Tryd.Builder_String_any w.heap.size w.heap.size (s.data.toList.flatMap encB) _ HBld.out HB.out.size).mono ?_)
      rintro e w1 ⟨rfl, hk1⟩
      have HF := Lib.hid (HB.out.trans hk1)
      clear hk1
      go_wp2
      go_ret
      exact ⟨by rw [HQ.out]; rfl, HF.out⟩
end Go.Proofs.YtgjabbffpfhmjaaDoor
