/- septet.Put, PutText, PutInt, by their contracts: a number's bytes, seven binary digits at a time. -/
import Derived.Test.YtgjabbffpfhmjaaDoorInf
import Derived.Test.YtgjabbffpfhmjaaDoorAid
import Derived.Laws.BitsAllLaws
namespace Go.Proofs.YtgjabbffpfhmjaaDoor
open Go.RowKit Go.Extern.Stop Go.Stop Go.Extern Go.Proofs.YtgjabbffpfhmjaaDoorW.PrintWords

/-- A number's bytes. -/
def sput (n : Nat) : List UInt8 := if n < 128 then [UInt8.ofNat n] else UInt8.ofNat (n % 128 + 128) :: sput (n / 128)
termination_by n
decreasing_by omega
theorem sput_small {n : Nat} (h : n < 128) : sput n = [UInt8.ofNat n] := by rw [sput.eq_def, if_pos h]
theorem sput_great {n : Nat} (h : ¬ n < 128) : sput n = UInt8.ofNat (n % 128 + 128) :: sput (n / 128) := by rw [sput.eq_def, if_neg h]
theorem sput_len : ∀ (k n : Nat), n < 128 ^ (k + 1) → (sput n).length ≤ k + 1
  | 0, n, h => by rw [sput_small (by simpa using h)]; simp
  | k + 1, n, h => by
    by_cases h1 : n < 128
    · rw [sput_small h1]; simp
    · rw [sput_great h1, List.length_cons]
      have := sput_len k (n / 128) (by
        rw [Nat.div_lt_iff_lt_mul (by decide)]
        rw [Nat.pow_succ] at h
        exact h)
      omega
theorem or_128 (n : Nat) : bits BinOp.or IntKind.u8 ((n % 256 : Nat) : Int) 128 = ((n % 128 + 128 : Nat) : Int) := by
  have h : ∀ x : Fin 256, bits BinOp.or IntKind.u8 (x.val : Int) 128 = ((x.val % 128 + 128 : Nat) : Int) := by decide +kernel
  have := h ⟨n % 256, Nat.mod_lt _ (by decide)⟩
  rw [this, Nat.mod_mod_of_dvd n (by decide)]

set_option maxRecDepth 100000 in
set_option maxHeartbeats 4000000 in
theorem put_calls (n : Nat) (hn : n < 18446744073709551616) (w : World) :
    Calls Tryd.prog 42 #[.int .u64 n] w fun e w' => e = .returned (.string ⟨(sput n).toArray⟩) ∧ Below w.heap.size w w' := by
  have hl := sput_len 9 n (by omega)
  have HLN := Lib.hid hl
  clear hl
  go_enter Tryd.func42, Tryd.ntmps42
  go_wp2
  go_loopw [0, 3] (fun i v wl => ∃ (m : Nat) (done : List UInt8), i = .int .u64 m ∧ m < 18446744073709551616 ∧ wl.ownsRow w.heap.size 5 1 v done.length (nums .u8 (ints done)) ∧ done ++ sput m = sput n ∧ Below w.heap.size w wl) (fun i _ _ => (intOf i).toNat)
  case atStart => exact ⟨n, [], rfl, hn, World.ownsRow_nil _ _ _ _, rfl, Below.refl _ _⟩
  case round =>
    obtain ⟨m, done, rfl, hm, hown, hrun, hB⟩ := hrel
    have HB := Lib.hid hB
    have HO := Lib.hid hown
    have HR := Lib.hid hrun
    have hsz := hB.size
    have hdl : done.length ≤ 10 := by
      have h := HLN.out
      rw [← hrun, List.length_append] at h
      omega
    clear hB hown hrun
    by_cases h128 : m < 128
    · have hm8 : Hid (nums .u8 (ints done ++ [(m : Int)]) = nums .u8 (ints (sput n))) := by
        unfold Hid
        rw [← HR.out, sput_small h128, ints_app]
        congr 2
        simp [ints]
        omega
      have hdi := ints_len done
      have HDI := Lib.hid hdi
      clear hdi
      go_wp2_with (at_builtin; refine print_append_num (w0 := w) w.heap.size rfl (.tmp 14) (.tmp 17) 89 5 .u8 1 rfl Tryd.underlying89 infoByte (by decide) _ (ints done) (m : Int) rfl rfl (by rw [HDI.out]; exact HO.out) HB.out hsz (by rw [HDI.out]; omega) ?_; intro v1 w1 ho1 hb1 hg1 ha1; rw [hm8.out] at ho1; have hconv := own_string Tryd.underlying89 Tryd.underlying5 Tryd.underlying9 ho1; rw [ints_str] at hconv; have HB1 := Lib.hid hb1; clear ho1 hb1 hg1 ha1)
      go_ret
      exact ⟨rfl, HB1.out⟩
    · have ho := or_128 m
      have hm8 : Hid (nums .u8 (ints done ++ [(m : Int) % 128 + 128]) = nums .u8 (ints (done ++ [UInt8.ofNat (m % 128 + 128)]))) := by
        unfold Hid
        rw [ints_app]
        congr 2
        simp [ints]
        omega
      have hrec : Hid ((done ++ [UInt8.ofNat (m % 128 + 128)]) ++ sput (m / 128) = sput n) := by
        unfold Hid
        rw [← HR.out, sput_great h128]
        simp
      have hdi := ints_len done
      have HDI := Lib.hid hdi
      rw [show ((m % 256 : Nat) : Int) = (m : Int) % 256 by simp] at ho
      clear hdi
      go_wp2_with (at_builtin; refine print_append_num (w0 := w) w.heap.size rfl (.tmp 6) (.tmp 10) 89 5 .u8 1 rfl Tryd.underlying89 infoByte (by decide) _ (ints done) ((m : Int) % 128 + 128) rfl rfl (by rw [HDI.out]; exact HO.out) HB.out hsz (by rw [HDI.out]; omega) ?_; intro v1 w1 ho1 hb1 hg1 ha1; rw [hm8.out] at ho1; have HO1 := Lib.hid ho1; have HB1 := Lib.hid hb1; clear ho1 hb1 hg1 ha1)
      go_roundw
      case rel => exact ⟨m / 128, done ++ [UInt8.ofNat (m % 128 + 128)], by simp, by omega, by have h := HO1.out; simpa [ints_len] using h, hrec.out, HB1.out⟩
      case measure => simp [intOf]; omega

def stext (s : ByteArray) : List UInt8 := sput s.size ++ s.data.toList
theorem putText_calls (s : ByteArray) (hs : s.size ≤ 10000000) (w : World) :
    Calls Tryd.prog 43 #[.string s] w fun e w' => e = .returned (.string ⟨(stext s).toArray⟩) ∧ Below w.heap.size w w' := by
  have hl := sput_len 9 s.size (by omega)
  have hz : (⟨(sput s.size).toArray⟩ : ByteArray).size ≤ 10 := by show (sput s.size).toArray.size ≤ _; rw [List.size_toArray]; exact hl
  have HC : Hid ((⟨(sput s.size).toArray⟩ : ByteArray) ++ s = ⟨(stext s).toArray⟩) := by
    apply str_ext
    simp [ByteArray.data_append, stext]
  clear hl
  go_enter Tryd.func43, Tryd.ntmps43
  go_wp2_with fail
  refine (put_calls s.size (by omega) _).mono ?_
  rintro e w1 ⟨rfl, hb1⟩
  have HB1 := Lib.hid hb1
  clear hb1
  generalize (⟨(sput s.size).toArray⟩ : ByteArray) = D at *
  go_wp2
  go_ret
  exact ⟨by rw [← HC.out]; rfl, HB1.out⟩
def zig (x : Int) : Nat := if 0 ≤ x then (2 * x).toNat else (-2 * x - 1).toNat
theorem xor_ones (a : Nat) (h : a < 18446744073709551616) : a ^^^ 18446744073709551615 = 18446744073709551615 - a := by
  have e : ∀ i, (a ^^^ (2 ^ 64 - 1)).testBit i = (2 ^ 64 - (a + 1)).testBit i := fun i => by
    rw [Nat.testBit_xor, Nat.testBit_two_pow_sub_one, Nat.testBit_two_pow_sub_succ (by omega)]
    by_cases hi : i < 64
    · simp [hi]
    · have : a.testBit i = false := Nat.testBit_lt_two_pow (Nat.lt_of_lt_of_le (show a < 2 ^ 64 by omega) (Nat.pow_le_pow_right (by decide) (by omega)))
      simp [hi, this]
  have h2 := Nat.eq_of_testBit_eq e
  rw [show (18446744073709551615 : Nat) = 2 ^ 64 - 1 by decide, h2]
  omega
theorem zig_pos (x : Int) (h0 : 0 ≤ x) (h1 : x < 9223372036854775808) : bits BinOp.xor IntKind.u64 (IntKind.u64.wrap (wrap64 (x * 2))) (x / 9223372036854775808) = (zig x : Int) := by
  have e1 : IntKind.u64.wrap (wrap64 (x * 2)) = x * 2 := by
    unfold wrap64
    rw [IntKind.wrap_u64]
    omega
  have e2 : x / 9223372036854775808 = 0 := by omega
  rw [e1, e2, u64_xor _ _ (by omega) (by omega) (by omega) (by omega)]
  unfold zig
  rw [if_pos h0]
  simp
  omega
theorem zig_neg (x : Int) (h0 : x < 0) (h1 : -9223372036854775808 ≤ x) : bits BinOp.xor IntKind.u64 (IntKind.u64.wrap (wrap64 (x * 2))) (IntKind.u64.wrap (x / 9223372036854775808)) = (zig x : Int) := by
  have e1 : IntKind.u64.wrap (wrap64 (x * 2)) = x * 2 + 18446744073709551616 := by
    unfold wrap64
    rw [IntKind.wrap_u64]
    omega
  have e2 : IntKind.u64.wrap (x / 9223372036854775808) = 18446744073709551615 := by
    rw [IntKind.wrap_u64]
    omega
  rw [e1, e2, u64_xor _ _ (by omega) (by omega) (by omega) (by omega)]
  rw [show (18446744073709551615 : Int).toNat = 18446744073709551615 from rfl, xor_ones _ (by omega)]
  unfold zig
  rw [if_neg (by omega)]
  omega
theorem zig_lt (x : Int) (h0 : -9223372036854775808 ≤ x) (h1 : x < 9223372036854775808) : zig x < 18446744073709551616 := by
  unfold zig
  split <;> omega
theorem putInt_calls (x : Int) (h0 : -9223372036854775808 ≤ x) (h1 : x < 9223372036854775808) (w : World) :
    Calls Tryd.prog 44 #[.int .i64 x] w fun e w' => e = .returned (.string ⟨(sput (zig x)).toArray⟩) ∧ Below w.heap.size w w' := by
  have HP := Lib.hid (put_calls (zig x) (zig_lt x h0 h1) w)
  go_enter Tryd.func44, Tryd.ntmps44
  by_cases hx : 0 ≤ x
  · have HZ := Lib.hid (zig_pos x hx h1)
    go_wp2_with fail
    rw [HZ.out]
    refine HP.out.mono ?_
    rintro e w1 ⟨rfl, hb1⟩
    have HB1 := Lib.hid hb1
    clear hb1
    go_wp2
    go_ret
    exact ⟨rfl, HB1.out⟩
  · have HZ := Lib.hid (zig_neg x (by omega) h0)
    go_wp2_with fail
    rw [HZ.out]
    refine HP.out.mono ?_
    rintro e w1 ⟨rfl, hb1⟩
    have HB1 := Lib.hid hb1
    clear hb1
    go_wp2
    go_ret
    exact ⟨rfl, HB1.out⟩
end Go.Proofs.YtgjabbffpfhmjaaDoor
