/- philtreref04: plain, one, Print, digit, Parse: what they compute is what quote's own functions compute. -/
import Derived.Test.YtgjabbffpfhmjaaDoorQParse
import Derived.RegionTactic
import Derived.ChangeAlike
import Derived.BigRegion
import Derived.Deep.QuietTactic
import Derived.BigQuiet
namespace Go.Proofs.YtgjabbffpfhmjaaDoor
open Go.RowKit Go.Extern.Stop Go.Stop Go.Extern Go.Proofs.YtgjabbffpfhmjaaDoorW.PrintWords

def plains : List UInt8 := [97, 98, 99, 100, 101, 102, 103, 104, 105, 106, 107, 108, 109, 110, 111, 112, 113, 114, 115, 116, 117, 118, 119, 120, 121, 122, 65, 66, 67, 68, 69, 70, 71, 72, 73, 74, 75, 76, 77, 78, 79, 80, 81, 82, 83, 84, 85, 86, 87, 88, 89, 90, 48, 49, 50, 51, 52, 53, 54, 55, 56, 57, 46, 58, 47, 95]
theorem plains_all (c : UInt8) (h : c ∈ plains) : plainB c.toNat = true := by
  have h1 : ∀ n : Fin 256, UInt8.ofNat n.val ∈ plains → plainB n.val = true := by decide +kernel
  have := h1 ⟨c.toNat, c.toNat_lt⟩
  simp only [UInt8.ofNat_toNat] at this
  exact this h
theorem plains_only (c : UInt8) (h : c ∉ plains) : plainB c.toNat = false := by
  have h1 : ∀ n : Fin 256, UInt8.ofNat n.val ∉ plains → plainB n.val = false := by decide +kernel
  have := h1 ⟨c.toNat, c.toNat_lt⟩
  simp only [UInt8.ofNat_toNat] at this
  exact this h

set_option maxRecDepth 100000 in
set_option maxHeartbeats 1000000 in
theorem rplain_calls (c : UInt8) (w : World) :
    Calls Tryd.prog 57 #[.int .u8 c.toNat] w fun e w' => e = .returned (.bool (plainB c.toNat)) ∧ w' = w := by
  have hc0 : (0 : Int) ≤ (c.toNat : Int) := by omega
  have hc1 : (c.toNat : Int) ≤ 255 := by have := c.toNat_lt; omega
  go_enter Tryd.func57, Tryd.ntmps57
  go_wp2
  have hlit : ([97, 98, 99, 100, 101, 102, 103, 104, 105, 106, 107, 108, 109, 110, 111, 112, 113, 114, 115, 116, 117, 118, 119, 120, 121, 122, 65, 66, 67, 68, 69, 70, 71].append [72, 73, 74, 75, 76, 77, 78, 79, 80, 81, 82, 83, 84, 85, 86, 87, 88, 89, 90, 48, 49, 50, 51, 52, 53, 54, 55, 56, 57, 46, 58, 47, 95]).toArray = plains.toArray := rfl
  rw [hlit]
  obtain ⟨L, hL⟩ : ∃ L : ByteArray, L = ⟨plains.toArray⟩ := ⟨_, rfl⟩
  rw [← hL]
  have hsz : L.size = 66 := by rw [hL]; rfl
  have hat : ∀ k (h : k < L.size), L[k]'h ∈ plains := by subst hL; intro k h; exact List.getElem_mem _
  have hall : c ∈ plains → ∃ k, ∃ h : k < L.size, L[k]'h = c := by subst hL; intro h; obtain ⟨k, h1, h2⟩ := List.getElem_of_mem h; exact ⟨k, h1, h2⟩
  have HS := Lib.hid hsz
  have hle : L.size ≤ 66 := by omega
  have HAT := Lib.hid hat
  have HALL := Lib.hid hall
  clear hL hsz hat hall hlit
  go_loop [4] (fun i => ∃ k : Nat, i = .int .i64 k ∧ k ≤ L.size ∧ ∀ j (h : j < L.size), j < k → L[j]'h ≠ c) (fun i => L.size - (intOf i).toNat)
  case atStart => exact ⟨0, rfl, by omega, fun j _ h => absurd h (by omega)⟩
  case round =>
    obtain ⟨k, rfl, hk, hno⟩ := hrel
    have HNO := Lib.hid hno
    clear hno
    by_cases hlt : k < L.size
    · by_cases he : L[k] = c
      · have hb : ((L[k].toNat : Int) == (c.toNat : Int)) = true := by rw [he]; simp
        have hpl : plainB c.toNat = true := plains_all c (by rw [← he]; exact HAT.out k hlt)
        have HPL := Lib.hid hpl
        clear he hpl
        go_wp2
        go_ret
        exact ⟨by rw [HPL.out]; rfl, rfl⟩
      · have hb : ((L[k].toNat : Int) == (c.toNat : Int)) = false := by
          simp only [beq_eq_false_iff_ne, ne_eq]
          intro h; exact he (UInt8.toNat_inj.1 (by omega))
        have HE := Lib.hid he
        clear he
        go_wp2
        go_round
        case rel => exact ⟨k + 1, by go_num, by omega, fun j h hj => by
          rcases Nat.lt_or_ge j k with h1 | h1
          · exact HNO.out j h h1
          · obtain rfl : j = k := by omega
            exact HE.out⟩
        case measure => simp [intOf]; omega
    · have hpl : plainB c.toNat = false := plains_only c (fun h => by
        obtain ⟨j, hj, he⟩ := HALL.out h
        exact HNO.out j hj (by omega) he)
      have HPL := Lib.hid hpl
      clear hpl
      go_wp2
      go_ret
      exact ⟨by rw [HPL.out]; rfl, rfl⟩

/-- A text made of a few bytes. -/
theorem conv_blk (W : World) (b : Nat) (xs : List Int) (h : W.heap[b]? = some (.cells (nums .u8 xs).toArray 5 (0, 0))) :
    (convert 89 9 (.slice (some ⟨b, 0, none⟩) xs.length xs.length)).run Tryd.prog W = .ok (.string (strOfNums xs)) W := by
  refine run_convert_bytes_arg W 89 5 Tryd.underlying89 Tryd.underlying5 b 0 xs.length xs.length xs rfl (fun i hi => ?_) 9 Tryd.underlying9
  rw [Nat.zero_add]
  refine (blk_cell h i).trans ?_
  simp [nums, List.getElem?_eq_getElem hi, List.getD_eq_getElem?_getD]
theorem conv_one (W : World) (x : Int) : (convert 89 9 (.slice (some ⟨W.heap.size, 0, none⟩) 1 1)).run Tryd.prog (W.alloc (.cells #[.int .u8 x] 5)) = .ok (.string (strOfNums [x])) (W.alloc (.cells #[.int .u8 x] 5)) :=
  conv_blk _ W.heap.size [x] (heap_new _ _)
theorem conv_three (W : World) (x y z : Int) : (convert 89 9 (.slice (some ⟨W.heap.size, 0, none⟩) 3 3)).run Tryd.prog (W.alloc (.cells #[.int .u8 x, .int .u8 y, .int .u8 z] 5)).drew = .ok (.string (strOfNums [x, y, z])) (W.alloc (.cells #[.int .u8 x, .int .u8 y, .int .u8 z] 5)).drew :=
  conv_blk _ W.heap.size [x, y, z] (heap_new _ _)
theorem str3 (a b c : UInt8) : strOfNums [(a.toNat : Int), (b.toNat : Int), (c.toNat : Int)] = ⟨#[a, b, c]⟩ := ints_str [a, b, c]
theorem str1 (a : UInt8) : strOfNums [(a.toNat : Int)] = ⟨#[a]⟩ := ints_str [a]

set_option maxRecDepth 100000 in
set_option maxHeartbeats 1000000 in
theorem rone_yes (c : UInt8) (hp : plainB c.toNat = true) (w : World) :
    Calls Tryd.prog 61 #[.int .u8 c.toNat] w fun e w' => e = .returned (.string ⟨(encB c).toArray⟩) ∧ Below w.heap.size w w' := by
  have hc0 : (0 : Int) ≤ (c.toNat : Int) := by omega
  have hc1 : (c.toNat : Int) ≤ 255 := by have := c.toNat_lt; omega
  have HP := Lib.hid (rplain_calls c w)
  rw [hp] at HP
  have HQ := Lib.hid hp
  clear hp
  have hcv := conv_one
  go_enter Tryd.func61, Tryd.ntmps61
  go_wp2_with (go_at_call 57; refine HP.out.mono ?_; rintro e w' ⟨rfl, rfl⟩)
  go_ret
  refine ⟨ret_str ?_, below_new _ _⟩
  rw [str1]; simp [encB, HQ.out]

set_option maxRecDepth 100000 in
set_option maxHeartbeats 1000000 in
theorem rone_no (c : UInt8) (hp : plainB c.toNat = false) (w : World) :
    Calls Tryd.prog 61 #[.int .u8 c.toNat] w fun e w' => e = .returned (.string ⟨(encB c).toArray⟩) ∧ Below w.heap.size w w' := by
  have hc0 : (0 : Int) ≤ (c.toNat : Int) := by omega
  have hc1 : (c.toNat : Int) ≤ 255 := by have := c.toNat_lt; omega
  have HP := Lib.hid (rplain_calls c w)
  rw [hp] at HP
  have HQ := Lib.hid hp
  clear hp
  go_enter Tryd.func61, Tryd.ntmps61
  go_wp2_with (go_at_call 57; refine HP.out.mono ?_; rintro e w' ⟨rfl, rfl⟩)
  have e1 : IntKind.u8.wrap ((c.toNat : Int) / 16) = (c.toNat : Int) / 16 := IntWalk.u8_in _ (by omega)
  have e2 : (c.toNat : Int) / 16 < 16 := by omega
  have e3 : ((c.toNat : Int) / 16).toNat = c.toNat / 16 := by omega
  have e4 : (c.toNat : Int) % 16 < 16 := by omega
  have e5 : ((c.toNat : Int) % 16).toNat = c.toNat % 16 := by omega
  have e6 : (0 : Int) ≤ (c.toNat : Int) / 16 := by omega
  have e7 : (0 : Int) ≤ (c.toNat : Int) % 16 := by omega
  have hcv := conv_three
  go_region
  all_goals
    go_wp2
    go_ret
    refine ⟨ret_str ?_, (below_new _ _).drew⟩
    rw [signs_at, signs_at, show (37 : Int) = ((37 : UInt8).toNat : Int) from rfl, str3]; simp [encB, HQ.out]
theorem rone_calls (c : UInt8) (w : World) :
    Calls Tryd.prog 61 #[.int .u8 c.toNat] w fun e w' => e = .returned (.string ⟨(encB c).toArray⟩) ∧ Below w.heap.size w w' := by
  cases h : plainB c.toNat with
  | true => exact rone_yes c h w
  | false => exact rone_no c h w

/-! ### Print -/
theorem rprint_empty (w : World) :
    Calls Tryd.prog 22 #[.string ⟨#[]⟩] w fun e w' => e = .returned (.string ⟨#[45]⟩) ∧ w' = w := by
  go_enter Tryd.func22, Tryd.ntmps22
  go_wp2
  go_ret
  exact ⟨rfl, rfl⟩
def encTo (s : ByteArray) (k : Nat) : ByteArray := ⟨((s.data.toList.take k).flatMap encB).toArray⟩
theorem encTo_succ (s : ByteArray) (k : Nat) (h : k < s.size) : encTo s k ++ ⟨(encB s[k]).toArray⟩ = encTo s (k + 1) := by
  apply str_ext
  unfold encTo
  rw [take_snoc s k h]
  simp [ByteArray.data_append]
theorem encTo_len (s : ByteArray) (k : Nat) : (encTo s k).size ≤ 3 * k := by
  unfold encTo
  have h1 := enc_len (s.data.toList.take k)
  have h2 := List.length_take_le k s.data.toList
  show ((s.data.toList.take k).flatMap encB).toArray.size ≤ _
  rw [List.size_toArray]; omega

set_option maxHeartbeats 1000000 in
theorem rprint_run (s : ByteArray) (w : World) (h0 : s.size ≠ 0) (hs : s.size ≤ 10000000) :
    Calls Tryd.prog 22 #[.string s] w fun e w' => e = .returned (.string (qprint s)) ∧ Below w.heap.size w w' := by
  have hne : s.toList.isEmpty = false := str_some h0
  go_enter Tryd.func22, Tryd.ntmps22
  go_wp2
  go_loopw [3, 4] (fun o i wl => ∃ k : Nat, o = .string (encTo s k) ∧ i = .int .i64 k ∧ k ≤ s.size ∧ Below w.heap.size w wl) (fun _ i _ => s.size - (intOf i).toNat)
  case atStart => exact ⟨0, rfl, rfl, by omega, Below.refl _ _⟩
  case round =>
    obtain ⟨k, rfl, rfl, hk, hB⟩ := hrel
    have HB := Lib.hid hB
    clear hB
    by_cases hlt : k < s.size
    · have hl := encTo_len s k
      have hl2 : (⟨(encB s[k]).toArray⟩ : ByteArray).size ≤ 3 := by show (encB s[k]).toArray.size ≤ 3; rw [List.size_toArray]; exact encB_len _
      have HS := Lib.hid (encTo_succ s k hlt)
      have HC := Lib.hid (rone_calls s[k] wr)
      generalize (⟨(encB s[k]).toArray⟩ : ByteArray) = x at hl2 HS HC
      go_wp2_with (go_at_call 61; refine HC.out.mono ?_)
      rintro e w1 ⟨rfl, hb1⟩
      have HB1 := Lib.hid (below_trans HB.out hb1)
      clear hb1
      go_wp2
      go_roundw
      case rel => exact ⟨k + 1, by rw [← HS.out], by go_num, by omega, HB1.out⟩
      case measure => simp [intOf]; omega
    · obtain rfl : k = s.size := by omega
      have HQ : Hid (qprint s = encTo s s.size) := by
        unfold Hid qprint encTo
        rw [if_neg h0, List.take_of_length_le (by simp)]
      go_wp2
      go_ret
      exact ⟨by rw [HQ.out]; rfl, HB.out⟩
theorem rprint_calls (s : ByteArray) (w : World) (hs : s.size ≤ 10000000) :
    Calls Tryd.prog 22 #[.string s] w fun e w' => e = .returned (.string (qprint s)) ∧ Below w.heap.size w w' := by
  by_cases h0 : s.size = 0
  · obtain rfl := str_none h0
    refine (rprint_empty w).mono ?_
    rintro e w' ⟨rfl, rfl⟩
    exact ⟨rfl, Below.refl _ _⟩
  · exact rprint_run s w h0 hs
/-- The program's own, likewise. -/
theorem print_any (s : ByteArray) (w : World) (hs : s.size ≤ 10000000) :
    Calls Tryd.prog 21 #[.string s] w fun e w' => e = .returned (.string (qprint s)) ∧ Below w.heap.size w w' := by
  by_cases h0 : s.size = 0
  · obtain rfl := str_none h0
    exact print_empty w
  · exact print_calls s w h0 hs

/-! ### digit -/
theorem hexv_at (k : Fin 16) (c : UInt8) (h : signs[k.val]'k.isLt = c) : hexv c = k.val := by
  subst h
  have : ∀ k : Fin 16, hexv (signs[k.val]'k.isLt) = k.val := by decide +kernel
  exact this k
theorem hexv_no (c : UInt8) (h : c ∉ signs) : hexv c = -1 := by
  have h1 : ∀ n : Fin 256, UInt8.ofNat n.val ∉ signs → hexv (UInt8.ofNat n.val) = -1 := by decide +kernel
  have := h1 ⟨c.toNat, c.toNat_lt⟩
  simp only [UInt8.ofNat_toNat] at this
  exact this h

set_option maxRecDepth 100000 in
set_option maxHeartbeats 1000000 in
theorem rdigit_calls (c : UInt8) (w : World) :
    Calls Tryd.prog 58 #[.int .u8 c.toNat] w fun e w' => e = .returned (.int .i64 (hexv c)) ∧ w' = w := by
  have hc0 : (0 : Int) ≤ (c.toNat : Int) := by omega
  have hc1 : (c.toNat : Int) ≤ 255 := by have := c.toNat_lt; omega
  go_enter Tryd.func58, Tryd.ntmps58
  go_wp2
  have hlit : (#[48, 49, 50, 51, 52, 53, 54, 55, 56, 57, 97, 98, 99, 100, 101, 102] : Array UInt8) = signs.toArray := rfl
  rw [hlit]
  obtain ⟨L, hL⟩ : ∃ L : ByteArray, L = ⟨signs.toArray⟩ := ⟨_, rfl⟩
  rw [← hL]
  have hsz : L.size = 16 := by rw [hL]; rfl
  have hat : ∀ k (h : k < L.size) c, L[k]'h = c → hexv c = k := by subst hL; intro k h c hc; exact hexv_at ⟨k, h⟩ c hc
  have hall : c ∈ signs → ∃ k, ∃ h : k < L.size, L[k]'h = c := by subst hL; intro h; obtain ⟨k, h1, h2⟩ := List.getElem_of_mem h; exact ⟨k, h1, h2⟩
  have hle : 16 ≤ L.size := by omega
  have HAT := Lib.hid hat
  have HALL := Lib.hid hall
  have HSZ := Lib.hid hsz
  clear hL hsz hat hall hlit
  go_loop [4] (fun i => ∃ k : Nat, i = .int .i64 k ∧ k ≤ 16 ∧ ∀ j (h : j < L.size), j < k → L[j]'h ≠ c) (fun i => 16 - (intOf i).toNat)
  case atStart => exact ⟨0, rfl, by omega, fun j _ h => absurd h (by omega)⟩
  case round =>
    obtain ⟨k, rfl, hk, hno⟩ := hrel
    have HNO := Lib.hid hno
    clear hno
    by_cases hlt : k < 16
    · have hlt2 : k < L.size := by omega
      by_cases he : L[k] = c
      · have hb : ((L[k].toNat : Int) == (c.toNat : Int)) = true := by rw [he]; simp
        have HPL := Lib.hid (HAT.out k hlt2 c he)
        clear he
        go_wp2
        go_ret
        exact ⟨by rw [HPL.out]; rfl, rfl⟩
      · have hb : ((L[k].toNat : Int) == (c.toNat : Int)) = false := by
          simp only [beq_eq_false_iff_ne, ne_eq]
          intro h; exact he (UInt8.toNat_inj.1 (by omega))
        have HE := Lib.hid he
        clear he
        go_wp2
        go_round
        case rel => exact ⟨k + 1, by go_num, by omega, fun j h hj => by
          rcases Nat.lt_or_ge j k with h1 | h1
          · exact HNO.out j h h1
          · obtain rfl : j = k := by omega
            exact HE.out⟩
        case measure => simp [intOf]; omega
    · have hpl : hexv c = -1 := hexv_no c (fun h => by
        obtain ⟨j, hj, he⟩ := HALL.out h
        exact HNO.out j hj (by have := HSZ.out; omega) he)
      have HPL := Lib.hid hpl
      clear hpl
      go_wp2
      go_ret
      exact ⟨by rw [HPL.out]; rfl, rfl⟩

/-! ### Parse -/
/-- The reference's answer. -/
def RPost (w : World) : QR → Ending → World → Prop
  | .ok l, e, w' => e = .returned (.tuple #[.string ⟨l.toArray⟩, .int .i64 0, .int .i64 0]) ∧ Below w.heap.size w w'
  | .bad p c, e, w' => e = .returned (.tuple #[.string ⟨#[]⟩, .int .i64 c, .int .i64 p]) ∧ Below w.heap.size w w'
theorem rparse_empty (w : World) :
    Calls Tryd.prog 20 #[.string ⟨#[]⟩] w fun e w' => RPost w (.bad 0 2) e w' := by
  go_enter Tryd.func20, Tryd.ntmps20
  go_wp2
  go_ret3
  exact ⟨rfl, Below.refl _ _⟩
theorem rparse_dash (w : World) :
    Calls Tryd.prog 20 #[.string ⟨#[45]⟩] w fun e w' => RPost w (.ok []) e w' := by
  go_enter Tryd.func20, Tryd.ntmps20
  go_wp2
  go_ret3
  exact ⟨rfl, Below.refl _ _⟩

theorem cat_one (l : List UInt8) (c : UInt8) : (⟨l.toArray⟩ : ByteArray) ++ ⟨#[c]⟩ = ⟨(l ++ [c]).toArray⟩ := by
  apply str_ext
  simp [ByteArray.data_append]

set_option maxRecDepth 100000 in
set_option maxHeartbeats 4000000 in
theorem rparse_run (s : ByteArray) (w : World) (h0 : s.size ≠ 0) (h1 : s.data.toList ≠ [45]) (hs : s.size ≤ 10000000) :
    Calls Tryd.prog 20 #[.string s] w fun e w' => RPost w (qrun 0 s.data.toList []) e w' := by
  have hne : s.toList.isEmpty = false := str_some h0
  have hnd : (s.toList == [45]) = false := by rw [ByteArray.toList_eq]; simpa using h1
  generalize hR : qrun 0 s.data.toList [] = R
  have HR := Lib.hid hR
  have hcv := conv_one
  clear hR
  go_enter Tryd.func20, Tryd.ntmps20
  go_wp2
  go_loopw [5, 6] (fun v i wl => ∃ (k : Nat) (l : List UInt8), v = .string ⟨l.toArray⟩ ∧ i = .int .i64 k ∧ k ≤ s.size ∧ l.length ≤ k ∧ qrun k (s.data.toList.drop k) l = R ∧ Below w.heap.size w wl) (fun _ i _ => s.size - (intOf i).toNat)
  case atStart => exact ⟨0, [], rfl, rfl, by omega, Nat.le_refl _, HR.out, Below.refl _ _⟩
  case round =>
    obtain ⟨k, l, rfl, rfl, hk, hl, hrun, hB⟩ := hrel
    have HB := Lib.hid hB
    clear hB
    by_cases hlt : k < s.size
    · rw [drop_at s k hlt, qrun.eq_def] at hrun
      simp only at hrun
      have hc0 : (0 : Int) ≤ (s[k].toNat : Int) := by omega
      have hc1 : (s[k].toNat : Int) ≤ 255 := by have := s[k].toNat_lt; omega
      have hls : (⟨l.toArray⟩ : ByteArray).size = l.length := by show l.toArray.size = _; simp
      cases hp : plainB (s[k].toNat : Int) with
      | true =>
        rw [if_pos hp] at hrun
        have HRun := Lib.hid hrun
        have HP := Lib.hid (rplain_calls s[k])
        rw [hp] at HP
        clear hp hrun
        have hst : (strOfNums [(s[k].toNat : Int)]).size = 1 := by rw [str1]; rfl
        have HB1 := Lib.hid (below_trans HB.out (below_new wr (.cells #[.int .u8 (s[k].toNat : Int)] 5)))
        go_wp2_with (go_at_call 57; refine (HP.out _).mono ?_; rintro e w' ⟨rfl, rfl⟩)
        go_roundw
        case rel => exact ⟨k + 1, l ++ [s[k]], by rw [str1, cat_one], by go_num, by omega, by simp; omega, HRun.out, HB1.out⟩
        case measure => simp [intOf]; omega
      | false =>
        rw [if_neg (by rw [hp]; decide)] at hrun
        have HP := Lib.hid (rplain_calls s[k])
        rw [hp] at HP
        clear hp
        by_cases h37 : s[k].toNat = 37
        · have h37' : ((s[k].toNat : Int) != 37) = false := by simp [h37]
          rw [if_neg (by omega)] at hrun
          clear h37
          by_cases hl1 : k + 1 < s.size
          · have hn1 : ((k : Int) + 1 == (s.size : Int)) = false := by simp; omega
            rw [drop_at s (k + 1) hl1] at hrun
            simp only at hrun
            have HD1 := Lib.hid (rdigit_calls s[k + 1])
            have g1 := hexv_lt s[k + 1]
            have g1' := hexv_ge s[k + 1]
            have hd0 : (0 : Int) ≤ (s[k + 1].toNat : Int) := by omega
            have hd1 : (s[k + 1].toNat : Int) ≤ 255 := by have := s[k + 1].toNat_lt; omega
            by_cases hx1 : hexv s[k + 1] < 0
            · rw [if_pos hx1] at hrun
              subst hrun
              go_wp2_with (first | (go_at_call 57; refine (HP.out _).mono ?_; rintro e w' ⟨rfl, rfl⟩) | (go_at_call 58; refine (HD1.out _).mono ?_; rintro e w' ⟨rfl, rfl⟩))
              go_ret3
              exact ⟨rfl, HB.out⟩
            · rw [if_neg hx1] at hrun
              by_cases hl2 : k + 2 < s.size
              · have hn2 : ((k : Int) + 2 == (s.size : Int)) = false := by simp; omega
                rw [drop_at s (k + 2) hl2] at hrun
                simp only at hrun
                have HD2 := Lib.hid (rdigit_calls s[k + 2])
                have g2 := hexv_lt s[k + 2]
                have g2' := hexv_ge s[k + 2]
                have hf0 : (0 : Int) ≤ (s[k + 2].toNat : Int) := by omega
                have hf1 : (s[k + 2].toNat : Int) ≤ 255 := by have := s[k + 2].toNat_lt; omega
                by_cases hx2 : hexv s[k + 2] < 0
                · rw [if_pos hx2] at hrun
                  subst hrun
                  go_wp2_with (go_at_call 57; refine (HP.out _).mono ?_; rintro e w' ⟨rfl, rfl⟩)
                  refine (HD1.out _).mono ?_
                  rintro e w' ⟨rfl, rfl⟩
                  go_wp2_with fail
                  refine (HD2.out _).mono ?_
                  rintro e w' ⟨rfl, rfl⟩
                  go_wp2
                  go_ret3
                  exact ⟨rfl, HB.out⟩
                · rw [if_neg hx2] at hrun
                  have e0 : (0 : Int) ≤ hexv s[k + 1] := by omega
                  have e0' : (0 : Int) ≤ hexv s[k + 2] := by omega
                  have HT := Lib.hid (two_int s[k + 1] s[k + 2] e0 e0')
                  have e1 : IntKind.i64.wrap ((k : Int) + 1) = (k : Int) + 1 := IntWalk.i64_in _ (by omega)
                  have e2 : (0 : Int) ≤ (k : Int) + 1 := by omega
                  have e3 : ((k : Int) + 1).toNat = k + 1 := by omega
                  have e4 : IntKind.i64.wrap ((k : Int) + 2) = (k : Int) + 2 := IntWalk.i64_in _ (by omega)
                  have e5 : (0 : Int) ≤ (k : Int) + 2 := by omega
                  have e6 : ((k : Int) + 2).toNat = k + 2 := by omega
                  have e7 : (k : Int) + 1 < (s.size : Int) := by omega
                  have e8 : (k : Int) + 2 < (s.size : Int) := by omega
                  have e9 : IntKind.i64.wrap (16 * hexv s[k + 1]) = 16 * hexv s[k + 1] := IntWalk.i64_in _ (by omega)
                  have e10 : IntKind.i64.wrap (16 * hexv s[k + 1] + hexv s[k + 2]) = 16 * hexv s[k + 1] + hexv s[k + 2] := IntWalk.i64_in _ (by omega)
                  have e11 : IntKind.u8.wrap (16 * hexv s[k + 1] + hexv s[k + 2]) = 16 * hexv s[k + 1] + hexv s[k + 2] := IntWalk.u8_in _ (by omega)
                  go_wp2_with (go_at_call 57; refine (HP.out _).mono ?_; rintro e w' ⟨rfl, rfl⟩)
                  refine (HD1.out _).mono ?_
                  rintro e w' ⟨rfl, rfl⟩
                  go_wp2_with fail
                  refine (HD2.out _).mono ?_
                  rintro e w' ⟨rfl, rfl⟩
                  go_wp2_with fail
                  go_quiet ((go_at_call 58; exact Calls.quiet_of_same (rdigit_calls _ _)))
                  clear e1 e4 e9 e10 e11
                  go_wp2_with fail
                  rw [HT.out]
                  clear HT
                  generalize two s[k + 1] s[k + 2] = d at hrun ⊢
                  clear hd0 hd1
                  have hd0 : (0 : Int) ≤ (d.toNat : Int) := by omega
                  have hd1 : (d.toNat : Int) ≤ 255 := by have := d.toNat_lt; omega
                  have HPD := Lib.hid (rplain_calls d)
                  cases hpd : plainB (d.toNat : Int) with
                  | true =>
                    rw [if_pos hpd] at hrun
                    rw [hpd] at HPD
                    subst hrun
                    clear hpd
                    refine (HPD.out _).mono ?_
                    rintro e w1 ⟨rfl, rfl⟩
                    go_wp2
                    go_ret3
                    exact ⟨rfl, pw_below_drewN HB.out _⟩
                  | false =>
                    rw [if_neg (by rw [hpd]; decide)] at hrun
                    rw [hpd] at HPD
                    have HRun := Lib.hid hrun
                    have hst : (strOfNums [(d.toNat : Int)]).size = 1 := by rw [str1]; rfl
                    clear hpd hrun
                    refine (HPD.out _).mono ?_
                    rintro e w1 ⟨rfl, hw1⟩
                    have HB1 : Hid (Below w.heap.size w w1) := by unfold Hid; rw [hw1]; exact pw_below_drewN HB.out _
                    clear hw1
                    have HB2 := Lib.hid (below_trans HB1.out (below_new w1 (.cells #[.int .u8 (d.toNat : Int)] 5)))
                    go_wp2
                    go_roundw
                    case rel => exact ⟨k + 3, l ++ [d], by rw [str1, cat_one], by go_num, by omega, by simp; omega, HRun.out, HB2.out⟩
                    case measure => simp [intOf]; omega
              · have hn2 : ((k : Int) + 2 == (s.size : Int)) = true := by simp; omega
                have hk2 : s.size = k + 2 := by omega
                rw [List.drop_of_length_le (by simp; omega)] at hrun
                simp only at hrun
                subst hrun
                have HK2 := Lib.hid hk2
                clear hk2
                go_wp2_with (first | (go_at_call 57; refine (HP.out _).mono ?_; rintro e w' ⟨rfl, rfl⟩) | (go_at_call 58; refine (HD1.out _).mono ?_; rintro e w' ⟨rfl, rfl⟩))
                go_ret3
                exact ⟨ret_sii rfl rfl (by have := HK2.out; omega), HB.out⟩
          · have hn1 : ((k : Int) + 1 == (s.size : Int)) = true := by simp; omega
            have hk1 : s.size = k + 1 := by omega
            rw [List.drop_of_length_le (by simp; omega)] at hrun
            simp only at hrun
            subst hrun
            have HK1 := Lib.hid hk1
            clear hk1
            go_wp2_with (go_at_call 57; refine (HP.out _).mono ?_; rintro e w' ⟨rfl, rfl⟩)
            go_ret3
            exact ⟨ret_sii rfl rfl (by have := HK1.out; omega), HB.out⟩
        · have h37' : ((s[k].toNat : Int) != 37) = true := by simp; omega
          rw [if_pos h37] at hrun
          subst hrun
          clear h37
          go_wp2_with (go_at_call 57; refine (HP.out _).mono ?_; rintro e w' ⟨rfl, rfl⟩)
          go_ret3
          exact ⟨rfl, HB.out⟩
    · obtain rfl : k = s.size := by omega
      rw [List.drop_of_length_le (by simp), qrun.eq_def] at hrun
      subst hrun
      go_wp2
      go_ret3
      exact ⟨rfl, HB.out⟩

theorem rparse_calls (s : ByteArray) (w : World) (hs : s.size ≤ 10000000) :
    Calls Tryd.prog 20 #[.string s] w fun e w' => RPost w (qparse s) e w' := by
  unfold qparse
  by_cases h0 : s.size = 0
  · rw [if_pos h0]
    obtain rfl := str_none h0
    exact rparse_empty w
  · rw [if_neg h0]
    by_cases h1 : s.data.toList = [45]
    · rw [if_pos h1]
      obtain rfl : s = ⟨#[45]⟩ := str_ext h1
      exact rparse_dash w
    · rw [if_neg h1]
      exact rparse_run s w h0 h1 hs
end Go.Proofs.YtgjabbffpfhmjaaDoor
