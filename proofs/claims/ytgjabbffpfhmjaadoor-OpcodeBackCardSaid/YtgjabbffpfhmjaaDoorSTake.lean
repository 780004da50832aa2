/- septet.Take, by its contract. -/
import Derived.Test.YtgjabbffpfhmjaaDoorSPut
import Derived.Test.YtgjabbffpfhmjaaDoorQParse
import Derived.WalkMore
namespace Go.Proofs.YtgjabbffpfhmjaaDoor
open Go.RowKit Go.Extern.Stop Go.Stop Go.Extern Go.Proofs.YtgjabbffpfhmjaaDoorW.PrintWords

theorem swrong_calls {sp : Nat → Addr} (p : Int) (c : Nat) (hc : isCode c) (w : World) (hL : Laid sp w) :
    Calls Tryd.prog 108 #[.int .i64 p, .int .i64 c] w fun r w' => ∃ v', r = .returned v' ∧ IsErr sp w' v' (.at p (.sent c)) ∧ Below w.heap.size w w' := by
  have HL := Lib.hid hL
  have HC := Lib.hid hc
  clear hL hc
  go_enter Tryd.func108, Tryd.ntmps108
  go_wp2_with (go_at_call 47; refine (new_calls c HC.out _ HL.out).mono ?_; rintro e w' ⟨rfl, rfl⟩)
  refine (at_calls (sp := sp) p _ (.sent c) _ (.sent c HC.out)).mono ?_
  rintro e w1 ⟨v', rfl, h1, h2⟩
  have HF := Lib.hid (And.intro h1 h2)
  clear h1 h2
  go_wp2
  go_ret
  exact ⟨_, rfl, HF.out.1, HF.out.2⟩

/-- What taking a number comes to: the number and the byte behind it, or an error's code. -/
inductive TR where
  | ok (n : Nat) (next : Nat)
  | bad (c : Nat)
/-- From byte i on, N read so far. -/
def tgo : Nat → Nat → Nat → List UInt8 → TR
  | _, _, _, [] => .bad 2
  | at_, i, N, c :: r => if i = 10 then .bad 2 else if i = 9 ∧ 1 < c.toNat then .bad 3 else if 128 ≤ c.toNat then tgo at_ (i + 1) (N + c.toNat % 128 * 128 ^ i) r else
    if c.toNat = 0 ∧ 0 < i then .bad 1 else .ok (N + c.toNat % 128 * 128 ^ i) (at_ + i + 1)
def stake (s : ByteArray) (p : Int) : TR := if p < 0 ∨ (s.size : Int) < p then .bad 4 else tgo p.toNat 0 0 (s.data.toList.drop p.toNat)
def TPost (sp : Nat → Addr) (p : Int) (w : World) : TR → Ending → World → Prop
  | .ok n next, e, w' => e = .returned (.tuple #[.int .u64 n, .int .i64 next, .nilIface]) ∧ Below w.heap.size w w'
  | .bad c, e, w' => ∃ v, e = .returned (.tuple #[.int .u64 0, .int .i64 0, v]) ∧ IsErr sp w' v (.at p (.sent c)) ∧ Below w.heap.size w w'
theorem and_127 (c : UInt8) : bits BinOp.and IntKind.u8 (c.toNat : Int) 127 = ((c.toNat % 128 : Nat) : Int) := by
  have h : ∀ x : Fin 256, bits BinOp.and IntKind.u8 (x.val : Int) 127 = ((x.val % 128 : Nat) : Int) := by decide +kernel
  exact h ⟨c.toNat, c.toNat_lt⟩
theorem or_seven (N k c : Nat) (hN : N < 128 ^ k) (hk : k ≤ 9) (hc : c < 128) (h9 : k = 9 → c ≤ 1) : bits BinOp.or IntKind.u64 (N : Int) ((c * 128 ^ k : Nat) : Int) = ((N + c * 128 ^ k : Nat) : Int) ∧ N + c * 128 ^ k < 128 ^ (k + 1) ∧ N + c * 128 ^ k < 18446744073709551616 := by
  have e : (128 : Nat) ^ k = 2 ^ (7 * k) := by rw [Nat.pow_mul]
  have hlt : N + c * 128 ^ k < 128 ^ (k + 1) := by
    rw [Nat.pow_succ]
    have : c * 128 ^ k ≤ 127 * 128 ^ k := Nat.mul_le_mul_right _ (by omega)
    omega
  have hb : N + c * 128 ^ k < 18446744073709551616 := by
    rcases Nat.lt_or_ge k 9 with h | h
    · have : 128 ^ (k + 1) ≤ 128 ^ 9 := Nat.pow_le_pow_right (by decide) (by omega)
      have h2 : (128 : Nat) ^ 9 = 9223372036854775808 := by decide
      omega
    · obtain rfl : k = 9 := by omega
      have := h9 rfl
      have h2 : (128 : Nat) ^ 9 = 9223372036854775808 := by decide
      rw [h2] at hN ⊢
      omega
  refine ⟨?_, hlt, hb⟩
  rw [u64_or_nat N (c * 128 ^ k) (by omega) (by omega)]
  congr 1
  rw [e, Nat.or_comm, Nat.mul_comm, ← Nat.two_pow_add_eq_or_of_lt (by rw [← e]; exact hN)]
  omega

theorem tgo_cons (p i N : Nat) (c : UInt8) (r : List UInt8) : tgo p i N (c :: r) = if i = 10 then .bad 2 else if i = 9 ∧ 1 < c.toNat then .bad 3 else if 128 ≤ c.toNat then tgo p (i + 1) (N + c.toNat % 128 * 128 ^ i) r else
    if c.toNat = 0 ∧ 0 < i then .bad 1 else .ok (N + c.toNat % 128 * 128 ^ i) (p + i + 1) := rfl
theorem ret_uin {a b c d : Int} (h1 : a = c) (h2 : b = d) : Ending.returned (.tuple #[.int .u64 a, .int .i64 b, .nilIface]) = .returned (.tuple #[.int .u64 c, .int .i64 d, .nilIface]) := by rw [h1, h2]
theorem seven_val (N k : Nat) (c : UInt8) (hN : N < 128 ^ k) (hk : k ≤ 9) (h9 : k = 9 → c.toNat ≤ 1) :
    bits BinOp.or IntKind.u64 (N : Int) (IntKind.u64.wrap (IntKind.u64.wrap (bits BinOp.and IntKind.u8 (c.toNat : Int) 127) * 2 ^ (7 * k))) = ((N + c.toNat % 128 * 128 ^ k : Nat) : Int)
      ∧ N + c.toNat % 128 * 128 ^ k < 128 ^ (k + 1) ∧ N + c.toNat % 128 * 128 ^ k < 18446744073709551616 := by
  obtain ⟨h1, h2, h3⟩ := or_seven N k (c.toNat % 128) hN hk (Nat.mod_lt _ (by decide)) (fun h => by have := h9 h; omega)
  refine ⟨?_, h2, h3⟩
  rw [← h1, and_127, IntKind.wrap_u64, IntKind.wrap_u64]
  congr 1
  have e : ((c.toNat % 128 * 128 ^ k : Nat) : Int) = ((c.toNat % 128 : Nat) : Int) * 2 ^ (7 * k) := by
    rw [show (128 : Nat) ^ k = 2 ^ (7 * k) by rw [Nat.pow_mul]]
    simp
  have hc : ((c.toNat % 128 : Nat) : Int) % 18446744073709551616 = ((c.toNat % 128 : Nat) : Int) := by omega
  rw [hc, ← e]
  omega
def TkRel (s : ByteArray) (p : Nat) (R : TR) (n d i : Value) : Prop :=
  ∃ (k N : Nat), n = .int .u64 N ∧ d = .int .i64 0 ∧ i = .int .i64 k ∧ k ≤ 10 ∧ N < 128 ^ k ∧ N < 18446744073709551616 ∧ p + k ≤ s.size ∧ tgo p k N (s.data.toList.drop (p + k)) = R

set_option maxRecDepth 100000 in
set_option maxHeartbeats 8000000 in
theorem take_calls {sp : Nat → Addr} (s : ByteArray) (p : Int) (w : World) (hL : Laid sp w) (hs : s.size ≤ 10000000) (hp : -9223372036854775808 ≤ p ∧ p ≤ 9223372036854775807) :
    Calls Tryd.prog 89 #[.string s, .int .i64 p] w fun e w' => TPost sp p w (stake s p) e w' := by
  obtain ⟨R, hR⟩ : ∃ R, stake s p = R := ⟨_, rfl⟩
  rw [hR]
  unfold stake at hR
  have HL := Lib.hid hL
  clear hL
  go_enter Tryd.func89, Tryd.ntmps89
  go_wp2
  go_step3
  by_cases hneg : p < 0
  · rw [if_pos (.inl hneg)] at hR
    subst hR
    go_wp2_with fail
    refine (swrong_calls p 4 (by unfold isCode; omega) _ HL.out).mono ?_
    rintro e w1 ⟨v, rfl, h1, h2⟩
    have HF := Lib.hid (And.intro h1 h2)
    clear h1 h2
    go_wp2
    rw [Exit.noGoto_ret]
    go_ret3
    exact ⟨_, rfl, HF.out.1, HF.out.2⟩
  by_cases hgt : (s.size : Int) < p
  · rw [if_pos (.inr hgt)] at hR
    subst hR
    go_wp2_with fail
    refine (swrong_calls p 4 (by unfold isCode; omega) _ HL.out).mono ?_
    rintro e w1 ⟨v, rfl, h1, h2⟩
    have HF := Lib.hid (And.intro h1 h2)
    clear h1 h2
    go_wp2
    rw [Exit.noGoto_ret]
    go_ret3
    exact ⟨_, rfl, HF.out.1, HF.out.2⟩
  rw [if_neg (by omega)] at hR
  obtain ⟨q, rfl⟩ := Int.eq_ofNat_of_zero_le (by omega : 0 ≤ p)
  simp only [Int.toNat_natCast] at hR
  have HR := Lib.hid hR
  have hqs : q ≤ s.size := by omega
  clear hR hp
  go_wp2_with fail
  go_step3
  go_wp2_with fail
  go_loop [7, 8, 9] (fun n d i => TkRel s q R n d i) (fun _ _ i => 10 - (intOf i).toNat)
  case atStart => exact ⟨0, 0, rfl, rfl, rfl, by omega, by decide, by decide, by omega, by simpa using HR.out⟩
  case round =>
    obtain ⟨k, N, rfl, rfl, rfl, hk, hN, hN2, hqk, hrun⟩ := hrel
    have HRun := Lib.hid hrun
    have HN := Lib.hid hN
    clear hrun hN
    by_cases hk10 : k < 10
    · by_cases hlt : q + k < s.size
      · have hi1 : (k : Int) < (s.size : Int) - (q : Int) := by omega
        have HD := Lib.hid (drop_at s (q + k) hlt)
        have hc0 : (0 : Int) ≤ (s[q + k].toNat : Int) := by omega
        have hc1 : (s[q + k].toNat : Int) ≤ 255 := by have := s[q + k].toNat_lt; omega
        rw [HD.out, tgo_cons, if_neg (by omega)] at HRun
        by_cases hk9 : k = 9
        · have ht9 : ((k : Int) == 9) = true := by simp; omega
          by_cases hc : 1 < s[q + k].toNat
          · have hRb : R = .bad 3 := by rw [← HRun.out, if_pos ⟨hk9, hc⟩]
            subst hRb
            have hcc : (1 : Int) < (s[q + k].toNat : Int) := by omega
            clear hk9
            go_wp2_with fail
            refine (swrong_calls q 3 (by unfold isCode; omega) _ HL.out).mono ?_
            rintro e w1 ⟨v, rfl, h1, h2⟩
            have HF := Lib.hid (And.intro h1 h2)
            clear h1 h2
            go_wp2
            rw [Exit.noGoto_ret]
            go_ret3
            exact ⟨_, rfl, HF.out.1, HF.out.2⟩
          · obtain ⟨e1, e2, e3⟩ := seven_val N k s[q + k] HN.out (by omega) (fun _ => by omega)
            have HV := Lib.hid e1
            rw [if_neg (by omega), if_neg (by omega)] at HRun
            clear e1
            by_cases h0 : s[q + k].toNat = 0
            · have hRb : R = .bad 1 := by rw [← HRun.out, if_pos ⟨h0, by omega⟩]
              subst hRb
              have hcc : (s[q + k].toNat : Int) ≤ 1 := by omega
              have hc2 : (s[q + k].toNat : Int) < 128 := by omega
              have hc3 : ((s[q + k].toNat : Int) == 0) = true := by simp [h0]
              have hkp : (0 : Int) < (k : Int) := by omega
              clear hk9 h0
              go_wp2_with fail
              refine (swrong_calls q 1 (by unfold isCode; omega) _ HL.out).mono ?_
              rintro e w1 ⟨v, rfl, h1, h2⟩
              have HF := Lib.hid (And.intro h1 h2)
              clear h1 h2
              go_wp2
              rw [Exit.noGoto_ret]
              go_ret3
              exact ⟨_, rfl, HF.out.1, HF.out.2⟩
            · have hRb : R = .ok (N + s[q + k].toNat % 128 * 128 ^ k) (q + k + 1) := by rw [← HRun.out, if_neg (by omega)]
              subst hRb
              have hcc : (s[q + k].toNat : Int) ≤ 1 := by omega
              have hc2 : (s[q + k].toNat : Int) < 128 := by omega
              have hc3 : ((s[q + k].toNat : Int) == 0) = false := by simp; omega
              clear hk9 h0
              go_wp2
              rw [Exit.noGoto_ret]
              go_ret3
              exact ⟨ret_uin HV.out (by omega), Below.refl _ _⟩
        · have ht9 : ((k : Int) == 9) = false := by simp; omega
          obtain ⟨e1, e2, e3⟩ := seven_val N k s[q + k] HN.out (by omega) (fun h => absurd h hk9)
          have HV := Lib.hid e1
          have HV2 := Lib.hid e2
          rw [if_neg (by omega)] at HRun
          clear e1 e2
          by_cases h128 : 128 ≤ s[q + k].toNat
          · rw [if_pos h128] at HRun
            have hc2 : (128 : Int) ≤ (s[q + k].toNat : Int) := by omega
            clear hk9
            go_wp2
            go_round
            case rel => exact ⟨k + 1, _, by rw [HV.out], rfl, by go_num, by omega, HV2.out, e3, by omega, HRun.out⟩
            case measure => simp [intOf]; omega
          · rw [if_neg h128] at HRun
            have hc2 : (s[q + k].toNat : Int) < 128 := by omega
            by_cases h0 : s[q + k].toNat = 0 ∧ 0 < k
            · have hRb : R = .bad 1 := by rw [← HRun.out, if_pos h0]
              subst hRb
              have hc3 : ((s[q + k].toNat : Int) == 0) = true := by simp [h0.1]
              have hkp : (0 : Int) < (k : Int) := by omega
              clear hk9 h0
              go_wp2_with fail
              refine (swrong_calls q 1 (by unfold isCode; omega) _ HL.out).mono ?_
              rintro e w1 ⟨v, rfl, h1, h2⟩
              have HF := Lib.hid (And.intro h1 h2)
              clear h1 h2
              go_wp2
              rw [Exit.noGoto_ret]
              go_ret3
              exact ⟨_, rfl, HF.out.1, HF.out.2⟩
            · have hRb : R = .ok (N + s[q + k].toNat % 128 * 128 ^ k) (q + k + 1) := by rw [← HRun.out, if_neg h0]
              subst hRb
              by_cases hz : s[q + k].toNat = 0
              · have hc3 : ((s[q + k].toNat : Int) == 0) = true := by simp [hz]
                have hk0 : (k : Int) ≤ 0 := by omega
                clear hk9 h0 hz
                go_wp2
                rw [Exit.noGoto_ret]
                go_ret3
                exact ⟨ret_uin HV.out (by omega), Below.refl _ _⟩
              · have hc3 : ((s[q + k].toNat : Int) == 0) = false := by simp; omega
                clear hk9 h0 hz
                go_wp2
                rw [Exit.noGoto_ret]
                go_ret3
                exact ⟨ret_uin HV.out (by omega), Below.refl _ _⟩
      · have hRb : R = .bad 2 := by
          rw [← HRun.out, List.drop_of_length_le (by simp; omega)]
          rfl
        subst hRb
        have hi1 : (s.size : Int) - (q : Int) ≤ (k : Int) := by omega
        go_wp2_with fail
        refine (swrong_calls q 2 (by unfold isCode; omega) _ HL.out).mono ?_
        rintro e w1 ⟨v, rfl, h1, h2⟩
        have HF := Lib.hid (And.intro h1 h2)
        clear h1 h2
        go_wp2
        rw [Exit.noGoto_ret]
        go_ret3
        exact ⟨_, rfl, HF.out.1, HF.out.2⟩
    · have hk11 : k = 10 := by omega
      have hRb : R = .bad 2 := by
        rw [← HRun.out]
        cases hd : s.data.toList.drop (q + k) with
        | nil => rfl
        | cons c r => rw [tgo_cons, if_pos hk11]
      subst hRb
      have hi1 : (10 : Int) ≤ (k : Int) := by omega
      clear hk11
      go_wp2_with fail
      refine (swrong_calls q 2 (by unfold isCode; omega) _ HL.out).mono ?_
      rintro e w1 ⟨v, rfl, h1, h2⟩
      have HF := Lib.hid (And.intro h1 h2)
      clear h1 h2
      go_wp2
      rw [Exit.noGoto_ret]
      go_ret3
      exact ⟨_, rfl, HF.out.1, HF.out.2⟩
end Go.Proofs.YtgjabbffpfhmjaaDoor
