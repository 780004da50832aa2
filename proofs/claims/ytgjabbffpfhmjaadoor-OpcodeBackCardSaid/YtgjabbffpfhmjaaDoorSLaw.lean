/- Plain laws of the septets: what is put is taken again; what is taken is what is put. No program in sight. -/
import Derived.Test.YtgjabbffpfhmjaaDoorSText
namespace Go.Proofs.YtgjabbffpfhmjaaDoor
open Go.RowKit Go

theorem pow_pos (i : Nat) : 0 < 128 ^ i := Nat.pow_pos (by decide)
theorem tgo_put : ∀ (k m p i N : Nat) (r : List UInt8), m ≤ k → m * 128 ^ i < 18446744073709551616 → i ≤ 9 → (0 < i → 0 < m) → tgo p i N (sput m ++ r) = .ok (N + m * 128 ^ i) (p + i + (sput m).length)
  | k, m, p, i, N, r, hk, hm, hi, hpos => by
    have hp := pow_pos i
    by_cases h : m < 128
    · rw [sput_small h, List.singleton_append, tgo_cons, if_neg (by omega)]
      have hc : (UInt8.ofNat m).toNat = m := by simp; omega
      rw [hc, if_neg, if_neg (by omega), if_neg (by omega), Nat.mod_eq_of_lt h]
      · simp
      · rintro ⟨rfl, h1⟩
        have h2 : 2 * 128 ^ 9 ≤ m * 128 ^ 9 := Nat.mul_le_mul_right _ h1
        have h3 : 2 * 128 ^ 9 = 18446744073709551616 := by decide
        omega
    · have hi9 : i < 9 := by
        rcases Nat.lt_or_ge i 9 with h9 | h9
        · exact h9
        · obtain rfl : i = 9 := by omega
          have h2 : 128 * 128 ^ 9 ≤ m * 128 ^ 9 := Nat.mul_le_mul_right _ (by omega)
          have h3 : 128 * 128 ^ 9 > 18446744073709551616 := by decide
          omega
      rw [sput_great h, List.cons_append, tgo_cons, if_neg (by omega), if_neg (by omega)]
      have hc : (UInt8.ofNat (m % 128 + 128)).toNat = m % 128 + 128 := by simp; omega
      have hdm : m / 128 * 128 ^ (i + 1) + m % 128 * 128 ^ i = m * 128 ^ i := by
        rw [Nat.pow_succ, Nat.mul_comm (128 ^ i) 128, ← Nat.mul_assoc, ← Nat.add_mul]
        congr 1
        omega
      match k, hk with
      | 0, hk => omega
      | k + 1, hk =>
        rw [hc, if_pos (by omega), tgo_put k (m / 128) p (i + 1) _ r (by omega) (by omega) (by omega) (fun _ => by omega)]
        have e1 : (m % 128 + 128) % 128 = m % 128 := by omega
        rw [e1, List.length_cons]
        congr 1
        · omega
        · omega
theorem tgo_back : ∀ (l : List UInt8) (p i N n nx : Nat), tgo p i N l = .ok n nx → ∃ m r, n = N + m * 128 ^ i ∧ l = sput m ++ r ∧ nx = p + i + (sput m).length ∧ (0 < i → 0 < m)
  | [], p, i, N, n, nx, h => by cases h
  | c :: l, p, i, N, n, nx, h => by
    rw [tgo_cons] at h
    split at h
    · cases h
    split at h
    · cases h
    split at h
    · rename_i h128
      obtain ⟨m, r, e1, e2, e3, e4⟩ := tgo_back l p (i + 1) _ n nx h
      have hm := e4 (by omega)
      have hc := c.toNat_lt
      have hg : ¬ (c.toNat % 128 + m * 128) < 128 := by omega
      have hc2 : UInt8.ofNat ((c.toNat % 128 + m * 128) % 128 + 128) = c := by
        apply UInt8.toNat_inj.1
        simp
        omega
      refine ⟨c.toNat % 128 + m * 128, r, ?_, ?_, ?_, fun _ => by omega⟩
      · rw [e1, Nat.pow_succ, Nat.add_mul, Nat.mul_assoc m 128, Nat.mul_comm 128]
        omega
      · rw [sput_great hg, hc2, show (c.toNat % 128 + m * 128) / 128 = m by omega, e2]
        rfl
      · rw [sput_great hg, List.length_cons, show (c.toNat % 128 + m * 128) / 128 = m by omega]
        omega
    · split at h
      · cases h
      · rename_i h128 hz
        cases h
        refine ⟨c.toNat, l, ?_, ?_, ?_, fun _ => by omega⟩
        · rw [Nat.mod_eq_of_lt (by omega)]
        · rw [sput_small (by omega)]
          simp
        · rw [sput_small (by omega)]
          simp
/-- A number at place p. -/
theorem stake_put {s : ByteArray} {p : Nat} (n : Nat) (r : List UInt8) (hn : n < 18446744073709551616) (hp : p ≤ s.size) (h : s.data.toList.drop p = sput n ++ r) : stake s p = .ok n (p + (sput n).length) := by
  unfold stake
  rw [if_neg (by omega), Int.toNat_natCast, h, tgo_put n n p 0 0 r (Nat.le_refl _) (by simpa using hn) (by decide) (fun h => absurd h (by decide))]
  simp
theorem stake_back {s : ByteArray} {p n nx : Nat} (h : stake s p = .ok n nx) : ∃ r, s.data.toList.drop p = sput n ++ r ∧ nx = p + (sput n).length ∧ n < 18446744073709551616 := by
  have hlt := stake_lt h
  unfold stake at h
  split at h
  · cases h
  · rw [Int.toNat_natCast] at h
    obtain ⟨m, r, e1, e2, e3, _⟩ := tgo_back _ _ _ _ _ _ h
    obtain rfl : n = m := by simpa using e1
    exact ⟨r, e2, by simpa using e3, hlt⟩
theorem zag_zig (x : Int) : zag (zig x) = x := by
  unfold zag zig
  split <;> split <;> omega
theorem zig_zag (n : Nat) : zig (zag n) = n := by
  unfold zag zig
  split <;> split <;> omega
end Go.Proofs.YtgjabbffpfhmjaaDoor
