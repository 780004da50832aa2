/- septet.TakeText, TakeInt, by their contracts. -/
import Derived.Test.YtgjabbffpfhmjaaDoorSTake
import Derived.Test.YtgjabbffpfhmjaaDoorIs
namespace Go.Proofs.YtgjabbffpfhmjaaDoor
open Go.RowKit Go.Extern.Stop Go.Stop Go.Extern Go.Proofs.YtgjabbffpfhmjaaDoorW.PrintWords

theorem tgo_next : ∀ (l : List UInt8) (p i N n nx : Nat), tgo p i N l = .ok n nx → p + i < nx ∧ nx ≤ p + i + l.length
  | [], p, i, N, n, nx, h => by cases h
  | c :: r, p, i, N, n, nx, h => by
    rw [tgo_cons] at h
    split at h
    · cases h
    split at h
    · cases h
    split at h
    · have := tgo_next r p (i + 1) _ n nx h
      simp only [List.length_cons]
      omega
    · split at h
      · cases h
      · cases h
        simp only [List.length_cons]
        omega
theorem stake_next {s : ByteArray} {p : Int} {n nx : Nat} (h : stake s p = .ok n nx) : 0 ≤ p ∧ p < nx ∧ nx ≤ s.size := by
  unfold stake at h
  split at h
  · cases h
  · rename_i h1
    have := tgo_next _ _ _ _ _ _ h
    rw [List.length_drop, data_len] at this
    omega
theorem tgo_code : ∀ (l : List UInt8) (p i N c : Nat), tgo p i N l = .bad c → isCode c
  | [], p, i, N, c, h => by cases h; unfold isCode; omega
  | x :: r, p, i, N, c, h => by
    rw [tgo_cons] at h
    split at h
    · cases h; unfold isCode; omega
    split at h
    · cases h; unfold isCode; omega
    split at h
    · exact tgo_code r p (i + 1) _ c h
    · split at h
      · cases h; unfold isCode; omega
      · cases h

/-- What taking a text comes to. -/
inductive TX where
  | ok (t : ByteArray) (next : Nat)
  | bad (c : Nat)
def stext_ (s : ByteArray) (p : Int) (most : Nat) : TX := match stake s p with
  | .bad c => .bad c
  | .ok n nx => if most < n then .bad 3 else if s.size - nx < n then .bad 2 else .ok (s.extract nx (nx + n)) (nx + n)
def XPost (sp : Nat → Addr) (p : Int) (w : World) : TX → Ending → World → Prop
  | .ok t next, e, w' => e = .returned (.tuple #[.string t, .int .i64 next, .nilIface]) ∧ Below w.heap.size w w'
  | .bad c, e, w' => ∃ v, e = .returned (.tuple #[.string ⟨#[]⟩, .int .i64 0, v]) ∧ IsErr sp w' v (.at p (.sent c)) ∧ Below w.heap.size w w'

set_option maxRecDepth 100000 in
set_option maxHeartbeats 8000000 in
theorem takeText_calls {sp : Nat → Addr} (s : ByteArray) (p : Int) (most : Nat) (w : World) (hL : Laid sp w) (hs : s.size ≤ 10000000) (hp : -9223372036854775808 ≤ p ∧ p ≤ 9223372036854775807) (hm : most ≤ 10000000) :
    Calls Tryd.prog 109 #[.string s, .int .i64 p, .int .i64 most] w fun e w' => XPost sp p w (stext_ s p most) e w' := by
  obtain ⟨R, hR⟩ : ∃ R, stext_ s p most = R := ⟨_, rfl⟩
  rw [hR]
  unfold stext_ at hR
  have HL := Lib.hid hL
  have HT := Lib.hid (take_calls (sp := sp) s p w hL hs hp)
  clear hL hp
  go_enter Tryd.func109, Tryd.ntmps109
  go_wp2_with fail
  refine HT.out.mono ?_
  cases ht : stake s p with
  | bad c =>
    rw [ht] at hR
    simp only at hR
    subst hR
    rintro e w1 ⟨v, rfl, he, hb⟩
    have HB := Lib.hid hb
    have HE := Lib.hid he
    have HL1 := Lib.hid (HL.out.below hb)
    have hv : w1.cell? ⟨5, 0, none⟩ = some (.iface 218 (.pointer (some (sp 4)))) := HL1.out.var 4 (by unfold isCode; omega)
    obtain ⟨t, a, rfl⟩ := he.form
    clear hb he ht
    go_wp2_with fail
    refine (is_calls 4 (by unfold isCode; omega) _ HL1.out _ _ HE.out).mono ?_
    rintro e w2 ⟨rfl, rfl⟩
    cases hc : ((Er.at p (.sent c)).code == 4) with
    | true =>
      go_wp2
      go_ret3
      exact ⟨_, rfl, HE.out, HB.out⟩
    | false =>
      go_wp2
      go_ret3
      exact ⟨_, rfl, HE.out, HB.out⟩
  | ok n nx =>
    obtain ⟨n0, n1, n2⟩ := stake_next ht
    rw [ht] at hR
    simp only at hR
    rintro e w1 ⟨rfl, hb⟩
    have HB := Lib.hid hb
    have HL1 := Lib.hid (HL.out.below hb)
    have hv : w1.cell? ⟨5, 0, none⟩ = some (.iface 218 (.pointer (some (sp 4)))) := HL1.out.var 4 (by unfold isCode; omega)
    clear hb ht
    go_wp2_with fail
    refine (is_nil _ _).mono ?_
    rintro e w2 ⟨rfl, rfl⟩
    by_cases h1 : most < n
    · rw [if_pos h1] at hR
      subst hR
      have h1' : (most : Int) < (n : Int) := by omega
      clear h1
      go_wp2_with fail
      refine (swrong_calls p 3 (by unfold isCode; omega) _ HL1.out).mono ?_
      rintro e w3 ⟨v, rfl, h1, h2⟩
      have HF := Lib.hid (And.intro h1 (below_trans HB.out h2))
      clear h1 h2
      go_wp2
      go_ret3
      exact ⟨_, rfl, HF.out.1, HF.out.2⟩
    · rw [if_neg h1] at hR
      have h1' : (n : Int) ≤ (most : Int) := by omega
      clear h1
      by_cases h2 : s.size - nx < n
      · rw [if_pos h2] at hR
        subst hR
        have h2' : (s.size : Int) - (nx : Int) < (n : Int) := by omega
        clear h2
        go_wp2_with fail
        refine (swrong_calls p 2 (by unfold isCode; omega) _ HL1.out).mono ?_
        rintro e w3 ⟨v, rfl, h1, h2⟩
        have HF := Lib.hid (And.intro h1 (below_trans HB.out h2))
        clear h1 h2
        go_wp2
        go_ret3
        exact ⟨_, rfl, HF.out.1, HF.out.2⟩
      · rw [if_neg h2] at hR
        subst hR
        have h2' : (n : Int) ≤ (s.size : Int) - (nx : Int) := by omega
        have e1 : ((nx : Int) + (n : Int)).toNat = nx + n := by omega
        have e2 : (nx : Int) + (n : Int) ≤ (s.size : Int) := by omega
        have e3 : (nx : Int) ≤ (nx : Int) + (n : Int) := by omega
        clear h2
        go_wp2
        go_ret3
        exact ⟨rfl, HB.out⟩

def zag (n : Nat) : Int := if n % 2 = 0 then n / 2 else -(n / 2 : Nat) - 1
theorem tgo_lt : ∀ (l : List UInt8) (p i N n nx : Nat), N < 128 ^ i → i ≤ 10 → tgo p i N l = .ok n nx → n < 18446744073709551616
  | [], p, i, N, n, nx, _, _, h => by cases h
  | c :: r, p, i, N, n, nx, hN, hi, h => by
    rw [tgo_cons] at h
    split at h
    · cases h
    split at h
    · cases h
    rename_i h10 h9
    obtain ⟨_, e2, e3⟩ := seven_val N i c hN (by omega) (fun e => by omega)
    split at h
    · exact tgo_lt r p (i + 1) _ n nx e2 (by omega) h
    · split at h
      · cases h
      · cases h
        exact e3
theorem stake_lt {s : ByteArray} {p : Int} {n nx : Nat} (h : stake s p = .ok n nx) : n < 18446744073709551616 := by
  unfold stake at h
  split at h
  · cases h
  · exact tgo_lt _ _ _ _ _ _ (by decide) (by decide) h
theorem zag_bits (n : Nat) (h : n < 18446744073709551616) : bits BinOp.xor IntKind.i64 (wrap64 ((n : Int) / 2)) (wrap64 (-wrap64 (bits BinOp.and IntKind.u64 (n : Int) 1))) = zag n := by
  have e1 : bits BinOp.and IntKind.u64 (n : Int) 1 = ((n % 2 : Nat) : Int) := by
    rw [show (1 : Int) = ((1 : Nat) : Int) from rfl, u64_and_nat n 1 h (by decide), Nat.and_one_is_mod]
  have e2 : wrap64 ((n : Int) / 2) = ((n / 2 : Nat) : Int) := by unfold wrap64; omega
  rw [e1, e2]
  unfold zag
  rcases Nat.mod_two_eq_zero_or_one n with h0 | h0
  · rw [h0, if_pos rfl]
    show IntKind.i64.wrap ((BitVec.ofInt 64 ((n / 2 : Nat) : Int) ^^^ BitVec.ofInt 64 (wrap64 (-wrap64 ((0 : Nat) : Int)))).toNat : Int) = _
    rw [show BitVec.ofInt 64 (wrap64 (-wrap64 ((0 : Nat) : Int))) = 0#64 by decide +kernel, BitVec.xor_zero, ofInt_u64 _ (by omega), IntKind.wrap_i64]
    omega
  · rw [h0, if_neg (by decide)]
    show IntKind.i64.wrap ((BitVec.ofInt 64 ((n / 2 : Nat) : Int) ^^^ BitVec.ofInt 64 (wrap64 (-wrap64 ((1 : Nat) : Int)))).toNat : Int) = _
    rw [show BitVec.ofInt 64 (wrap64 (-wrap64 ((1 : Nat) : Int))) = BitVec.allOnes 64 by decide +kernel, BitVec.xor_comm, BitVec.allOnes_xor, BitVec.toNat_not, ofInt_u64 _ (by omega), IntKind.wrap_i64]
    omega
theorem takeInt_calls {sp : Nat → Addr} (s : ByteArray) (p : Int) (w : World) (hL : Laid sp w) (hs : s.size ≤ 10000000) (hp : -9223372036854775808 ≤ p ∧ p ≤ 9223372036854775807) :
    Calls Tryd.prog 92 #[.string s, .int .i64 p] w fun e w' => match stake s p with
      | .ok n nx => e = .returned (.tuple #[.int .i64 (zag n), .int .i64 nx, .nilIface]) ∧ Below w.heap.size w w'
      | .bad c => ∃ v, e = .returned (.tuple #[.int .i64 0, .int .i64 0, v]) ∧ IsErr sp w' v (.at p (.sent c)) ∧ Below w.heap.size w w' := by
  have HT := Lib.hid (take_calls (sp := sp) s p w hL hs hp)
  clear hL hp
  obtain ⟨R, hR⟩ : ∃ R, stake s p = R := ⟨_, rfl⟩
  rw [hR] at HT ⊢
  cases R with
  | bad c =>
    go_enter Tryd.func92, Tryd.ntmps92
    go_wp2_with fail
    refine HT.out.mono ?_
    rintro e w1 ⟨v, rfl, he, hb⟩
    have HB := Lib.hid hb
    have HE := Lib.hid he
    obtain ⟨t, a, rfl⟩ := he.form
    clear hb he
    go_wp2
    go_ret3
    exact ⟨_, rfl, HE.out, HB.out⟩
  | ok n nx =>
    go_enter Tryd.func92, Tryd.ntmps92
    go_wp2_with fail
    refine HT.out.mono ?_
    rintro e w1 ⟨rfl, hb⟩
    have HB := Lib.hid hb
    have HZ := Lib.hid (zag_bits n (stake_lt hR))
    clear hb
    go_wp2
    go_ret3
    rw [HZ.out]
    exact ⟨rfl, HB.out⟩
end Go.Proofs.YtgjabbffpfhmjaaDoor
