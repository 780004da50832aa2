/- philtrelaw04.QuoteBack answers true. -/
import Derived.Test.YtgjabbffpfhmjaaDoorAwake4
namespace Go.Proofs.YtgjabbffpfhmjaaDoor
open Go.RowKit Go.Extern.Stop Go.Stop Go.Extern Go.Proofs.YtgjabbffpfhmjaaDoorW.PrintWords

/-! ### the plain laws -/
theorem byte_all {p : UInt8 → Prop} (h : ∀ n : Fin 256, p (UInt8.ofNat n.val)) (c : UInt8) : p c := by
  have := h ⟨c.toNat, c.toNat_lt⟩
  simpa using this
theorem two_sgn (c : UInt8) : ¬ hexv (sgn (c.toNat / 16)) < 0 ∧ ¬ hexv (sgn (c.toNat % 16)) < 0 ∧ two (sgn (c.toNat / 16)) (sgn (c.toNat % 16)) = c := by
  have h : ∀ n : Fin 256, ¬ hexv (sgn ((UInt8.ofNat n.val).toNat / 16)) < 0 ∧ ¬ hexv (sgn ((UInt8.ofNat n.val).toNat % 16)) < 0 ∧ two (sgn ((UInt8.ofNat n.val).toNat / 16)) (sgn ((UInt8.ofNat n.val).toNat % 16)) = UInt8.ofNat n.val := by decide +kernel
  exact byte_all (p := fun c => ¬ hexv (sgn (c.toNat / 16)) < 0 ∧ ¬ hexv (sgn (c.toNat % 16)) < 0 ∧ two (sgn (c.toNat / 16)) (sgn (c.toNat % 16)) = c) h c
theorem qrun_enc : ∀ (l : List UInt8) (i : Nat) (out : List UInt8), qrun i (l.flatMap encB) out = .ok (out ++ l)
  | [], i, out => by rw [List.flatMap_nil, qrun.eq_def]; simp
  | c :: l, i, out => by
    rw [List.flatMap_cons]
    cases hp : plainB c.toNat with
    | true =>
      have : encB c = [c] := by unfold encB; rw [if_pos hp]
      rw [this, List.singleton_append, qrun.eq_def]
      simp only
      rw [if_pos hp, qrun_enc l]
      simp
    | false =>
      have : encB c = [37, sgn (c.toNat / 16), sgn (c.toNat % 16)] := by unfold encB; rw [if_neg (by rw [hp]; decide)]
      obtain ⟨h1, h2, h3⟩ := two_sgn c
      rw [this, List.cons_append, List.cons_append, List.cons_append, List.nil_append, qrun.eq_def]
      simp only
      rw [if_neg (by decide), if_neg (by decide), if_neg h1, if_neg h2, h3, if_neg (by rw [hp]; decide), qrun_enc l]
      simp
theorem enc_head (c : UInt8) : (encB c).head? ≠ some 45 ∧ encB c ≠ [] ∧ (∀ b ∈ encB c, 32 < b.toNat ∧ b.toNat < 127) := by
  have h : ∀ n : Fin 256, (encB (UInt8.ofNat n.val)).head? ≠ some 45 ∧ encB (UInt8.ofNat n.val) ≠ [] ∧ (∀ b ∈ encB (UInt8.ofNat n.val), 32 < b.toNat ∧ b.toNat < 127) := by decide +kernel
  exact byte_all (p := fun c => (encB c).head? ≠ some 45 ∧ encB c ≠ [] ∧ (∀ b ∈ encB c, 32 < b.toNat ∧ b.toNat < 127)) h c
theorem parse_print (s : ByteArray) : qparse (qprint s) = .ok s.data.toList := by
  by_cases h0 : s.size = 0
  · obtain rfl := str_none h0
    kernel_rfl
  · unfold qprint
    rw [if_neg h0]
    obtain ⟨c, r, hl⟩ : ∃ c r, s.data.toList = c :: r := by
      cases h : s.data.toList with
      | nil => exact absurd (by have := data_len s; rw [h] at this; exact this.symm) h0
      | cons c r => exact ⟨c, r, rfl⟩
    obtain ⟨e1, e2, _⟩ := enc_head c
    have hne : (s.data.toList.flatMap encB) ≠ [] := by rw [hl, List.flatMap_cons]; simp [e2]
    have hnd : (s.data.toList.flatMap encB) ≠ [45] := by
      rw [hl, List.flatMap_cons]
      cases hc : encB c with
      | nil => exact absurd hc e2
      | cons x y => rw [hc] at e1; intro h; simp at h; simp [h.1] at e1
    unfold qparse
    rw [if_neg (by show (s.data.toList.flatMap encB).toArray.size ≠ 0; rw [List.size_toArray]; exact fun e => hne (List.eq_nil_of_length_eq_zero e)), if_neg (by show ¬ (s.data.toList.flatMap encB) = [45]; exact hnd)]
    show qrun 0 (s.data.toList.flatMap encB) [] = _
    rw [qrun_enc]
    simp
theorem print_bytes (s : ByteArray) : (qprint s).size ≠ 0 ∧ ∀ k (h : k < (qprint s).size), 32 < (qprint s)[k].toNat ∧ (qprint s)[k].toNat < 127 := by
  unfold qprint
  split
  · refine ⟨by decide, fun k h => ?_⟩
    have h : k < 1 := h
    obtain rfl : k = 0 := by omega
    show 32 < (45 : UInt8).toNat ∧ (45 : UInt8).toNat < 127
    decide
  · rename_i h0
    refine ⟨?_, fun k h => ?_⟩
    · show (s.data.toList.flatMap encB).toArray.size ≠ 0
      cases h : s.data.toList with
      | nil => exact absurd (by have := data_len s; rw [h] at this; exact this.symm) h0
      | cons c r => rw [List.flatMap_cons]; simp [(enc_head c).2.1]
    · have hk : k < (s.data.toList.flatMap encB).length := by
        have h' : k < (s.data.toList.flatMap encB).toArray.size := h
        rw [List.size_toArray] at h'
        exact h'
      have hm : (s.data.toList.flatMap encB)[k]'hk ∈ s.data.toList.flatMap encB := List.getElem_mem _
      obtain ⟨c, _, hb⟩ := List.mem_flatMap.1 hm
      exact (enc_head c).2.2 _ hb
theorem sgn_of (a : UInt8) (h : ¬ hexv a < 0) : ∃ i, i < 16 ∧ a = sgn i := by
  have h1 : ∀ n : Fin 256, ¬ hexv (UInt8.ofNat n.val) < 0 → ∃ i : Fin 16, UInt8.ofNat n.val = sgn i.val := by decide +kernel
  obtain ⟨i, hi⟩ := byte_all (p := fun a => ¬ hexv a < 0 → ∃ i : Fin 16, a = sgn i.val) h1 a h
  exact ⟨i.val, i.isLt, hi⟩
theorem sgn_two (i j : Nat) (hi : i < 16) (hj : j < 16) : sgn ((two (sgn i) (sgn j)).toNat / 16) = sgn i ∧ sgn ((two (sgn i) (sgn j)).toNat % 16) = sgn j := by
  have h : ∀ i j : Fin 16, sgn ((two (sgn i.val) (sgn j.val)).toNat / 16) = sgn i.val ∧ sgn ((two (sgn i.val) (sgn j.val)).toNat % 16) = sgn j.val := by decide +kernel
  exact h ⟨i, hi⟩ ⟨j, hj⟩
theorem qrun_back : ∀ (n : Nat) (l : List UInt8) (i : Nat) (out u : List UInt8), l.length ≤ n → qrun i l out = .ok u → ∃ v, u = out ++ v ∧ v.flatMap encB = l
  | n, [], i, out, u, _, h => by
    rw [qrun.eq_def] at h
    cases h
    exact ⟨[], by simp, by simp⟩
  | 0, c :: r, i, out, u, hn, h => by simp at hn
  | n + 1, c :: r, i, out, u, hn, h => by
    rw [qrun.eq_def] at h
    simp only at h
    simp only [List.length_cons] at hn
    by_cases hp : plainB c.toNat = true
    · rw [if_pos hp] at h
      obtain ⟨v, rfl, hv⟩ := qrun_back n r _ _ u (by omega) h
      exact ⟨c :: v, by simp, by rw [List.flatMap_cons, hv]; simp [encB, hp]⟩
    · rw [if_neg hp] at h
      by_cases h37 : c.toNat ≠ 37
      · rw [if_pos h37] at h; cases h
      rw [if_neg h37] at h
      cases r with
      | nil => cases h
      | cons a r1 =>
        simp only at h
        by_cases ha : hexv a < 0
        · rw [if_pos ha] at h; cases h
        rw [if_neg ha] at h
        cases r1 with
        | nil => cases h
        | cons b r2 =>
          simp only at h
          by_cases hb : hexv b < 0
          · rw [if_pos hb] at h; cases h
          rw [if_neg hb] at h
          by_cases h2 : plainB (two a b).toNat = true
          · rw [if_pos h2] at h; cases h
          rw [if_neg h2] at h
          simp only [List.length_cons] at hn
          obtain ⟨v, rfl, hv⟩ := qrun_back n r2 _ _ u (by omega) h
          obtain ⟨x, hx, rfl⟩ := sgn_of a ha
          obtain ⟨y, hy, rfl⟩ := sgn_of b hb
          obtain ⟨e1, e2⟩ := sgn_two x y hx hy
          have hc : c = 37 := UInt8.toNat_inj.1 (by simpa using h37)
          exact ⟨two (sgn x) (sgn y) :: v, by simp, by rw [List.flatMap_cons, hv, encB, if_neg h2, e1, e2, hc]; rfl⟩
theorem print_parse (w : ByteArray) (u : List UInt8) (h : qparse w = .ok u) : qprint ⟨u.toArray⟩ = w ∧ u.length ≤ w.size := by
  unfold qparse at h
  by_cases h0 : w.size = 0
  · rw [if_pos h0] at h; cases h
  rw [if_neg h0] at h
  by_cases h1 : w.data.toList = [45]
  · rw [if_pos h1] at h
    cases h
    obtain rfl : w = ⟨#[45]⟩ := str_ext h1
    exact ⟨by kernel_rfl, by decide⟩
  rw [if_neg h1] at h
  obtain ⟨v, hv, hw⟩ := qrun_back _ _ _ _ _ (Nat.le_refl _) h
  obtain rfl : u = v := by simpa using hv
  have hlen : ∀ v : List UInt8, v.length ≤ (v.flatMap encB).length := fun v => by
    induction v with
    | nil => simp
    | cons c v ih =>
      rw [List.flatMap_cons, List.length_append, List.length_cons]
      have := List.length_pos_iff.2 (enc_head c).2.1
      omega
  have hl := hlen u
  rw [hw, data_len] at hl
  refine ⟨?_, hl⟩
  have hne : ¬ (⟨u.toArray⟩ : ByteArray).size = 0 := by
    show ¬ u.toArray.size = 0
    intro hz
    obtain rfl : u = [] := by simpa using hz
    have := data_len w
    rw [← hw] at this
    exact h0 this.symm
  unfold qprint
  rw [if_neg hne]
  exact str_ext (by simpa using hw)

/-! ### the walk -/
set_option maxRecDepth 100000 in
set_option maxHeartbeats 4000000 in
theorem quoteBack_calls {sp : Nat → Addr} (s u : ByteArray) (w : World) (hL : Laid sp w) (m : Int) (hm : w.cell? ⟨21, 0, none⟩ = some (.int .i64 m)) :
    Calls Tryd.prog 6 #[.string s, .string u] w fun e w' => e = .returned (.bool true) ∧ Below w.heap.size w w' := by
  have HL := Lib.hid hL
  have HM := Lib.hid hm
  clear hL hm
  go_enter Tryd.func6, Tryd.ntmps6
  by_cases h1 : 500 < s.size
  · go_wp2_with fail
    refine (awake4_calls _ HL.out m HM.out).mono ?_
    rintro e w1 ⟨rfl, hb⟩
    have HB := Lib.hid hb
    clear hb
    go_wp2
    go_ret
    exact ⟨rfl, HB.out⟩
  by_cases h2 : 500 < u.size
  · go_wp2_with fail
    refine (awake4_calls _ HL.out m HM.out).mono ?_
    rintro e w1 ⟨rfl, hb⟩
    have HB := Lib.hid hb
    clear hb
    go_wp2
    go_ret
    exact ⟨rfl, HB.out⟩
  have hps : (qprint s).size ≤ 1600 := by
    unfold qprint
    split
    · decide
    · show (s.data.toList.flatMap encB).toArray.size ≤ 1600
      have h3 := enc_len s.data.toList
      rw [data_len] at h3
      simp only [List.size_toArray]
      omega
  have HPP := Lib.hid (fun w (hL : Laid sp w) => parse_calls (sp := sp) (qprint s) w hL (by omega))
  rw [parse_print] at HPP
  have HQ := Lib.hid (fun w => print_any s w (by omega))
  have HP := Lib.hid (fun w (hL : Laid sp w) => parse_calls (sp := sp) u w hL (by omega))
  obtain ⟨hp0, hpb⟩ := print_bytes s
  have HB := Lib.hid hpb
  have hpe : (qprint s).toList.isEmpty = false := str_some hp0
  clear hpb hp0
  generalize qprint s = p at HPP HQ HB hpe hps
  go_wp2_with fail
  refine (HQ.out _).mono ?_
  rintro e w1 ⟨rfl, hb1⟩
  have HB1 := Lib.hid hb1
  clear hb1
  go_wp2_with fail
  refine (HPP.out _ (HL.out.below HB1.out)).mono ?_
  rintro e w2 ⟨rfl, hb2⟩
  have HB2 := Lib.hid (below_trans HB1.out hb2)
  clear hb2
  rw [show (⟨s.data.toList.toArray⟩ : ByteArray) = s from rfl]
  have t0 : (s.toList == s.toList) = true := by simp
  have t1 : (!(s.toList == s.toList)) = false := by simp
  go_wp2_with fail
  go_loopw [8] (fun i wl => ∃ k : Nat, i = .int .i64 k ∧ k ≤ p.size ∧ Below w.heap.size w wl) (fun i _ => p.size - (intOf i).toNat)
  case atStart => exact ⟨0, rfl, by omega, HB2.out⟩
  case round =>
    obtain ⟨k, rfl, hk, hbl⟩ := hrel
    have HBl := Lib.hid hbl
    clear hbl
    by_cases hlt : k < p.size
    · obtain ⟨b1, b2⟩ := HB.out k hlt
      have c1 : (32 : Int) < (p[k].toNat : Int) := by omega
      have c2 : (p[k].toNat : Int) < 127 := by omega
      clear b1 b2
      go_wp2
      go_roundw
      case rel => exact ⟨k + 1, by go_num, by omega, HBl.out⟩
      case measure => simp [intOf]; omega
    · cases hq : qparse u with
      | ok l =>
        obtain ⟨e1, e2⟩ := print_parse u l hq
        rw [hq] at HP
        have hls : (⟨l.toArray⟩ : ByteArray).size = l.length := by show l.toArray.size = _; simp
        have HQ2 := Lib.hid (fun w => print_any ⟨l.toArray⟩ w (by omega))
        rw [e1] at HQ2
        have t2 : (u.toList == u.toList) = true := by simp
        clear hq e1 hls
        go_wp2_with fail
        refine (HP.out _ (HL.out.below HBl.out)).mono ?_
        rintro e w3 ⟨rfl, hb3⟩
        have HB3 := Lib.hid (below_trans HBl.out hb3)
        clear hb3
        go_wp2_with fail
        refine (HQ2.out _).mono ?_
        rintro e w4 ⟨rfl, hb4⟩
        have HB4 := Lib.hid (below_trans HB3.out hb4)
        clear hb4
        go_wp2_with fail
        refine (awake4_calls _ (HL.out.below HB4.out) m (cell_below HB4.out HM.out)).mono ?_
        rintro e w5 ⟨rfl, hb5⟩
        have HB5 := Lib.hid (below_trans HB4.out hb5)
        clear hb5
        go_wp2
        go_ret
        exact ⟨rfl, HB5.out⟩
      | bad q c =>
        rw [hq] at HP
        clear hq
        go_wp2_with fail
        refine (HP.out _ (HL.out.below HBl.out)).mono ?_
        rintro e w3 ⟨v, rfl, he, hb3⟩
        have HB3 := Lib.hid (below_trans HBl.out hb3)
        obtain ⟨t, a, rfl⟩ := he.form
        clear hb3 he
        go_wp2_with fail
        refine (awake4_calls _ (HL.out.below HB3.out) m (cell_below HB3.out HM.out)).mono ?_
        rintro e w4 ⟨rfl, hb4⟩
        have HB4 := Lib.hid (below_trans HB3.out hb4)
        clear hb4
        go_wp2
        go_ret
        exact ⟨rfl, HB4.out⟩
end Go.Proofs.YtgjabbffpfhmjaaDoor
