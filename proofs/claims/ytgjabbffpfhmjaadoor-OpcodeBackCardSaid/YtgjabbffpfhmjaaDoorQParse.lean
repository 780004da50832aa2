/- quote.Parse, by its contract. -/
import Derived.Test.YtgjabbffpfhmjaaDoorQPrint
import Derived.Test.YtgjabbffpfhmjaaDoorPlaces
namespace Go.Proofs.YtgjabbffpfhmjaaDoor
open Go.RowKit Go.Extern.Stop Go.Stop Go.Extern Go.Proofs.YtgjabbffpfhmjaaDoorW.PrintWords

theorem qwrong_calls {sp : Nat → Addr} (p : Int) (c : Nat) (hc : isCode c) (w : World) (hL : Laid sp w) :
    Calls Tryd.prog 53 #[.int .i64 p, .int .i64 c] w fun r w' => ∃ v', r = .returned v' ∧ IsErr sp w' v' (.at p (.sent c)) ∧ Below w.heap.size w w' := by
  have HL := Lib.hid hL
  have HC := Lib.hid hc
  clear hL hc
  go_enter Tryd.func53, Tryd.ntmps53
  go_wp2_with (go_at_call 47; refine (new_calls c HC.out _ HL.out).mono ?_; rintro e w' ⟨rfl, rfl⟩)
  refine (at_calls (sp := sp) p _ (.sent c) _ (.sent c HC.out)).mono ?_
  rintro e w1 ⟨v', rfl, h1, h2⟩
  have HF := Lib.hid (And.intro h1 h2)
  clear h1 h2
  go_wp2
  go_ret
  exact ⟨_, rfl, HF.out.1, HF.out.2⟩

/-- The digit that a sign is; -1: none. -/
def hexv (c : UInt8) : Int := Lib.indexByte signs c
theorem hexv_lt (c : UInt8) : hexv c < 16 := by
  have h : ∀ n : Fin 256, hexv (UInt8.ofNat n.val) < 16 := by decide +kernel
  have := h ⟨c.toNat, c.toNat_lt⟩
  simpa using this
theorem hexv_ge (c : UInt8) : -1 ≤ hexv c := by
  have h : ∀ n : Fin 256, -1 ≤ hexv (UInt8.ofNat n.val) := by decide +kernel
  have := h ⟨c.toNat, c.toNat_lt⟩
  simpa using this

theorem digit_short {sp : Nat → Addr} (s : ByteArray) (b : Nat) (p : Int) (hp : (s.size : Int) ≤ p) (hs : s.size ≤ 10000000) (w : World) (hL : Laid sp w) (hw : w.cell? ⟨b, 0, none⟩ = some (.string s)) :
    Calls Tryd.prog 54 #[.int .i64 p, .pointer (some ⟨b, 0, none⟩)] w fun r w' => ∃ v', r = .returned (.tuple #[.int .u8 0, v']) ∧ IsErr sp w' v' (.at s.size (.sent 2)) ∧ Below w.heap.size w w' := by
  have HL := Lib.hid hL
  clear hL
  go_enter Tryd.func54, Tryd.ntmps54
  go_wp2_with (go_at_call 53; refine (qwrong_calls (s.size : Int) 2 (by unfold isCode; omega) _ HL.out).mono ?_)
  rintro e w1 ⟨v', rfl, h1, h2⟩
  have HF := Lib.hid (And.intro h1 h2)
  clear h1 h2
  go_wp2
  go_ret2
  exact ⟨_, rfl, HF.out.1, HF.out.2⟩
theorem digit_bad {sp : Nat → Addr} (s : ByteArray) (b : Nat) (n : Nat) (p : Int) (hpn : p = n) (hp : n < s.size) (hh : hexv s[n] < 0) (hs : s.size ≤ 10000000) (w : World) (hL : Laid sp w) (hw : w.cell? ⟨b, 0, none⟩ = some (.string s)) :
    Calls Tryd.prog 54 #[.int .i64 p, .pointer (some ⟨b, 0, none⟩)] w fun r w' => ∃ v', r = .returned (.tuple #[.int .u8 0, v']) ∧ IsErr sp w' v' (.at p (.sent 1)) ∧ Below w.heap.size w w' := by
  subst hpn
  have HL := Lib.hid hL
  have HX := Lib.hid ((Tryd.strings_IndexByte ⟨#[48, 49, 50, 51, 52, 53, 54, 55, 56, 57, 97, 98, 99, 100, 101, 102]⟩ (s[n].toNat : Int) w))
  have hv : hexv s[n] = Lib.indexByte (⟨#[48, 49, 50, 51, 52, 53, 54, 55, 56, 57, 97, 98, 99, 100, 101, 102]⟩ : ByteArray).data.toList ((s[n].toNat : Int).toNat.toUInt8) := by simp [hexv, signs]
  rw [← hv] at HX
  generalize hexv s[n] = h at HX hh
  clear hL hv
  go_enter Tryd.func54, Tryd.ntmps54
  go_wp2_with (first | (go_at_call 55; refine HX.out.mono ?_; rintro e w' ⟨rfl, rfl⟩) | (go_at_call 53; refine (qwrong_calls (n : Int) 1 (by unfold isCode; omega) _ HL.out).mono ?_))
  rintro e w1 ⟨v', rfl, h1, h2⟩
  have HF := Lib.hid (And.intro h1 h2)
  clear h1 h2
  go_wp2
  go_ret2
  exact ⟨_, rfl, HF.out.1, HF.out.2⟩
theorem digit_ok (s : ByteArray) (b : Nat) (n : Nat) (p : Int) (hpn : p = n) (hp : n < s.size) (hh : 0 ≤ hexv s[n]) (hs : s.size ≤ 10000000) (w : World) (hw : w.cell? ⟨b, 0, none⟩ = some (.string s)) :
    Calls Tryd.prog 54 #[.int .i64 p, .pointer (some ⟨b, 0, none⟩)] w fun r w' => r = .returned (.tuple #[.int .u8 (hexv s[n]), .nilIface]) ∧ w' = w := by
  subst hpn
  have HX := Lib.hid ((Tryd.strings_IndexByte ⟨#[48, 49, 50, 51, 52, 53, 54, 55, 56, 57, 97, 98, 99, 100, 101, 102]⟩ (s[n].toNat : Int) w))
  have hv : hexv s[n] = Lib.indexByte (⟨#[48, 49, 50, 51, 52, 53, 54, 55, 56, 57, 97, 98, 99, 100, 101, 102]⟩ : ByteArray).data.toList ((s[n].toNat : Int).toNat.toUInt8) := by simp [hexv, signs]
  rw [← hv] at HX
  have hl := hexv_lt s[n]
  generalize hexv s[n] = h at HX hh hl
  clear hv
  go_enter Tryd.func54, Tryd.ntmps54
  go_wp2_with (go_at_call 55; refine HX.out.mono ?_; rintro e w' ⟨rfl, rfl⟩)
  go_ret2
  exact ⟨rfl, rfl⟩

/-! ### quote.Parse -/
/-- What reading comes to: the bytes, or an error's place and code. -/
inductive QR where
  | ok (l : List UInt8)
  | bad (p : Nat) (c : Nat)
def two (a b : UInt8) : UInt8 := UInt8.ofNat (16 * (hexv a).toNat + (hexv b).toNat)
theorem or_hex (a b : Int) (ha : 0 ≤ a) (ha' : a < 16) (hb : 0 ≤ b) (hb' : b < 16) : bits BinOp.or IntKind.u8 (a * 16) b = 16 * a + b := by
  have h : ∀ x y : Fin 16, bits BinOp.or IntKind.u8 ((x.val : Int) * 16) (y.val : Int) = 16 * (x.val : Int) + (y.val : Int) := by decide +kernel
  obtain ⟨n, rfl⟩ := Int.eq_ofNat_of_zero_le ha
  obtain ⟨m, rfl⟩ := Int.eq_ofNat_of_zero_le hb
  exact h ⟨n, by omega⟩ ⟨m, by omega⟩
theorem two_int (a b : UInt8) (ha : 0 ≤ hexv a) (hb : 0 ≤ hexv b) : 16 * hexv a + hexv b = ((two a b).toNat : Int) := by
  have h1 := hexv_lt a
  have h2 := hexv_lt b
  unfold two
  obtain ⟨n, hn⟩ := Int.eq_ofNat_of_zero_le ha
  obtain ⟨m, hm⟩ := Int.eq_ofNat_of_zero_le hb
  have h3 : n < 16 := by omega
  have h4 : m < 16 := by omega
  rw [hn, hm]
  simp
  omega
theorem or_two (a b : UInt8) (ha : 0 ≤ hexv a) (hb : 0 ≤ hexv b) : bits BinOp.or IntKind.u8 (hexv a * 16) (hexv b) = ((two a b).toNat : Int) := by
  rw [or_hex _ _ ha (hexv_lt a) hb (hexv_lt b), two_int a b ha hb]
def qrun : Nat → List UInt8 → List UInt8 → QR
  | _, [], out => .ok out
  | i, c :: r, out => if plainB c.toNat = true then qrun (i + 1) r (out ++ [c]) else if c.toNat ≠ 37 then .bad i 1 else
    match r with
    | [] => .bad (i + 1) 2
    | h :: r1 => if hexv h < 0 then .bad (i + 1) 1 else
      match r1 with
      | [] => .bad (i + 2) 2
      | l :: r2 => if hexv l < 0 then .bad (i + 2) 1 else if plainB (two h l).toNat = true then .bad i 1 else qrun (i + 3) r2 (out ++ [two h l])
termination_by _ l _ => l.length
def qparse (s : ByteArray) : QR := if s.size = 0 then .bad 0 2 else if s.data.toList = [45] then .ok [] else qrun 0 s.data.toList []

/-- The answer in memory. -/
def QPost (sp : Nat → Addr) (w : World) : QR → Ending → World → Prop
  | .ok l, e, w' => e = .returned (.tuple #[.string ⟨l.toArray⟩, .nilIface]) ∧ Below w.heap.size w w'
  | .bad p c, e, w' => ∃ v, e = .returned (.tuple #[.string ⟨#[]⟩, v]) ∧ IsErr sp w' v (.at p (.sent c)) ∧ Below w.heap.size w w'

theorem drop_at (s : ByteArray) (k : Nat) (h : k < s.size) : s.data.toList.drop k = s[k] :: s.data.toList.drop (k + 1) := by
  rw [List.drop_eq_getElem_cons (by simpa using h)]; rfl

theorem parse_empty {sp : Nat → Addr} (w : World) (hL : Laid sp w) :
    Calls Tryd.prog 19 #[.string ⟨#[]⟩] w fun e w' => QPost sp w (.bad 0 2) e w' := by
  have HL := Lib.hid hL
  clear hL
  go_enter Tryd.func19, Tryd.ntmps19
  go_wp2_with (go_at_call 53; refine (qwrong_calls 0 2 (by unfold isCode; omega) _ (HL.out.below (below_new _ _))).mono ?_)
  rintro e w1 ⟨v', rfl, h1, h2⟩
  have HF := Lib.hid (And.intro h1 (below_trans (below_new w _) h2))
  clear h1 h2
  go_wp2
  go_ret2
  exact ⟨_, rfl, HF.out.1, HF.out.2⟩
theorem parse_dash {sp : Nat → Addr} (w : World) :
    Calls Tryd.prog 19 #[.string ⟨#[45]⟩] w fun e w' => QPost sp w (.ok []) e w' := by
  go_enter Tryd.func19, Tryd.ntmps19
  go_wp2
  go_ret2
  exact ⟨rfl, below_new w _⟩

set_option maxRecDepth 100000 in
set_option maxHeartbeats 4000000 in
theorem parse_run {sp : Nat → Addr} (s : ByteArray) (w : World) (hL : Laid sp w) (h0 : s.size ≠ 0) (h1 : s.data.toList ≠ [45]) (hs : s.size ≤ 10000000) :
    Calls Tryd.prog 19 #[.string s] w fun e w' => QPost sp w (qrun 0 s.data.toList []) e w' := by
  have hne : s.toList.isEmpty = false := str_some h0
  have hnd : (s.toList == [45]) = false := by rw [ByteArray.toList_eq]; simpa using h1
  have HL := Lib.hid hL
  generalize hR : qrun 0 s.data.toList [] = R
  have HR := Lib.hid hR
  clear hL hR
  go_enter Tryd.func19, Tryd.ntmps19
  go_wp2
  have hW0 : ∀ W, Below (w.heap.size + 1) (w.alloc (.cells #[.string s] 9)) W → W.cell? ⟨w.heap.size, 0, none⟩ = some (.string s) ∧ Below w.heap.size w W ∧ Laid sp W ∧ w.heap.size + 1 ≤ W.heap.size := fun W hB =>
    have h2 : Below w.heap.size w W := (below_new w _).trans (hB.mono (Nat.le_succ _))
    ⟨(hB.cell (p := ⟨w.heap.size, 0, none⟩) (Nat.lt_succ_self _)).trans (blk_cell (heap_new w _) 0), h2, HL.out.below h2, by have := hB.size; simp at this; omega⟩
  have HW := Lib.hid hW0
  clear hW0
  go_loopw [4, 6] (fun v i wl => ∃ (k : Nat) (l : List UInt8), i = .int .i64 k ∧ k ≤ s.size ∧ l.length ≤ k ∧ wl.ownsRow (w.heap.size + 1) 5 1 v (ints l).length (nums .u8 (ints l)) ∧ qrun k (s.data.toList.drop k) l = R ∧ Below (w.heap.size + 1) (w.alloc (.cells #[.string s] 9)) wl) (fun _ i _ => s.size - (intOf i).toNat)
  case atStart => exact ⟨0, [], rfl, by omega, Nat.le_refl _, World.ownsRow_nil _ _ _ _, HR.out, Below.refl _ _⟩
  case round =>
    obtain ⟨k, l, rfl, hk, hl, hown, hrun, hB⟩ := hrel
    obtain ⟨hcell, hBw, hLr, hsz⟩ := HW.out wr hB
    have HLr := Lib.hid hLr
    have HB := Lib.hid hB
    have HBw := Lib.hid hBw
    have HO := Lib.hid hown
    clear hLr hB hBw hown
    by_cases hlt : k < s.size
    · rw [drop_at s k hlt] at hrun
      have hc0 : (0 : Int) ≤ (s[k].toNat : Int) := by omega
      have hc1 : (s[k].toNat : Int) ≤ 255 := by have := s[k].toNat_lt; omega
      cases hp : plainB (s[k].toNat : Int) with
      | true =>
        have HRun : Hid (qrun (k + 1) (s.data.toList.drop (k + 1)) (l ++ [s[k]]) = R) := by
          rw [qrun.eq_def] at hrun; simp only [hp, if_true] at hrun; exact hrun
        have HP := Lib.hid hp
        clear hp hrun
        have hll := ints_len l
        have HLL := Lib.hid hll
        clear hll
        go_wp2_with (first | (go_at_call 56; refine (plain_yes _ HP.out _).mono ?_; rintro e w' ⟨rfl, rfl⟩) | (at_builtin; refine print_append_num (w0 := w.alloc (.cells #[.string s] 9)) (w.heap.size + 1) rfl (.tmp 28) (.tmp 32) 89 5 .u8 1 rfl Tryd.underlying89 infoByte (by decide) _ (ints l) (s[k].toNat : Int) rfl rfl HO.out HB.out hsz (by rw [HLL.out]; omega) ?_))
        intro v1 w1 ho1 hb1 hg1 hat1
        have HO1 : Hid (w1.ownsRow (w.heap.size + 1) 5 1 v1 (ints (l ++ [s[k]])).length (nums .u8 (ints (l ++ [s[k]])))) := by
          unfold Hid; rw [ints_app, ints_one, List.length_append]; exact ho1
        obtain ⟨hcell1, _, _, _⟩ := HW.out w1 hb1
        have HB1 := Lib.hid hb1
        clear ho1 hb1 hg1 hat1 hcell
        go_wp2
        go_roundw
        case rel => exact ⟨k + 1, l ++ [s[k]], by go_num, by omega, by simp; omega, HO1.out, HRun.out, HB1.out⟩
        case measure => simp [intOf]; omega
      | false =>
        have HP := Lib.hid hp
        have hbw1 : ∀ W v e, IsErr sp W v e → Below wr.heap.size wr W → IsErr sp W v e ∧ Below w.heap.size w W := fun W v e h1 h2 => ⟨h1, below_trans HBw.out h2⟩
        have HX := Lib.hid hbw1
        clear hbw1
        by_cases h37 : s[k].toNat = 37
        · have h37' : ((s[k].toNat : Int) != 37) = false := by simp [h37]
          rw [qrun.eq_def] at hrun
          simp only at hrun
          rw [if_neg (by rw [hp]; decide), if_neg (by omega)] at hrun
          have H37 := Lib.hid h37
          clear hp h37
          by_cases hl1 : k + 1 < s.size
          · rw [drop_at s (k + 1) hl1] at hrun
            simp only at hrun
            by_cases hx1 : hexv s[k + 1] < 0
            · rw [if_pos hx1] at hrun
              subst hrun
              have HB1 := Lib.hid hx1
              clear hx1
              go_wp2_with (first | (go_at_call 56; refine (plain_no _ HP.out _).mono ?_; rintro e w' ⟨rfl, rfl⟩) | (go_at_call 54; refine (digit_bad s w.heap.size (k + 1) _ (by omega) hl1 HB1.out hs _ HLr.out hcell).mono ?_))
              rintro e w1 ⟨v', rfl, h1, h2⟩
              obtain ⟨t1, a1, hv⟩ := h1.form
              subst hv
              have HF := Lib.hid (HX.out _ _ _ h1 h2)
              clear h1 h2
              go_wp2
              go_ret2
              exact ⟨_, rfl, HF.out.1, HF.out.2⟩
            · rw [if_neg hx1] at hrun
              have HB1 := Lib.hid hx1
              clear hx1
              by_cases hl2 : k + 2 < s.size
              · rw [drop_at s (k + 2) hl2] at hrun
                simp only at hrun
                by_cases hx2 : hexv s[k + 2] < 0
                · rw [if_pos hx2] at hrun
                  subst hrun
                  have HB2 := Lib.hid hx2
                  clear hx2
                  go_wp2_with (first | (go_at_call 56; refine (plain_no _ HP.out _).mono ?_; rintro e w' ⟨rfl, rfl⟩) | fail)
                  refine (digit_ok s w.heap.size (k + 1) _ (by omega) hl1 (by have := HB1.out; omega) hs _ hcell).mono ?_
                  rintro e w' ⟨rfl, rfl⟩
                  go_wp2_with fail
                  refine (digit_bad s w.heap.size (k + 2) _ (by omega) hl2 HB2.out hs _ HLr.out hcell).mono ?_
                  rintro e w1 ⟨v', rfl, h1, h2⟩
                  obtain ⟨t1, a1, hv⟩ := h1.form
                  subst hv
                  have HF := Lib.hid (HX.out _ _ _ h1 h2)
                  clear h1 h2
                  go_wp2
                  go_ret2
                  exact ⟨_, rfl, HF.out.1, HF.out.2⟩
                · rw [if_neg hx2] at hrun
                  have HB2 := Lib.hid hx2
                  have g1 := hexv_lt s[k + 1]
                  have g2 := hexv_lt s[k + 2]
                  have g3 := Int.not_lt.1 HB1.out
                  have g4 := Int.not_lt.1 HB2.out
                  clear hx2
                  go_wp2_with (first | (go_at_call 56; refine (plain_no _ HP.out _).mono ?_; rintro e w' ⟨rfl, rfl⟩) | fail)
                  refine (digit_ok s w.heap.size (k + 1) _ (by omega) hl1 (by have := HB1.out; omega) hs _ hcell).mono ?_
                  rintro e w' ⟨rfl, rfl⟩
                  go_wp2_with fail
                  refine (digit_ok s w.heap.size (k + 2) _ (by omega) hl2 (by have := HB2.out; omega) hs _ hcell).mono ?_
                  rintro e w' ⟨rfl, rfl⟩
                  go_wp2_with fail
                  rw [or_two _ _ (by have := HB1.out; omega) (by have := HB2.out; omega)]
                  clear g1 g2 g3 g4
                  have hd0 : (0 : Int) ≤ ((two s[k + 1] s[k + 2]).toNat : Int) := by omega
                  have hd1 : ((two s[k + 1] s[k + 2]).toNat : Int) ≤ 255 := by have := (two s[k + 1] s[k + 2]).toNat_lt; omega
                  generalize two s[k + 1] s[k + 2] = d at hrun hd0 hd1
                  cases hpd : plainB (d.toNat : Int) with
                  | true =>
                    rw [if_pos hpd] at hrun
                    subst hrun
                    have HPD := Lib.hid hpd
                    clear hpd
                    go_wp2_with (first | (go_at_call 56; refine (plain_yes _ HPD.out _).mono ?_; rintro e w' ⟨rfl, rfl⟩) | (go_at_call 53; refine (qwrong_calls (k : Int) 1 (by unfold isCode; omega) _ HLr.out).mono ?_))
                    rintro e w1 ⟨v', rfl, h1, h2⟩
                    have HF := Lib.hid (HX.out _ _ _ h1 h2)
                    clear h1 h2
                    go_wp2
                    go_ret2
                    exact ⟨_, rfl, HF.out.1, HF.out.2⟩
                  | false =>
                    rw [if_neg (by rw [hpd]; decide)] at hrun
                    have HRun := Lib.hid hrun
                    have HPD := Lib.hid hpd
                    have hll := ints_len l
                    have HLL := Lib.hid hll
                    clear hll hpd hrun
                    go_wp2_with (first | (go_at_call 56; refine (plain_no _ HPD.out _).mono ?_; rintro e w' ⟨rfl, rfl⟩) | (at_builtin; refine print_append_num (w0 := w.alloc (.cells #[.string s] 9)) (w.heap.size + 1) rfl (.tmp 68) (.tmp 70) 89 5 .u8 1 rfl Tryd.underlying89 infoByte (by decide) _ (ints l) (d.toNat : Int) rfl rfl HO.out HB.out hsz (by rw [HLL.out]; omega) ?_))
                    intro v1 w1 ho1 hb1 hg1 hat1
                    have HO1 : Hid (w1.ownsRow (w.heap.size + 1) 5 1 v1 (ints (l ++ [d])).length (nums .u8 (ints (l ++ [d])))) := by
                      unfold Hid; rw [ints_app, ints_one, List.length_append]; exact ho1
                    obtain ⟨hcell1, _, _, _⟩ := HW.out w1 hb1
                    have HB1 := Lib.hid hb1
                    clear ho1 hb1 hg1 hat1 hcell
                    go_wp2
                    go_roundw
                    case rel => exact ⟨k + 3, l ++ [d], by go_num, by omega, by simp; omega, HO1.out, HRun.out, HB1.out⟩
                    case measure => simp [intOf]; omega
              · rw [List.drop_of_length_le (by simp; omega)] at hrun
                simp only at hrun
                subst hrun
                go_wp2_with (first | (go_at_call 56; refine (plain_no _ HP.out _).mono ?_; rintro e w' ⟨rfl, rfl⟩) | fail)
                refine (digit_ok s w.heap.size (k + 1) _ (by omega) hl1 (by have := HB1.out; omega) hs _ hcell).mono ?_
                rintro e w' ⟨rfl, rfl⟩
                go_wp2_with fail
                refine (digit_short (sp := sp) s w.heap.size _ (by omega) hs _ HLr.out hcell).mono ?_
                rintro e w1 ⟨v', rfl, h1, h2⟩
                obtain ⟨t1, a1, hv⟩ := h1.form
                subst hv
                have hk2 : s.size = k + 2 := by omega
                rw [hk2] at h1
                have HF := Lib.hid (HX.out _ _ _ h1 h2)
                clear h1 h2 hk2
                go_wp2
                go_ret2
                exact ⟨_, rfl, HF.out.1, HF.out.2⟩
          · rw [List.drop_of_length_le (by simp; omega)] at hrun
            simp only at hrun
            subst hrun
            go_wp2_with (first | (go_at_call 56; refine (plain_no _ HP.out _).mono ?_; rintro e w' ⟨rfl, rfl⟩) | (go_at_call 54; refine (digit_short (sp := sp) s w.heap.size _ (by omega) hs _ HLr.out hcell).mono ?_))
            rintro e w1 ⟨v', rfl, h1, h2⟩
            obtain ⟨t1, a1, hv⟩ := h1.form
            subst hv
            have hk1 : s.size = k + 1 := by omega
            rw [hk1] at h1
            have HF := Lib.hid (HX.out _ _ _ h1 h2)
            clear h1 h2 hk1
            go_wp2
            go_ret2
            exact ⟨_, rfl, HF.out.1, HF.out.2⟩
        · have h37' : ((s[k].toNat : Int) != 37) = true := by simp; omega
          rw [qrun.eq_def] at hrun
          simp only at hrun
          rw [if_neg (by rw [hp]; decide), if_pos h37] at hrun
          subst hrun
          clear hp h37
          go_wp2_with (first | (go_at_call 56; refine (plain_no _ HP.out _).mono ?_; rintro e w' ⟨rfl, rfl⟩) | (go_at_call 53; refine (qwrong_calls (k : Int) 1 (by unfold isCode; omega) _ HLr.out).mono ?_))
          rintro e w1 ⟨v', rfl, h1, h2⟩
          have HF := Lib.hid (HX.out _ _ _ h1 h2)
          clear h1 h2
          go_wp2
          go_ret2
          exact ⟨_, rfl, HF.out.1, HF.out.2⟩
    · obtain rfl : k = s.size := by omega
      rw [List.drop_of_length_le (by simp), qrun.eq_def] at hrun
      subst hrun
      have hconv := own_string Tryd.underlying89 Tryd.underlying5 Tryd.underlying9 HO.out
      rw [ints_str] at hconv
      go_wp2
      go_ret2
      exact ⟨rfl, HBw.out⟩

theorem parse_calls {sp : Nat → Addr} (s : ByteArray) (w : World) (hL : Laid sp w) (hs : s.size ≤ 10000000) :
    Calls Tryd.prog 19 #[.string s] w fun e w' => QPost sp w (qparse s) e w' := by
  unfold qparse
  by_cases h0 : s.size = 0
  · rw [if_pos h0]
    obtain rfl := str_none h0
    exact parse_empty w hL
  · rw [if_neg h0]
    by_cases h1 : s.data.toList = [45]
    · rw [if_pos h1]
      obtain rfl : s = ⟨#[45]⟩ := str_ext h1
      exact parse_dash w
    · rw [if_neg h1]
      exact parse_run s w hL h0 h1 hs
end Go.Proofs.YtgjabbffpfhmjaaDoor
