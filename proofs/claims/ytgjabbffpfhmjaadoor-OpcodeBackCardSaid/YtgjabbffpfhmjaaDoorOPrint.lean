/- opcode.Print, by its contract. -/
import Derived.Test.YtgjabbffpfhmjaaDoorStepR
import Derived.Test.YtgjabbffpfhmjaaDoorSPut
import Derived.Test.YtgjabbffpfhmjaaDoorExt
namespace Go.Proofs.YtgjabbffpfhmjaaDoor
open Go.RowKit Go.Extern.Stop Go.Stop Go.Extern Go.Proofs.YtgjabbffpfhmjaaDoorW.PrintWords

def gbytes (g : Grd) : List UInt8 := sput g.kind.toNat ++ stext g.key ++ (if g.kind = 3 then stext g.val else [])
def sbytes (s : Stp) : List UInt8 := sput s.kind.toNat ++ stext s.key ++ (if s.kind = 1 then stext s.val else if s.kind = 3 then sput (zig s.n) else if s.kind = 4 then stext s.old ++ stext s.val else [])
def obytes (o : Opn) : List UInt8 := sput o.gs.length ++ o.gs.flatMap gbytes ++ sput o.ss.length ++ o.ss.flatMap sbytes
def i64ok (x : Int) : Prop := -9223372036854775808 ≤ x ∧ x < 9223372036854775808
theorem str_size (l : List UInt8) : (⟨l.toArray⟩ : ByteArray).size = l.length := by show l.toArray.size = _; simp
theorem str_app (a b : List UInt8) : (⟨a.toArray⟩ : ByteArray) ++ ⟨b.toArray⟩ = ⟨(a ++ b).toArray⟩ := by
  apply str_ext
  simp [ByteArray.data_append]
theorem stext_len (s : ByteArray) (h : s.size ≤ 1000) : (stext s).length ≤ s.size + 10 := by
  have := sput_len 9 s.size (by omega)
  unfold stext
  rw [List.length_append, data_len]
  omega

set_option maxRecDepth 100000 in
set_option maxHeartbeats 8000000 in
theorem oprint_good {sp : Nat → Addr} (gs : List Grd) (ss : List Stp) (A C : Option Addr) (ca cc : Nat) (w : World) (hL : Laid sp w) (hg : Grds w (.slice A gs.length ca) gs) (hs : Stps w (.slice C ss.length cc) ss) (hgood : goodO ⟨gs, ss⟩ = true) (hn64 : ∀ s ∈ ss, i64ok s.n) :
    Calls Tryd.prog 14 #[.agg #[.slice A gs.length ca, .slice C ss.length cc]] w fun e w' => e = .returned (.tuple #[.string ⟨(obytes ⟨gs, ss⟩).toArray⟩, .nilIface]) ∧ Below w.heap.size w w' := by
  have hlen : gs.length ≤ 4 ∧ ss.length ≤ 4 ∧ gs.all goodG = true ∧ ss.all goodS = true := by
    unfold goodO at hgood
    simp only [Bool.and_eq_true, decide_eq_true_eq] at hgood
    exact ⟨hgood.1.1.1.1, hgood.1.1.2, hgood.1.2, hgood.2⟩
  obtain ⟨hgl, hsl, hga, hsa⟩ := hlen
  have HG := Lib.hid hg
  have HS := Lib.hid hs
  have HL := Lib.hid hL
  have HGA := Lib.hid hga
  have HSA := Lib.hid hsa
  have HN64 := Lib.hid hn64
  have HR := Lib.hid (fun w' (hg : Grds w' (.slice A gs.length ca) gs) (hs : Stps w' (.slice C ss.length cc) ss) => right_calls (.agg #[.slice A gs.length ca, .slice C ss.length cc]) ⟨gs, ss⟩ w' ⟨_, _, rfl, hg, hs⟩ (by simp only; omega) (by simp only; omega))
  rw [hgood] at HR
  clear hg hs hL hga hsa hgood hn64
  go_enter Tryd.func14, Tryd.ntmps14
  go_wp2_with fail
  refine (HR.out _ (HG.out.grow (below_new _ _)) (HS.out.grow (below_new _ _))).mono ?_
  rintro e w1 ⟨rfl, hb1⟩
  have HB1 := Lib.hid (below_trans (below_new w _) hb1)
  have k0 : w1.cell? ⟨w.heap.size, 0, none⟩ = some (.slice A gs.length ca) := cell_below hb1 (blk_cell (heap_new w _) 0)
  have k1 : w1.cell? ⟨w.heap.size, 1, none⟩ = some (.slice C ss.length cc) := cell_below hb1 (blk_cell (heap_new w _) 1)
  clear hb1
  go_wp2_with fail
  refine (put_calls gs.length (by omega) _).mono ?_
  rintro e w2 ⟨rfl, hb2⟩
  have HB2 := Lib.hid (below_trans HB1.out hb2)
  have HK1 := Lib.hid (cell_below hb2 k1)
  have k2 := cell_below hb2 k0
  clear hb2 k0 k1
  go_wp2_with fail
  go_loopw [4, 21] (fun s i wl => ∃ k : Nat, s = .string ⟨(sput gs.length ++ (gs.take k).flatMap gbytes).toArray⟩ ∧ i = .int .i64 k ∧ k ≤ gs.length ∧ (sput gs.length ++ (gs.take k).flatMap gbytes).length ≤ 10 + k * 100 ∧ Below w2.heap.size w2 wl) (fun _ i _ => gs.length - (intOf i).toNat)
  case atStart => exact ⟨0, by simp, rfl, by omega, by simpa using sput_len 9 gs.length (by omega), Below.refl _ _⟩
  case round =>
    obtain ⟨k, rfl, rfl, hk, hlen, hB⟩ := hrel
    have HB := Lib.hid hB
    clear hB
    by_cases hlt : k < gs.length
    · have hkr : gs[k]? = some gs[k] := List.getElem?_eq_getElem hlt
      obtain ⟨_, _, he, _, hin⟩ := HG.out
      injection he with e1 e2 e3
      obtain ⟨b, off, hA, c0, c1, c2⟩ := hin k _ hkr
      subst e1
      subst hA
      have hBw := below_trans HB2.out HB.out
      have d0 := cell_below hBw c0
      have d1 := cell_below hBw c1
      have d2 := cell_below hBw c2
      have hgk : goodG gs[k] = true := List.all_eq_true.1 HGA.out _ (List.getElem_mem hlt)
      have HGK := Lib.hid hgk
      generalize gs[k] = g at *
      have HKR := Lib.hid hkr
      have hij : (k : Int) < (gs.length : Int) := by omega
      obtain ⟨hk1, hk3, hkey, hval⟩ : 1 ≤ g.kind ∧ g.kind ≤ 3 ∧ g.key.size ≤ 16 ∧ g.val.size ≤ 32 := by
        have h := HGK.out
        unfold goodG at h
        simp only [Bool.and_eq_true, Bool.or_eq_true, decide_eq_true_eq, beq_iff_eq] at h
        omega
      clear hkr c0 c1 c2 hin hgk hBw e2 e3
      have HN : Hid (sput gs.length ++ (gs.take (k + 1)).flatMap gbytes = (sput gs.length ++ (gs.take k).flatMap gbytes) ++ gbytes g) := by
        unfold Hid
        rw [take_one gs k g HKR.out]
        simp
      generalize hdone : sput gs.length ++ (gs.take k).flatMap gbytes = done at *
      obtain ⟨kind, key, val⟩ := g
      simp only at hk1 hk3 hkey hval d0 d1 d2
      obtain ⟨n, rfl⟩ := Int.eq_ofNat_of_zero_le (by omega : 0 ≤ kind)
      have HDONE := Lib.hid hdone
      clear hdone
      go_upto_region 7 with fail
      generalize hW0 : wr.alloc (.cells #[.int .i64 (n : Int), .string key, .string val] 72) = W0
      have f0 : ∀ e, (grown W0 e).cell? ⟨wr.heap.size, 0, none⟩ = some (.int .i64 n) := grown_cell (by rw [← hW0]; exact blk_cell (heap_new wr _) 0)
      have f1 : ∀ e, (grown W0 e).cell? ⟨wr.heap.size, 1, none⟩ = some (.string key) := grown_cell (by rw [← hW0]; exact blk_cell (heap_new wr _) 1)
      have f2 : ∀ e, (grown W0 e).cell? ⟨wr.heap.size, 2, none⟩ = some (.string val) := grown_cell (by rw [← hW0]; exact blk_cell (heap_new wr _) 2)
      have HW0 : Hid (Below wr.heap.size wr W0) := by rw [← hW0]; exact below_new _ _
      have ew : IntKind.u64.wrap (n : Int) = (n : Int) := IntWalk.u64_in _ ⟨by omega, by omega⟩
      have z1 : (sput n).length ≤ 10 := sput_len 9 n (by omega)
      have z2 : (stext key).length ≤ key.size + 10 := stext_len key (by omega)
      have z3 : (stext val).length ≤ val.size + 10 := stext_len val (by omega)
      clear hW0
      refine wp_region_grown (by kernel_rfl) (by kernel_rfl) ?_
      repeat (go_big_quiet_step ((first | (go_at_call 42; exact calls_grown (put_calls n (by omega) _)) | (go_at_call 43; exact calls_grown (putText_calls key (by omega) _)))))
      refine wpQuiet_nil ?_
      rintro _ ⟨e1, rfl⟩
      have HSA1 : Hid ((⟨done.toArray⟩ : ByteArray) ++ (⟨(sput n).toArray⟩ ++ ⟨(stext key).toArray⟩) = ⟨(done ++ (sput n ++ stext key)).toArray⟩) := by unfold Hid; rw [str_app, str_app]
      have HBW : Hid (Below w2.heap.size w2 (grown W0 e1)) := below_trans HB.out (below_trans HW0.out (grown_below W0 e1))
      rw [HSA1.out]
      by_cases h3 : n = 3
      · have HG3 : Hid (gbytes ⟨(n : Int), key, val⟩ = sput n ++ stext key ++ stext val) := by unfold Hid gbytes; simp [h3]
        have hz : (gbytes ⟨(n : Int), key, val⟩).length ≤ 100 := by rw [HG3.out]; simp only [List.length_append]; omega
        have ht : ((n : Int) == 3) = true := by simp; omega
        clear h3
        go_wp2_with (go_at_call 43; refine (putText_calls val (by omega) _).mono ?_; rintro e w3 ⟨rfl, hb3⟩)
        go_roundw
        case rel => exact ⟨k + 1, by rw [HN.out, HG3.out, str_app]; simp, by go_num, by omega, by rw [HN.out, List.length_append]; omega, below_trans HBW.out hb3⟩
        case measure => simp [intOf]; omega
      · have HG3 : Hid (gbytes ⟨(n : Int), key, val⟩ = sput n ++ stext key) := by unfold Hid gbytes; simp; omega
        have hz : (gbytes ⟨(n : Int), key, val⟩).length ≤ 100 := by rw [HG3.out]; simp only [List.length_append]; omega
        have ht : ((n : Int) == 3) = false := by simp; omega
        clear h3
        go_wp2
        go_roundw
        case rel => exact ⟨k + 1, by rw [HN.out, HG3.out], by go_num, by omega, by rw [HN.out, List.length_append]; omega, HBW.out⟩
        case measure => simp [intOf]; omega
    · obtain rfl : k = gs.length := by omega
      rw [List.take_length] at hlen ⊢
      have HK1' := cell_below HB.out HK1.out
      generalize hdone : sput gs.length ++ gs.flatMap gbytes = done at *
      have HDONE := Lib.hid hdone
      have hpl : (sput ss.length).length ≤ 10 := sput_len 9 ss.length (by omega)
      have hBw := Lib.hid (below_trans HB2.out HB.out)
      clear hdone
      go_wp2_with (go_at_call 42; refine (put_calls ss.length (by omega) _).mono ?_; rintro e w3 ⟨rfl, hb3⟩; have HK3 := cell_below hb3 HK1'; have HB3 := Lib.hid (below_trans hBw.out hb3); clear hb3)
      clear HK1' hBw k2
      have HRES : Hid ((obytes ⟨gs, ss⟩) = done ++ sput ss.length ++ ss.flatMap sbytes) := by unfold Hid obytes; rw [← HDONE.out]
      have HS3 := Lib.hid (HS.out.grow HB3.out)
      have e0 : ((⟨done.toArray⟩ : ByteArray) ++ ⟨(sput ss.length).toArray⟩) = ⟨(done ++ sput ss.length).toArray⟩ := str_app _ _
      have hlen : (done ++ sput ss.length).length ≤ 1000 := by rw [List.length_append]; omega
      rw [e0]
      generalize done ++ sput ss.length = D0 at *
      clear hpl e0 HDONE
      go_loopw [4, 54] (fun s i wl => ∃ k : Nat, s = .string ⟨(D0 ++ (ss.take k).flatMap sbytes).toArray⟩ ∧ i = .int .i64 k ∧ k ≤ ss.length ∧ (D0 ++ (ss.take k).flatMap sbytes).length ≤ 1000 + k * 300 ∧ Below w3.heap.size w3 wl) (fun _ i _ => ss.length - (intOf i).toNat)
      case atStart => exact ⟨0, by simp, rfl, by omega, by simpa using hlen, Below.refl _ _⟩
      case round =>
      obtain ⟨k, rfl, rfl, hk, hlen, hB⟩ := hrel
      have HBk := Lib.hid hB
      clear hB
      by_cases hlt : k < ss.length
      · have hkr : ss[k]? = some ss[k] := List.getElem?_eq_getElem hlt
        obtain ⟨_, _, he, _, hin⟩ := HS3.out
        injection he with e1 e2 e3
        obtain ⟨b, off, hA, c0, c1, c2, c3, c4⟩ := hin k _ hkr
        subst e1
        subst hA
        have d0 := cell_below HBk.out c0
        have d1 := cell_below HBk.out c1
        have d2 := cell_below HBk.out c2
        have d3 := cell_below HBk.out c3
        have d4 := cell_below HBk.out c4
        have hgk : goodS ss[k] = true := List.all_eq_true.1 HSA.out _ (List.getElem_mem hlt)
        have hnk : i64ok ss[k].n := HN64.out _ (List.getElem_mem hlt)
        generalize ss[k] = g at *
        have hij : (k : Int) < (ss.length : Int) := by omega
        obtain ⟨kind, key, val, old, n⟩ := g
        obtain ⟨hkind, hkey, hval, hold⟩ : (kind = 1 ∨ kind = 2 ∨ kind = 3 ∨ kind = 4) ∧ key.size ≤ 16 ∧ val.size ≤ 32 ∧ old.size ≤ 32 := by
          have h := hgk
          unfold goodS at h
          simp only [Bool.and_eq_true, Bool.or_eq_true, decide_eq_true_eq, beq_iff_eq] at h
          omega
        have HN : Hid (D0 ++ (ss.take (k + 1)).flatMap sbytes = (D0 ++ (ss.take k).flatMap sbytes) ++ sbytes ⟨kind, key, val, old, n⟩) := by
          unfold Hid
          rw [take_one ss k _ hkr]
          simp
        clear hkr c0 c1 c2 c3 c4 hin hgk e2 e3
        simp only at hnk d0 d1 d2 d3 d4
        obtain ⟨hn0, hn1⟩ := hnk
        generalize hdn : D0 ++ (ss.take k).flatMap sbytes = done at *
        clear hdn
        go_upto_region 15 with fail
        generalize hW0 : wr.alloc (.cells #[.int .i64 kind, .string key, .string val, .string old, .int .i64 n] 74) = W0
        have f0 : ∀ e, (grown W0 e).cell? ⟨wr.heap.size, 0, none⟩ = some (.int .i64 kind) := grown_cell (by rw [← hW0]; exact blk_cell (heap_new wr _) 0)
        have f1 : ∀ e, (grown W0 e).cell? ⟨wr.heap.size, 1, none⟩ = some (.string key) := grown_cell (by rw [← hW0]; exact blk_cell (heap_new wr _) 1)
        have f2 : ∀ e, (grown W0 e).cell? ⟨wr.heap.size, 2, none⟩ = some (.string val) := grown_cell (by rw [← hW0]; exact blk_cell (heap_new wr _) 2)
        have f3 : ∀ e, (grown W0 e).cell? ⟨wr.heap.size, 3, none⟩ = some (.string old) := grown_cell (by rw [← hW0]; exact blk_cell (heap_new wr _) 3)
        have f4 : ∀ e, (grown W0 e).cell? ⟨wr.heap.size, 4, none⟩ = some (.int .i64 n) := grown_cell (by rw [← hW0]; exact blk_cell (heap_new wr _) 4)
        have HW0 : Hid (Below wr.heap.size wr W0) := by rw [← hW0]; exact below_new _ _
        have z1 : (sput kind.toNat).length ≤ 10 := sput_len 9 kind.toNat (by omega)
        have z2 : (stext key).length ≤ key.size + 10 := stext_len key (by omega)
        have z3 : (stext val).length ≤ val.size + 10 := stext_len val (by omega)
        have z4 : (stext old).length ≤ old.size + 10 := stext_len old (by omega)
        have z5 : (sput (zig n)).length ≤ 10 := sput_len 9 (zig n) (by have := zig_lt n hn0 hn1; omega)
        obtain ⟨m, rfl⟩ := Int.eq_ofNat_of_zero_le (by omega : 0 ≤ kind)
        have ew : IntKind.u64.wrap (m : Int) = (m : Int) := IntWalk.u64_in _ ⟨by omega, by omega⟩
        rw [Int.toNat_natCast] at z1
        have hm4 : m ≤ 4 := by omega
        have HKD := Lib.hid hkind
        clear hW0 hkind
        refine wp_region_grown (by kernel_rfl) (by kernel_rfl) ?_
        repeat (go_big_quiet_step ((first | (go_at_call 42; exact calls_grown (put_calls m (by omega) _)) | (go_at_call 43; exact calls_grown (putText_calls key (by omega) _)))))
        refine wpQuiet_nil ?_
        rintro _ ⟨e1, rfl⟩
        have HSA1 : Hid ((⟨done.toArray⟩ : ByteArray) ++ (⟨(sput m).toArray⟩ ++ ⟨(stext key).toArray⟩) = ⟨(done ++ (sput m ++ stext key)).toArray⟩) := by unfold Hid; rw [str_app, str_app]
        have HBW : Hid (Below w3.heap.size w3 (grown W0 e1)) := below_trans HBk.out (below_trans HW0.out (grown_below W0 e1))
        rw [HSA1.out]
        have hkd : m = 1 ∨ m = 2 ∨ m = 3 ∨ m = 4 := by have := HKD.out; omega
        rcases hkd with hkd | hkd | hkd | hkd
        · subst hkd
          have HG3 : Hid (sbytes ⟨((1 : Nat) : Int), key, val, old, n⟩ = sput 1 ++ stext key ++ stext val) := by unfold Hid sbytes; simp
          have hz : (sbytes ⟨((1 : Nat) : Int), key, val, old, n⟩).length ≤ 300 := by rw [HG3.out]; simp only [List.length_append]; omega
          go_wp2_with (go_at_call 43; refine (putText_calls val (by omega) _).mono ?_; rintro e w4 ⟨rfl, hb4⟩)
          go_roundw
          case rel => exact ⟨k + 1, by rw [HN.out, HG3.out, str_app]; simp, by go_num, by omega, by rw [HN.out, List.length_append]; omega, below_trans HBW.out hb4⟩
          case measure => simp [intOf]; omega
        · subst hkd
          have HG3 : Hid (sbytes ⟨((2 : Nat) : Int), key, val, old, n⟩ = sput 2 ++ stext key) := by unfold Hid sbytes; simp
          have hz : (sbytes ⟨((2 : Nat) : Int), key, val, old, n⟩).length ≤ 300 := by rw [HG3.out]; simp only [List.length_append]; omega
          go_wp2
          go_roundw
          case rel => exact ⟨k + 1, by rw [HN.out, HG3.out], by go_num, by omega, by rw [HN.out, List.length_append]; omega, HBW.out⟩
          case measure => simp [intOf]; omega
        · subst hkd
          have HG3 : Hid (sbytes ⟨((3 : Nat) : Int), key, val, old, n⟩ = sput 3 ++ stext key ++ sput (zig n)) := by unfold Hid sbytes; simp
          have hz : (sbytes ⟨((3 : Nat) : Int), key, val, old, n⟩).length ≤ 300 := by rw [HG3.out]; simp only [List.length_append]; omega
          go_wp2_with (go_at_call 44; refine (putInt_calls n (by omega) (by omega) _).mono ?_; rintro e w4 ⟨rfl, hb4⟩)
          go_roundw
          case rel => exact ⟨k + 1, by rw [HN.out, HG3.out, str_app]; simp, by go_num, by omega, by rw [HN.out, List.length_append]; omega, below_trans HBW.out hb4⟩
          case measure => simp [intOf]; omega
        · subst hkd
          have HG3 : Hid (sbytes ⟨((4 : Nat) : Int), key, val, old, n⟩ = sput 4 ++ stext key ++ stext old ++ stext val) := by unfold Hid sbytes; simp
          have hz : (sbytes ⟨((4 : Nat) : Int), key, val, old, n⟩).length ≤ 300 := by rw [HG3.out]; simp only [List.length_append]; omega
          go_upto_region 22 with fail
          generalize hW5 : grown W0 e1 = W5 at *
          have g2 : ∀ e, (grown W5 e).cell? ⟨wr.heap.size, 2, none⟩ = some (.string val) := grown_cell (by rw [← hW5]; exact f2 _)
          have g3 : ∀ e, (grown W5 e).cell? ⟨wr.heap.size, 3, none⟩ = some (.string old) := grown_cell (by rw [← hW5]; exact f3 _)
          clear hW5 f0 f1 f2 f3 f4
          refine wp_region_grown (by kernel_rfl) (by kernel_rfl) ?_
          repeat (go_big_quiet_step ((go_at_call 43; first | exact calls_grown (putText_calls old (by omega) _) | exact calls_grown (putText_calls val (by omega) _))))
          refine wpQuiet_nil ?_
          rintro _ ⟨e2, rfl⟩
          go_wp2
          go_roundw
          case rel => exact ⟨k + 1, by rw [HN.out, HG3.out, str_app, str_app]; simp, by go_num, by omega, by rw [HN.out, List.length_append]; omega, below_trans HBW.out (grown_below W5 e2)⟩
          case measure => simp [intOf]; omega
      · obtain rfl : k = ss.length := by omega
        rw [List.take_length]
        go_wp2
        go_ret2
        rw [HRES.out]
        exact ⟨rfl, below_trans HB3.out HBk.out⟩

set_option maxRecDepth 100000 in
set_option maxHeartbeats 1000000 in
theorem oprint_bad {sp : Nat → Addr} (gs : List Grd) (ss : List Stp) (A C : Option Addr) (ca cc : Nat) (w : World) (hL : Laid sp w) (hg : Grds w (.slice A gs.length ca) gs) (hs : Stps w (.slice C ss.length cc) ss) (hgl : gs.length ≤ 10000000) (hsl : ss.length ≤ 10000000) (hbad : goodO ⟨gs, ss⟩ = false) :
    Calls Tryd.prog 14 #[.agg #[.slice A gs.length ca, .slice C ss.length cc]] w fun e w' => e = .returned (.tuple #[.string ⟨#[]⟩, .iface 218 (.pointer (some (sp 8)))]) ∧ Below w.heap.size w w' := by
  have HL := Lib.hid hL
  have HR := Lib.hid (right_calls (.agg #[.slice A gs.length ca, .slice C ss.length cc]) ⟨gs, ss⟩ (w.alloc (.cells #[.slice A gs.length ca, .slice C ss.length cc] 32)) ⟨_, _, rfl, hg.grow (below_new _ _), hs.grow (below_new _ _)⟩ (by simp only; omega) (by simp only; omega))
  rw [hbad] at HR
  clear hL hg hs hbad
  go_enter Tryd.func14, Tryd.ntmps14
  go_wp2_with fail
  refine HR.out.mono ?_
  rintro e w1 ⟨rfl, hb1⟩
  have HB1 := Lib.hid (below_trans (below_new w _) hb1)
  have hv := (HL.out.below HB1.out).var 8 (by unfold isCode; omega)
  simp only [senVar] at hv
  clear hb1
  go_wp2_with fail
  go_quiet (fail)
  go_wp2
  go_ret2
  exact ⟨rfl, pw_below_drewN HB1.out _⟩

def OPPost (sp : Nat → Addr) (o : Opn) (w : World) (e : Ending) (w' : World) : Prop :=
  (if goodO o = true then e = .returned (.tuple #[.string ⟨(obytes o).toArray⟩, .nilIface]) else e = .returned (.tuple #[.string ⟨#[]⟩, .iface 218 (.pointer (some (sp 8)))])) ∧ Below w.heap.size w w'
theorem oprint_calls {sp : Nat → Addr} (v : Value) (o : Opn) (w : World) (hL : Laid sp w) (hv : OpIn w v o) (hg : o.gs.length ≤ 10000000) (hs : o.ss.length ≤ 10000000) (hn : ∀ s ∈ o.ss, i64ok s.n) :
    Calls Tryd.prog 14 #[v] w fun e w' => OPPost sp o w e w' := by
  obtain ⟨a, b, rfl, ha, hb⟩ := hv
  obtain ⟨gs, ss⟩ := o
  have ha' := ha
  have hb' := hb
  obtain ⟨A, ca, rfl, _, _⟩ := ha
  obtain ⟨C, cc, rfl, _, _⟩ := hb
  cases hgo : goodO ⟨gs, ss⟩ with
  | true => exact (oprint_good gs ss A C ca cc w hL ha' hb' hgo hn).mono fun e w' ⟨h1, h2⟩ => ⟨by rw [if_pos hgo]; exact h1, h2⟩
  | false => exact (oprint_bad gs ss A C ca cc w hL ha' hb' hg hs hgo).mono fun e w' ⟨h1, h2⟩ => ⟨by rw [if_neg (by rw [hgo]; decide)]; exact h1, h2⟩
end Go.Proofs.YtgjabbffpfhmjaaDoor
