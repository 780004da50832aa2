/- philtrelaw09.OpcodeBack answers true. -/
import Derived.Test.YtgjabbffpfhmjaaDoorOFew
namespace Go.Proofs.YtgjabbffpfhmjaaDoor
open Go.RowKit Go.Extern.Stop Go.Stop Go.Extern Go.Proofs.YtgjabbffpfhmjaaDoorW.PrintWords

theorem gbytes_len {g : Grd} (h : goodG g = true) : (gbytes g).length ≤ 100 := by
  unfold goodG at h
  simp only [Bool.and_eq_true, Bool.or_eq_true, decide_eq_true_eq, beq_iff_eq] at h
  have h1 := sput_len 9 g.kind.toNat (by omega)
  have h2 := stext_len g.key (by omega)
  have h3 := stext_len g.val (by omega)
  unfold gbytes
  split <;> simp only [List.length_append, List.length_nil] <;> omega
theorem sbytes_len {g : Stp} (h : goodS g = true) (hx : i64ok g.n) : (sbytes g).length ≤ 200 := by
  unfold goodS at h
  simp only [Bool.and_eq_true, Bool.or_eq_true, decide_eq_true_eq, beq_iff_eq] at h
  have h1 := sput_len 9 g.kind.toNat (by omega)
  have h2 := stext_len g.key (by omega)
  have h3 := stext_len g.val (by omega)
  have h4 := stext_len g.old (by omega)
  have h5 := sput_len 9 (zig g.n) (by have := zig_lt g.n hx.1 hx.2; omega)
  unfold sbytes
  split
  · simp only [List.length_append]; omega
  split
  · simp only [List.length_append]; omega
  split <;> simp only [List.length_append, List.length_nil] <;> omega
theorem flat_len {α : Type} {f : α → List UInt8} {n : Nat} : ∀ (l : List α), (∀ x ∈ l, (f x).length ≤ n) → (l.flatMap f).length ≤ l.length * n
  | [], _ => by simp
  | x :: l, h => by
    rw [List.flatMap_cons, List.length_append, List.length_cons, Nat.add_mul]
    have h1 := h x List.mem_cons_self
    have h2 := flat_len l (fun y hy => h y (List.mem_cons_of_mem _ hy))
    omega
theorem obytes_len {o : Opn} (h : goodO o = true) (hx : ∀ x ∈ o.ss, i64ok x.n) : (obytes o).length ≤ 2000 := by
  unfold goodO at h
  simp only [Bool.and_eq_true, decide_eq_true_eq] at h
  obtain ⟨⟨⟨⟨g1, s1⟩, s2⟩, ga⟩, sa⟩ := h
  have h1 := flat_len (f := gbytes) (n := 100) o.gs (fun x hm => gbytes_len (List.all_eq_true.1 ga x hm))
  have h2 := flat_len (f := sbytes) (n := 200) o.ss (fun x hm => sbytes_len (List.all_eq_true.1 sa x hm) (hx x hm))
  have h3 := sput_len 9 o.gs.length (by omega)
  have h4 := sput_len 9 o.ss.length (by omega)
  unfold obytes
  simp only [List.length_append]
  omega

theorem nil_op (w : World) : OpIn w (.agg #[.slice none 0 0, .slice none 0 0]) ⟨[], []⟩ :=
  ⟨_, _, rfl, ⟨none, 0, rfl, Nat.le_refl _, fun j g hj => by simp at hj⟩, ⟨none, 0, rfl, Nat.le_refl _, fun j g hj => by simp at hj⟩⟩

set_option maxRecDepth 100000 in
set_option maxHeartbeats 8000000 in
theorem opcodeBack_calls {sp : Nat → Addr} (v : Value) (o : Opn) (s : ByteArray) (w : World) (hL : Laid sp w) (hv : OpIn w v o) (hx : ∀ x ∈ o.ss, i64ok x.n) :
    Calls Tryd.prog 4 #[v, .string s] w fun e w' => e = .returned (.bool true) ∧ Below w.heap.size w w' := by
  have HV := Lib.hid hv
  have HL := Lib.hid hL
  obtain ⟨a, b, rfl, ha, hb⟩ := hv
  obtain ⟨A, ca, rfl, _, _⟩ := ha
  obtain ⟨C, cc, rfl, _, _⟩ := hb
  have hw1 := below_new w (.cells #[.slice A o.gs.length ca, .slice C o.ss.length cc] 32)
  have hx1 := heap_new w (.cells #[.slice A o.gs.length ca, .slice C o.ss.length cc] 32)
  have HV1 := Lib.hid (HV.out.grow hw1)
  have HF := Lib.hid (few_calls _ o _ HV1.out)
  have HX := Lib.hid hx
  have HX1 := Lib.hid hx1
  have HW1 := Lib.hid hw1
  have HL1 := Lib.hid (HL.out.below hw1)
  clear hL hw1 hx1 hx
  go_enter Tryd.func4, Tryd.ntmps4
  go_wp2_with fail
  refine HF.out.mono ?_
  generalize w.alloc (.cells #[.slice A o.gs.length ca, .slice C o.ss.length cc] 32) = W1 at *
  rintro e w2 ⟨b, rfl, hb, hb2⟩
  have HX2 := Lib.hid (blk_below hb2 HX1.out)
  have HV2 := Lib.hid (HV1.out.grow hb2)
  have HW2 := Lib.hid (below_trans HW1.out hb2)
  have HL2 := Lib.hid (HL1.out.below hb2)
  have x0 : w2.cell? ⟨w.heap.size, 0, none⟩ = some (.slice A o.gs.length ca) := blk_cell HX2.out 0
  have x1 : w2.cell? ⟨w.heap.size, 1, none⟩ = some (.slice C o.ss.length cc) := blk_cell HX2.out 1
  clear hb2
  cases b with
  | false =>
    clear hb
    go_wp2_with fail
    refine (awake9_calls (sp := sp) _ HL2.out).mono ?_
    rintro e w3 ⟨rfl, hb3⟩
    have HW3 := Lib.hid (below_trans HW2.out hb3)
    clear hb3
    go_wp2
    go_ret
    exact ⟨rfl, HW3.out⟩
  | true =>
    obtain ⟨hgl, hsl⟩ := hb rfl
    clear hb
    by_cases hs : 1000 < s.size
    · go_wp2_with fail
      refine (awake9_calls (sp := sp) _ HL2.out).mono ?_
      rintro e w3 ⟨rfl, hb3⟩
      have HW3 := Lib.hid (below_trans HW2.out hb3)
      clear hb3
      go_wp2
      go_ret
      exact ⟨rfl, HW3.out⟩
    · have hs' : (s.size : Int) ≤ 1000 := by omega
      have HP := Lib.hid (oprint_calls (sp := sp) _ o _ HL2.out HV2.out (by omega) (by omega) HX.out)
      cases hgood : goodO o with
      | false =>
        go_wp2_with fail
        refine HP.out.mono ?_
        rintro e w3 ⟨he, hb3⟩
        rw [if_neg (by rw [hgood]; decide)] at he
        subst he
        have HW3 := Lib.hid (below_trans HW2.out hb3)
        have HL3 := Lib.hid (HL2.out.below hb3)
        clear hb3 x0 x1 HP hgood
        go_wp2_with fail
        refine (oparse_calls (sp := sp) s _ HL3.out (by omega)).mono ?_
        cases hP : oparse s with
        | bad er =>
          rintro e w9 ⟨v9, rfl, he9, hb9⟩
          obtain ⟨t9, a9, rfl⟩ := he9.form
          have hb10 := below_new w9 (.cells #[.slice none 0 0, .slice none 0 0] 32)
          have hx10 := heap_new w9 (.cells #[.slice none 0 0, .slice none 0 0] 32)
          have y0 : (w9.alloc (.cells #[.slice none 0 0, .slice none 0 0] 32)).cell? ⟨w9.heap.size, 0, none⟩ = some (.slice none 0 0) := blk_cell hx10 0
          have y1 : (w9.alloc (.cells #[.slice none 0 0, .slice none 0 0] 32)).cell? ⟨w9.heap.size, 1, none⟩ = some (.slice none 0 0) := blk_cell hx10 1
          have HW10 := Lib.hid (below_trans (below_trans HW3.out hb9) hb10)
          have HL10 := Lib.hid (HL.out.below HW10.out)
          clear hb9 hb10 hx10 he9 hP
          go_upto_region 10 with fail
          generalize w9.alloc (.cells #[.slice none 0 0, .slice none 0 0] 32) = w10 at *
          go_wp2_with fail
          refine (same8_calls _ _ ⟨[], []⟩ ⟨[], []⟩ _ (nil_op _) (nil_op _) (by decide) (by decide) (by decide) (by decide)).mono ?_
          rintro e w11 ⟨x, rfl, hx, hb11⟩
          obtain rfl : x = true := hx.2 rfl
          have HW11 := Lib.hid (below_trans HW10.out hb11)
          clear hb11 hx
          go_wp2_with fail
          refine (awake9_calls (sp := sp) _ (HL.out.below HW11.out)).mono ?_
          rintro e w12 ⟨rfl, hb12⟩
          have HW12 := Lib.hid (below_trans HW11.out hb12)
          clear hb12
          go_wp2
          go_ret
          exact ⟨rfl, HW12.out⟩
        | ok o2 nx =>
          obtain ⟨g2, i2, hs2⟩ := oparse_ok hP
          have hgl2 : o2.gs.length ≤ 4 ∧ o2.ss.length ≤ 4 := by
            unfold goodO at g2
            simp only [Bool.and_eq_true, decide_eq_true_eq] at g2
            exact ⟨g2.1.1.1.1, g2.1.1.2⟩
          rintro e w9 ⟨v9, rfl, ho9, hb9⟩
          have HO9 := Lib.hid ho9
          obtain ⟨a9, b9, rfl, hg9, hs9⟩ := ho9
          obtain ⟨A9, ca9, rfl, _, _⟩ := hg9
          obtain ⟨C9, cc9, rfl, _, _⟩ := hs9
          have hb10 := below_new w9 (.cells #[.slice A9 o2.gs.length ca9, .slice C9 o2.ss.length cc9] 32)
          have hx10 := heap_new w9 (.cells #[.slice A9 o2.gs.length ca9, .slice C9 o2.ss.length cc9] 32)
          have y0 : (w9.alloc (.cells #[.slice A9 o2.gs.length ca9, .slice C9 o2.ss.length cc9] 32)).cell? ⟨w9.heap.size, 0, none⟩ = some (.slice A9 o2.gs.length ca9) := blk_cell hx10 0
          have y1 : (w9.alloc (.cells #[.slice A9 o2.gs.length ca9, .slice C9 o2.ss.length cc9] 32)).cell? ⟨w9.heap.size, 1, none⟩ = some (.slice C9 o2.ss.length cc9) := blk_cell hx10 1
          have HW10 := Lib.hid (below_trans (below_trans HW3.out hb9) hb10)
          have HL10 := Lib.hid (HL.out.below HW10.out)
          have HO10 := Lib.hid (HO9.out.grow hb10)
          have HS2 := Lib.hid hs2
          have HG2 := Lib.hid g2
          have HI2 := Lib.hid i2
          clear hb9 hb10 hx10 hP hs2 g2 i2
          go_upto_region 10 with fail
          generalize w9.alloc (.cells #[.slice A9 o2.gs.length ca9, .slice C9 o2.ss.length cc9] 32) = w10 at *
          go_wp2_with fail
          refine (oprint_calls (sp := sp) _ o2 _ HL10.out HO10.out (by omega) (by omega) HI2.out).mono ?_
          rintro e w11 ⟨he, hb11⟩
          rw [if_pos HG2.out, ← HS2.out] at he
          subst he
          have HW11 := Lib.hid (below_trans HW10.out hb11)
          have t2 : (s.toList == s.toList) = true := by simp
          clear hb11 y0 y1
          go_wp2_with fail
          refine (awake9_calls (sp := sp) _ (HL.out.below HW11.out)).mono ?_
          rintro e w12 ⟨rfl, hb12⟩
          have HW12 := Lib.hid (below_trans HW11.out hb12)
          clear hb12
          go_wp2
          go_ret
          exact ⟨rfl, HW12.out⟩
      | true =>
        have hlen := obytes_len hgood HX.out
        have hpar := oparse_put hgood HX.out
        have htak : otake (⟨(obytes o).toArray⟩ ++ s) 0 = .ok o (obytes o).length := by
          have h := otake_put (whole_rd (obytes o) s.data.toList) hgood HX.out
          have e : (⟨(obytes o).toArray⟩ : ByteArray) ++ s = ⟨(obytes o ++ s.data.toList).toArray⟩ := by
            apply str_ext
            simp [ByteArray.data_append]
          rw [e]
          exact h
        have hsz : (⟨(obytes o).toArray⟩ ++ s : ByteArray).size ≤ 10000000 := by
          rw [ByteArray.size_append, str_size]
          omega
        have HSZ := Lib.hid hsz
        have HPAR := Lib.hid hpar
        have HTAK := Lib.hid htak
        have HGOOD := Lib.hid hgood
        have HT5 := Lib.hid (fun w (hL : Laid sp w) => oparse_calls (sp := sp) ⟨(obytes o).toArray⟩ w hL (by rw [str_size]; omega))
        rw [hpar] at HT5
        have HT6 := Lib.hid (fun w (hL : Laid sp w) => otake_calls (sp := sp) (⟨(obytes o).toArray⟩ ++ s) 0 w hL hsz (by omega))
        rw [htak] at HT6
        clear hpar htak hgood hsz
        go_wp2_with fail
        refine HP.out.mono ?_
        rintro e w3 ⟨he, hb3⟩
        rw [if_pos HGOOD.out] at he
        subst he
        have HX3 := Lib.hid (blk_below hb3 HX2.out)
        have HV3 := Lib.hid (HV2.out.grow hb3)
        have HW3 := Lib.hid (below_trans HW2.out hb3)
        clear hb3 x0 x1 HP
        go_wp2_with fail
        refine (HT5.out _ (HL.out.below HW3.out)).mono ?_
        rintro e w4 ⟨v4, rfl, ho4, hb4⟩
        have HO4 := Lib.hid ho4
        obtain ⟨a4, b4, rfl, hg4, hs4⟩ := ho4
        obtain ⟨A4, ca4, rfl, _, _⟩ := hg4
        obtain ⟨C4, cc4, rfl, _, _⟩ := hs4
        have hb5 := below_new w4 (.cells #[.slice A4 o.gs.length ca4, .slice C4 o.ss.length cc4] 32)
        have HX5 := Lib.hid (blk_below hb5 (blk_below hb4 HX3.out))
        have HY5 := Lib.hid (heap_new w4 (.cells #[.slice A4 o.gs.length ca4, .slice C4 o.ss.length cc4] 32))
        have HV5 := Lib.hid ((HV3.out.grow hb4).grow hb5)
        have HO5 := Lib.hid (HO4.out.grow hb5)
        have HW5 := Lib.hid (below_trans (below_trans HW3.out hb4) hb5)
        clear hb4 hb5
        go_upto_region 6 with fail
        generalize w4.alloc (.cells #[.slice A4 o.gs.length ca4, .slice C4 o.ss.length cc4] 32) = w5 at *
        go_wp2_with fail
        refine (HT6.out _ (HL.out.below HW5.out)).mono ?_
        rintro e w6 ⟨v6, rfl, ho6, hb6⟩
        have HO6 := Lib.hid ho6
        obtain ⟨a6, b6, rfl, hg6, hs6⟩ := ho6
        obtain ⟨A6, ca6, rfl, _, _⟩ := hg6
        obtain ⟨C6, cc6, rfl, _, _⟩ := hs6
        have hb7 := below_new w6 (.cells #[.slice A6 o.gs.length ca6, .slice C6 o.ss.length cc6] 32)
        have HX7 := Lib.hid (blk_below hb7 (blk_below hb6 HX5.out))
        have HY7 := Lib.hid (blk_below hb7 (blk_below hb6 HY5.out))
        have HZ7 := Lib.hid (heap_new w6 (.cells #[.slice A6 o.gs.length ca6, .slice C6 o.ss.length cc6] 32))
        have HV7 := Lib.hid ((HV5.out.grow hb6).grow hb7)
        have HO7 := Lib.hid ((HO5.out.grow hb6).grow hb7)
        have HQ7 := Lib.hid (HO6.out.grow hb7)
        have HW7 := Lib.hid (below_trans (below_trans HW5.out hb6) hb7)
        clear hb6 hb7
        go_upto_region 7 with fail
        generalize w6.alloc (.cells #[.slice A6 o.gs.length ca6, .slice C6 o.ss.length cc6] 32) = w7 at *
        have x0 : w7.cell? ⟨w.heap.size, 0, none⟩ = some (.slice A o.gs.length ca) := blk_cell HX7.out 0
        have x1 : w7.cell? ⟨w.heap.size, 1, none⟩ = some (.slice C o.ss.length cc) := blk_cell HX7.out 1
        have y0 : w7.cell? ⟨w4.heap.size, 0, none⟩ = some (.slice A4 o.gs.length ca4) := blk_cell HY7.out 0
        have y1 : w7.cell? ⟨w4.heap.size, 1, none⟩ = some (.slice C4 o.ss.length cc4) := blk_cell HY7.out 1
        go_wp2_with fail
        refine (same8_calls _ _ o o _ HV7.out HO7.out (by omega) (by omega) (by omega) (by omega)).mono ?_
        rintro e w8 ⟨x, rfl, hx, hb8⟩
        obtain rfl : x = true := hx.2 rfl
        have HW8 := Lib.hid (below_trans HW7.out hb8)
        have HV8 := Lib.hid (HV7.out.grow hb8)
        have HQ8 := Lib.hid (HQ7.out.grow hb8)
        have u0 : w8.cell? ⟨w.heap.size, 0, none⟩ = some (.slice A o.gs.length ca) := blk_cell (blk_below hb8 HX7.out) 0
        have u1 : w8.cell? ⟨w.heap.size, 1, none⟩ = some (.slice C o.ss.length cc) := blk_cell (blk_below hb8 HX7.out) 1
        have z0 : w8.cell? ⟨w6.heap.size, 0, none⟩ = some (.slice A6 o.gs.length ca6) := blk_cell (blk_below hb8 HZ7.out) 0
        have z1 : w8.cell? ⟨w6.heap.size, 1, none⟩ = some (.slice C6 o.ss.length cc6) := blk_cell (blk_below hb8 HZ7.out) 1
        clear hb8 hx x0 x1 y0 y1
        go_wp2_with fail
        refine (same8_calls _ _ o o _ HV8.out HQ8.out (by omega) (by omega) (by omega) (by omega)).mono ?_
        rintro e w13 ⟨x, rfl, hx, hb13⟩
        obtain rfl : x = true := hx.2 rfl
        have HW13 := Lib.hid (below_trans HW8.out hb13)
        have HL13 := Lib.hid (HL.out.below HW13.out)
        clear hb13 hx u0 u1 z0 z1 hlen
        go_wp2_with fail
        refine (oparse_calls (sp := sp) s _ HL13.out (by omega)).mono ?_
        cases hP : oparse s with
        | bad er =>
          rintro e w9 ⟨v9, rfl, he9, hb9⟩
          obtain ⟨t9, a9, rfl⟩ := he9.form
          have hb10 := below_new w9 (.cells #[.slice none 0 0, .slice none 0 0] 32)
          have hx10 := heap_new w9 (.cells #[.slice none 0 0, .slice none 0 0] 32)
          have y0 : (w9.alloc (.cells #[.slice none 0 0, .slice none 0 0] 32)).cell? ⟨w9.heap.size, 0, none⟩ = some (.slice none 0 0) := blk_cell hx10 0
          have y1 : (w9.alloc (.cells #[.slice none 0 0, .slice none 0 0] 32)).cell? ⟨w9.heap.size, 1, none⟩ = some (.slice none 0 0) := blk_cell hx10 1
          have HW10 := Lib.hid (below_trans (below_trans HW13.out hb9) hb10)
          have HL10 := Lib.hid (HL.out.below HW10.out)
          clear hb9 hb10 hx10 he9 hP
          go_upto_region 10 with fail
          generalize w9.alloc (.cells #[.slice none 0 0, .slice none 0 0] 32) = w10 at *
          go_wp2_with fail
          refine (same8_calls _ _ ⟨[], []⟩ ⟨[], []⟩ _ (nil_op _) (nil_op _) (by decide) (by decide) (by decide) (by decide)).mono ?_
          rintro e w11 ⟨x, rfl, hx, hb11⟩
          obtain rfl : x = true := hx.2 rfl
          have HW11 := Lib.hid (below_trans HW10.out hb11)
          clear hb11 hx
          go_wp2_with fail
          refine (awake9_calls (sp := sp) _ (HL.out.below HW11.out)).mono ?_
          rintro e w12 ⟨rfl, hb12⟩
          have HW12 := Lib.hid (below_trans HW11.out hb12)
          clear hb12
          go_wp2
          go_ret
          exact ⟨rfl, HW12.out⟩
        | ok o2 nx =>
          obtain ⟨g2, i2, hs2⟩ := oparse_ok hP
          have hgl2 : o2.gs.length ≤ 4 ∧ o2.ss.length ≤ 4 := by
            unfold goodO at g2
            simp only [Bool.and_eq_true, decide_eq_true_eq] at g2
            exact ⟨g2.1.1.1.1, g2.1.1.2⟩
          rintro e w9 ⟨v9, rfl, ho9, hb9⟩
          have HO9 := Lib.hid ho9
          obtain ⟨a9, b9, rfl, hg9, hs9⟩ := ho9
          obtain ⟨A9, ca9, rfl, _, _⟩ := hg9
          obtain ⟨C9, cc9, rfl, _, _⟩ := hs9
          have hb10 := below_new w9 (.cells #[.slice A9 o2.gs.length ca9, .slice C9 o2.ss.length cc9] 32)
          have hx10 := heap_new w9 (.cells #[.slice A9 o2.gs.length ca9, .slice C9 o2.ss.length cc9] 32)
          have y0 : (w9.alloc (.cells #[.slice A9 o2.gs.length ca9, .slice C9 o2.ss.length cc9] 32)).cell? ⟨w9.heap.size, 0, none⟩ = some (.slice A9 o2.gs.length ca9) := blk_cell hx10 0
          have y1 : (w9.alloc (.cells #[.slice A9 o2.gs.length ca9, .slice C9 o2.ss.length cc9] 32)).cell? ⟨w9.heap.size, 1, none⟩ = some (.slice C9 o2.ss.length cc9) := blk_cell hx10 1
          have HW10 := Lib.hid (below_trans (below_trans HW13.out hb9) hb10)
          have HL10 := Lib.hid (HL.out.below HW10.out)
          have HO10 := Lib.hid (HO9.out.grow hb10)
          have HS2 := Lib.hid hs2
          have HG2 := Lib.hid g2
          have HI2 := Lib.hid i2
          clear hb9 hb10 hx10 hP hs2 g2 i2
          go_upto_region 10 with fail
          generalize w9.alloc (.cells #[.slice A9 o2.gs.length ca9, .slice C9 o2.ss.length cc9] 32) = w10 at *
          go_wp2_with fail
          refine (oprint_calls (sp := sp) _ o2 _ HL10.out HO10.out (by omega) (by omega) HI2.out).mono ?_
          rintro e w11 ⟨he, hb11⟩
          rw [if_pos HG2.out, ← HS2.out] at he
          subst he
          have HW11 := Lib.hid (below_trans HW10.out hb11)
          have t2 : (s.toList == s.toList) = true := by simp
          clear hb11 y0 y1
          go_wp2_with fail
          refine (awake9_calls (sp := sp) _ (HL.out.below HW11.out)).mono ?_
          rintro e w12 ⟨rfl, hb12⟩
          have HW12 := Lib.hid (below_trans HW11.out hb12)
          clear hb12
          go_wp2
          go_ret
          exact ⟨rfl, HW12.out⟩
end Go.Proofs.YtgjabbffpfhmjaaDoor
