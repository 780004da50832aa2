/- quote.Lines, and the reference's Lines, Same. -/
import Derived.Test.YtgjabbffpfhmjaaDoorQSplit
import Derived.Test.YtgjabbffpfhmjaaDoorBld
namespace Go.Proofs.YtgjabbffpfhmjaaDoor
open Go.RowKit Go.Extern.Stop Go.Stop Go.Extern Go.Proofs.YtgjabbffpfhmjaaDoorW.PrintWords

def joined (r : List ByteArray) : List UInt8 := Lib.join (r.map (·.data.toList)) [32]
def linesOf (l : List (List ByteArray)) : List UInt8 := l.flatMap fun r => joined r ++ [10]
theorem linesOf_snoc (l : List (List ByteArray)) (r : List ByteArray) : linesOf (l ++ [r]) = linesOf l ++ (joined r ++ [10]) := by simp [linesOf]
theorem linesOf_take_le (l : List (List ByteArray)) (k : Nat) : (linesOf (l.take k)).length ≤ (linesOf l).length := by
  have h : linesOf l = linesOf (l.take k) ++ linesOf (l.drop k) := by
    unfold linesOf; rw [← List.flatMap_append, List.take_append_drop]
  rw [h, List.length_append]; omega
theorem take_one {α : Type} (l : List α) (k : Nat) (x : α) (h : l[k]? = some x) : l.take (k + 1) = l.take k ++ [x] := by
  rw [List.take_add_one, h]; rfl

/-- strings.Join at whatever row. -/
theorem join_calls (v : Value) (r : List ByteArray) (w : World) (hr : Strs w v r) (hl : (joined r).length ≤ 10000000) (hN : r.length ≤ 10000000) :
    Calls Tryd.prog 64 #[v, .string ⟨#[32]⟩] w fun e w' => e = .returned (.string ⟨(joined r).toArray⟩) ∧ Below w.heap.size w w' := by
  obtain ⟨A, c, rfl, hc, h⟩ := hr
  cases r with
  | nil =>
    refine (Tryd.strings_Join_none A c ⟨#[32]⟩ w).mono ?_
    rintro e w' ⟨rfl, rfl⟩
    exact ⟨rfl, Below.refl _ _⟩
  | cons x r =>
    obtain ⟨b, off, rfl, h0⟩ := h 0 x rfl
    refine (Tryd.strings_Join b off c (x :: r) ⟨#[32]⟩ w (fun j y hy => ?_) (cell_lt h0) (by omega) hc (by unfold joined at hl; simpa using (Nat.le_trans hl (by decide)))).mono ?_
    · obtain ⟨b', off', he, h1⟩ := h j y hy
      simp at he
      obtain ⟨rfl, rfl⟩ := he
      exact h1
    · rintro e w' ⟨rfl, hb⟩
      exact ⟨rfl, hb⟩

set_option maxRecDepth 100000 in
set_option maxHeartbeats 4000000 in
theorem lines_calls (v : Value) (l : List (List ByteArray)) (w : World) (hv : StrRows w v l) (hl : (linesOf l).length ≤ 10000000) (hN : ∀ r ∈ l, r.length ≤ 10000000) (hN2 : l.length ≤ 10000000) :
    Calls Tryd.prog 24 #[v] w fun e w' => e = .returned (.string ⟨(linesOf l).toArray⟩) ∧ Below w.heap.size w w' := by
  obtain ⟨A, c, rfl, hc, h⟩ := hv
  have HH := Lib.hid h
  have HN := Lib.hid hN
  clear h hN
  go_enter Tryd.func24, Tryd.ntmps24
  go_wp2
  have hlm : l.length ≤ 9223372036854775807 := by omega
  go_loopw [8] (fun i wl => ∃ k : Nat, i = .int .i64 k ∧ k ≤ l.length ∧ IsBld w.heap.size w.heap.size (Lib.byteCells (linesOf (l.take k))) wl ∧ Below w.heap.size w wl) (fun i _ => l.length - (intOf i).toNat)
  case atStart => exact ⟨0, rfl, by omega, bld_new w, below_new _ _⟩
  case round =>
    obtain ⟨k, rfl, hk, hbld, hB⟩ := hrel
    by_cases hlt : k < l.length
    · have hkr : l[k]? = some l[k] := List.getElem?_eq_getElem hlt
      obtain ⟨b, off, u, hA, hcell, hstr⟩ := HH.out k _ hkr
      subst hA
      have hstr1 := hstr.grow hB
      obtain ⟨Au, cu, hu, hcu, hin⟩ := hstr
      subst hu
      have hcell1 := cell_below hB hcell
      have hcell2 : wr.cell? ⟨b, off + k, none⟩ = some (.slice Au l[k].length cu) := hcell1
      have h1 := linesOf_take_le l (k + 1)
      have h2 := take_one l k _ hkr
      rw [h2, linesOf_snoc, List.length_append, List.length_append] at h1
      have HT : Hid (Lib.byteCells (linesOf (l.take (k + 1))) = Lib.byteCells (linesOf (l.take k)) ++ Lib.byteCells (joined l[k]) ++ Lib.byteCells [10]) := by
        unfold Hid; rw [h2, linesOf_snoc]; simp [Lib.byteCells]
      have hn := HN.out l[k] (List.getElem_mem hlt)
      have hbl : (Lib.byteCells (linesOf (l.take k))).length = (linesOf (l.take k)).length := Lib.byteCells_length _
      simp only [List.length_cons, List.length_nil] at h1
      generalize linesOf (l.take k) = done at hbld HT h1 hbl
      generalize hrow : l[k] = row at *
      have HBld := Lib.hid hbld
      have HB := Lib.hid hB
      have HS := Lib.hid hstr1
      have HBL := Lib.hid hbl
      clear hbld hB hstr1 hin hcell hcell1 h2 hkr hrow hbl
      have hsz := HB.out.size
      go_wp2_with fail
      refine (join_calls _ row _ HS.out (by omega) hn).mono ?_
      rintro e w1 ⟨rfl, hb1⟩
      have HB1 := Lib.hid (below_trans HB.out hb1)
      have hsz1 := HB1.out.size
      have HBld1 := Lib.hid (HBld.out.grow hb1)
      have hjs : (⟨(joined row).toArray⟩ : ByteArray).size = (joined row).length := by show (joined row).toArray.size = _; simp
      have HJS := Lib.hid hjs
      clear hb1 hjs
      go_wp2_with fail
      refine (bld_string w.heap.size w.heap.size _ _ _ HBld1.out (by rw [HBL.out, HJS.out]; omega) hsz1).mono ?_
      rintro e w2 ⟨rfl, hb2, hk2⟩
      have HB2 := Lib.hid (HB1.out.trans hk2)
      have hsz2 := HB2.out.size
      rw [show Lib.strCells ⟨(joined row).toArray⟩ = Lib.byteCells (joined row) by simp [Lib.strCells, Lib.byteCells]] at hb2
      have HBld2 := Lib.hid hb2
      clear hb2 hk2
      go_wp2_with fail
      refine (bld_byte w.heap.size w.heap.size _ 10 _ HBld2.out (by rw [List.length_append, HBL.out, Lib.byteCells_length]; omega) hsz2).mono ?_
      rintro e w3 ⟨rfl, hb3, hk3⟩
      have HB3 := Lib.hid (HB2.out.trans hk3)
      have HBld3 := Lib.hid hb3
      clear hb3 hk3
      go_wp2
      go_roundw
      case rel => exact ⟨k + 1, by go_num, by omega, by rw [HT.out]; exact HBld3.out, HB3.out⟩
      case measure => simp [intOf]; omega
    · obtain rfl : k = l.length := by omega
      rw [List.take_length] at hbld
      have HBld := Lib.hid hbld
      have HB := Lib.hid hB
      clear hbld hB
      go_wp2_with (go_at_call 60; refine (Tryd.Builder_String_any w.heap.size w.heap.size (linesOf l) _ HBld.out HB.out.size).mono ?_; rintro e w1 ⟨rfl, hk1⟩)
      have HF := Lib.hid (HB.out.trans hk1)
      clear hk1
      go_wp2
      go_ret
      exact ⟨rfl, HF.out⟩
end Go.Proofs.YtgjabbffpfhmjaaDoor
