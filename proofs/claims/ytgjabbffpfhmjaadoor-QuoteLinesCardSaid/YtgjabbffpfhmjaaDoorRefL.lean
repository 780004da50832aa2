/- philtreref04: Lines, Cut, Split, by their contracts: Lines writes what quote.Lines writes; Split tells what quote.Split tells. -/
import Derived.Test.YtgjabbffpfhmjaaDoorSame
namespace Go.Proofs.YtgjabbffpfhmjaaDoor
open Go.RowKit Go.Extern.Stop Go.Stop Go.Extern Go.Proofs.YtgjabbffpfhmjaaDoorW.PrintWords

/-! ### Lines -/
theorem join_more (y z : List UInt8) (r : List (List UInt8)) : Lib.join (y :: z :: r) [32] = y ++ [32] ++ Lib.join (z :: r) [32] := by simp [Lib.join, List.intercalate]
theorem join_step : ∀ (r : List (List UInt8)) (x : List UInt8), Lib.join (r ++ [x]) [32] = Lib.join r [32] ++ (if r = [] then [] else [32]) ++ x
  | [], x => by simp [Lib.join, List.intercalate]
  | [y], x => by
    rw [List.singleton_append, join_more]
    simp [Lib.join, List.intercalate]
  | y :: z :: r, x => by
    have ih := join_step (z :: r) x
    simp only [List.cons_append] at ih ⊢
    rw [join_more, join_more, ih]
    simp
theorem joined_snoc (r : List ByteArray) (x : ByteArray) : joined (r ++ [x]) = joined r ++ (if r = [] then [] else [32]) ++ x.data.toList := by
  unfold joined
  rw [List.map_append, List.map_singleton, join_step]
  simp
theorem joined_app_le : ∀ b a : List ByteArray, (joined a).length ≤ (joined (a ++ b)).length
  | [], a => by simp
  | x :: b, a => by
    have ih := joined_app_le b (a ++ [x])
    rw [List.append_assoc, List.singleton_append] at ih
    rw [joined_snoc] at ih
    simp only [List.length_append] at ih
    omega
theorem joined_take_le (r : List ByteArray) (k : Nat) : (joined (r.take k)).length ≤ (joined r).length := by
  have := joined_app_le (r.drop k) (r.take k)
  rwa [List.take_append_drop] at this
theorem lines_cat (a : List UInt8) (x : List UInt8) : (⟨a.toArray⟩ : ByteArray) ++ ⟨x.toArray⟩ = ⟨(a ++ x).toArray⟩ := by
  apply str_ext
  simp [ByteArray.data_append]
theorem lines_cat' (a : List UInt8) (x : ByteArray) : (⟨a.toArray⟩ : ByteArray) ++ x = ⟨(a ++ x.data.toList).toArray⟩ := by
  apply str_ext
  simp [ByteArray.data_append]

set_option maxRecDepth 100000 in
set_option maxHeartbeats 4000000 in
theorem rlines_calls (v : Value) (l : List (List ByteArray)) (w : World) (hv : StrRows w v l) (hl : (linesOf l).length ≤ 10000000) (hN : ∀ r ∈ l, r.length ≤ 10000000) (hN2 : l.length ≤ 10000000) :
    Calls Tryd.prog 25 #[v] w fun e w' => e = .returned (.string ⟨(linesOf l).toArray⟩) ∧ Below w.heap.size w w' := by
  obtain ⟨A, c, rfl, hc, h⟩ := hv
  have HH := Lib.hid h
  have HN := Lib.hid hN
  have HLL := Lib.hid hl
  clear h hN
  go_enter Tryd.func25, Tryd.ntmps25
  go_wp2
  go_loopw [3, 4] (fun s i wl => ∃ k : Nat, s = .string ⟨(linesOf (l.take k)).toArray⟩ ∧ i = .int .i64 k ∧ k ≤ l.length ∧ Below w.heap.size w wl) (fun _ i _ => l.length - (intOf i).toNat)
  case atStart => exact ⟨0, rfl, rfl, by omega, Below.refl _ _⟩
  case round =>
    obtain ⟨k, rfl, rfl, hk, hB⟩ := hrel
    have HB := Lib.hid hB
    clear hB
    by_cases hlt : k < l.length
    · have hkr : l[k]? = some l[k] := List.getElem?_eq_getElem hlt
      obtain ⟨b, off, u, hA, hcell, hstr⟩ := HH.out k _ hkr
      subst hA
      obtain ⟨Au, cu, hu, hcu, hin⟩ := hstr
      subst hu
      have h1 := linesOf_take_le l (k + 1)
      have h2 := take_one l k _ hkr
      rw [h2, linesOf_snoc, List.length_append, List.length_append] at h1
      have HT : Hid (linesOf (l.take (k + 1)) = linesOf (l.take k) ++ (joined l[k] ++ [10])) := by unfold Hid; rw [h2, linesOf_snoc]
      have hn := HN.out l[k] (List.getElem_mem hlt)
      generalize linesOf (l.take k) = done at HT h1
      generalize hrow : l[k] = row at *
      have HROW := Lib.hid hrow
      have HC := Lib.hid hcell
      have HIN := Lib.hid hin
      have HK := Lib.hid hkr
      clear hrow hcell hin hkr h2 hl
      go_wp2_with fail
      go_loopw [3, 5] (fun s i wl => ∃ n : Nat, s = .string ⟨(done ++ joined (row.take n)).toArray⟩ ∧ i = .int .i64 n ∧ n ≤ row.length ∧ Below w.heap.size w wl) (fun _ i _ => row.length - (intOf i).toNat)
      case atStart => exact ⟨0, by simp [joined, Lib.join], rfl, by omega, HB.out⟩
      case round =>
        obtain ⟨n, rfl, rfl, hn1, hB2⟩ := hrel
        have HB2 := Lib.hid hB2
        have hc1 : wr.cell? ⟨b, off + k, none⟩ = some (.slice Au row.length cu) := cell_below HB2.out HC.out
        clear hB2
        by_cases hn2 : n < row.length
        · have hxr : row[n]? = some row[n] := List.getElem?_eq_getElem hn2
          obtain ⟨g, q, hA, hx1⟩ := HIN.out n _ hxr
          subst hA
          have hx2 : wr.cell? ⟨g, q + n, none⟩ = some (.string row[n]) := cell_below HB2.out hx1
          have hjs := joined_snoc (row.take n) row[n]
          rw [← take_one row n _ hxr] at hjs
          have hjl := joined_take_le row (n + 1)
          have hds : (⟨(done ++ joined (row.take n)).toArray⟩ : ByteArray).size = done.length + (joined (row.take n)).length := by show (done ++ joined (row.take n)).toArray.size = _; simp
          simp only [List.length_cons, List.length_nil] at h1
          clear hxr hx1
          by_cases hn0 : n = 0
          · subst hn0
            rw [List.take_zero, if_pos rfl] at hjs
            rw [hjs] at hjl
            simp only [List.length_append, data_len, List.length_nil] at hjl
            have HJ : Hid ((⟨(done ++ joined (row.take 0)).toArray⟩ : ByteArray) ++ row[0] = ⟨(done ++ joined (row.take (0 + 1))).toArray⟩) := by
              unfold Hid
              rw [hjs, lines_cat', List.take_zero]
              simp
            rw [Nat.add_zero] at hx2
            have hrs : row[0].size ≤ 10000000 := by have := HLL.out; omega
            have hd2 : (⟨(done ++ joined (row.take 0)).toArray⟩ : ByteArray).size ≤ 10000000 := by have := HLL.out; rw [List.take_zero] at hds ⊢; omega
            clear hjs hjl hds
            generalize (⟨(done ++ joined (row.take 0)).toArray⟩ : ByteArray) = D at *
            generalize row[0] = X at *
            go_wp2
            go_roundw
            case rel => exact ⟨1, by rw [HJ.out], by go_num, by omega, HB2.out⟩
            case measure => simp [intOf]; omega
          · have hn0' : (0 : Int) < (n : Int) := by omega
            rw [if_neg (by intro hz; have hz2 := congrArg List.length hz; rw [List.length_take, List.length_nil] at hz2; omega)] at hjs
            rw [hjs] at hjl
            simp only [List.length_append, data_len, List.length_cons, List.length_nil] at hjl
            have HJ : Hid ((⟨(done ++ joined (row.take n)).toArray⟩ : ByteArray) ++ ⟨#[32]⟩ ++ row[n] = ⟨(done ++ joined (row.take (n + 1))).toArray⟩) := by
              unfold Hid
              rw [hjs, lines_cat _ [32], lines_cat']
              simp
            have hrs : row[n].size ≤ 10000000 := by have := HLL.out; omega
            have hd2 : (⟨(done ++ joined (row.take n)).toArray⟩ : ByteArray).size ≤ 10000000 := by have := HLL.out; omega
            have hd3 : ((⟨(done ++ joined (row.take n)).toArray⟩ : ByteArray) ++ ⟨#[32]⟩).size ≤ 10000001 := by rw [ByteArray.size_append]; exact Nat.add_le_add hd2 (Nat.le_refl 1)
            clear hjs hjl hds
            generalize (⟨(done ++ joined (row.take n)).toArray⟩ : ByteArray) = D at *
            generalize row[n] = X at *
            go_wp2
            go_roundw
            case rel => exact ⟨n + 1, by rw [HJ.out], by go_num, by omega, HB2.out⟩
            case measure => simp [intOf]; omega
        · obtain rfl : n = row.length := by omega
          rw [List.take_length]
          have HJ : Hid ((⟨(done ++ joined row).toArray⟩ : ByteArray) ++ ⟨#[10]⟩ = ⟨(linesOf (l.take (k + 1))).toArray⟩) := by
            unfold Hid
            rw [HT.out]
            exact (lines_cat _ [10]).trans (by rw [List.append_assoc])
          have hds : (⟨(done ++ joined row).toArray⟩ : ByteArray).size = done.length + (joined row).length := by show (done ++ joined row).toArray.size = _; simp
          simp only [List.length_cons, List.length_nil] at h1
          have hd2 : (⟨(done ++ joined row).toArray⟩ : ByteArray).size ≤ 10000000 := by have := HLL.out; omega
          clear hds
          generalize (⟨(done ++ joined row).toArray⟩ : ByteArray) = D at *
          go_wp2
          go_roundw
          case rel => exact ⟨k + 1, by rw [HJ.out], by go_num, by omega, HB2.out⟩
          case measure => simp [intOf]; omega
    · obtain rfl : k = l.length := by omega
      rw [List.take_length]
      go_wp2
      go_ret
      exact ⟨rfl, HB.out⟩

/-! ### Cut -/
theorem fields_cut (b : UInt8) : ∀ (i : Nat) (l : List UInt8), (∀ j, j < i → ∃ c, l[j]? = some c ∧ c ≠ b) → l[i]? = some b → fields b l = l.take i :: fields b (l.drop (i + 1))
  | 0, l, _, h => by
    cases l with
    | nil => simp at h
    | cons c r =>
      obtain rfl : c = b := by simpa using h
      simp [fields]
  | i + 1, l, hno, h => by
    cases l with
    | nil => simp at h
    | cons c r =>
      obtain ⟨d, hd, hne⟩ := hno 0 (by omega)
      obtain rfl : c = d := by simpa using hd
      have ih := fields_cut b i r (fun j hj => by simpa using hno (j + 1) (by omega)) (by simpa using h)
      rw [fields, if_neg hne, ih]
      simp
theorem fields_none (b : UInt8) : ∀ l : List UInt8, (∀ c ∈ l, c ≠ b) → fields b l = [l]
  | [], _ => rfl
  | c :: r, h => by
    rw [fields, if_neg (h c (List.mem_cons_self ..)), fields_none b r fun d hd => h d (List.mem_cons_of_mem _ hd)]
theorem fields_len (b : UInt8) : ∀ l : List UInt8, (fields b l).length ≤ l.length + 1
  | [] => by simp [fields]
  | c :: r => by
    have ih := fields_len b r
    unfold fields
    split
    · simp; omega
    · split
      · simp
      · rename_i h
        rw [h] at ih
        simp at ih ⊢
        omega
theorem ext_take (s : ByteArray) (f k : Nat) : s.extract f k = ⟨((s.data.toList.drop f).take (k - f)).toArray⟩ := by
  apply str_ext
  simp [List.take_drop]

theorem own_none (w : World) (t : TypeId) (sz : Nat) : (w.alloc (.cells #[] t)).ownsRow w.heap.size t sz (.slice (some ⟨w.heap.size, 0, none⟩) 0 0) 0 [] :=
  ⟨by simp, .inr ⟨w.heap.size, 0, #[], rfl, Nat.le_refl _, heap_new _ _, Nat.le_refl _, by simp, by simp, by simp⟩⟩
def CutPost (l : List ByteArray) (w : World) (e : Ending) (w' : World) : Prop := ∃ v, e = .returned v ∧ StrsT w' v l ∧ Below w.heap.size w w'
def CutRel (s : ByteArray) (b : UInt8) (F : List (List UInt8)) (w : World) (v f i : Value) (wl : World) : Prop :=
  ∃ (fr k : Nat) (acc : List (List UInt8)), f = .int .i64 fr ∧ i = .int .i64 k ∧ fr ≤ k ∧ k ≤ s.size ∧ acc.length ≤ fr ∧
      wl.ownsRow w.heap.size 9 1 v acc.length ((texts acc).map Value.string) ∧ acc ++ fields b (s.data.toList.drop fr) = F ∧ (∀ j, j < k - fr → ∃ c, (s.data.toList.drop fr)[j]? = some c ∧ c ≠ b) ∧ Below w.heap.size w wl
theorem byte_eq {a b : UInt8} (h : a = b) : ((a.toNat : Int) == (b.toNat : Int)) = true := by rw [h]; simp
theorem byte_ne {a b : UInt8} (h : a ≠ b) : ((a.toNat : Int) == (b.toNat : Int)) = false := by
  simp only [beq_eq_false_iff_ne, ne_eq]
  intro e; exact h (UInt8.toNat_inj.1 (by omega))

set_option maxRecDepth 100000 in
set_option maxHeartbeats 4000000 in
theorem rcut_calls (s : ByteArray) (b : UInt8) (w : World) (hs : s.size ≤ 10000000) :
    Calls Tryd.prog 67 #[.string s, .int .u8 b.toNat] w fun e w' => CutPost (texts (fields b s.data.toList)) w e w' := by
  obtain ⟨F, hF⟩ : ∃ F, fields b s.data.toList = F := ⟨_, rfl⟩
  rw [hF]
  have HF := Lib.hid hF
  have hb0 : (0 : Int) ≤ (b.toNat : Int) := by omega
  have hb1 : (b.toNat : Int) ≤ 255 := by have := b.toNat_lt; omega
  have HO := Lib.hid (own_none w 9 1)
  have HB := Lib.hid (below_new w (.cells #[] 9))
  clear hF
  go_enter Tryd.func67, Tryd.ntmps67
  go_wp2
  go_loopw [5, 6, 7] (fun v f i wl => CutRel s b F w v f i wl) (fun _ _ i _ => s.size - (intOf i).toNat)
  case atStart => exact ⟨0, 0, [], rfl, rfl, by omega, by omega, Nat.le_refl _, HO.out, HF.out, fun j hj => absurd hj (by omega), HB.out⟩
  case round =>
    obtain ⟨fr, k, acc, rfl, rfl, hfk, hk, hacc, hown, hrun, hno, hB⟩ := hrel
    have HW := Lib.hid hB
    have HOW := Lib.hid hown
    have HRUN := Lib.hid hrun
    have HNO := Lib.hid hno
    have hsz := HW.out.size
    have HCL : Hid (((texts acc).map Value.string).length = acc.length) := by unfold Hid; simp [texts]
    clear hB hown hrun hno HO HB
    by_cases hlt : k < s.size
    · have hc0 : (0 : Int) ≤ (s[k].toNat : Int) := by omega
      have hc1 : (s[k].toNat : Int) ≤ 255 := by have := s[k].toNat_lt; omega
      by_cases he : s[k] = b
      · have ht := byte_eq he
        have HFS : Hid (fields b (s.data.toList.drop fr) = (s.data.toList.drop fr).take (k - fr) :: fields b (s.data.toList.drop (k + 1))) := by
          unfold Hid
          rw [fields_cut b (k - fr) (s.data.toList.drop fr) HNO.out (by
            rw [List.getElem?_drop, show fr + (k - fr) = k by omega, List.getElem?_eq_getElem (by simpa using hlt)]
            exact congrArg some he), List.drop_drop, show fr + (k - fr + 1) = k + 1 by omega]
        have HEX := Lib.hid (ext_take s fr k)
        clear he
        go_wp2_with (at_builtin; refine print_append (w0 := w) w.heap.size rfl (.tmp 20) (.tmp 25) 51 9 (.string .empty) 16 rfl Tryd.underlying51 infoStr rfl (by decide) _ ((texts acc).map Value.string) (.string (s.extract fr k)) rfl rfl rfl (by rw [HCL.out]; exact HOW.out) HW.out hsz (by rw [HCL.out]; omega) ?_; intro v1 w3 ho3 hb3 hg3 hat3)
        have hown3 : w3.ownsRow w.heap.size 9 1 v1 (acc ++ [(s.data.toList.drop fr).take (k - fr)]).length ((texts (acc ++ [(s.data.toList.drop fr).take (k - fr)])).map Value.string) := by
          rw [HEX.out] at ho3
          simpa [texts] using ho3
        have HO3 := Lib.hid hown3
        have HB3 := Lib.hid hb3
        clear ho3 hown3 hb3 hg3 hat3
        go_wp2
        go_roundw
        case rel => exact ⟨k + 1, k + 1, acc ++ [(s.data.toList.drop fr).take (k - fr)], by go_num, by go_num, by omega, by omega, by simp; omega, HO3.out, by rw [← HRUN.out, HFS.out]; simp, fun j hj => absurd hj (by omega), HB3.out⟩
        case measure => simp [intOf]; omega
      · have ht := byte_ne he
        have HE := Lib.hid he
        clear he
        go_wp2
        go_roundw
        case rel => exact ⟨fr, k + 1, acc, rfl, by go_num, by omega, by omega, hacc, HOW.out, HRUN.out, fun j hj => by
          rcases Nat.lt_or_ge j (k - fr) with h1 | h1
          · exact HNO.out j h1
          · obtain rfl : j = k - fr := by omega
            refine ⟨s[k], ?_, HE.out⟩
            rw [List.getElem?_drop, show fr + (k - fr) = k by omega, List.getElem?_eq_getElem (by simpa using hlt)]
            rfl, HW.out⟩
        case measure => simp [intOf]; omega
    · obtain rfl : k = s.size := by omega
      have HFS : Hid (fields b (s.data.toList.drop fr) = [s.data.toList.drop fr]) := by
        refine fields_none b _ fun c hc => ?_
        obtain ⟨j, hj, hjc⟩ := List.getElem_of_mem hc
        simp at hj
        obtain ⟨d, hd, hne⟩ := HNO.out j (by omega)
        rw [List.getElem?_eq_getElem (by simp; omega), hjc] at hd
        rw [Option.some.inj hd]
        exact hne
      have HEX : Hid (s.extract fr s.size = ⟨(s.data.toList.drop fr).toArray⟩) := by
        unfold Hid
        rw [ext_take, List.take_of_length_le (by simp)]
      go_wp2_with (at_builtin; refine print_append (w0 := w) w.heap.size rfl (.tmp 29) (.tmp 33) 51 9 (.string .empty) 16 rfl Tryd.underlying51 infoStr rfl (by decide) _ ((texts acc).map Value.string) (.string (s.extract fr s.size)) rfl rfl rfl (by rw [HCL.out]; exact HOW.out) HW.out hsz (by rw [HCL.out]; omega) ?_; intro v1 w3 ho3 hb3 hg3 hat3)
      have hown3 : StrsT w3 v1 (texts F) := by
        have h : w3.ownsRow w.heap.size 9 1 v1 (acc ++ [s.data.toList.drop fr]).length ((texts (acc ++ [s.data.toList.drop fr])).map Value.string) := by
          rw [HEX.out] at ho3
          simpa [texts] using ho3
        rw [← HRUN.out, HFS.out]
        exact StrsT.own h
      have HO3 := Lib.hid (And.intro hown3 hb3)
      clear ho3 hown3 hb3 hg3 hat3
      go_wp2
      go_ret
      exact ⟨_, rfl, HO3.out.1, HO3.out.2⟩
end Go.Proofs.YtgjabbffpfhmjaaDoor
