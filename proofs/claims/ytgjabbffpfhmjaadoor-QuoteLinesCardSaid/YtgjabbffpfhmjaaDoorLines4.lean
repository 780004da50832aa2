/- philtrelaw04.QuoteLines answers true. -/
import Derived.Test.YtgjabbffpfhmjaaDoorAwake4
import Derived.Test.YtgjabbffpfhmjaaDoorRefS
import Derived.RegionTactic
import Derived.ChangeAlike
import Derived.BigRegion
import Derived.Deep.QuietTactic
import Derived.BigQuiet
import Derived.Deep.Cut
import Derived.Deep.CutRange
import Derived.Deep.DeepCutAuto
namespace Go.Proofs.YtgjabbffpfhmjaaDoor
open Go.RowKit Go.Extern.Stop Go.Stop Go.Extern Go.Proofs.YtgjabbffpfhmjaaDoorW.PrintWords

/-! ### the plain law -/
def GoodW (x : ByteArray) : Prop := x.data.toList ≠ [] ∧ ∀ c ∈ x.data.toList, c ≠ 32 ∧ c ≠ 10
def GoodR (r : List ByteArray) : Prop := r ≠ [] ∧ ∀ x ∈ r, GoodW x
def SmallR (r : List ByteArray) : Prop := r.length ≤ 10 ∧ ∀ x ∈ r, x.size ≤ 30
theorem fields_app (b : UInt8) : ∀ (y rest : List UInt8), (∀ c ∈ y, c ≠ b) → fields b (y ++ b :: rest) = y :: fields b rest
  | [], rest, _ => by simp [fields]
  | c :: y, rest, h => by
    rw [List.cons_append, fields, if_neg (h c (List.mem_cons_self ..)), fields_app b y rest fun d hd => h d (List.mem_cons_of_mem _ hd)]
theorem fields_join : ∀ r : List (List UInt8), r ≠ [] → (∀ x ∈ r, ∀ c ∈ x, c ≠ 32) → fields 32 (Lib.join r [32]) = r
  | [], h, _ => absurd rfl h
  | [y], _, h => by
    rw [show Lib.join [y] [32] = y by simp [Lib.join, List.intercalate]]
    exact fields_none 32 y (h y (List.mem_cons_self ..))
  | y :: z :: r, _, h => by
    rw [join_more, List.append_assoc, List.singleton_append, fields_app 32 y _ (h y (List.mem_cons_self ..)), fields_join (z :: r) (by simp) fun x hx => h x (List.mem_cons_of_mem _ hx)]
theorem join_mem : ∀ (r : List (List UInt8)) (c : UInt8), c ∈ Lib.join r [32] → c = 32 ∨ ∃ x ∈ r, c ∈ x
  | [], c, h => by simp [Lib.join, List.intercalate] at h
  | [y], c, h => by
    rw [show Lib.join [y] [32] = y by simp [Lib.join, List.intercalate]] at h
    exact .inr ⟨y, List.mem_cons_self .., h⟩
  | y :: z :: r, c, h => by
    rw [join_more] at h
    rcases List.mem_append.1 h with h | h
    · rcases List.mem_append.1 h with h | h
      · exact .inr ⟨y, List.mem_cons_self .., h⟩
      · exact .inl (List.mem_singleton.1 h)
    · rcases join_mem (z :: r) c h with h | ⟨x, hx, hc⟩
      · exact .inl h
      · exact .inr ⟨x, List.mem_cons_of_mem _ hx, hc⟩
theorem good_joined (r : List ByteArray) (h : GoodR r) : fields 32 (joined r) = r.map (·.data.toList) ∧ rightRow (joined r) = true ∧ ∀ c ∈ joined r, c ≠ 10 := by
  have h1 : fields 32 (joined r) = r.map (·.data.toList) := fields_join _ (by simpa using h.1) fun x hx c hc => by
    obtain ⟨y, hy, rfl⟩ := List.mem_map.1 hx
    exact ((h.2 y hy).2 c hc).1
  refine ⟨h1, rightRow_true fun f hf => ?_, fun c hc => ?_⟩
  · rw [h1] at hf
    obtain ⟨y, hy, rfl⟩ := List.mem_map.1 hf
    exact (h.2 y hy).1
  · rcases join_mem _ c hc with h2 | ⟨x, hx, hcx⟩
    · rw [h2]; decide
    · obtain ⟨y, hy, rfl⟩ := List.mem_map.1 hx
      exact ((h.2 y hy).2 c hcx).2
theorem fields_lines : ∀ l : List (List ByteArray), (∀ r ∈ l, GoodR r) → fields 10 (linesOf l) = l.map joined ++ [[]]
  | [], _ => rfl
  | r :: l, h => by
    rw [show linesOf (r :: l) = joined r ++ 10 :: linesOf l by simp [linesOf], fields_app 10 _ _ (good_joined r (h r (List.mem_cons_self ..))).2.2, fields_lines l fun x hx => h x (List.mem_cons_of_mem _ hx)]
    simp
theorem rsp_lines : ∀ (l : List (List ByteArray)) (p : Nat) (acc : List (List (List UInt8))), (∀ r ∈ l, GoodR r) → rsp (l.map joined ++ [[]]) p acc = .ok (acc ++ l.map fun r => r.map (·.data.toList))
  | [], p, acc, _ => by simp [rsp]
  | r :: l, p, acc, h => by
    obtain ⟨z, t, hz⟩ : ∃ z t, l.map joined ++ [[]] = z :: t := by
      cases l with
      | nil => exact ⟨_, _, rfl⟩
      | cons a l => exact ⟨_, _, rfl⟩
    obtain ⟨g1, g2, _⟩ := good_joined r (h r (List.mem_cons_self ..))
    rw [List.map_cons, List.cons_append, hz, rsp_more, if_pos g2, g1, ← hz, rsp_lines l _ _ fun x hx => h x (List.mem_cons_of_mem _ hx)]
    simp
theorem split_lines (l : List (List ByteArray)) (h : ∀ r ∈ l, GoodR r) : ∃ L, qsplit ⟨(linesOf l).toArray⟩ = .ok L ∧ L.map texts = l := by
  refine ⟨l.map fun r => r.map (·.data.toList), ?_, ?_⟩
  · rw [qsplit_rsp]
    show rsp (fields 10 (linesOf l)) 0 [] = _
    rw [fields_lines l h, rsp_lines l 0 [] h]
    rfl
  · rw [List.map_map]
    refine (List.map_congr_left fun r _ => ?_).trans (List.map_id l)
    show texts (r.map (·.data.toList)) = r
    unfold texts
    rw [List.map_map]
    exact (List.map_congr_left fun x _ => str_ext rfl).trans (List.map_id r)
theorem joined_len : ∀ r : List ByteArray, (∀ x ∈ r, x.size ≤ 30) → (joined r).length ≤ 31 * r.length
  | [], _ => by simp [joined, Lib.join, List.intercalate]
  | [y], h => by
    have := h y (List.mem_cons_self ..)
    rw [show joined [y] = y.data.toList by simp [joined, Lib.join, List.intercalate], data_len]
    simp only [List.length_cons, List.length_nil]
    omega
  | y :: z :: r, h => by
    have ih := joined_len (z :: r) fun x hx => h x (List.mem_cons_of_mem _ hx)
    have := h y (List.mem_cons_self ..)
    have e : joined (y :: z :: r) = y.data.toList ++ [32] ++ joined (z :: r) := join_more _ _ _
    rw [e]
    simp only [List.length_append, List.length_cons, List.length_nil, data_len] at ih ⊢
    omega
theorem lines_len : ∀ l : List (List ByteArray), (∀ r ∈ l, SmallR r) → (linesOf l).length ≤ 311 * l.length
  | [], _ => by simp [linesOf]
  | r :: l, h => by
    have ih := lines_len l fun x hx => h x (List.mem_cons_of_mem _ hx)
    have h1 := h r (List.mem_cons_self ..)
    have h2 := joined_len r h1.2
    have h3 := h1.1
    rw [show linesOf (r :: l) = joined r ++ [10] ++ linesOf l by simp [linesOf]]
    simp only [List.length_append, List.length_cons, List.length_nil]
    omega

theorem nil_rows (w : World) : StrRows w (.slice none 0 0) [] := (RowsT.nil w 0).reads
theorem rsp_small : ∀ (P : List (List UInt8)) (p : Nat) (acc L : List (List (List UInt8))) (N : Nat), rsp P p acc = .ok L → acc.length + P.length ≤ N → (∀ x ∈ P, x.length + 1 ≤ N) → (∀ r ∈ acc, r.length ≤ N) → L.length ≤ N ∧ ∀ r ∈ L, r.length ≤ N
  | [], p, acc, L, N, h, h1, h2, h3 => by
    cases h
    simp only [List.length_nil] at h1
    exact ⟨by omega, h3⟩
  | [x], p, acc, L, N, h, h1, h2, h3 => by
    rw [rsp_one] at h
    split at h
    · cases h
      exact ⟨by omega, h3⟩
    · cases h
  | x :: y :: r, p, acc, L, N, h, h1, h2, h3 => by
    rw [rsp_more] at h
    split at h
    · refine rsp_small (y :: r) _ _ L N h (by simp only [List.length_append, List.length_cons, List.length_nil] at h1 ⊢; omega) (fun z hz => h2 z (List.mem_cons_of_mem _ hz)) fun z hz => ?_
      rcases List.mem_append.1 hz with hz | hz
      · exact h3 z hz
      · rw [List.mem_singleton.1 hz]
        exact Nat.le_trans (fields_len 32 x) (h2 x (List.mem_cons_self ..))
    · cases h
theorem tot_mem : ∀ (P : List (List UInt8)) (x : List UInt8), x ∈ P → x.length + 1 ≤ tot P
  | y :: P, x, h => by
    rcases List.mem_cons.1 h with rfl | h
    · simp [tot]
    · have := tot_mem P x h
      simp [tot] at this ⊢
      omega
theorem split_small (s : ByteArray) (L : List (List (List UInt8))) (h : qsplit s = .ok L) (hs : s.size ≤ 1000) : (L.map texts).length ≤ 10000000 ∧ ∀ r ∈ L.map texts, r.length ≤ 10000000 := by
  rw [qsplit_rsp] at h
  have h1 := fields_len 10 s.data.toList
  have h2 := tot_fields 10 s.data.toList
  rw [data_len] at h1 h2
  obtain ⟨a1, a2⟩ := rsp_small _ _ _ L 10000000 h (by simp only [List.length_nil]; omega) (fun x hx => by have := tot_mem _ x hx; omega) (by simp)
  refine ⟨by simpa using a1, fun r hr => ?_⟩
  obtain ⟨z, hz, rfl⟩ := List.mem_map.1 hr
  unfold texts
  rw [List.length_map]
  exact a2 z hz

/-! ### the walk -/
theorem take_all {α : Type} {p : α → Prop} {l : List α} {k : Nat} {x : α} (h : ∀ r ∈ l.take k, p r) (hx : l[k]? = some x) (hp : p x) : ∀ r ∈ l.take (k + 1), p r := by
  rw [take_one l k x hx]
  intro r hr
  rcases List.mem_append.1 hr with hr | hr
  · exact h r hr
  · rw [List.mem_singleton.1 hr]; exact hp
theorem take_all_iff {α : Type} {p : α → Prop} {l : List α} {k : Nat} {x : α} (hx : l[k]? = some x) : (∀ r ∈ l.take (k + 1), p r) ↔ (∀ r ∈ l.take k, p r) ∧ p x := by
  rw [take_one l k x hx]
  constructor
  · intro h
    exact ⟨fun r hr => h r (List.mem_append_left _ hr), h x (List.mem_append_right _ (List.mem_singleton.2 rfl))⟩
  · rintro ⟨h1, h2⟩ r hr
    rcases List.mem_append.1 hr with hr | hr
    · exact h1 r hr
    · rw [List.mem_singleton.1 hr]; exact h2
/-- What the three loops keep. -/
def WRel (l : List (List ByteArray)) (w : World) (b i : Value) (wl : World) : Prop :=
  ∃ (k : Nat) (B : Bool), i = .int .i64 k ∧ b = .bool B ∧ k ≤ l.length ∧ (B = true ↔ ∀ r ∈ l.take k, GoodR r) ∧ (∀ r ∈ l.take k, SmallR r) ∧ Below w.heap.size w wl
def WRel2 (P : Prop) (row : List ByteArray) (w : World) (b i : Value) (wl : World) : Prop :=
  ∃ (k : Nat) (B : Bool), i = .int .i64 k ∧ b = .bool B ∧ k ≤ row.length ∧ (B = true ↔ P ∧ row ≠ [] ∧ ∀ x ∈ row.take k, GoodW x) ∧ (∀ x ∈ row.take k, x.size ≤ 30) ∧ Below w.heap.size w wl
def WRel3 (P : Prop) (x : ByteArray) (w : World) (b i : Value) (wl : World) : Prop :=
  ∃ (k : Nat) (B : Bool), i = .int .i64 k ∧ b = .bool B ∧ k ≤ x.size ∧ (B = true ↔ P ∧ x.data.toList ≠ [] ∧ ∀ c ∈ x.data.toList.take k, c ≠ 32 ∧ c ≠ 10) ∧ Below w.heap.size w wl

set_option maxRecDepth 100000 in
set_option maxHeartbeats 8000000 in
theorem quoteLines_calls {sp : Nat → Addr} (v : Value) (l : List (List ByteArray)) (s : ByteArray) (w : World) (hL : Laid sp w) (m : Int) (hm : w.cell? ⟨21, 0, none⟩ = some (.int .i64 m)) (hv : StrRows w v l) (hN : l.length ≤ 9223372036854775807) (hN2 : ∀ r ∈ l, r.length ≤ 9223372036854775807) :
    Calls Tryd.prog 7 #[v, .string s] w fun e w' => e = .returned (.bool true) ∧ Below w.heap.size w w' := by
  have HV := Lib.hid hv
  obtain ⟨A, c, rfl, hc, h⟩ := hv
  have HH := Lib.hid h
  have HL := Lib.hid hL
  have HM := Lib.hid hm
  have HN2 := Lib.hid hN2
  clear h hL hm hN2
  go_enter Tryd.func7, Tryd.ntmps7
  by_cases h1 : 20 < l.length
  · go_wp2_with fail
    refine (awake4_calls _ HL.out m HM.out).mono ?_
    rintro e w1 ⟨rfl, hb⟩
    have HB := Lib.hid hb
    clear hb
    go_wp2
    go_ret
    exact ⟨rfl, HB.out⟩
  by_cases h2 : 1000 < s.size
  · go_wp2_with fail
    refine (awake4_calls _ HL.out m HM.out).mono ?_
    rintro e w1 ⟨rfl, hb⟩
    have HB := Lib.hid hb
    clear hb
    go_wp2
    go_ret
    exact ⟨rfl, HB.out⟩
  go_wp2_with fail
  go_loopw [5, 6] (fun b i wl => WRel l w b i wl) (fun _ i _ => l.length - (intOf i).toNat)
  case atStart => exact ⟨0, true, rfl, rfl, by omega, by simp, by simp, Below.refl _ _⟩
  case round =>
    obtain ⟨k, B, rfl, rfl, hk, hB, hS, hW⟩ := hrel
    have HBB := Lib.hid hB
    have HSM := Lib.hid hS
    have HW := Lib.hid hW
    clear hB hS hW
    by_cases hlt : k < l.length
    · have hkr : l[k]? = some l[k] := List.getElem?_eq_getElem hlt
      have hrN := HN2.out _ (List.getElem_mem hlt)
      obtain ⟨b, off, u, hA, hcell, hstr⟩ := HH.out k _ hkr
      subst hA
      obtain ⟨Au, cu, hu, hcu, hin⟩ := hstr
      subst hu
      generalize l[k] = row at *
      have HKR := Lib.hid hkr
      have HC := Lib.hid hcell
      have HIN := Lib.hid hin
      have hc1 : wr.cell? ⟨b, off + k, none⟩ = some (.slice Au row.length cu) := cell_below HW.out hcell
      have hii : (k : Int) < (l.length : Int) := by omega
      clear hkr hcell hin
      by_cases hr10 : 10 < row.length
      · go_wp2_with fail
        refine (awake4_calls _ (HL.out.below HW.out) m (cell_below HW.out HM.out)).mono ?_
        rintro e w1 ⟨rfl, hb⟩
        have HB := Lib.hid (below_trans HW.out hb)
        clear hb
        go_wp2
        go_ret
        exact ⟨rfl, HB.out⟩
      go_upto_region 9 with fail
      go_cut [5] (fun c wx => (∃ B2 : Bool, c = .bool B2 ∧ (B2 = true ↔ B = true ∧ row ≠ [])) ∧ Below w.heap.size w wx)
      case first =>
        cases B with
        | false =>
          go_wp2
          go_meet
          exact ⟨⟨false, rfl, by simp⟩, HW.out⟩
        | true =>
          by_cases hr0 : row = []
          · have hl0 : row.length = 0 := by rw [hr0]; rfl
            have HR0 := Lib.hid hr0
            clear hr0
            go_wp2
            go_meet
            exact ⟨⟨false, by first | rfl | (simp [hl0]; done) | (rw [hl0]; rfl), by simp [HR0.out]⟩, HW.out⟩
          · have hl0 : 0 < row.length := List.length_pos_iff.2 hr0
            have HR0 := Lib.hid hr0
            clear hr0
            go_wp2
            go_meet
            exact ⟨⟨true, by first | rfl | (simp; omega), by simp [HR0.out]⟩, HW.out⟩
      case rest =>
      obtain ⟨⟨B2, rfl, hB2⟩, hWc⟩ := hcut
      have HB2 := Lib.hid hB2
      have HWC := Lib.hid hWc
      clear hB2 hWc hc1
      go_wp2_with fail
      go_loopw [5, 7] (fun b i wl => WRel2 (B = true) row w b i wl) (fun _ i _ => row.length - (intOf i).toNat)
      case atStart => exact ⟨0, B2, rfl, rfl, by omega, by rw [HB2.out]; simp, by simp, HWC.out⟩
      case round =>
        obtain ⟨n, B3, rfl, rfl, hn, hB3, hS3, hW3⟩ := hrel
        have HB3 := Lib.hid hB3
        have HS3 := Lib.hid hS3
        have HW3 := Lib.hid hW3
        clear hB3 hS3 hW3
        have hc1 : wr.cell? ⟨b, off + k, none⟩ = some (.slice Au row.length cu) := cell_below HW3.out HC.out
        by_cases hn2 : n < row.length
        · have hxr : row[n]? = some row[n] := List.getElem?_eq_getElem hn2
          obtain ⟨g, q, hA, hx1⟩ := HIN.out n _ hxr
          subst hA
          generalize row[n] = x at *
          have HXR := Lib.hid hxr
          have HX := Lib.hid hx1
          have hx2 : wr.cell? ⟨g, q + n, none⟩ = some (.string x) := cell_below HW3.out hx1
          have hij : (n : Int) < (row.length : Int) := by omega
          clear hxr hx1
          by_cases hx30 : 30 < x.size
          · go_wp2_with fail
            refine (awake4_calls _ (HL.out.below HW3.out) m (cell_below HW3.out HM.out)).mono ?_
            rintro e w1 ⟨rfl, hb⟩
            have HB := Lib.hid (below_trans HW3.out hb)
            clear hb
            go_wp2
            go_ret
            exact ⟨rfl, HB.out⟩
          go_upto_region 15 with fail
          go_cut [5] (fun c wx => (∃ B4 : Bool, c = .bool B4 ∧ (B4 = true ↔ B3 = true ∧ x.data.toList ≠ [])) ∧ Below w.heap.size w wx)
          case first =>
            cases B3 with
            | false =>
              go_wp2
              go_meet
              exact ⟨⟨false, rfl, by simp⟩, HW3.out⟩
            | true =>
              by_cases hr0 : x.data.toList = []
              · have hl0 := empty_yes hr0
                have HR0 := Lib.hid hr0
                clear hr0
                go_wp2
                go_meet
                exact ⟨⟨false, by first | rfl | (simp [hl0]; done) | (rw [hl0]; rfl), by simp [HR0.out]⟩, HW3.out⟩
              · have hl0 := empty_no hr0
                have HR0 := Lib.hid hr0
                clear hr0
                go_wp2
                go_meet
                exact ⟨⟨true, by first | rfl | (simp [hl0]; done), iff_of_true (by trivial) ⟨by trivial, HR0.out⟩⟩, HW3.out⟩
          case rest =>
          obtain ⟨⟨B4, rfl, hB4⟩, hW4⟩ := hcut
          have HB4 := Lib.hid hB4
          have HW4 := Lib.hid hW4
          clear hB4 hW4 hc1 hx2
          go_wp2_with fail
          go_loopw [5, 8] (fun b i wl => WRel3 (B3 = true) x w b i wl) (fun _ i _ => x.size - (intOf i).toNat)
          case atStart => exact ⟨0, B4, rfl, rfl, by omega, by rw [HB4.out]; simp, HW4.out⟩
          case round =>
            obtain ⟨z, B5, rfl, rfl, hz, hB5, hW5⟩ := hrel
            have HB5 := Lib.hid hB5
            have HW5 := Lib.hid hW5
            clear hB5 hW5
            have hc1 : wr.cell? ⟨b, off + k, none⟩ = some (.slice (some ⟨g, q, none⟩) row.length cu) := cell_below HW5.out HC.out
            have hx2 : wr.cell? ⟨g, q + n, none⟩ = some (.string x) := cell_below HW5.out HX.out
            by_cases hz2 : z < x.size
            · have hzz : (z : Int) < (x.size : Int) := by omega
              have hcz : x.data.toList[z]? = some x[z] := by rw [List.getElem?_eq_getElem (by simpa using hz2)]; rfl
              have HCZ := Lib.hid hcz
              have hd0 : (0 : Int) ≤ (x[z].toNat : Int) := by omega
              have hd1 : (x[z].toNat : Int) ≤ 255 := by have := x[z].toNat_lt; omega
              clear hcz
              cases B5 with
              | false =>
                go_wp2
                go_roundw
                case rel => exact ⟨z + 1, false, by go_num, rfl, by omega, by
                  rw [take_all_iff HCZ.out]
                  have h := HB5.out
                  constructor
                  · intro h'; cases h'
                  · rintro ⟨a1, a2, a3, _⟩; exact h.2 ⟨a1, a2, a3⟩, HW5.out⟩
                case measure => simp [intOf]; omega
              | true =>
                by_cases h32 : x[z] = 32
                · have ht : ((x[z].toNat : Int) != 32) = false := by rw [h32]; decide
                  have HH32 := Lib.hid h32
                  clear h32
                  go_wp2
                  go_roundw
                  case rel => exact ⟨z + 1, false, by go_num, rfl, by omega, by
                    rw [take_all_iff HCZ.out]
                    constructor
                    · intro h'; cases h'
                    · rintro ⟨_, _, _, a4⟩; exact absurd HH32.out a4.1, HW5.out⟩
                  case measure => simp [intOf]; omega
                · have ht : ((x[z].toNat : Int) != 32) = true := by
                    simp only [bne_iff_ne, ne_eq]
                    intro e; exact h32 (UInt8.toNat_inj.1 (by simp; omega))
                  have HH32 := Lib.hid h32
                  clear h32
                  by_cases h10 : x[z] = 10
                  · have ht2 : ((x[z].toNat : Int) != 10) = false := by rw [h10]; decide
                    have HH10 := Lib.hid h10
                    clear h10
                    go_wp2
                    go_roundw
                    case rel => exact ⟨z + 1, false, by go_num, rfl, by omega, by
                      rw [take_all_iff HCZ.out]
                      constructor
                      · intro h'; cases h'
                      · rintro ⟨_, _, _, a4⟩; exact absurd HH10.out a4.2, HW5.out⟩
                    case measure => simp [intOf]; omega
                  · have ht2 : ((x[z].toNat : Int) != 10) = true := by
                      simp only [bne_iff_ne, ne_eq]
                      intro e; exact h10 (UInt8.toNat_inj.1 (by simp; omega))
                    have HH10 := Lib.hid h10
                    clear h10
                    go_wp2
                    go_roundw
                    case rel => exact ⟨z + 1, true, by go_num, rfl, by omega, by
                      rw [take_all_iff HCZ.out]
                      have h := HB5.out.1 rfl
                      exact iff_of_true rfl ⟨h.1, h.2.1, h.2.2, HH32.out, HH10.out⟩, HW5.out⟩
                    case measure => simp [intOf]; omega
            · obtain rfl : z = x.size := by omega
              go_wp2
              go_roundw
              case rel => exact ⟨n + 1, B5, by go_num, rfl, by omega, by
                rw [take_all_iff HXR.out, HB5.out, HB3.out, List.take_of_length_le (l := x.data.toList) (i := x.size) (by rw [data_len]; exact Nat.le_refl _)]
                unfold GoodW
                constructor
                · rintro ⟨⟨a1, a2, a3⟩, a4, a5⟩; exact ⟨a1, a2, a3, a4, a5⟩
                · rintro ⟨a1, a2, a3, a4, a5⟩; exact ⟨⟨a1, a2, a3⟩, a4, a5⟩, take_all HS3.out HXR.out (by omega), HW5.out⟩
              case measure => simp [intOf]; omega
        · obtain rfl : n = row.length := by omega
          go_wp2
          go_roundw
          case rel =>
            exact ⟨k + 1, B3, by go_num, rfl, by omega, by
              rw [take_all_iff HKR.out, ← HBB.out, HB3.out, List.take_length]
              unfold GoodR
              constructor
              · rintro ⟨h1, h2, h3⟩; exact ⟨h1, h2, h3⟩
              · rintro ⟨h1, h2, h3⟩; exact ⟨h1, h2, h3⟩, take_all HSM.out HKR.out ⟨by omega, by have h := HS3.out; rwa [List.take_length] at h⟩, HW3.out⟩
          case measure => simp [intOf]; omega
    · obtain rfl : k = l.length := by omega
      have hll : (linesOf l).length ≤ 6220 := by
        have h := HSM.out
        rw [List.take_length] at h
        have := lines_len l h
        omega
      have hlN : ∀ r ∈ l, r.length ≤ 10000000 := fun r hr => by
        have h := HSM.out
        rw [List.take_length] at h
        have := (h r hr).1
        omega
      have HLN := Lib.hid hlN
      have HLL := Lib.hid hll
      have HV1 := Lib.hid (HV.out.grow HW.out)
      have t0 : (!((⟨(linesOf l).toArray⟩ : ByteArray).toList == (⟨(linesOf l).toArray⟩ : ByteArray).toList)) = false := by simp
      have HGB : Hid (B = true → ∀ r ∈ l, GoodR r) := fun h => by
        have h2 := HBB.out.1 h
        rwa [List.take_length] at h2
      clear hlN hll
      go_wp2_with fail
      refine (lines_calls _ l _ HV1.out (by have := HLL.out; omega) HLN.out (by omega)).mono ?_
      rintro e w1 ⟨rfl, hb1⟩
      have HW1 := Lib.hid (below_trans HW.out hb1)
      have HV2 := Lib.hid (HV1.out.grow hb1)
      clear hb1
      go_wp2_with fail
      refine (rlines_calls _ l _ HV2.out (by have := HLL.out; omega) HLN.out (by omega)).mono ?_
      rintro e w2 ⟨rfl, hb2⟩
      have HW2 := Lib.hid (below_trans HW1.out hb2)
      have HV3 := Lib.hid (HV2.out.grow hb2)
      clear hb2
      cases B with
      | false =>
        go_wp2_with fail
        have HSP := Lib.hid (fun w hL hm => split_calls (sp := sp) s w hL (by omega) m hm)
        have HRS := Lib.hid (fun w => rsplit_calls s w (by omega))
        cases hq : qsplit s with
        | ok L =>
          have HOK := Lib.hid hq
          rw [hq] at HSP HRS
          clear hq
          refine (HSP.out _ (HL.out.below HW2.out) (cell_below HW2.out HM.out)).mono ?_
          rintro e w6 ⟨v6, rfl, hr6, hb6⟩
          have HW6 := Lib.hid (below_trans HW2.out hb6)
          have HR6 := Lib.hid hr6.reads
          clear hr6 hb6
          go_wp2_with fail
          refine (HRS.out _).mono ?_
          rintro e w7 ⟨v7, rfl, hr7, hb7⟩
          have HW7 := Lib.hid (below_trans HW6.out hb7)
          have HR7 := Lib.hid hr7.reads
          have HR67 := Lib.hid (HR6.out.grow hb7)
          clear hr7 hb7
          have hsl := split_small s L HOK.out (by omega)
          go_wp2_with fail
          refine (same_calls _ _ (L.map texts) (L.map texts) _ HR67.out HR7.out hsl.1 hsl.1 hsl.2 hsl.2).mono ?_
          rintro e w8 ⟨b8, rfl, hb8e, hb8⟩
          obtain rfl : b8 = true := hb8e.2 rfl
          have HW8 := Lib.hid (below_trans HW7.out hb8)
          clear hb8 hb8e hsl
          go_wp2_with fail
          refine (wrong_nil _ _).mono ?_
          rintro e w9 ⟨rfl, rfl⟩
          go_wp2_with fail
          refine (awake4_calls _ (HL.out.below HW8.out) m (cell_below HW8.out HM.out)).mono ?_
          rintro e w10 ⟨rfl, hb10⟩
          have HW10 := Lib.hid (below_trans HW8.out hb10)
          clear hb10
          go_wp2
          go_ret
          exact ⟨rfl, HW10.out⟩
        | bad q =>
          rw [hq] at HSP HRS
          clear hq
          refine (HSP.out _ (HL.out.below HW2.out) (cell_below HW2.out HM.out)).mono ?_
          rintro e w6 ⟨v6, rfl, he6, hb6⟩
          have HW6 := Lib.hid (below_trans HW2.out hb6)
          have HE6 := Lib.hid he6
          clear he6 hb6
          go_wp2_with fail
          refine (HRS.out _).mono ?_
          rintro e w7 ⟨rfl, hb7⟩
          have HW7 := Lib.hid (below_trans HW6.out hb7)
          have HE7 := Lib.hid (HE6.out.grow hb7)
          clear hb7
          go_wp2_with fail
          refine (same_calls _ _ [] [] _ (nil_rows _) (nil_rows _) (by decide) (by decide) (by simp) (by simp)).mono ?_
          rintro e w8 ⟨b8, rfl, hb8e, hb8⟩
          obtain rfl : b8 = true := hb8e.2 rfl
          have HW8 := Lib.hid (below_trans HW7.out hb8)
          have HE8 := Lib.hid (HE7.out.grow hb8)
          clear hb8 hb8e
          go_wp2_with fail
          refine (wrong_hit v6 q 1 _ (HL.out.below HW8.out) HE8.out).mono ?_
          rintro e w9 ⟨rfl, hb9⟩
          have HW9 := Lib.hid (below_trans HW8.out hb9)
          clear hb9
          go_wp2_with fail
          refine (awake4_calls _ (HL.out.below HW9.out) m (cell_below HW9.out HM.out)).mono ?_
          rintro e w10 ⟨rfl, hb10⟩
          have HW10 := Lib.hid (below_trans HW9.out hb10)
          clear hb10
          go_wp2
          go_ret
          exact ⟨rfl, HW10.out⟩
      | true =>
        obtain ⟨L0, hq0, hL0⟩ := split_lines l (HGB.out rfl)
        have HSP0 := Lib.hid (fun w hL hm => split_calls (sp := sp) ⟨(linesOf l).toArray⟩ w hL (by show (linesOf l).toArray.size ≤ _; rw [List.size_toArray]; have := HLL.out; omega) m hm)
        rw [hq0] at HSP0
        clear hq0
        go_wp2_with fail
        refine (lines_calls _ l _ HV3.out (by have := HLL.out; omega) HLN.out (by omega)).mono ?_
        rintro e w3 ⟨rfl, hb3⟩
        have HW3 := Lib.hid (below_trans HW2.out hb3)
        have HV4 := Lib.hid (HV3.out.grow hb3)
        clear hb3
        go_wp2_with fail
        refine (HSP0.out _ (HL.out.below HW3.out) (cell_below HW3.out HM.out)).mono ?_
        rintro e w4 ⟨v4, rfl, hr4, hb4⟩
        have hr4' := hr4.reads
        rw [hL0] at hr4'
        have HW4 := Lib.hid (below_trans HW3.out hb4)
        have HV5 := Lib.hid (HV4.out.grow hb4)
        have HR4 := Lib.hid hr4'
        clear hr4 hr4' hb4 hL0
        go_wp2_with fail
        refine (same_calls _ _ l l _ HV5.out HR4.out (by omega) (by omega) HLN.out HLN.out).mono ?_
        rintro e w5 ⟨b5, rfl, hb5e, hb5⟩
        obtain rfl : b5 = true := hb5e.2 rfl
        have HW5 := Lib.hid (below_trans HW4.out hb5)
        clear hb5 hb5e
        go_wp2_with fail
        have HSP := Lib.hid (fun w hL hm => split_calls (sp := sp) s w hL (by omega) m hm)
        have HRS := Lib.hid (fun w => rsplit_calls s w (by omega))
        cases hq : qsplit s with
        | ok L =>
          have HOK := Lib.hid hq
          rw [hq] at HSP HRS
          clear hq
          refine (HSP.out _ (HL.out.below HW5.out) (cell_below HW5.out HM.out)).mono ?_
          rintro e w6 ⟨v6, rfl, hr6, hb6⟩
          have HW6 := Lib.hid (below_trans HW5.out hb6)
          have HR6 := Lib.hid hr6.reads
          clear hr6 hb6
          go_wp2_with fail
          refine (HRS.out _).mono ?_
          rintro e w7 ⟨v7, rfl, hr7, hb7⟩
          have HW7 := Lib.hid (below_trans HW6.out hb7)
          have HR7 := Lib.hid hr7.reads
          have HR67 := Lib.hid (HR6.out.grow hb7)
          clear hr7 hb7
          have hsl := split_small s L HOK.out (by omega)
          go_wp2_with fail
          refine (same_calls _ _ (L.map texts) (L.map texts) _ HR67.out HR7.out hsl.1 hsl.1 hsl.2 hsl.2).mono ?_
          rintro e w8 ⟨b8, rfl, hb8e, hb8⟩
          obtain rfl : b8 = true := hb8e.2 rfl
          have HW8 := Lib.hid (below_trans HW7.out hb8)
          clear hb8 hb8e hsl
          go_wp2_with fail
          refine (wrong_nil _ _).mono ?_
          rintro e w9 ⟨rfl, rfl⟩
          go_wp2_with fail
          refine (awake4_calls _ (HL.out.below HW8.out) m (cell_below HW8.out HM.out)).mono ?_
          rintro e w10 ⟨rfl, hb10⟩
          have HW10 := Lib.hid (below_trans HW8.out hb10)
          clear hb10
          go_wp2
          go_ret
          exact ⟨rfl, HW10.out⟩
        | bad q =>
          rw [hq] at HSP HRS
          clear hq
          refine (HSP.out _ (HL.out.below HW5.out) (cell_below HW5.out HM.out)).mono ?_
          rintro e w6 ⟨v6, rfl, he6, hb6⟩
          have HW6 := Lib.hid (below_trans HW5.out hb6)
          have HE6 := Lib.hid he6
          clear he6 hb6
          go_wp2_with fail
          refine (HRS.out _).mono ?_
          rintro e w7 ⟨rfl, hb7⟩
          have HW7 := Lib.hid (below_trans HW6.out hb7)
          have HE7 := Lib.hid (HE6.out.grow hb7)
          clear hb7
          go_wp2_with fail
          refine (same_calls _ _ [] [] _ (nil_rows _) (nil_rows _) (by decide) (by decide) (by simp) (by simp)).mono ?_
          rintro e w8 ⟨b8, rfl, hb8e, hb8⟩
          obtain rfl : b8 = true := hb8e.2 rfl
          have HW8 := Lib.hid (below_trans HW7.out hb8)
          have HE8 := Lib.hid (HE7.out.grow hb8)
          clear hb8 hb8e
          go_wp2_with fail
          refine (wrong_hit v6 q 1 _ (HL.out.below HW8.out) HE8.out).mono ?_
          rintro e w9 ⟨rfl, hb9⟩
          have HW9 := Lib.hid (below_trans HW8.out hb9)
          clear hb9
          go_wp2_with fail
          refine (awake4_calls _ (HL.out.below HW9.out) m (cell_below HW9.out HM.out)).mono ?_
          rintro e w10 ⟨rfl, hb10⟩
          have HW10 := Lib.hid (below_trans HW9.out hb10)
          clear hb10
          go_wp2
          go_ret
          exact ⟨rfl, HW10.out⟩
end Go.Proofs.YtgjabbffpfhmjaaDoor
