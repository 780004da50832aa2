/- philtreref04.Split, by its contract: it tells what quote.Split tells. -/
import Derived.Test.YtgjabbffpfhmjaaDoorRefL
namespace Go.Proofs.YtgjabbffpfhmjaaDoor
open Go.RowKit Go.Extern.Stop Go.Stop Go.Extern Go.Proofs.YtgjabbffpfhmjaaDoorW.PrintWords

/-- Lines, part by part. -/
def rsp : List (List UInt8) → Nat → List (List (List UInt8)) → SR
  | [], _, acc => .ok acc
  | [x], p, acc => if x = [] then .ok acc else .bad p
  | x :: y :: r, p, acc => if rightRow x = true then rsp (y :: r) (p + x.length + 1) (acc ++ [fields 32 x]) else .bad p
theorem sgo_rsp : ∀ (fuel p : Nat) (l : List UInt8) (acc : List (List (List UInt8))), l.length < fuel → sgo fuel p l acc = rsp (fields 10 l) p acc
  | 0, p, l, acc, h => by omega
  | fuel + 1, p, l, acc, h => by
    unfold sgo
    by_cases h0 : l = []
    · rw [if_pos h0, h0]; simp [fields, rsp]
    rw [if_neg h0]
    by_cases h1 : Lib.indexByte l 10 = -1
    · rw [if_pos h1, fields_miss 10 l h1, rsp, if_neg h0]
    rw [if_neg h1]
    have hge := index_ge l 10
    obtain ⟨i, hi⟩ : ∃ i : Nat, Lib.indexByte l 10 = i := ⟨(Lib.indexByte l 10).toNat, by omega⟩
    have hroom := index_room' l 10 i hi
    rw [hi, Int.toNat_natCast, fields_hit 10 l i hi]
    have ih := fun acc => sgo_rsp fuel (p + i + 1) (l.drop (i + 1)) acc (by simp; omega)
    have hlen : (l.take i).length = i := by simp; omega
    cases hf : fields 10 (l.drop (i + 1)) with
    | nil => exact absurd hf (fields_ne _ _)
    | cons y r =>
      rw [rsp, hlen, ih, hf]
theorem qsplit_rsp (s : ByteArray) : qsplit s = rsp (fields 10 s.data.toList) 0 [] := sgo_rsp _ _ _ _ (by rw [data_len]; omega)
theorem rsp_one (x : List UInt8) (p : Nat) (acc : List (List (List UInt8))) : rsp [x] p acc = if x = [] then .ok acc else .bad p := rfl
theorem rsp_more (x y : List UInt8) (r : List (List UInt8)) (p : Nat) (acc : List (List (List UInt8))) : rsp (x :: y :: r) p acc = if rightRow x = true then rsp (y :: r) (p + x.length + 1) (acc ++ [fields 32 x]) else .bad p := rfl

def RSPost (w : World) : SR → Ending → World → Prop
  | .ok l, e, w' => ∃ v, e = .returned (.tuple #[v, .int .i64 0, .int .i64 0]) ∧ RowsT w' w.heap.size v (l.map texts) ∧ Below w.heap.size w w'
  | .bad p, e, w' => e = .returned (.tuple #[.slice none 0 0, .int .i64 1, .int .i64 p]) ∧ Below w.heap.size w w'

def tot (l : List (List UInt8)) : Nat := (l.map fun x => x.length + 1).sum
theorem tot_fields (b : UInt8) : ∀ l : List UInt8, tot (fields b l) = l.length + 1
  | [] => rfl
  | c :: r => by
    have ih := tot_fields b r
    unfold fields
    split
    · simp [tot] at ih ⊢; omega
    · cases hf : fields b r with
      | nil => exact absurd hf (fields_ne _ _)
      | cons h t => rw [hf] at ih; simp [tot] at ih ⊢; omega
theorem RowsT.none (w : World) : RowsT (w.alloc (.cells #[] 51)) w.heap.size (.slice (some ⟨w.heap.size, 0, none⟩) 0 0) [] :=
  ⟨[], rfl, own_none w 51 1, by simp, fun j c r hc => by simp at hc⟩
theorem empty_yes {X : ByteArray} (h : X.data.toList = []) : X.toList.isEmpty = true := by rw [ByteArray.toList_eq, h]; rfl
theorem empty_no {X : ByteArray} (h : X.data.toList ≠ []) : X.toList.isEmpty = false := by
  rw [ByteArray.toList_eq]
  cases hx : X.data.toList with
  | nil => exact absurd hx h
  | cons a r => rfl
theorem rightRow_true {l : List UInt8} (h : ∀ f ∈ fields 32 l, f ≠ []) : rightRow l = true := by
  unfold rightRow
  rw [List.all_eq_true]
  intro f hf
  cases f with
  | nil => exact absurd rfl (h [] hf)
  | cons a r => rfl
theorem rightRow_false {l : List UInt8} (h : [] ∈ fields 32 l) : rightRow l = false := by
  cases hr : rightRow l with
  | false => rfl
  | true =>
    unfold rightRow at hr
    have := List.all_eq_true.1 hr [] h
    simp at this

theorem slice_at {w : World} {A : Option Addr} {n c : Nat} {r : List ByteArray} (h : StrsT w (.slice A n c) r) (j : Nat) (x : ByteArray) (hj : r[j]? = some x) : ∃ b off, A = some ⟨b, off, none⟩ ∧ w.cell? ⟨b, off + j, none⟩ = some (.string x) := by
  obtain ⟨A', c', he, _, h⟩ := h.reads
  obtain ⟨b, off, h1, h2⟩ := h j x hj
  refine ⟨b, off, ?_, h2⟩
  injection he with e1
  rw [e1, h1]
/-- A row of texts is not the own row of rows. -/
theorem own_other {w : World} {base n : Nat} {v : Value} {cs : List Value} (hown : w.ownsRow base 51 1 v n cs) {k : Nat} {cs' : Array Value} {fr : Nat × Nat} (hk : w.heap[k]? = some (Obj.cells cs' 9 fr)) : some k ≠ v.ownBlock := fun e => by
  obtain ⟨cells, hcell⟩ := own_typed hown k e.symm
  rw [hk] at hcell
  simp at hcell

def SpRel (s : ByteArray) (R : SR) (w : World) (o a i : Value) (wl : World) : Prop :=
  ∃ (k p : Nat) (acc : List (List (List UInt8))), a = .int .i64 p ∧ i = .int .i64 k ∧ k ≤ (fields 10 s.data.toList).length ∧ acc.length ≤ k ∧ p + tot ((fields 10 s.data.toList).drop k) = s.size + 1 ∧
    RowsT wl w.heap.size o (acc.map texts) ∧ rsp ((fields 10 s.data.toList).drop k) p acc = R ∧ Below w.heap.size w wl

set_option maxRecDepth 100000 in
set_option maxHeartbeats 8000000 in
theorem rsplit_calls (s : ByteArray) (w : World) (hs : s.size ≤ 10000000) :
    Calls Tryd.prog 28 #[.string s] w fun e w' => RSPost w (qsplit s) e w' := by
  obtain ⟨R, hR⟩ : ∃ R, qsplit s = R := ⟨_, rfl⟩
  rw [hR]
  rw [qsplit_rsp] at hR
  have HR := Lib.hid hR
  have HRN := Lib.hid (RowsT.none w)
  have HB0 := Lib.hid (below_new w (.cells #[] 51))
  clear hR
  go_enter Tryd.func28, Tryd.ntmps28
  go_wp2_with (go_at_call 67; refine (rcut_calls s 10 _ hs).mono ?_)
  rintro e w1 ⟨v, rfl, hst, hb1⟩
  obtain ⟨Ap, cp, rfl, hcp, _⟩ := hst.reads
  have hTl : (texts (fields 10 s.data.toList)).length = (fields 10 s.data.toList).length := by simp [texts]
  rw [hTl] at hcp ⊢
  have hpl := fields_len 10 s.data.toList
  rw [data_len] at hpl
  rw [hTl] at hst
  have HST1 := Lib.hid hst
  have HRN1 := Lib.hid (HRN.out.grow hb1)
  have HB1 := Lib.hid (below_trans HB0.out hb1)
  clear hst hb1 hTl HRN HB0
  go_wp2_with fail
  go_loopw [5, 7, 8] (fun o a i wl => SpRel s R w o a i wl ∧ StrsT wl (.slice Ap (fields 10 s.data.toList).length cp) (texts (fields 10 s.data.toList))) (fun _ _ i _ => (fields 10 s.data.toList).length - (intOf i).toNat)
  case atStart => exact ⟨⟨0, 0, [], rfl, rfl, by omega, Nat.le_refl _, by rw [List.drop_zero, tot_fields, data_len]; omega, HRN1.out, HR.out, HB1.out⟩, HST1.out⟩
  case round =>
    obtain ⟨⟨k, p, acc, rfl, rfl, hk, hacc, htot, hrows, hrun, hB⟩, hC⟩ := hrel
    have HB := Lib.hid hB
    have HC := Lib.hid hC
    have HRows := Lib.hid hrows
    clear hB hC hrows HRN1 HB1 HR HST1
    by_cases hlt : k < (fields 10 s.data.toList).length
    · obtain ⟨x, hx⟩ : ∃ x, (fields 10 s.data.toList)[k] = x := ⟨_, rfl⟩
      have hdrop : (fields 10 s.data.toList).drop k = x :: (fields 10 s.data.toList).drop (k + 1) := by rw [List.drop_eq_getElem_cons hlt, hx]
      have hxk : (texts (fields 10 s.data.toList))[k]? = some ⟨x.toArray⟩ := by
        unfold texts
        rw [List.getElem?_map, List.getElem?_eq_getElem hlt, hx]
        rfl
      obtain ⟨gb, go, hA, hcell⟩ := slice_at HC.out k _ hxk
      subst hA
      rw [hdrop] at htot hrun
      have hxl : x.length ≤ s.size := by simp [tot] at htot; omega
      have hXs : (⟨x.toArray⟩ : ByteArray).size = x.length := by show x.toArray.size = _; simp
      have hXd : (⟨x.toArray⟩ : ByteArray).data.toList = x := rfl
      have htot2 : p + (x.length + 1) + tot ((fields 10 s.data.toList).drop (k + 1)) = s.size + 1 := by simp [tot] at htot ⊢; omega
      have HTOT := Lib.hid htot2
      have HRUN := Lib.hid hrun
      have hpb : p + x.length ≤ s.size := by omega
      have HXK := Lib.hid hxk
      have HXN0 := Lib.hid hXd
      clear htot htot2 hdrop hx hxk hrun
      generalize hX : (⟨x.toArray⟩ : ByteArray) = X at *
      have HXD := Lib.hid hXd
      clear hX HXN0 hXd
      by_cases hlast : k + 1 = (fields 10 s.data.toList).length
      · have htest : ((k : Int) == ((fields 10 s.data.toList).length : Int) - 1) = true := by simp; omega
        have HLAST : Hid ((fields 10 s.data.toList).drop (k + 1) = []) := List.drop_of_length_le (by omega)
        by_cases hxe : x = []
        · have he := empty_yes (X := X) (by rw [HXD.out, hxe])
          have HRES : Hid (SR.ok acc = R) := by
            have h2 := HRUN.out
            rw [HLAST.out, rsp_one, if_pos hxe] at h2
            exact h2
          clear hxe
          go_wp2
          go_ret3
          rw [← HRES.out]
          exact ⟨_, rfl, HRows.out, HB.out⟩
        · have he := empty_no (X := X) (by rw [HXD.out]; exact hxe)
          have HXN := Lib.hid hxe
          clear hxe
          go_wp2_with fail
          refine (rcut_calls X 32 _ (by omega)).mono ?_
          rintro e wc ⟨vr, rfl, hst2, hbc⟩
          obtain ⟨Ar, cr, rfl, hcr, hpr⟩ := hst2.reads
          rw [show (texts (fields 32 X.data.toList)).length = (fields 32 X.data.toList).length by simp [texts]] at hcr ⊢
          have hp2 := fields_len 32 X.data.toList
          rw [data_len] at hp2
          have HST := Lib.hid hst2
          have HPR := Lib.hid hpr
          have HBC := Lib.hid (below_trans HB.out hbc)
          have HCC := Lib.hid (HC.out.grow hbc)
          have HRW := Lib.hid (HRows.out.grow hbc)
          clear hst2 hpr hbc hcell
          go_wp2_with fail
          go_loopw [10] (fun j wl => ∃ n : Nat, j = .int .i64 n ∧ n ≤ (fields 32 X.data.toList).length ∧ (∀ q (hq : q < (fields 32 X.data.toList).length), q < n → (fields 32 X.data.toList)[q] ≠ []) ∧ Below wc.heap.size wc wl) (fun j _ => (fields 32 X.data.toList).length - (intOf j).toNat)
          case atStart => exact ⟨0, rfl, by omega, fun q _ hq => absurd hq (by omega), Below.refl _ _⟩
          case round =>
            obtain ⟨n, rfl, hn, hne, hbl⟩ := hrel
            have HNE := Lib.hid hne
            have HBL := Lib.hid hbl
            clear hne hbl
            by_cases hn2 : n < (fields 32 X.data.toList).length
            · obtain ⟨y, hy⟩ : ∃ y, (fields 32 X.data.toList)[n] = y := ⟨_, rfl⟩
              have hyk : (texts (fields 32 X.data.toList))[n]? = some ⟨y.toArray⟩ := by
                unfold texts
                rw [List.getElem?_map, List.getElem?_eq_getElem hn2, hy]
                rfl
              obtain ⟨hb_, ho_, hA, hc0⟩ := HPR.out n _ hyk
              subst hA
              have hc1 : wr.cell? ⟨hb_, ho_ + n, none⟩ = some (.string ⟨y.toArray⟩) := cell_below HBL.out hc0
              have HY := Lib.hid hy
              clear hyk hc0 hy
              by_cases hye : y = []
              · have he := empty_yes (X := ⟨y.toArray⟩) hye
                have HBAD : Hid (R = .bad p) := by
                  have h1 : rightRow x = false := by
                    rw [← HXD.out]
                    refine rightRow_false ?_
                    have := List.getElem_mem hn2
                    rw [HY.out, hye] at this
                    exact this
                  have h2 := HRUN.out
                  rw [HLAST.out, rsp_one, if_neg HXN.out] at h2
                  exact h2.symm
                generalize (⟨y.toArray⟩ : ByteArray) = Y at *
                clear hye
                go_wp2
                go_ret3
                rw [HBAD.out]
                exact ⟨rfl, below_trans HBC.out HBL.out⟩
              · have he := empty_no (X := ⟨y.toArray⟩) hye
                have HNY := Lib.hid hye
                generalize (⟨y.toArray⟩ : ByteArray) = Y at *
                clear hye
                go_wp2
                go_roundw
                case rel => exact ⟨n + 1, by go_num, by omega, fun q h hq => by
                  rcases Nat.lt_or_ge q n with h1 | h1
                  · exact HNE.out q h h1
                  · obtain rfl : q = n := by omega
                    rw [HY.out]; exact HNY.out, HBL.out⟩
                case measure => simp [intOf]; omega
            · obtain rfl : n = (fields 32 X.data.toList).length := by omega
              have HRR : Hid (rightRow x = true) := by
                rw [← HXD.out]
                refine rightRow_true fun f hf => ?_
                obtain ⟨q, hq, rfl⟩ := List.getElem_of_mem hf
                exact HNE.out q hq hq
              have HBAD : Hid (R = .bad p) := by
                have h2 := HRUN.out
                rw [HLAST.out, rsp_one, if_neg HXN.out] at h2
                exact h2.symm
              go_wp2
              go_ret3
              rw [HBAD.out]
              exact ⟨rfl, below_trans HBC.out HBL.out⟩
      · have htest : ((k : Int) == ((fields 10 s.data.toList).length : Int) - 1) = false := by simp; omega
        have HMORE : Hid (∃ z r, (fields 10 s.data.toList).drop (k + 1) = z :: r) := ⟨_, _, List.drop_eq_getElem_cons (by omega)⟩
        go_wp2_with fail
        refine (rcut_calls X 32 _ (by omega)).mono ?_
        rintro e wc ⟨vr, rfl, hst2, hbc⟩
        obtain ⟨Ar, cr, rfl, hcr, hpr⟩ := hst2.reads
        rw [show (texts (fields 32 X.data.toList)).length = (fields 32 X.data.toList).length by simp [texts]] at hcr ⊢
        have hp2 := fields_len 32 X.data.toList
        rw [data_len] at hp2
        have HST := Lib.hid hst2
        have HPR := Lib.hid hpr
        have HBC := Lib.hid (below_trans HB.out hbc)
        have HCC := Lib.hid (HC.out.grow hbc)
        have HRW := Lib.hid (HRows.out.grow hbc)
        clear hst2 hpr hbc hcell
        go_wp2_with fail
        go_loopw [10] (fun j wl => ∃ n : Nat, j = .int .i64 n ∧ n ≤ (fields 32 X.data.toList).length ∧ (∀ q (hq : q < (fields 32 X.data.toList).length), q < n → (fields 32 X.data.toList)[q] ≠ []) ∧ Below wc.heap.size wc wl) (fun j _ => (fields 32 X.data.toList).length - (intOf j).toNat)
        case atStart => exact ⟨0, rfl, by omega, fun q _ hq => absurd hq (by omega), Below.refl _ _⟩
        case round =>
          obtain ⟨n, rfl, hn, hne, hbl⟩ := hrel
          have HNE := Lib.hid hne
          have HBL := Lib.hid hbl
          clear hne hbl
          by_cases hn2 : n < (fields 32 X.data.toList).length
          · obtain ⟨y, hy⟩ : ∃ y, (fields 32 X.data.toList)[n] = y := ⟨_, rfl⟩
            have hyk : (texts (fields 32 X.data.toList))[n]? = some ⟨y.toArray⟩ := by
              unfold texts
              rw [List.getElem?_map, List.getElem?_eq_getElem hn2, hy]
              rfl
            obtain ⟨hb_, ho_, hA, hc0⟩ := HPR.out n _ hyk
            subst hA
            have hc1 : wr.cell? ⟨hb_, ho_ + n, none⟩ = some (.string ⟨y.toArray⟩) := cell_below HBL.out hc0
            have HY := Lib.hid hy
            clear hyk hc0 hy
            by_cases hye : y = []
            · have he := empty_yes (X := ⟨y.toArray⟩) hye
              have HBAD : Hid (R = .bad p) := by
                have h1 : rightRow x = false := by
                  rw [← HXD.out]
                  refine rightRow_false ?_
                  have := List.getElem_mem hn2
                  rw [HY.out, hye] at this
                  exact this
                have h2 := HRUN.out
                obtain ⟨z, r, hz⟩ := HMORE.out
                rw [hz, rsp_more, if_neg (by rw [h1]; decide)] at h2
                exact h2.symm
              generalize (⟨y.toArray⟩ : ByteArray) = Y at *
              clear hye
              go_wp2
              go_ret3
              rw [HBAD.out]
              exact ⟨rfl, below_trans HBC.out HBL.out⟩
            · have he := empty_no (X := ⟨y.toArray⟩) hye
              have HNY := Lib.hid hye
              generalize (⟨y.toArray⟩ : ByteArray) = Y at *
              clear hye
              go_wp2
              go_roundw
              case rel => exact ⟨n + 1, by go_num, by omega, fun q h hq => by
                rcases Nat.lt_or_ge q n with h1 | h1
                · exact HNE.out q h h1
                · obtain rfl : q = n := by omega
                  rw [HY.out]; exact HNY.out, HBL.out⟩
              case measure => simp [intOf]; omega
          · obtain rfl : n = (fields 32 X.data.toList).length := by omega
            have HRR : Hid (rightRow x = true) := by
              rw [← HXD.out]
              refine rightRow_true fun f hf => ?_
              obtain ⟨q, hq, rfl⟩ := List.getElem_of_mem hf
              exact HNE.out q hq hq
            have HRUN2 : Hid (rsp ((fields 10 s.data.toList).drop (k + 1)) (p + x.length + 1) (acc ++ [fields 32 x]) = R) := by
              obtain ⟨z, r, hz⟩ := HMORE.out
              have h2 := HRUN.out
              rw [hz, rsp_more, if_pos HRR.out] at h2
              rw [hz]
              exact h2
            obtain ⟨cs, hcs, hown, h1, hin⟩ := HRW.out.grow HBL.out
            have HST2 := Lib.hid (HST.out.grow HBL.out)
            have HO := Lib.hid hown
            have HIN := Lib.hid hin
            have H1 := Lib.hid h1
            have HCS : Hid (cs.length = acc.length) := by unfold Hid; rw [hcs]; simp
            have HB2 := Lib.hid (below_trans HBC.out HBL.out)
            have HC2 := Lib.hid (HCC.out.grow HBL.out)
            have hsz := HB2.out.size
            clear hown hin h1 hcs
            go_wp2_with (at_builtin; refine print_append (w0 := w) w.heap.size rfl (.tmp 55) (.tmp 57) 50 51 (.slice none 0 0) 24 rfl Tryd.underlying50 infoRow rfl (by decide) _ cs (.slice Ar (fields 32 X.data.toList).length cr) rfl rfl rfl HO.out HB2.out hsz (by rw [HCS.out]; omega) ?_; intro v1 w3 ho3 hb3 hg3 hat3; have hst4 := HC2.out.kept fun k _ _ hk => hg3.block k (blk_lt' hk) (own_other HO.out hk); obtain ⟨_, _, hA4, hcell3⟩ := slice_at hst4 k _ HXK.out; cases hA4; have HK3 := Lib.hid hst4; clear hst4)
            have hrows3 : RowsT w3 w.heap.size v1 (acc.map texts ++ [texts (fields 32 X.data.toList)]) := by
              have hst3 : StrsT wr (.slice Ar (fields 32 X.data.toList).length cr) (texts (fields 32 X.data.toList)) := by
                have h := HST2.out
                rwa [show (texts (fields 32 X.data.toList)).length = (fields 32 X.data.toList).length by simp [texts]] at h
              exact RowsT.app (by rw [HCS.out]; simp) H1.out HIN.out HO.out hst3 rfl ho3 hg3
            rw [show acc.map texts ++ [texts (fields 32 X.data.toList)] = (acc ++ [fields 32 x]).map texts by rw [HXD.out]; simp] at hrows3
            have HR3 := Lib.hid hrows3
            have HB3 := Lib.hid hb3
            clear ho3 hb3 hg3 hat3 hrows3
            go_roundw
            case rel => exact ⟨⟨k + 1, p + x.length + 1, acc ++ [fields 32 x], by go_num, by go_num, by omega, by simp; omega, by have := HTOT.out; omega, HR3.out, HRUN2.out, HB3.out⟩, HK3.out⟩
            case measure => simp [intOf]; omega
    · have hkl : k = (fields 10 s.data.toList).length := by omega
      rw [List.drop_of_length_le (by omega)] at hrun
      have HRUN : Hid (SR.ok acc = R) := hrun
      clear hrun htot
      subst hkl
      go_wp2
      go_ret3
      rw [← HRUN.out]
      exact ⟨_, rfl, HRows.out, HB.out⟩
end Go.Proofs.YtgjabbffpfhmjaaDoor
