/- philtreref04.Same, by its contract. -/
import Derived.Test.YtgjabbffpfhmjaaDoorQLines
import Derived.RegionTactic
import Derived.ChangeAlike
import Derived.BigRegion
import Derived.Deep.QuietTactic
import Derived.BigQuiet
namespace Go.Proofs.YtgjabbffpfhmjaaDoor
open Go.RowKit Go.Extern.Stop Go.Stop Go.Extern Go.Proofs.YtgjabbffpfhmjaaDoorW.PrintWords

/-- Two equal beginnings, one longer. -/
theorem take_eq_step {α : Type} {a b : List α} {k : Nat} {x y : α} (h : a.take k = b.take k) (ha : a[k]? = some x) (hb : b[k]? = some y) (hxy : x = y) : a.take (k + 1) = b.take (k + 1) := by
  subst hxy
  rw [take_one a k x ha, take_one b k x hb, h]
theorem str_beq {x y : ByteArray} : (x.toList == y.toList) = decide (x = y) := by
  by_cases h : x = y
  · subst h; simp
  · have : x.toList ≠ y.toList := fun e => h (str_ext (by rw [ByteArray.toList_eq, ByteArray.toList_eq] at e; exact e))
    simp [h, this]

def SamePost (la lb : List (List ByteArray)) (w : World) (e : Ending) (w' : World) : Prop :=
  ∃ b, e = .returned (.bool b) ∧ (b = true ↔ la = lb) ∧ Below w.heap.size w w'

set_option maxRecDepth 100000 in
set_option maxHeartbeats 4000000 in
theorem same_calls (va vb : Value) (la lb : List (List ByteArray)) (w : World) (ha : StrRows w va la) (hb : StrRows w vb lb)
    (hla : la.length ≤ 10000000) (hlb : lb.length ≤ 10000000) (hra : ∀ r ∈ la, r.length ≤ 10000000) (hrb : ∀ r ∈ lb, r.length ≤ 10000000) :
    Calls Tryd.prog 27 #[va, vb] w fun e w' => SamePost la lb w e w' := by
  obtain ⟨A, ca, rfl, hca, HA⟩ := ha
  obtain ⟨B, cb, rfl, hcb, HB⟩ := hb
  have HA := Lib.hid HA
  have HB := Lib.hid HB
  have HRA := Lib.hid hra
  have HRB := Lib.hid hrb
  clear hra hrb hca hcb
  go_enter Tryd.func27, Tryd.ntmps27
  by_cases hlen : la.length = lb.length
  · have ht : (((la.length : Nat) : Int) != ((lb.length : Nat) : Int)) = false := by rw [hlen]; simp
    have HLEN := Lib.hid hlen
    clear hlen
    go_wp2
    go_loopw [5] (fun i wl => ∃ k : Nat, i = .int .i64 k ∧ k ≤ la.length ∧ la.take k = lb.take k ∧ Below w.heap.size w wl) (fun i _ => la.length - (intOf i).toNat)
    case atStart => exact ⟨0, rfl, by omega, by simp, Below.refl _ _⟩
    case round =>
      obtain ⟨k, rfl, hk, hpre, hBl⟩ := hrel
      have HP := Lib.hid hpre
      have HW := Lib.hid hBl
      clear hpre hBl
      by_cases hlt : k < la.length
      · have hlt2 : k < lb.length := by rw [← HLEN.out]; exact hlt
        have hka : la[k]? = some la[k] := List.getElem?_eq_getElem hlt
        have hkb : lb[k]? = some lb[k] := List.getElem?_eq_getElem hlt2
        have hna := HRA.out _ (List.getElem_mem hlt)
        have hnb := HRB.out _ (List.getElem_mem hlt2)
        have HKA := Lib.hid hka
        have HKB := Lib.hid hkb
        obtain ⟨ba, oa, ua, hA, hcella, hsa⟩ := HA.out k _ hka
        obtain ⟨bb, ob, ub, hB, hcellb, hsb⟩ := HB.out k _ hkb
        subst hA; subst hB
        obtain ⟨Au, cu, hu, hcu, hin⟩ := hsa
        obtain ⟨Bu, du, hv, hdu, hjn⟩ := hsb
        subst hu; subst hv
        generalize la[k] = ra at *
        generalize lb[k] = rb at *
        have ha1 : wr.cell? ⟨ba, oa + k, none⟩ = some (.slice Au ra.length cu) := cell_below HW.out hcella
        have hb1 : wr.cell? ⟨bb, ob + k, none⟩ = some (.slice Bu rb.length du) := cell_below HW.out hcellb
        have HCA := Lib.hid hcella
        have HCB := Lib.hid hcellb
        have HIN := Lib.hid hin
        have HJN := Lib.hid hjn
        clear hka hkb hcella hcellb hin hjn
        by_cases hle : ra.length = rb.length
        · have ht2 : (((ra.length : Nat) : Int) != ((rb.length : Nat) : Int)) = false := by rw [hle]; simp
          have HLE := Lib.hid hle
          clear hle
          go_wp2_with fail
          go_quiet (fail)
          go_wp2_with fail
          go_loopw [6] (fun i wl => ∃ n : Nat, i = .int .i64 n ∧ n ≤ ra.length ∧ ra.take n = rb.take n ∧ Below w.heap.size w wl) (fun i _ => ra.length - (intOf i).toNat)
          case atStart => exact ⟨0, rfl, by omega, by simp, pw_below_drewN HW.out _⟩
          case round =>
            obtain ⟨n, rfl, hn, hpre2, hB2⟩ := hrel
            have HP2 := Lib.hid hpre2
            have HW2 := Lib.hid hB2
            have hca2 : wr.cell? ⟨ba, oa + k, none⟩ = some (.slice Au ra.length cu) := cell_below HW2.out HCA.out
            have hcb2 : wr.cell? ⟨bb, ob + k, none⟩ = some (.slice Bu rb.length du) := cell_below HW2.out HCB.out
            clear hpre2 hB2 ha1 hb1
            by_cases hn2 : n < ra.length
            · have hn3 : n < rb.length := by rw [← HLE.out]; exact hn2
              have hxa : ra[n]? = some ra[n] := List.getElem?_eq_getElem hn2
              have hxb : rb[n]? = some rb[n] := List.getElem?_eq_getElem hn3
              obtain ⟨ga, qa, hA, hxa1⟩ := HIN.out n _ hxa
              obtain ⟨gb, qb, hB, hxb1⟩ := HJN.out n _ hxb
              subst hA; subst hB
              have hxa2 : wr.cell? ⟨ga, qa + n, none⟩ = some (.string ra[n]) := cell_below HW2.out hxa1
              have hxb2 : wr.cell? ⟨gb, qb + n, none⟩ = some (.string rb[n]) := cell_below HW2.out hxb1
              have hii : (n : Int) < (ra.length : Int) := by omega
              have hij : (n : Int) < (rb.length : Int) := by omega
              have hik : (k : Int) < (la.length : Int) := by omega
              have hil : (k : Int) < (lb.length : Int) := by omega
              have HXA := Lib.hid hxa
              have HXB := Lib.hid hxb
              clear hxa hxb hxa1 hxb1
              generalize ra[n] = x at *
              generalize rb[n] = y at *
              by_cases hxy : x = y
              · have ht3 : (!(x.toList == y.toList)) = false := by rw [hxy]; simp
                have HXY := Lib.hid (take_eq_step HP2.out HXA.out HXB.out hxy)
                clear hxy
                go_wp2_with fail
                go_quiet (fail)
                go_wp2
                go_roundw
                case rel => exact ⟨n + 1, by go_num, by omega, HXY.out, pw_below_drewN HW2.out _⟩
                case measure => simp [intOf]; omega
              · have ht3 : (!(x.toList == y.toList)) = true := by rw [str_beq]; simp [hxy]
                have HNE : Hid (¬ la = lb) := fun e => hxy (by
                  have h1 := HKA.out
                  rw [e, HKB.out] at h1
                  have h2 := HXA.out
                  rw [← Option.some.inj h1, HXB.out] at h2
                  exact (Option.some.inj h2).symm)
                clear hxy
                go_wp2_with fail
                go_quiet (fail)
                go_wp2
                go_ret
                exact ⟨_, rfl, by simp [HNE.out], pw_below_drewN HW2.out _⟩
            · obtain rfl : n = ra.length := by omega
              have HEQ : Hid (la.take (k + 1) = lb.take (k + 1)) := by
                refine take_eq_step HP.out HKA.out HKB.out ?_
                have h := HP2.out
                rw [List.take_length, HLE.out, List.take_length] at h
                exact h
              go_wp2
              go_roundw
              case rel => exact ⟨k + 1, by go_num, by omega, HEQ.out, HW2.out⟩
              case measure => simp [intOf]; omega
        · have ht2 : (((ra.length : Nat) : Int) != ((rb.length : Nat) : Int)) = true := by simp; omega
          have HNE : Hid (¬ la = lb) := fun e => hle (by
            have h1 := HKA.out
            rw [e, HKB.out] at h1
            rw [Option.some.inj h1])
          clear hle
          go_wp2_with fail
          go_quiet (fail)
          go_wp2
          go_ret
          exact ⟨_, rfl, by simp [HNE.out], pw_below_drewN HW.out _⟩
      · obtain rfl : k = la.length := by omega
        have HEQ : Hid (la = lb) := by
          have h := HP.out
          rw [List.take_length, HLEN.out, List.take_length] at h
          exact h
        go_wp2
        go_ret
        exact ⟨_, rfl, by simp [HEQ.out], HW.out⟩
  · have ht : (((la.length : Nat) : Int) != ((lb.length : Nat) : Int)) = true := by simp; omega
    have HNE : Hid (¬ la = lb) := fun e => hlen (by rw [e])
    clear hlen
    go_wp2
    go_ret
    exact ⟨_, rfl, by simp [HNE.out], Below.refl _ _⟩
end Go.Proofs.YtgjabbffpfhmjaaDoor
