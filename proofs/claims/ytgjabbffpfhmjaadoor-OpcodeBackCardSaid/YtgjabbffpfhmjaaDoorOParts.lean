/- opcode's reader: parts, by their contracts. -/
import Derived.Test.YtgjabbffpfhmjaaDoorOGuard
namespace Go.Proofs.YtgjabbffpfhmjaaDoor
open Go.RowKit Go.Extern.Stop Go.Stop Go.Extern Go.Proofs.YtgjabbffpfhmjaaDoorW.PrintWords

def partsG (s : ByteArray) : Nat → Nat → RSt → List Grd → RSt × List Grd
  | 0, _, st, l => (st, l)
  | k + 1, j, st, l => match st.err with
    | some _ => (st, l)
    | none => match (guardF s st).2.err with
      | none => partsG s k (j + 1) (guardF s st).2 (l ++ [(guardF s st).1])
      | some e => (⟨(guardF s st).2.at_, some (.flt j e)⟩, l ++ [(guardF s st).1])
theorem partsG_err {s : ByteArray} {k j : Nat} {st : RSt} {l : List Grd} {e : Er} (h : st.err = some e) : partsG s k j st l = (st, l) := by
  cases k with
  | zero => rfl
  | succ k => rw [partsG, h]
theorem guard_ok {s : ByteArray} {st : RSt} (h : st.ok) (hs : s.size ≤ 10000000) : (guardF s st).2.ok := by
  have ko := (kind_ok (most := 3) h hs).1
  have to1 := (text_ok (most := 16) ko hs).1
  have to2 := (text_ok (most := 32) to1 hs).1
  have to3 := (text_ok (most := 32) to2 hs).1
  unfold guardF
  split
  · exact to2
  · exact to1
theorem partsG_ok {s : ByteArray} (hs : s.size ≤ 10000000) : ∀ (k j : Nat) (st : RSt) (l : List Grd), st.ok → (partsG s k j st l).1.ok ∧ (partsG s k j st l).2.length ≤ l.length + k
  | 0, _, st, l, h => ⟨h, Nat.le_refl _⟩
  | k + 1, j, st, l, h => by
    rw [partsG]
    split
    · exact ⟨h, by simp only; omega⟩
    · have ho := guard_ok h hs
      split
      · have := partsG_ok hs k (j + 1) (guardF s st).2 (l ++ [(guardF s st).1]) ho
        rw [List.length_append, List.length_singleton] at this
        exact ⟨this.1, by omega⟩
      · exact ⟨ho, by simp only [List.length_append, List.length_singleton]; omega⟩

def RelG (sp : Nat → Addr) (W : World) (R O : Nat) (s : ByteArray) (n first : Nat) (l0 : List Grd) (res : RSt × List Grd) (other : List Stp) (i : Value) (wl : World) : Prop :=
  ∃ (k : Nat) (st : RSt) (l : List Grd), i = .int .i64 k ∧ k ≤ n ∧ RdAt sp wl R s st ∧ (∃ gv sv, OpAt wl W.heap.size O gv sv l other) ∧ Below W.heap.size W wl ∧ partsG s (n - k) (first + k) st l = res ∧ st.ok ∧ l.length ≤ l0.length + k

set_option maxRecDepth 100000 in
set_option maxHeartbeats 8000000 in
theorem partsG_calls {sp : Nat → Addr} (R O : Nat) (s : ByteArray) (st : RSt) (l : List Grd) (other : List Stp) (gv sv : Value) (n first : Nat) (W w : World) (hL : Laid sp W) (hW : Below W.heap.size W w) (hR : W.heap.size ≤ R) (hO : W.heap.size ≤ O) (hr : RdAt sp w R s st) (ho : OpAt w W.heap.size O gv sv l other)
    (hs : s.size ≤ 10000000) (hst : st.ok) (hn : n ≤ 100) (hf : first ≤ 100) (hl : l.length ≤ 100) :
    Calls Tryd.prog 49 #[.pointer (some ⟨R, 0, none⟩), .pointer (some ⟨O, 0, none⟩), .int .i64 n, .int .i64 first, .func (.func 50) #[.pointer (some ⟨R, 0, none⟩)] #[]] w fun e w' => GPost sp W R O s (partsG s n first st l).1 (partsG s n first st l).2 other e w' := by
  have HL := Lib.hid hL
  obtain ⟨res, hres⟩ : ∃ res, partsG s n first st l = res := ⟨_, rfl⟩
  rw [hres]
  have HREL : Hid (RelG sp W R O s n first l res other (.int .i64 0) w) := ⟨0, st, l, rfl, Nat.zero_le _, hr, ⟨gv, sv, ho⟩, hW, hres, hst, Nat.le_refl _⟩
  clear hL hW hr ho hres
  go_enter Tryd.func49, Tryd.ntmps49
  go_wp2_with fail
  go_loopw [10] (fun i wl => RelG sp W R O s n first l res other i wl) (fun i _ => n - (intOf i).toNat)
  case atStart => exact HREL.out
  case round =>
    obtain ⟨k, st', l', rfl, hk, ⟨ev, hb, he⟩, ⟨gv', sv', ho⟩, hw, hrun, hst', hl'⟩ := hrel
    have HB := Lib.hid hb
    have HE := Lib.hid he
    have HO := Lib.hid ho
    have HW := Lib.hid hw
    have HRUN := Lib.hid hrun
    obtain ⟨c0, c1, c2, _⟩ := rd_cells hb
    clear hb he ho hw hrun HREL c0 c1
    by_cases hlt : k < n
    · cases hE : st'.err with
      | some er =>
        have he2 := HE.out
        rw [hE] at he2
        obtain ⟨t, a, rfl⟩ := IsErr.form he2
        rw [partsG_err hE] at HRUN
        clear he2 hE
        go_wp2
        go_end0
        exact ⟨rfl, by rw [← HRUN.out]; exact ⟨_, HB.out, HE.out⟩, ⟨_, _, by rw [← HRUN.out]; exact HO.out⟩, HW.out⟩
      | none =>
        have he2 := HE.out
        rw [hE] at he2
        obtain rfl : ev = .nilIface := he2
        have HR := Lib.hid (show RdAt sp wr R s st' from ⟨_, HB.out, HE.out⟩)
        have HF := Lib.hid (guard_calls R O s st' l' other gv' sv' W wr HL.out HW.out hR hO HR.out HO.out hs hst' (by omega))
        have hnk : n - k = (n - k - 1) + 1 := by omega
        have hrun := HRUN.out
        rw [hnk, partsG, hE] at hrun
        simp only at hrun
        have HFO := Lib.hid (guard_ok hst' hs)
        generalize guardF s st' = r at *
        obtain ⟨g, st2⟩ := r
        simp only at hrun HF HFO
        have hsub : n - k - 1 = n - (k + 1) := by omega
        rw [hsub] at hrun
        clear hE hnk HRUN hsub
        go_wp2_with fail
        refine HF.out.mono ?_
        rintro e w1 ⟨rfl, ⟨ev1, hb1, he1⟩, ⟨gv1, sv1, ho1⟩, hw1⟩
        have HB1 := Lib.hid hb1
        have HE1 := Lib.hid he1
        have HO1 := Lib.hid ho1
        have HW1 := Lib.hid hw1
        obtain ⟨_, _, d2, _⟩ := rd_cells hb1
        clear hb1 he1 ho1 hw1 c2
        cases hE2 : st2.err with
        | none =>
          have he2 := HE1.out
          rw [hE2] at he2 hrun
          simp only at hrun
          obtain rfl : ev1 = .nilIface := he2
          have HRUN := Lib.hid hrun
          clear hrun hE2
          go_wp2
          go_roundw
          case rel => exact ⟨k + 1, st2, l' ++ [g], by go_num, by omega, ⟨_, HB1.out, HE1.out⟩, ⟨_, _, HO1.out⟩, HW1.out, by rw [← Nat.add_assoc]; exact HRUN.out, HFO.out, by rw [List.length_append, List.length_singleton]; omega⟩
          case measure => simp [intOf]; omega
        | some er =>
          have he2 := HE1.out
          rw [hE2] at he2 hrun
          simp only at hrun
          obtain ⟨t, a, rfl⟩ := IsErr.form he2
          have HRUN := Lib.hid hrun
          have HEE := Lib.hid he2
          have hb3 : ∀ o, (w1.alloc o).heap[R]? = some (rdBlk s st2.at_ (.iface t (.pointer (some a)))) := fun o => rd_below HB1.out (below_new _ _)
          have d3 : ∀ o, (w1.alloc o).frozen? ⟨R, 2, none⟩ = false := fun o => (rd_cells (hb3 o)).2.2.2 2
          have d4 : ∀ o, (w1.alloc o).cell? ⟨R, 2, none⟩ = some (.iface t (.pointer (some a))) := fun o => (rd_cells (hb3 o)).2.2.1
          have HB3 := Lib.hid hb3
          clear hrun hE2 hb3
          go_wp2
          go_roundw
          case rel =>
            have hfl : IsErr sp (w1.alloc (.cells #[.int .i64 ((first : Int) + (k : Int)), .iface t (.pointer (some a))] 144)) (.iface 142 (.pointer (some ⟨w1.heap.size, 0, none⟩))) (.flt (((first + k : Nat)) : Int) er) :=
              .flt _ _ _ _ (by rw [heap_new]; simp) (HEE.out.grow (below_new _ _))
            refine ⟨k + 1, ⟨st2.at_, some (.flt ((first + k : Nat)) er)⟩, l' ++ [g], by go_num, by omega, ⟨_, rd_set2 (HB3.out _) _, hfl.set_rd (HB3.out _)⟩, ⟨_, _, (HO1.out.below (below_new _ _)).rd (sp := sp) (HB3.out _) ((Keeps.refl _ _).setCell _ _ (fun _ => rfl))⟩, ((HW1.out.alloc HW1.out.size _).setCell (p := ⟨R, 2, none⟩) hR _), ?_, HFO.out, by rw [List.length_append, List.length_singleton]; omega⟩
            rw [partsG_err rfl]
            exact HRUN.out
          case measure => simp [intOf]; omega
    · obtain rfl : k = n := by omega
      rw [Nat.sub_self, partsG] at HRUN
      go_wp2
      go_end0
      exact ⟨rfl, by rw [← HRUN.out]; exact ⟨_, HB.out, HE.out⟩, ⟨_, _, by rw [← HRUN.out]; exact HO.out⟩, HW.out⟩

def partsS (s : ByteArray) : Nat → Nat → RSt → List Stp → RSt × List Stp
  | 0, _, st, l => (st, l)
  | k + 1, j, st, l => match st.err with
    | some _ => (st, l)
    | none => match (stepF s st).2.err with
      | none => partsS s k (j + 1) (stepF s st).2 (l ++ [(stepF s st).1])
      | some e => (⟨(stepF s st).2.at_, some (.flt j e)⟩, l ++ [(stepF s st).1])
theorem partsS_err {s : ByteArray} {k j : Nat} {st : RSt} {l : List Stp} {e : Er} (h : st.err = some e) : partsS s k j st l = (st, l) := by
  cases k with
  | zero => rfl
  | succ k => rw [partsS, h]
theorem step_ok {s : ByteArray} {st : RSt} (h : st.ok) (hs : s.size ≤ 10000000) : (stepF s st).2.ok := by
  have ko := (kind_ok (most := 4) h hs).1
  have to1 := (text_ok (most := 16) ko hs).1
  have to2 := (text_ok (most := 32) to1 hs).1
  have to3 := (text_ok (most := 32) to2 hs).1
  unfold stepF
  have hi : ∀ st : RSt, st.ok → (intF s st).2.ok := fun st h => by
    unfold intF
    split
    · exact h
    · split
      · exact ⟨by simp only; omega, by simp only; omega⟩
      · rename_i hT
        have := stake_next hT
        exact ⟨by simp only; omega, by simp only; omega⟩
  split
  · exact to2
  split
  · exact hi _ to1
  split
  · exact to3
  · exact to1
theorem partsS_ok {s : ByteArray} (hs : s.size ≤ 10000000) : ∀ (k j : Nat) (st : RSt) (l : List Stp), st.ok → (partsS s k j st l).1.ok ∧ (partsS s k j st l).2.length ≤ l.length + k
  | 0, _, st, l, h => ⟨h, Nat.le_refl _⟩
  | k + 1, j, st, l, h => by
    rw [partsS]
    split
    · exact ⟨h, by simp only; omega⟩
    · have ho := step_ok h hs
      split
      · have := partsS_ok hs k (j + 1) (stepF s st).2 (l ++ [(stepF s st).1]) ho
        rw [List.length_append, List.length_singleton] at this
        exact ⟨this.1, by omega⟩
      · exact ⟨ho, by simp only [List.length_append, List.length_singleton]; omega⟩

def RelS (sp : Nat → Addr) (W : World) (R O : Nat) (s : ByteArray) (n first : Nat) (l0 : List Stp) (res : RSt × List Stp) (other : List Grd) (i : Value) (wl : World) : Prop :=
  ∃ (k : Nat) (st : RSt) (l : List Stp), i = .int .i64 k ∧ k ≤ n ∧ RdAt sp wl R s st ∧ (∃ gv sv, OpAt wl W.heap.size O gv sv other l) ∧ Below W.heap.size W wl ∧ partsS s (n - k) (first + k) st l = res ∧ st.ok ∧ l.length ≤ l0.length + k

set_option maxRecDepth 100000 in
set_option maxHeartbeats 8000000 in
theorem partsS_calls {sp : Nat → Addr} (R O : Nat) (s : ByteArray) (st : RSt) (l : List Stp) (other : List Grd) (gv sv : Value) (n first : Nat) (W w : World) (hL : Laid sp W) (hW : Below W.heap.size W w) (hR : W.heap.size ≤ R) (hO : W.heap.size ≤ O) (hr : RdAt sp w R s st) (ho : OpAt w W.heap.size O gv sv other l)
    (hs : s.size ≤ 10000000) (hst : st.ok) (hn : n ≤ 100) (hf : first ≤ 100) (hl : l.length ≤ 100) :
    Calls Tryd.prog 49 #[.pointer (some ⟨R, 0, none⟩), .pointer (some ⟨O, 0, none⟩), .int .i64 n, .int .i64 first, .func (.func 51) #[.pointer (some ⟨R, 0, none⟩)] #[]] w fun e w' => GPost sp W R O s (partsS s n first st l).1 other (partsS s n first st l).2 e w' := by
  have HL := Lib.hid hL
  obtain ⟨res, hres⟩ : ∃ res, partsS s n first st l = res := ⟨_, rfl⟩
  rw [hres]
  have HREL : Hid (RelS sp W R O s n first l res other (.int .i64 0) w) := ⟨0, st, l, rfl, Nat.zero_le _, hr, ⟨gv, sv, ho⟩, hW, hres, hst, Nat.le_refl _⟩
  clear hL hW hr ho hres
  go_enter Tryd.func49, Tryd.ntmps49
  go_wp2_with fail
  go_loopw [10] (fun i wl => RelS sp W R O s n first l res other i wl) (fun i _ => n - (intOf i).toNat)
  case atStart => exact HREL.out
  case round =>
    obtain ⟨k, st', l', rfl, hk, ⟨ev, hb, he⟩, ⟨gv', sv', ho⟩, hw, hrun, hst', hl'⟩ := hrel
    have HB := Lib.hid hb
    have HE := Lib.hid he
    have HO := Lib.hid ho
    have HW := Lib.hid hw
    have HRUN := Lib.hid hrun
    obtain ⟨c0, c1, c2, _⟩ := rd_cells hb
    clear hb he ho hw hrun HREL c0 c1
    by_cases hlt : k < n
    · cases hE : st'.err with
      | some er =>
        have he2 := HE.out
        rw [hE] at he2
        obtain ⟨t, a, rfl⟩ := IsErr.form he2
        rw [partsS_err hE] at HRUN
        clear he2 hE
        go_wp2
        go_end0
        exact ⟨rfl, by rw [← HRUN.out]; exact ⟨_, HB.out, HE.out⟩, ⟨_, _, by rw [← HRUN.out]; exact HO.out⟩, HW.out⟩
      | none =>
        have he2 := HE.out
        rw [hE] at he2
        obtain rfl : ev = .nilIface := he2
        have HR := Lib.hid (show RdAt sp wr R s st' from ⟨_, HB.out, HE.out⟩)
        have HF := Lib.hid (step_calls R O s st' other l' gv' sv' W wr HL.out HW.out hR hO HR.out HO.out hs hst' (by omega))
        have hnk : n - k = (n - k - 1) + 1 := by omega
        have hrun := HRUN.out
        rw [hnk, partsS, hE] at hrun
        simp only at hrun
        have HFO := Lib.hid (step_ok hst' hs)
        generalize stepF s st' = r at *
        obtain ⟨g, st2⟩ := r
        simp only at hrun HF HFO
        have hsub : n - k - 1 = n - (k + 1) := by omega
        rw [hsub] at hrun
        clear hE hnk HRUN hsub
        go_wp2_with fail
        refine HF.out.mono ?_
        rintro e w1 ⟨rfl, ⟨ev1, hb1, he1⟩, ⟨gv1, sv1, ho1⟩, hw1⟩
        have HB1 := Lib.hid hb1
        have HE1 := Lib.hid he1
        have HO1 := Lib.hid ho1
        have HW1 := Lib.hid hw1
        obtain ⟨_, _, d2, _⟩ := rd_cells hb1
        clear hb1 he1 ho1 hw1 c2
        cases hE2 : st2.err with
        | none =>
          have he2 := HE1.out
          rw [hE2] at he2 hrun
          simp only at hrun
          obtain rfl : ev1 = .nilIface := he2
          have HRUN := Lib.hid hrun
          clear hrun hE2
          go_wp2
          go_roundw
          case rel => exact ⟨k + 1, st2, l' ++ [g], by go_num, by omega, ⟨_, HB1.out, HE1.out⟩, ⟨_, _, HO1.out⟩, HW1.out, by rw [← Nat.add_assoc]; exact HRUN.out, HFO.out, by rw [List.length_append, List.length_singleton]; omega⟩
          case measure => simp [intOf]; omega
        | some er =>
          have he2 := HE1.out
          rw [hE2] at he2 hrun
          simp only at hrun
          obtain ⟨t, a, rfl⟩ := IsErr.form he2
          have HRUN := Lib.hid hrun
          have HEE := Lib.hid he2
          have hb3 : ∀ o, (w1.alloc o).heap[R]? = some (rdBlk s st2.at_ (.iface t (.pointer (some a)))) := fun o => rd_below HB1.out (below_new _ _)
          have d3 : ∀ o, (w1.alloc o).frozen? ⟨R, 2, none⟩ = false := fun o => (rd_cells (hb3 o)).2.2.2 2
          have d4 : ∀ o, (w1.alloc o).cell? ⟨R, 2, none⟩ = some (.iface t (.pointer (some a))) := fun o => (rd_cells (hb3 o)).2.2.1
          have HB3 := Lib.hid hb3
          clear hrun hE2 hb3
          go_wp2
          go_roundw
          case rel =>
            have hfl : IsErr sp (w1.alloc (.cells #[.int .i64 ((first : Int) + (k : Int)), .iface t (.pointer (some a))] 144)) (.iface 142 (.pointer (some ⟨w1.heap.size, 0, none⟩))) (.flt (((first + k : Nat)) : Int) er) :=
              .flt _ _ _ _ (by rw [heap_new]; simp) (HEE.out.grow (below_new _ _))
            refine ⟨k + 1, ⟨st2.at_, some (.flt ((first + k : Nat)) er)⟩, l' ++ [g], by go_num, by omega, ⟨_, rd_set2 (HB3.out _) _, hfl.set_rd (HB3.out _)⟩, ⟨_, _, (HO1.out.below (below_new _ _)).rd (sp := sp) (HB3.out _) ((Keeps.refl _ _).setCell _ _ (fun _ => rfl))⟩, ((HW1.out.alloc HW1.out.size _).setCell (p := ⟨R, 2, none⟩) hR _), ?_, HFO.out, by rw [List.length_append, List.length_singleton]; omega⟩
            rw [partsS_err rfl]
            exact HRUN.out
          case measure => simp [intOf]; omega
    · obtain rfl : k = n := by omega
      rw [Nat.sub_self, partsS] at HRUN
      go_wp2
      go_end0
      exact ⟨rfl, by rw [← HRUN.out]; exact ⟨_, HB.out, HE.out⟩, ⟨_, _, by rw [← HRUN.out]; exact HO.out⟩, HW.out⟩
end Go.Proofs.YtgjabbffpfhmjaaDoor
