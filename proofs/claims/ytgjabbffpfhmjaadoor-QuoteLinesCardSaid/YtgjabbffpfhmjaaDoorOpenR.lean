/- An argument of type [][]string, opened. -/
import Derived.Test.YtgjabbffpfhmjaaDoorQRows
import Derived.SliceStrings
import Derived.WideShapes
import Derived.OpenShut
import Derived.LaidMore
namespace Go.Proofs.YtgjabbffpfhmjaaDoor
open Go.RowKit Go.ChangeShapes

theorem cell_none {w : World} {a : Addr} {v : Value} (h : w.cell? a = some v) : a = ⟨a.block, a.off, none⟩ := by
  have := World.cell?_spot h
  cases a
  simp at this
  subst this
  rfl
theorem add_at (ab ao j : Nat) : (⟨ab, ao, none⟩ : Addr).add j = ⟨ab, ao + j, none⟩ := by
  unfold Addr.add
  split
  · rename_i h; subst h; rfl
  · rfl
theorem spot_at {w : World} {a : Addr} {v : Value} (h : w.cell? (a.add 0) = some v) : a.spot = none := by
  have := World.cell?_spot h
  simpa [Addr.add] using this
theorem open_strs_in {H : Type} {enc : TypeId × Value → H} {W : World} {base : Nat} {sp : Nat → Bool} {held : Bool} {fuel : Nat} {cs : List Value} {x : DataW H × List MemPlace}
    (h : DataW.trod enc Tryd.prog W base sp held fuel 51 cs = some x) : ∃ v r, cs = [v] ∧ Strs W v r ∧ r.length ≤ maxLen := by
  rcases open_strings Tryd.underlying51 Tryd.underlying9 (by kernel_rfl) h with ⟨rfl, _⟩ | ⟨a, len, cap, ss, rfl, _, hl, hm, hsl, _, hcell, _⟩
  · exact ⟨_, [], rfl, ⟨none, 0, rfl, Nat.le_refl _, fun j x hj => by simp at hj⟩, Nat.zero_le _⟩
  · have hle : len ≤ ss.length := by rw [hsl]; split <;> omega
    have hlen : (ss.take len).length = len := by rw [List.length_take]; omega
    refine ⟨_, ss.take len, rfl, ⟨some a, cap, by rw [hlen], by rw [hlen]; exact hl, fun j x hj => ?_⟩, by rw [hlen]; omega⟩
    have hj1 : j < len := by have := (List.getElem?_eq_some_iff.1 hj).1; omega
    rw [List.getElem?_take, if_pos hj1] at hj
    have hc := hcell j (by omega)
    rw [List.getD_eq_getElem?_getD, hj, Option.getD_some] at hc
    obtain ⟨ab, ao, asp⟩ := a
    have hs : asp = none := spot_at (a := ⟨ab, ao, asp⟩) (hcell 0 (by omega))
    subst hs
    rw [add_at] at hc
    exact ⟨ab, ao, rfl, hc⟩
set_option maxRecDepth 100000 in
theorem open_rows {H : Type} {enc : TypeId × Value → H} {W : World} {b0 : Nat} {v : Value} {d : DataW H} {p : List MemPlace}
    (hval : Value.okWide Tryd.prog W .any b0 50 v) (h : DataW.Trod enc Tryd.prog W 0 (fun _ => true) true 50 v d p) :
    ∃ l, StrRows W v l ∧ l.length ≤ maxLen ∧ ∀ r ∈ l, r.length ≤ maxLen := by
  obtain ⟨a0, len, cap, rfl⟩ := Go.WideShapes.okWide_slice Tryd.underlying50 hval
  obtain ⟨fuel, hf⟩ := h
  rcases DataW.trod_slice Tryd.underlying50 hf with ⟨hcs, _⟩ | ⟨a, len', cap', elems, rest, n, _, hcs, _, _, hl, hm, hlen, hel, _⟩
  · simp [Value.cells] at hcs
    obtain ⟨rfl, rfl, rfl⟩ := hcs
    exact ⟨[], ⟨none, 0, rfl, Nat.le_refl _, fun j x hj => by simp at hj⟩, Nat.zero_le _, by simp⟩
  · simp [Value.cells] at hcs
    obtain ⟨rfl, rfl, rfl⟩ := hcs
    have hone : Tryd.prog.cellsOf 51 = 1 := by kernel_rfl
    have each : ∀ i : Nat, ∃ r, i < len → (∃ u, W.cell? (a.add i) = some u ∧ Strs W u r) ∧ r.length ≤ maxLen := fun i => by
      by_cases hi : i < len
      · have hE := hel i hi
        rw [hone, Nat.mul_one, List.getElem?_eq_getElem (by omega), Option.bind_eq_some_iff] at hE
        obtain ⟨c1, hc1, hy⟩ := hE
        obtain ⟨u, r, rfl, hs, hr⟩ := open_strs_in hy
        exact ⟨r, fun _ => ⟨⟨u, cell_of_cells?_one hc1, hs⟩, hr⟩⟩
      · exact ⟨[], fun h => absurd h hi⟩
    obtain ⟨f, hF⟩ := Classical.axiomOfChoice each
    have hll : ((List.range len).map f).length = len := by simp
    refine ⟨(List.range len).map f, ⟨some a, cap, by rw [hll], by rw [hll]; exact hl, fun j r hj => ?_⟩, by rw [hll]; omega, fun r hr => ?_⟩
    · have hj1 : j < len := by have := (List.getElem?_eq_some_iff.1 hj).1; omega
      have hr : r = f j := by
        rw [List.getElem?_map, List.getElem?_range hj1] at hj
        exact (Option.some.inj hj).symm
      subst hr
      obtain ⟨⟨u, hu, hs⟩, _⟩ := hF j hj1
      obtain ⟨ab, ao, asp⟩ := a
      obtain ⟨⟨u0, hu0, _⟩, _⟩ := hF 0 (by omega)
      have hsp : asp = none := spot_at (a := ⟨ab, ao, asp⟩) hu0
      subst hsp
      rw [add_at] at hu
      exact ⟨ab, ao, u, rfl, hu, hs⟩
    · obtain ⟨j, hj, rfl⟩ := List.mem_map.1 hr
      exact (hF j (List.mem_range.1 hj)).2
theorem maxLen_le : maxLen ≤ 9223372036854775807 := by simp [maxLen]
end Go.Proofs.YtgjabbffpfhmjaaDoor
