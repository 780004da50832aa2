/- An argument of type api.Op, opened. -/
import Derived.Test.YtgjabbffpfhmjaaDoorOPrint
import Derived.Test.YtgjabbffpfhmjaaDoorOGuard
import Derived.Deep.Slices
import Derived.WideShapes
import Derived.OpenShut
import Derived.LaidMore
namespace Go.Proofs.YtgjabbffpfhmjaaDoor
open Go.RowKit Go.ChangeShapes Go.Deep

theorem cells_int : Tryd.prog.cellsOf 3 = 1 := by kernel_rfl
theorem cells_i64 : Tryd.prog.cellsOf 2 = 1 := by kernel_rfl
theorem cells_str : Tryd.prog.cellsOf 9 = 1 := by kernel_rfl
theorem cells_grd : Tryd.prog.cellsOf 72 = 3 := by kernel_rfl
theorem cells_stp : Tryd.prog.cellsOf 74 = 5 := by kernel_rfl
theorem cells_op : Tryd.prog.cellsOf 32 = 2 := by kernel_rfl
theorem cells_gs : Tryd.prog.cellsOf 29 = 1 := by kernel_rfl
theorem cells_ss : Tryd.prog.cellsOf 30 = 1 := by kernel_rfl
theorem len3 {α : Type} {l : List α} (h : l.length = 3) : ∃ a b c, l = [a, b, c] := by
  match l, h with
  | [a, b, c], _ => exact ⟨a, b, c, rfl⟩
theorem len5 {α : Type} {l : List α} (h : l.length = 5) : ∃ a b c d e, l = [a, b, c, d, e] := by
  match l, h with
  | [a, b, c, d, e], _ => exact ⟨a, b, c, d, e, rfl⟩
theorem add_at_ (ab ao j : Nat) : (⟨ab, ao, none⟩ : Addr).add j = ⟨ab, ao + j, none⟩ := by
  unfold Addr.add
  split
  · rename_i h; subst h; rfl
  · rfl
section
variable {H : Type} {enc : TypeId × Value → H} {W : World} {base : Nat} {sp : Nat → Bool} {held : Bool} {fuel : Nat} {cs : List Value} {x : DataW H × List MemPlace}
theorem trod_at {ft : TypeId} {o k : Nat} {c : Value} {r : List Value} {y : Option (DataW H × List MemPlace)} (h : DataW.trod enc Tryd.prog W base sp held fuel ft ((cs.drop o).take k) = y) (hk : k = 1) (hd : cs.drop o = c :: r) : DataW.trod enc Tryd.prog W base sp held fuel ft [c] = y := by
  rw [← h, hk, hd]
  rfl
theorem open_grd (h : DataW.trod enc Tryd.prog W base sp held fuel 72 cs = some x) : ∃ g, cs = gcells g := by
  obtain ⟨xs, n, _, _, hl, hx, hf⟩ := DataW.trod_struct Tryd.underlying72 h
  have hl3 : cs.length = 3 := hl.trans cells_grd
  have hx3 : xs.length = 3 := hx
  obtain ⟨c0, c1, c2, rfl⟩ := len3 hl3
  obtain ⟨y0, y1, y2, rfl⟩ := len3 hx3
  have h0 := trod_at (hf 0 _ rfl) cells_int rfl
  have h1 := trod_at (hf 1 _ rfl) cells_str rfl
  have h2 := trod_at (hf 2 _ rfl) cells_str rfl
  obtain ⟨k, e0, _⟩ := DataW.trod_int (k := .i64) Tryd.underlying3 (cs := [c0]) (x := y0) h0
  obtain ⟨s, e1, _⟩ := DataW.trod_string Tryd.underlying9 (cs := [c1]) (x := y1) h1
  obtain ⟨t, e2, _⟩ := DataW.trod_string Tryd.underlying9 (cs := [c2]) (x := y2) h2
  injection e0 with e0 _; injection e1 with e1 _; injection e2 with e2 _
  subst e0 e1 e2
  exact ⟨⟨k, s, t⟩, rfl⟩
theorem open_stp (h : DataW.trod enc Tryd.prog W base sp held fuel 74 cs = some x) : ∃ g, cs = scells g ∧ i64ok g.n := by
  obtain ⟨xs, n, _, _, hl, hx, hf⟩ := DataW.trod_struct Tryd.underlying74 h
  have hl3 : cs.length = 5 := hl.trans cells_stp
  have hx3 : xs.length = 5 := hx
  obtain ⟨c0, c1, c2, c3, c4, rfl⟩ := len5 hl3
  obtain ⟨y0, y1, y2, y3, y4, rfl⟩ := len5 hx3
  have h0 := trod_at (hf 0 _ rfl) cells_int rfl
  have h1 := trod_at (hf 1 _ rfl) cells_str rfl
  have h2 := trod_at (hf 2 _ rfl) cells_str rfl
  have h3 := trod_at (hf 3 _ rfl) cells_str rfl
  have h4 := trod_at (hf 4 _ rfl) cells_i64 rfl
  obtain ⟨k, e0, _⟩ := DataW.trod_int (k := .i64) Tryd.underlying3 (cs := [c0]) (x := y0) h0
  obtain ⟨s, e1, _⟩ := DataW.trod_string Tryd.underlying9 (cs := [c1]) (x := y1) h1
  obtain ⟨t, e2, _⟩ := DataW.trod_string Tryd.underlying9 (cs := [c2]) (x := y2) h2
  obtain ⟨u, e3, _⟩ := DataW.trod_string Tryd.underlying9 (cs := [c3]) (x := y3) h3
  obtain ⟨m, e4, _, hm⟩ := DataW.trod_int (k := .i64) Tryd.underlying2 (cs := [c4]) (x := y4) h4
  injection e0 with e0 _; injection e1 with e1 _; injection e2 with e2 _; injection e3 with e3 _; injection e4 with e4 _
  subst e0 e1 e2 e3 e4
  refine ⟨⟨k, s, t, u, m⟩, rfl, ?_⟩
  have := bounds_i64 hm
  unfold i64ok
  simp only
  omega
theorem open_grds (h : DataW.trod enc Tryd.prog W 0 (fun _ => true) held fuel 29 cs = some x) : ∃ v l, cs = [v] ∧ Grds W v l := by
  rcases open_slice Tryd.underlying29 h with ⟨rfl, _⟩ | ⟨a, len, cap, m, n, D, Pl, rfl, _, hl, hcm, hm, _, hi⟩
  · exact ⟨_, [], rfl, ⟨none, 0, rfl, Nat.le_refl _, fun j x hj => by simp at hj⟩⟩
  · simp only [if_true] at hm
    have each : ∀ i : Nat, ∃ g : Grd, i < len → ∀ j, j < 3 → W.cell? ((a.add (i * 3)).add j) = (gcells g)[j]? := fun i => by
      by_cases hlt : i < len
      · obtain ⟨cs', hc, ht⟩ := hi i (by omega)
        obtain ⟨g, rfl⟩ := open_grd ht
        rw [cells_grd] at hc
        obtain ⟨_, _, hat⟩ := World.cells?_some hc
        exact ⟨g, fun _ j hj => hat j hj⟩
      · exact ⟨⟨0, ⟨#[]⟩, ⟨#[]⟩⟩, fun h => absurd h hlt⟩
    obtain ⟨f, hF⟩ := Classical.axiomOfChoice each
    have hll : ((List.range len).map f).length = len := by simp
    refine ⟨_, (List.range len).map f, rfl, ⟨some a, cap, by rw [hll], by rw [hll]; exact hl, fun j g hj => ?_⟩⟩
    have hj1 : j < len := by have := (List.getElem?_eq_some_iff.1 hj).1; omega
    have hg : g = f j := by
      rw [List.getElem?_map, List.getElem?_range hj1] at hj
      exact (Option.some.inj hj).symm
    subst hg
    obtain ⟨ab, ao, asp⟩ := a
    have h00 := hF 0 (by omega) 0 (by omega)
    rw [Nat.zero_mul] at h00
    have hsp : asp = none := by
      have h := World.cell?_spot h00
      simpa [Addr.add] using h
    subst hsp
    have hc := hF j hj1
    have cc : ∀ i, i < 3 → W.cell? ⟨ab, ao + j * 3 + i, none⟩ = (gcells (f j))[i]? := fun i hi => by
      rw [← hc i hi, add_at_, add_at_]
    exact ⟨ab, ao, rfl, cc 0 (by omega), cc 1 (by omega), cc 2 (by omega)⟩
theorem open_stps (h : DataW.trod enc Tryd.prog W 0 (fun _ => true) held fuel 30 cs = some x) : ∃ v l, cs = [v] ∧ Stps W v l ∧ ∀ s ∈ l, i64ok s.n := by
  rcases open_slice Tryd.underlying30 h with ⟨rfl, _⟩ | ⟨a, len, cap, m, n, D, Pl, rfl, _, hl, hcm, hm, _, hi⟩
  · exact ⟨_, [], rfl, ⟨none, 0, rfl, Nat.le_refl _, fun j x hj => by simp at hj⟩, fun _ h => by cases h⟩
  · simp only [if_true] at hm
    have each : ∀ i : Nat, ∃ g : Stp, i64ok g.n ∧ (i < len → ∀ j, j < 5 → W.cell? ((a.add (i * 5)).add j) = (scells g)[j]?) := fun i => by
      by_cases hlt : i < len
      · obtain ⟨cs', hc, ht⟩ := hi i (by omega)
        obtain ⟨g, rfl, hg⟩ := open_stp ht
        rw [cells_stp] at hc
        obtain ⟨_, _, hat⟩ := World.cells?_some hc
        exact ⟨g, hg, fun _ j hj => hat j hj⟩
      · exact ⟨⟨0, ⟨#[]⟩, ⟨#[]⟩, ⟨#[]⟩, 0⟩, ⟨by decide, by decide⟩, fun h => absurd h hlt⟩
    obtain ⟨f, hF⟩ := Classical.axiomOfChoice each
    have hll : ((List.range len).map f).length = len := by simp
    refine ⟨_, (List.range len).map f, rfl, ⟨some a, cap, by rw [hll], by rw [hll]; exact hl, fun j g hj => ?_⟩, fun g hg => by obtain ⟨j, _, rfl⟩ := List.mem_map.1 hg; exact (hF j).1⟩
    have hj1 : j < len := by have := (List.getElem?_eq_some_iff.1 hj).1; omega
    have hg : g = f j := by
      rw [List.getElem?_map, List.getElem?_range hj1] at hj
      exact (Option.some.inj hj).symm
    subst hg
    obtain ⟨ab, ao, asp⟩ := a
    have h00 := (hF 0).2 (by omega) 0 (by omega)
    rw [Nat.zero_mul] at h00
    have hsp : asp = none := by
      have h := World.cell?_spot h00
      simpa [Addr.add] using h
    subst hsp
    have hc := (hF j).2 hj1
    have cc : ∀ i, i < 5 → W.cell? ⟨ab, ao + j * 5 + i, none⟩ = (scells (f j))[i]? := fun i hi => by
      rw [← hc i hi, add_at_, add_at_]
    exact ⟨ab, ao, rfl, cc 0 (by omega), cc 1 (by omega), cc 2 (by omega), cc 3 (by omega), cc 4 (by omega)⟩
set_option maxRecDepth 100000 in
/-- An argument of type api.Op. -/
theorem open_op {b0 : Nat} {v : Value} {d : DataW H} {p : List MemPlace} (hval : Value.okWide Tryd.prog W .any b0 32 v) (h : DataW.Trod enc Tryd.prog W 0 (fun _ => true) held 32 v d p) :
    ∃ o, OpIn W v o ∧ ∀ s ∈ o.ss, i64ok s.n := by
  obtain ⟨cs, rfl, hsz⟩ := Go.WideShapes.okWide_struct Tryd.underlying32 hval
  obtain ⟨fuel, hf⟩ := h
  obtain ⟨xs, n, _, _, hl, hx, hg⟩ := DataW.trod_struct Tryd.underlying32 hf
  obtain ⟨l⟩ := cs
  have hl2 : l.length = 2 := hsz.trans cells_op
  obtain ⟨c0, c1, rfl⟩ : ∃ a b, l = [a, b] := by
    match l, hl2 with
    | [a, b], _ => exact ⟨a, b, rfl⟩
  have hx2 : xs.length = 2 := hx
  obtain ⟨y0, y1, rfl⟩ : ∃ a b, xs = [a, b] := by
    match xs, hx2 with
    | [a, b], _ => exact ⟨a, b, rfl⟩
  have h0 := trod_at (cs := [c0, c1]) (hg 0 _ rfl) cells_gs rfl
  have h1 := trod_at (cs := [c0, c1]) (hg 1 _ rfl) cells_ss rfl
  obtain ⟨v0, gs, e0, r0⟩ := open_grds (cs := [c0]) (x := y0) h0
  obtain ⟨v1, ss, e1, r1, r2⟩ := open_stps (cs := [c1]) (x := y1) h1
  injection e0 with e0 _
  injection e1 with e1 _
  subst e0 e1
  exact ⟨⟨gs, ss⟩, ⟨_, _, rfl, r0, r1⟩, r2⟩
end
end Go.Proofs.YtgjabbffpfhmjaaDoor
