/- errors.As at a target ***fail.at, by its contracts. -/
import Derived.Test.YtgjabbffpfhmjaaDoorAs
namespace Go.Proofs.YtgjabbffpfhmjaaDoor.AsAt
open Go.RowKit Go.Extern.Stop Go.Stop Go.Extern

abbrev V2 (a : Addr) : Value := .agg #[.pointer (some ⟨26, 151, none⟩), .pointer (some a), .int .u64 150]
theorem valueOf2 (t : Addr) (w : World) : (valueOfFn #[.iface 151 (.pointer (some t))]).run Tryd.prog w
    = .ok (.agg #[.pointer (some ⟨26, 151, none⟩), .pointer (some ⟨w.heap.size, 0, none⟩), .int .u64 150]) (w.alloc (.cells #[.pointer (some t)] 151)) := by kernel_rfl
theorem type2 (a : Addr) (w : World) : (typeFn #[.agg #[.pointer (some ⟨26, 151, none⟩), .pointer (some a), .int .u64 150]]).run Tryd.prog w
    = .ok (.iface 166 (.agg #[.pointer (some ⟨26, 151, none⟩)])) w := by kernel_rfl
theorem kind2 (w : World) : (kindFn #[.pointer (some ⟨26, 151, none⟩)]).run Tryd.prog w = .ok (.int .u8 22) w := by kernel_rfl
theorem kind1 (w : World) : (kindFn #[.pointer (some ⟨26, 137, none⟩)]).run Tryd.prog w = .ok (.int .u8 22) w := by kernel_rfl
theorem parts2 (a : Addr) (w : World) : (ReflectliteValue.parts (.agg #[.pointer (some ⟨26, 151, none⟩), .pointer (some a), .int .u64 150])).run Tryd.prog w = .ok (some (151, a, 150)) w := by kernel_rfl
theorem isNil2 (a p : Addr) (W : World) (ha : W.cell? a = some (.pointer (some p))) :
    (isNilFn #[.agg #[.pointer (some ⟨26, 151, none⟩), .pointer (some a), .int .u64 150]]).run Tryd.prog W = .ok (.bool false) W := by
  unfold isNilFn
  rw [rlm]
  simp only [Sem.run_bind, parts2, Result.andThen]
  simp [ReflectliteValue.isNil, loadVar, isAgg, underlying, Tryd.underlying151, ha, Result.andThen]
theorem elem2 (w : World) : (elemTFn #[.agg #[.pointer (some ⟨26, 151, none⟩)]]).run Tryd.prog w = .ok (.iface 166 (.agg #[.pointer (some ⟨26, 137, none⟩)])) w := by kernel_rfl
theorem implements1 (w : World) : (implFn #[.agg #[.pointer (some ⟨26, 137, none⟩)], .iface 166 (.agg #[.pointer (some ⟨26, 35, none⟩)])]).run Tryd.prog w = .ok (.bool true) w := by kernel_rfl
theorem typeOf1 (v : Value) (w : World) : (typeOfFn #[.iface 137 v]).run Tryd.prog w = .ok (.iface 166 (.agg #[.pointer (some ⟨26, 137, none⟩)])) w := by kernel_rfl
theorem assignable1 (w : World) : (assignFn #[.agg #[.pointer (some ⟨26, 137, none⟩)], .iface 166 (.agg #[.pointer (some ⟨26, 137, none⟩)])]).run Tryd.prog w = .ok (.bool true) w := by kernel_rfl
theorem valueOf1 (e : Addr) (w : World) : (valueOfFn #[.iface 137 (.pointer (some e))]).run Tryd.prog w
    = .ok (.agg #[.pointer (some ⟨26, 137, none⟩), .pointer (some ⟨w.heap.size, 0, none⟩), .int .u64 150]) (w.alloc (.cells #[.pointer (some e)] 137)) := by kernel_rfl
theorem elemOf2 (w : World) : (Rtype.elem? 151).run Tryd.prog w = .ok (some 137) w := by kernel_rfl
theorem mk1 (p : Addr) (w : World) : (ReflectliteValue.mk 137 p ReflectliteValue.flagAddr).run Tryd.prog w = .ok (.agg #[.pointer (some ⟨26, 137, none⟩), .pointer (some p), .int .u64 406]) w := by kernel_rfl
theorem elemV2 (a p : Addr) (W : World) (ha : W.cell? a = some (.pointer (some p))) :
    (elemVFn #[.agg #[.pointer (some ⟨26, 151, none⟩), .pointer (some a), .int .u64 150]]).run Tryd.prog W
      = .ok (.agg #[.pointer (some ⟨26, 137, none⟩), .pointer (some p), .int .u64 406]) W := by
  unfold elemVFn
  rw [rlm]
  simp only [Sem.run_bind, parts2, Result.andThen]
  simp [ReflectliteValue.elem, loadVar, isAgg, underlying, Tryd.underlying151, ha, Result.andThen, elemOf2, mk1]
theorem parts1a (a : Addr) (w : World) : (ReflectliteValue.parts (.agg #[.pointer (some ⟨26, 137, none⟩), .pointer (some a), .int .u64 406])).run Tryd.prog w = .ok (some (137, a, 406)) w := by kernel_rfl
theorem parts1 (a : Addr) (w : World) : (ReflectliteValue.parts (.agg #[.pointer (some ⟨26, 137, none⟩), .pointer (some a), .int .u64 150])).run Tryd.prog w = .ok (some (137, a, 150)) w := by kernel_rfl
theorem direct1 (w : World) : (Rtype.directlyAssignable 137 137).run Tryd.prog w = .ok true w := by kernel_rfl
theorem set1 (ta b e : Addr) (old : Value) (W : World) (hb : W.cell? b = some (.pointer (some e))) (ht : W.cell? ta = some old) (hf : W.frozen? ta = false) :
    (setFn #[.agg #[.pointer (some ⟨26, 137, none⟩), .pointer (some ta), .int .u64 406], .agg #[.pointer (some ⟨26, 137, none⟩), .pointer (some b), .int .u64 150]]).run Tryd.prog W
      = .ok (.tuple #[]) (W.setCell ta (.pointer (some e))) := by
  rw [rls]
  simp only [Sem.run_bind, parts1a, parts1, Result.andThen]
  simp [ReflectliteValue.flagAddr, loadVar, isAgg, underlying, Tryd.underlying137, hb, Result.andThen, direct1, storeVar, Value.cells, storeCells, Addr.add]
  rw [run_store Tryd.prog W ta _ _ (by rfl)]
  simp [ht, hf]

/-- The world in which errors.as is called. -/
def W3 (w : World) (t : Addr) : World := (w.alloc (.cells #[.pointer (some t)] 151)).alloc (.cells #[.pointer (some ⟨26, 151, none⟩), .pointer (some ⟨w.heap.size, 0, none⟩), .int .u64 150] 181)
theorem W3_below (w : World) (t : Addr) : Below w.heap.size w (W3 w t) := below_trans (below_new _ _) (below_new _ _)
theorem W3_cell (w : World) (t : Addr) : (W3 w t).cell? ⟨w.heap.size, 0, none⟩ = some (.pointer (some t)) := by
  have h := blk_below (below_new (w.alloc (.cells #[.pointer (some t)] 151)) (.cells #[.pointer (some ⟨26, 151, none⟩), .pointer (some ⟨w.heap.size, 0, none⟩), .int .u64 150] 181)) (heap_new w (.cells #[.pointer (some t)] 151))
  exact (blk_cell h 0).trans rfl

set_option maxRecDepth 100000 in
set_option maxHeartbeats 4000000 in
/-- errors.As comes to errors.as. -/
theorem as_enters {sp : Nat → Addr} (E : Value) (te : TypeId) (ve : Value) (hE : E = .iface te ve) (t : Addr) (w : World) (hL : Laid sp w) (R : Ending → World → Prop)
    (h : Calls Tryd.prog 113 #[E, .iface 151 (.pointer (some t)), V2 ⟨w.heap.size, 0, none⟩, .iface 166 (.agg #[.pointer (some ⟨26, 137, none⟩)])] (W3 w t) (fun e w' => ∃ b : Bool, e = .returned (.bool b) ∧ R (.returned (.bool b)) w')) :
    Calls Tryd.prog 93 #[E, .iface 151 (.pointer (some t))] w R := by
  subst hE
  have f1 := x1
  have f2 := x2
  have f3 := x3
  have f4 := x4
  have f5 := x5
  have f6 := x6
  have g1 := valueOf2
  have g2 := type2
  have g3 := kind2
  have g4 := kind1
  have g5 := elem2
  have g6 := implements1
  have n8 := isNil2 ⟨w.heap.size, 0, none⟩ t (W3 w t) (W3_cell w t)
  unfold W3 at n8
  have hg := (hL.below (W3_below w t)).ety
  unfold W3 at hg
  have HH := Lib.hid h
  clear h hL
  unfold W3 V2 at HH
  go_enter Tryd.func93, Tryd.ntmps93
  go_wp2_with (go_at_call 113; refine HH.out.mono ?_; rintro e w' ⟨b, rfl, hr⟩)
  have HR := Lib.hid hr
  clear hr
  go_wp2
  exact HR.out

/-- The worlds on the way through errors.as at a hit. -/
theorem hit_worlds (e t : Addr) (w : World) (htl : t.block < w.heap.size) (old : Value) (ht0 : w.cell? t = some old) (hf0 : w.frozen? t = false) (W5 : World)
    (hW5 : W5 = ((W3 w t).alloc (.cells #[.pointer (some ⟨26, 151, none⟩), .pointer (some ⟨w.heap.size, 0, none⟩), .int .u64 150] 181)).alloc (.cells #[.pointer (some e)] 137)) :
    Below w.heap.size w W5 ∧ W5.cell? ⟨w.heap.size + 1 + 1 + 1, 0, none⟩ = some (.pointer (some e)) ∧ W5.cell? t = some old ∧ W5.frozen? t = false := by
  have h5 : Below w.heap.size w W5 := by rw [hW5]; exact below_trans (below_trans (W3_below w t) (below_new _ _)) (below_new _ _)
  refine ⟨h5, ?_, cell_below h5 ht0, (h5.frozen htl).trans hf0⟩
  have h := heap_new ((W3 w t).alloc (.cells #[.pointer (some ⟨26, 151, none⟩), .pointer (some ⟨w.heap.size, 0, none⟩), .int .u64 150] 181)) (.cells #[.pointer (some e)] 137)
  rw [← hW5] at h
  have hs : ((W3 w t).alloc (.cells #[.pointer (some ⟨26, 151, none⟩), .pointer (some ⟨w.heap.size, 0, none⟩), .int .u64 150] 181)).heap.size = w.heap.size + 1 + 1 + 1 := by simp [W3]
  rw [hs] at h
  exact (blk_cell h 0).trans rfl

set_option maxRecDepth 100000 in
set_option maxHeartbeats 4000000 in
/-- THE HIT: the error's own type is *fail.at: the target's cell holds it. -/
theorem as_hit {sp : Nat → Addr} (e : Addr) (tb : Nat) (old : Value) (tt : TypeId) (w : World) (hL : Laid sp w) (hblk : w.heap[tb]? = some (.cells #[old] tt (0, 0))) :
    Calls Tryd.prog 93 #[.iface 137 (.pointer (some e)), .iface 151 (.pointer (some ⟨tb, 0, none⟩))] w fun ev w' => ev = .returned (.bool true) ∧ Keeps (· = tb) w w' ∧ w'.heap[tb]? = some (.cells #[.pointer (some e)] tt (0, 0)) := by
  have htl : tb < w.heap.size := blk_lt' hblk
  obtain ⟨hb5, hc5, ho5, hf5⟩ := hit_worlds e ⟨tb, 0, none⟩ w htl old ((blk_cell hblk 0).trans rfl) (blk_free hblk 0) _ rfl
  refine as_enters _ _ _ rfl ⟨tb, 0, none⟩ w hL _ ?_
  have HK : Hid (Keeps (· = tb) w ((((W3 w ⟨tb, 0, none⟩).alloc (.cells #[.pointer (some ⟨26, 151, none⟩), .pointer (some ⟨w.heap.size, 0, none⟩), .int .u64 150] 181)).alloc (.cells #[.pointer (some e)] 137)).setCell ⟨tb, 0, none⟩ (.pointer (some e)))
      ∧ ((((W3 w ⟨tb, 0, none⟩).alloc (.cells #[.pointer (some ⟨26, 151, none⟩), .pointer (some ⟨w.heap.size, 0, none⟩), .int .u64 150] 181)).alloc (.cells #[.pointer (some e)] 137)).setCell ⟨tb, 0, none⟩ (.pointer (some e))).heap[tb]? = some (.cells #[.pointer (some e)] tt (0, 0))) :=
    ⟨(Keeps.of_below hb5).setCell _ _ (fun _ => rfl), heap_set (blk_below hb5 hblk) 0 _⟩
  have el := elemV2 ⟨w.heap.size, 0, none⟩ ⟨tb, 0, none⟩ ((W3 w ⟨tb, 0, none⟩).alloc (.cells #[.pointer (some ⟨26, 151, none⟩), .pointer (some ⟨w.heap.size, 0, none⟩), .int .u64 150] 181)) (cell_below (below_new _ _) (W3_cell w _))
  have st := set1 ⟨tb, 0, none⟩ ⟨w.heap.size + 1 + 1 + 1, 0, none⟩ e old _ hc5 ho5 hf5
  clear hb5 hc5 ho5 hf5 hL hblk
  have f7 := x7
  have f8 := x8
  have f9 := x9
  have f10 := x10
  have f1 := x1
  have g7 := typeOf1
  have g8 := assignable1
  have g1 := valueOf1
  unfold W3 at el st HK
  unfold W3 V2
  go_enter Tryd.func113, Tryd.ntmps113
  go_wp2
  refine wp_loop_rounds 1 ?_
  rw [rounds_succ]
  go_wp2
  go_ret
  exact ⟨true, rfl, rfl, HK.out⟩

theorem typeOfE (v : Value) (w : World) : (typeOfFn #[.iface 218 v]).run Tryd.prog w = .ok (.iface 166 (.agg #[.pointer (some ⟨26, 218, none⟩)])) w := by kernel_rfl
theorem assignableE (w : World) : (assignFn #[.agg #[.pointer (some ⟨26, 218, none⟩)], .iface 166 (.agg #[.pointer (some ⟨26, 137, none⟩)])]).run Tryd.prog w = .ok (.bool false) w := by kernel_rfl
set_option maxRecDepth 100000 in
set_option maxHeartbeats 4000000 in
/-- A sentinel is no *fail.at. -/
theorem as_sent {sp : Nat → Addr} (a t : Addr) (w : World) (hL : Laid sp w) :
    Calls Tryd.prog 93 #[.iface 218 (.pointer (some a)), .iface 151 (.pointer (some t))] w fun ev w' => ev = .returned (.bool false) ∧ Below w.heap.size w w' := by
  refine as_enters _ _ _ rfl t w hL _ ?_
  have HB := Lib.hid (below_trans (W3_below w t) (below_new (W3 w t) (.cells #[.pointer (some ⟨26, 151, none⟩), .pointer (some ⟨w.heap.size, 0, none⟩), .int .u64 150] 181)))
  clear hL
  have f7 := x7
  have f8 := x8
  have g7 := typeOfE
  have g8 := assignableE
  have nE := noAsE
  have uE := noUnwrapE
  have vE := noUnwrapsE
  unfold W3 at HB
  unfold W3 V2
  go_enter Tryd.func113, Tryd.ntmps113
  go_wp2
  refine wp_loop_rounds 1 ?_
  rw [rounds_succ]
  go_wp2
  go_ret
  exact ⟨false, rfl, rfl, HB.out⟩
end Go.Proofs.YtgjabbffpfhmjaaDoor.AsAt
