/- Errors of this program: what they are in memory, and that what they are stays as the world grows. -/
import Derived.Test.YtgjabbffpfhmjaaDoorProg
import Derived.WalkKit
import Derived.LaidEql
import Derived.Stop.Asserts
import Derived.RowKitTokens
import Derived.Lib.Hide
namespace Go.Proofs.YtgjabbffpfhmjaaDoor
open Go.RowKit Go.Extern.Stop Go.Stop Go.Extern

/-! ### the sentinels -/
def isCode (c : Nat) : Prop := (1 ≤ c ∧ c ≤ 18) ∨ c = 99
def senVar : Nat → Nat
  | 1 => 2
  | 2 => 3
  | 3 => 4
  | 4 => 5
  | 5 => 6
  | 6 => 7
  | 7 => 8
  | 8 => 0
  | 9 => 9
  | 10 => 10
  | 11 => 11
  | 12 => 12
  | 13 => 13
  | 14 => 14
  | 15 => 15
  | 16 => 16
  | 17 => 17
  | 18 => 18
  | _ => 1

/-- What the row's list gives of the error variables, in the world w. -/
structure Laid (sp : Nat → Addr) (w : World) : Prop where
  var : ∀ c, isCode c → w.cell? ⟨senVar c, 0, none⟩ = some (.iface 218 (.pointer (some (sp c))))
  blk : ∀ c, isCode c → ∃ ca ta, w.heap[(sp c).block]? = some (.cells ca ta (0, 0))
  inj : ∀ c d, isCode c → isCode d → sp c = sp d → c = d
  ety : w.cell? ⟨19, 0, none⟩ = some (.iface 166 (.agg #[.pointer (some ⟨26, 35, none⟩)]))

theorem cell_lt {w : World} {a : Addr} {v : Value} (h : w.cell? a = some v) : a.block < w.heap.size := World.block_lt_of_cell? w a h
theorem blk_lt' {w : World} {b : Nat} {o : Obj} (h : w.heap[b]? = some o) : b < w.heap.size := (Array.getElem?_eq_some_iff.1 h).1
theorem cell_below {w w' : World} (hb : Below w.heap.size w w') {a : Addr} {v : Value} (h : w.cell? a = some v) : w'.cell? a = some v := (hb.cell (cell_lt h)).trans h
theorem blk_below {w w' : World} (hb : Below w.heap.size w w') {b : Nat} {o : Obj} (h : w.heap[b]? = some o) : w'.heap[b]? = some o := (hb.block b (blk_lt' h)).trans h
theorem below_trans {a b c : World} (h : Below a.heap.size a b) (k : Below b.heap.size b c) : Below a.heap.size a c := h.trans (k.mono h.size)

theorem heap_new (w : World) (o : Obj) : (w.alloc o).heap[w.heap.size]? = some o := by
  show (w.heap.push o)[w.heap.size]? = _
  simp
theorem below_new (w : World) (o : Obj) : Below w.heap.size w (w.alloc o) := (Below.refl _ _).alloc (Nat.le_refl _) _

theorem Laid.below {sp : Nat → Addr} {w w' : World} (h : Laid sp w) (hb : Below w.heap.size w w') : Laid sp w' :=
  ⟨fun c hc => cell_below hb (h.var c hc), fun c hc => let ⟨ca, ta, h1⟩ := h.blk c hc; ⟨ca, ta, blk_below hb h1⟩, h.inj, cell_below hb h.ety⟩

/-! ### errors as data -/
inductive Er where
  | sent (c : Nat)
  | «at» (p : Int) (e : Er)
  | flt (p : Int) (e : Er)
def Er.code : Er → Nat
  | .sent c => c
  | .at _ e => e.code
  | .flt _ e => e.code
def Er.depth : Er → Nat
  | .sent _ => 0
  | .at _ e => e.depth + 1
  | .flt _ e => e.depth + 1
/-- The places of an error that no part's error is in. -/
def Er.places : Er → List Int
  | .sent _ => []
  | .at p e => p :: e.places
  | .flt _ _ => []
def Er.plain : Er → Prop
  | .sent _ => True
  | .at _ e => e.plain
  | .flt _ _ => False

inductive IsErr (sp : Nat → Addr) (w : World) : Value → Er → Prop
  | sent (c : Nat) (hc : isCode c) : IsErr sp w (.iface 218 (.pointer (some (sp c)))) (.sent c)
  | «at» (b : Nat) (p : Int) (v : Value) (e : Er) (hb : w.heap[b]? = some (.cells #[.int .i64 p, v] 139 (0, 0))) (he : IsErr sp w v e) :
      IsErr sp w (.iface 137 (.pointer (some ⟨b, 0, none⟩))) (.at p e)
  | flt (b : Nat) (p : Int) (v : Value) (e : Er) (hb : w.heap[b]? = some (.cells #[.int .i64 p, v] 144 (0, 0))) (he : IsErr sp w v e) :
     IsErr sp w (.iface 142 (.pointer (some ⟨b, 0, none⟩))) (.flt p e)

def IsErrO (sp : Nat → Addr) (w : World) (v : Value) : Option Er → Prop
  | none => v = .nilIface
  | some e => IsErr sp w v e

theorem IsErr.grow {sp : Nat → Addr} {w w' : World} {v : Value} {e : Er} (h : IsErr sp w v e) (hb : Below w.heap.size w w') : IsErr sp w' v e := by
  induction h with
  | sent c hc => exact .sent c hc
  | «at» b p v e hc _ ih => exact .at b p v e (blk_below hb hc) ih
  | flt b p v e hc _ ih => exact .flt b p v e (blk_below hb hc) ih
theorem IsErrO.grow {sp : Nat → Addr} {w w' : World} {v : Value} {e : Option Er} (h : IsErrO sp w v e) (hb : Below w.heap.size w w') : IsErrO sp w' v e := by
  cases e with
  | none => exact h
  | some e => exact IsErr.grow h hb
theorem IsErr.code {sp : Nat → Addr} {w : World} {v : Value} {e : Er} (h : IsErr sp w v e) : isCode e.code := by
  induction h with
  | sent c hc => exact hc
  | «at» b p v e hc _ ih => exact ih
  | flt b p v e hc _ ih => exact ih
theorem IsErr.form {sp : Nat → Addr} {w : World} {v : Value} {e : Er} (h : IsErr sp w v e) : ∃ t a, v = .iface t (.pointer (some a)) := by
  cases h <;> exact ⟨_, _, rfl⟩
theorem IsErr.unique {sp : Nat → Addr} {w : World} (hL : ∀ c d, isCode c → isCode d → sp c = sp d → c = d) {v : Value} {e e' : Er} (h : IsErr sp w v e) (h' : IsErr sp w v e') : e = e' := by
  induction h generalizing e' with
  | sent c hc =>
    generalize hv : Value.iface 218 (.pointer (some (sp c))) = v at h'
    cases h' with
    | sent d hd =>
      injection hv with _ hv; injection hv with hv; injection hv with hv
      rw [hL c d hc hd hv]
    | «at» b p v e hc he => injection hv with hv; cases hv
    | flt b p v e hc he => injection hv with hv; cases hv
  | «at» b p v e hb he ih =>
    generalize hv : Value.iface 137 (.pointer (some (⟨b, 0, none⟩ : Addr))) = v0 at h'
    cases h' with
    | sent d hd => injection hv with hv; cases hv
    | «at» b' p' v' e'' hb' he' =>
      injection hv with _ hv; injection hv with hv; injection hv with hv; injection hv with hv
      subst hv
      rw [hb] at hb'
      simp only [Option.some.injEq, Obj.cells.injEq, Array.mk.injEq, List.cons.injEq, Value.int.injEq] at hb'
      obtain ⟨⟨⟨_, rfl⟩, rfl, _⟩, _⟩ := hb'
      rw [ih he']
    | flt b p v e hc he => injection hv with hv; cases hv
  | flt b p v e hb he ih =>
    generalize hv : Value.iface 142 (.pointer (some (⟨b, 0, none⟩ : Addr))) = v0 at h'
    cases h' with
    | sent d hd => injection hv with hv; cases hv
    | «at» b p v e hc he => injection hv with hv; cases hv
    | flt b' p' v' e'' hb' he' =>
      injection hv with _ hv; injection hv with hv; injection hv with hv; injection hv with hv
      subst hv
      rw [hb] at hb'
      simp only [Option.some.injEq, Obj.cells.injEq, Array.mk.injEq, List.cons.injEq, Value.int.injEq] at hb'
      obtain ⟨⟨⟨_, rfl⟩, rfl, _⟩, _⟩ := hb'
      rw [ih he']

open Classical in
/-- How long a chain is: a loop's measure. -/
noncomputable def erLen (sp : Nat → Addr) (w : World) (v : Value) : Nat := if h : ∃ e, IsErr sp w v e then h.choose.depth else 0
theorem erLen_eq {sp : Nat → Addr} {w : World} (hL : ∀ c d, isCode c → isCode d → sp c = sp d → c = d) {v : Value} {e : Er} (h : IsErr sp w v e) : erLen sp w v = e.depth := by
  unfold erLen
  rw [dif_pos ⟨e, h⟩, IsErr.unique hL (Exists.choose_spec ⟨e, h⟩) h]

/-! ### fail.New, fail.At -/
set_option maxHeartbeats 1000000 in
theorem later_calls {sp : Nat → Addr} (c : Nat) (hc : isCode c) (h7 : 7 ≤ c) (w : World) (hL : Laid sp w) :
    Calls Tryd.prog 88 #[.int .i64 c] w fun e w' => e = .returned (.iface 218 (.pointer (some (sp c)))) ∧ w' = w := by
  have hv := hL.var c hc
  have h : c = 7 ∨ c = 8 ∨ c = 9 ∨ c = 10 ∨ c = 11 ∨ c = 12 ∨ c = 13 ∨ c = 14 ∨ c = 15 ∨ c = 16 ∨ c = 17 ∨ c = 18 ∨ c = 99 := by unfold isCode at hc; omega
  clear hc h7 hL
  rcases h with rfl | rfl | rfl | rfl | rfl | rfl | rfl | rfl | rfl | rfl | rfl | rfl | rfl
  all_goals
    simp only [senVar] at hv
    go_enter Tryd.func88, Tryd.ntmps88
    go_wp2
    go_ret
    exact ⟨rfl, rfl⟩

set_option maxHeartbeats 1000000 in
theorem new_calls {sp : Nat → Addr} (c : Nat) (hc : isCode c) (w : World) (hL : Laid sp w) :
    Calls Tryd.prog 47 #[.int .i64 c] w fun e w' => e = .returned (.iface 218 (.pointer (some (sp c)))) ∧ w' = w := by
  by_cases h7 : 7 ≤ c
  · have hl := later_calls c hc h7 w hL
    have h : ¬ c = 0 ∧ ¬ c = 1 ∧ ¬ c = 2 ∧ ¬ c = 3 ∧ ¬ c = 4 ∧ ¬ c = 5 ∧ ¬ c = 6 := by omega
    clear hc hL
    have HL := Lib.hid hl
    clear hl
    go_enter Tryd.func47, Tryd.ntmps47
    go_wp2_with (go_at_call 88; refine HL.out.mono ?_; rintro e w' ⟨rfl, rfl⟩)
    go_ret
    exact ⟨rfl, rfl⟩
  · have hv := hL.var c hc
    have h : c = 1 ∨ c = 2 ∨ c = 3 ∨ c = 4 ∨ c = 5 ∨ c = 6 := by unfold isCode at hc; omega
    clear hc h7 hL
    rcases h with rfl | rfl | rfl | rfl | rfl | rfl
    all_goals
      simp only [senVar] at hv
      go_enter Tryd.func47, Tryd.ntmps47
      go_wp2
      go_ret
      exact ⟨rfl, rfl⟩

theorem at_calls {sp : Nat → Addr} (p : Int) (v : Value) (e : Er) (w : World) (he : IsErr sp w v e) :
    Calls Tryd.prog 46 #[.int .i64 p, v] w fun r w' => ∃ v', r = .returned v' ∧ IsErr sp w' v' (.at p e) ∧ Below w.heap.size w w' := by
  obtain ⟨t, a, rfl⟩ := he.form
  have hfin : IsErr sp (w.alloc (.cells #[.int .i64 p, .iface t (.pointer (some a))] 139)) (.iface 137 (.pointer (some ⟨w.heap.size, 0, none⟩))) (.at p e) :=
    .at _ _ _ _ (heap_new _ _) (he.grow (below_new _ _))
  have HF := Lib.hid hfin
  clear hfin he
  go_enter Tryd.func46, Tryd.ntmps46
  go_wp2
  go_ret
  exact ⟨_, rfl, HF.out, (Below.refl _ _).alloc (Nat.le_refl _) _⟩
theorem at_nil (p : Int) (w : World) :
    Calls Tryd.prog 46 #[.int .i64 p, .nilIface] w fun r w' => r = .returned .nilIface ∧ w' = w := by
  go_enter Tryd.func46, Tryd.ntmps46
  go_wp2
  go_ret
  exact ⟨rfl, rfl⟩
end Go.Proofs.YtgjabbffpfhmjaaDoor
