/- Worlds that have grown out of one: the class for a region that draws its order and calls what makes memory; one walk serves every order. -/
import Derived.Test.YtgjabbffpfhmjaaDoorErr
import Derived.Deep.QuietTactic
import Derived.BigQuiet
namespace Go.Proofs.YtgjabbffpfhmjaaDoor
open Go.RowKit

open Classical in
/-- A world that has grown out of W. -/
noncomputable def grown (W e : World) : World := if Below W.heap.size W e then e else W
theorem grown_below (W e : World) : Below W.heap.size W (grown W e) := by
  unfold grown
  split
  · assumption
  · exact Below.refl _ _
theorem grown_of {W w : World} (h : Below W.heap.size W w) : w = grown W w := by
  unfold grown
  rw [if_pos h]
theorem grown_cell {W : World} {a : Addr} {v : Value} (h : W.cell? a = some v) (e : World) : (grown W e).cell? a = some v := cell_below (grown_below W e) h
theorem grown_frozen {W : World} {b i : Nat} (h : b < W.heap.size) (hf : W.frozen? ⟨b, i, none⟩ = false) (e : World) : (grown W e).frozen? ⟨b, i, none⟩ = false := ((grown_below W e).frozen (p := ⟨b, i, none⟩) h).trans hf
theorem wp_region_grown {P : Program} {id : Nat} {Q : Exit → Act → World → Prop} {a : Act} {W : World} {l : List Oper} (hm : P.follows .mixedOrders = true) (hB : Region.lexB .any l.toArray = true)
    (h : wpQuiet P l.toArray (fun w' => ∃ n, w' = grown W n) (fun a' => ∀ w', (∃ n, w' = grown W n) → Q .normal a' w') l a) : (Code.region id l.toArray true).wp P Q a W :=
  wp_region_quiet (C := fun w' => ∃ n, w' = grown W n) hm hB ⟨_, grown_of ((Below.refl _ _).drew)⟩ (by simpa using h)
/-- A callee's contract within such a region. -/
theorem calls_grown {P : Program} {f : FuncId} {args : Array Value} {W n : World} {v : Value}
    (h : Calls P f args (grown W n) fun e w' => e = .returned v ∧ Below (grown W n).heap.size (grown W n) w') : Calls P f args (grown W n) fun e w'' => e = .returned v ∧ ∃ m, w'' = grown W m :=
  h.mono fun _ _ ⟨he, hb⟩ => ⟨he, _, grown_of (below_trans (grown_below W n) hb)⟩
theorem calls_grown_same {P : Program} {f : FuncId} {args : Array Value} {W n : World} {v : Value}
    (h : Calls P f args (grown W n) fun e w' => e = .returned v ∧ w' = grown W n) : Calls P f args (grown W n) fun e w'' => e = .returned v ∧ ∃ m, w'' = grown W m :=
  h.mono fun _ _ ⟨he, hw⟩ => ⟨he, _, hw⟩
end Go.Proofs.YtgjabbffpfhmjaaDoor
