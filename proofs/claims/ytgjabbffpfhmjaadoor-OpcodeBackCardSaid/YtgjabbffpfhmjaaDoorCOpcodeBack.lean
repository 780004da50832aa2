/- OpcodeBack, proved: the row and the tied card. Whatever comes in, philtrelaw09.OpcodeBack answers true and leaves its arguments as they were. -/
import Derived.Test.YtgjabbffpfhmjaaDoorCards
import Derived.Test.YtgjabbffpfhmjaaDoorWit
import Derived.Test.YtgjabbffpfhmjaaDoorOBack
import Derived.Test.YtgjabbffpfhmjaaDoorOpenO
import Derived.ChangeMaps5
namespace Go.Proofs.YtgjabbffpfhmjaaDoor
open Go.ChangeShapes Go.WideShapes Go.ChangeAt Go.RowKit Go.ChangeMaps

namespace opcodeBack
theorem sens : ∀ c, isCode c → ∃ t, (senName c, senD t) ∈ Rows.opcodeBackRow.laid.filter fun x => x.2.handleName?.isNone :=
  sens_of 0 (by kernel_rfl)
theorem hand : (Rows.opcodeBackRow.laid.filter fun x => x.2.handleName?.isSome) = [etyD] := by kernel_rfl
theorem met (os : Os) : laidMetH Tryd.prog Rows.opcodeBackRow.laid ((witWorld Rows.opcodeBackRow.laid os).forCall (fun _ _ => 0) ⟨#[], #[.agg #[.slice none 0 0, .slice none 0 0], .string ⟨#[]⟩], []⟩).memory :=
  wit_met _ (by kernel_rfl) (by kernel_rfl) (by kernel_rfl)
theorem reads (os : Os) {H : Type} (enc : TypeId × Value → H) : ∃ places, DataW.whole enc Tryd.prog ((witWorld Rows.opcodeBackRow.laid os).forCall (fun _ _ => 0) ⟨#[], #[.agg #[.slice none 0 0, .slice none 0 0], .string ⟨#[]⟩], []⟩).memory Tryd.f4.params.toList Rows.opcodeBackSpec.vars false #[Value.agg #[.slice none 0 0, .slice none 0 0], Value.string ⟨#[]⟩].toList 8 = some ([.agg [.nil, .nil], .lit (.string [])], [], places) :=
  ⟨[], by kernel_rfl⟩
set_option maxRecDepth 100000 in
theorem witness (os : Os) {H : Type} (enc : TypeId × Value → H) : ∃ (w : World) (tape : Tape) (i : Input), w.os = os ∧ (w.forCall tape i).Shaped Tryd.prog ∧ i.vars = [] ∧ Input.okWide Tryd.prog (w.forCall tape i) .any w.heap.size 4 i ∧
      (OpenSpec.ofChange Rows.opcodeBackSpec).preRow enc Tryd.prog Tryd.f4 Rows.opcodeBackRow.domain false Rows.opcodeBackRow.laid (w.forCall tape i).memory i.args ∧ ({} : Assume).holds Tryd.prog (lone (Frame.enter Tryd.prog 4 i.args .normal) [] (w.forCall tape i)) := by
  obtain ⟨places, hx⟩ := reads os enc
  have hok : Input.okWideB Tryd.prog ((witWorld Rows.opcodeBackRow.laid os).forCall (fun _ _ => 0) ⟨#[], #[.agg #[.slice none 0 0, .slice none 0 0], .string ⟨#[]⟩], []⟩) 4 ⟨#[], #[.agg #[.slice none 0 0, .slice none 0 0], .string ⟨#[]⟩], []⟩ = true := by kernel_rfl
  refine ⟨witWorld Rows.opcodeBackRow.laid os, fun _ _ => 0, ⟨#[], #[.agg #[.slice none 0 0, .slice none 0 0], .string ⟨#[]⟩], []⟩, witWorld_os _ _, World.shaped_of_ZipB (by kernel_rfl) (by kernel_rfl), (Input.okWide_of_okWideB (base := 0) hok).1, (Input.okWide_of_okWideB hok).2,
    OpenSpec.preRow_of_cond 8 hx (by kernel_rfl) (fun k hk => by cases hk) (by kernel_rfl) (met os), ?_⟩
  simp only [Assume.holds]
  exact ⟨by simp, by simp, fun _ => Modest.zero, by simp, by simp⟩
set_option maxRecDepth 100000 in
theorem lifted (os : Os) (started : os.Started) (H : Type) (enc : TypeId × Value → H) (F : Stop.Interp) :
    ReturnsInHanded {} Tryd.checked os 4 .any ((OpenSpec.ofChange Rows.opcodeBackSpec).preRow enc Tryd.prog Tryd.f4 Rows.opcodeBackRow.domain false Rows.opcodeBackRow.laid) (((OpenSpec.ofChange Rows.opcodeBackSpec).at F).post enc Tryd.prog Tryd.f4 false true false false) := by
  refine returnsInHanded_of_row (C := Tryd.checked) (s := (OpenSpec.ofChange Rows.opcodeBackSpec)) own started (by kernel_rfl) Tryd.func4
    (witness os enc) ?_
  intro W base args ds gs before hval hW _ hcond _ hL hsh _
  have hW' := hW
  obtain ⟨p, q, hA0, hV, rfl, hfz, hnd⟩ := hW
  have hA : DataW.TrodAll enc Tryd.prog W 0 (fun _ => true) true Tryd.f4.params.toList args.toList ds p := hA0
  rw [Tryd.params4] at hA hval
  obtain ⟨v0, v1, d0, d1, p0, p1, rfl, rfl, rfl, h0, h1⟩ := trodAll_two hA
  obtain ⟨rfl, rfl⟩ := trodVars_none hV
  obtain ⟨o0, ho0, hi0⟩ := open_op (hval 0 32 v0 rfl rfl) h0
  obtain ⟨s1, rfl, rfl, rfl, hs1⟩ := open_string Tryd.underlying9 (hval 1 9 v1 rfl rfl) h1
  refine (opcodeBack_calls v0 o0 s1 W (laid_of hL hand sens) ho0 hi0).mono fun e W' ⟨he, hb⟩ => ?_
  subst he
  exact ⟨_, rfl, law_post rfl rfl rfl (by kernel_rfl) hW' hb⟩
theorem said : Rows.OpcodeBackSaid :=
  OpenClaim.holds_of_cond 4 Tryd.f4 rfl rfl rfl rfl rfl rfl rfl ⟨rfl, rfl, rfl, rfl, rfl⟩ rfl rfl rfl rfl rfl (by kernel_rfl) Tryd.func4 (by kernel_rfl)
    (of_decide_eq_true (by kernel_rfl)) (by unfold Func.isWrapper; first | (rw [if_pos (by decide +kernel)]; kernel_rfl) | (rw [if_neg (by decide +kernel)]; exact ⟨rfl, rfl⟩))
    (fun os started H enc _ F => by rw [OpenClaim.pre_eq_preRow]; exact lifted os started H enc F)
theorem plain (f : FuncId) (fn : Func) (hf : Tryd.pinned.checked.prog.funcNamed "philtre/philtrelaw09.OpcodeBack" = some f) (hfn : Tryd.pinned.checked.prog.funcs[f]? = some fn) :
    true = Tryd.pinned.checked.prog.looks [] ∧ ∀ (j : Nat) t, fn.params[j]? = some t → Tryd.pinned.checked.prog.wantsStandIn t = false := by
  obtain rfl : f = 4 := Option.some.inj ((show Tryd.prog.funcNamed "philtre/philtrelaw09.OpcodeBack" = some 4 by kernel_rfl).symm.trans hf) |>.symm
  obtain rfl : fn = Tryd.f4 := (Option.some.inj (Tryd.func4.symm.trans hfn)).symm
  refine ⟨by kernel_rfl, fun j t ht => ?_⟩
  have hall : (Tryd.f4.params.toList.all fun u => !Tryd.prog.wantsStandIn u) = true := by kernel_rfl
  have := List.all_eq_true.1 hall t (Array.mem_toList_iff.2 (Array.mem_of_getElem? ht))
  show Tryd.prog.wantsStandIn t = false
  simpa using this
end opcodeBack
/-- The card. -/
theorem opcodeBack_card : Rows.OpcodeBackCardSaid :=
  Claim7.holds_tied_plain_at .later [] _ _ _ _ opcodeBack.said (fun _ h => by cases h) (by kernel_rfl) (fun _ h => by cases h) opcodeBack_row_tie rfl ⟨rfl, rfl⟩ (by kernel_rfl) rfl opcodeBack.plain (by kernel_rfl)
#print axioms opcodeBack_card
end Go.Proofs.YtgjabbffpfhmjaaDoor
