/- QuoteLines, proved: the row and the tied card. Whatever comes in, philtrelaw04.QuoteLines answers true and leaves its arguments as they were. -/
import Derived.Test.YtgjabbffpfhmjaaDoorCards
import Derived.Test.YtgjabbffpfhmjaaDoorWit
import Derived.Test.YtgjabbffpfhmjaaDoorLines4
import Derived.Test.YtgjabbffpfhmjaaDoorOpenR
import Derived.ChangeMaps5
namespace Go.Proofs.YtgjabbffpfhmjaaDoor
open Go.ChangeShapes Go.WideShapes Go.ChangeAt Go.RowKit Go.ChangeMaps

namespace quoteLines
theorem sens : ∀ c, isCode c → ∃ t, (senName c, senD t) ∈ Rows.quoteLinesRow.laid.filter fun x => x.2.handleName?.isNone :=
  sens_of 1 (by kernel_rfl)
theorem hand : (Rows.quoteLinesRow.laid.filter fun x => x.2.handleName?.isSome) = [etyD] := by kernel_rfl
theorem met (os : Os) : laidMetH Tryd.prog Rows.quoteLinesRow.laid ((witWorld Rows.quoteLinesRow.laid os).forCall (fun _ _ => 0) ⟨#[], #[.slice none 0 0, .string ⟨#[]⟩], []⟩).memory :=
  wit_met _ (by kernel_rfl) (by kernel_rfl) (by kernel_rfl)
theorem reads (os : Os) {H : Type} (enc : TypeId × Value → H) : ∃ places, DataW.whole enc Tryd.prog ((witWorld Rows.quoteLinesRow.laid os).forCall (fun _ _ => 0) ⟨#[], #[.slice none 0 0, .string ⟨#[]⟩], []⟩).memory Tryd.f7.params.toList Rows.quoteLinesSpec.vars false #[Value.slice none 0 0, Value.string ⟨#[]⟩].toList 8 = some ([.nil, .lit (.string [])], [], places) :=
  ⟨[], by kernel_rfl⟩
set_option maxRecDepth 100000 in
theorem witness (os : Os) {H : Type} (enc : TypeId × Value → H) : ∃ (w : World) (tape : Tape) (i : Input), w.os = os ∧ (w.forCall tape i).Shaped Tryd.prog ∧ i.vars = [] ∧ Input.okWide Tryd.prog (w.forCall tape i) .any w.heap.size 7 i ∧
      (OpenSpec.ofChange Rows.quoteLinesSpec).preRow enc Tryd.prog Tryd.f7 Rows.quoteLinesRow.domain false Rows.quoteLinesRow.laid (w.forCall tape i).memory i.args ∧ ({} : Assume).holds Tryd.prog (lone (Frame.enter Tryd.prog 7 i.args .normal) [] (w.forCall tape i)) := by
  obtain ⟨places, hx⟩ := reads os enc
  have hok : Input.okWideB Tryd.prog ((witWorld Rows.quoteLinesRow.laid os).forCall (fun _ _ => 0) ⟨#[], #[.slice none 0 0, .string ⟨#[]⟩], []⟩) 7 ⟨#[], #[.slice none 0 0, .string ⟨#[]⟩], []⟩ = true := by kernel_rfl
  refine ⟨witWorld Rows.quoteLinesRow.laid os, fun _ _ => 0, ⟨#[], #[.slice none 0 0, .string ⟨#[]⟩], []⟩, witWorld_os _ _, World.shaped_of_ZipB (by kernel_rfl) (by kernel_rfl), (Input.okWide_of_okWideB (base := 0) hok).1, (Input.okWide_of_okWideB hok).2,
    OpenSpec.preRow_of_cond 8 hx (by kernel_rfl) (fun k hk => by cases hk) (by kernel_rfl) (met os), ?_⟩
  simp only [Assume.holds]
  exact ⟨by simp, by simp, fun _ => Modest.zero, by simp, by simp⟩
set_option maxRecDepth 100000 in
theorem lifted (os : Os) (started : os.Started) (H : Type) (enc : TypeId × Value → H) (F : Stop.Interp) :
    ReturnsInHanded {} Tryd.checked os 7 .any ((OpenSpec.ofChange Rows.quoteLinesSpec).preRow enc Tryd.prog Tryd.f7 Rows.quoteLinesRow.domain false Rows.quoteLinesRow.laid) (((OpenSpec.ofChange Rows.quoteLinesSpec).at F).post enc Tryd.prog Tryd.f7 false true false false) := by
  refine returnsInHanded_of_row (C := Tryd.checked) (s := (OpenSpec.ofChange Rows.quoteLinesSpec)) own started (by kernel_rfl) Tryd.func7
    (witness os enc) ?_
  intro W base args ds gs before hval hW _ hcond _ hL hsh _
  have hW' := hW
  obtain ⟨p, q, hA0, hV, rfl, hfz, hnd⟩ := hW
  have hA : DataW.TrodAll enc Tryd.prog W 0 (fun _ => true) true Tryd.f7.params.toList args.toList ds p := hA0
  rw [Tryd.params7] at hA hval
  obtain ⟨v0, v1, d0, d1, p0, p1, rfl, rfl, rfl, h0, h1⟩ := trodAll_two hA
  obtain ⟨rfl, rfl⟩ := trodVars_none hV
  obtain ⟨l0, hl0⟩ := open_rows (hval 0 50 v0 rfl rfl) h0
  obtain ⟨s1, rfl, rfl, rfl, hs1⟩ := open_string Tryd.underlying9 (hval 1 9 v1 rfl rfl) h1
  obtain ⟨m, hm⟩ := int_of_shape (g := 21) (t := 3) (k := .i64) (zero := #[.int .i64 0]) hsh (of_decide_eq_true (by kernel_rfl)) (by kernel_rfl) rfl (by kernel_rfl) (by kernel_rfl) Tryd.underlying3
  refine (quoteLines_calls v0 l0 s1 W (laid_of hL hand sens) m hm hl0.1 (Nat.le_trans hl0.2.1 maxLen_le) (fun r hr => Nat.le_trans (hl0.2.2 r hr) maxLen_le)).mono fun e W' ⟨he, hb⟩ => ?_
  subst he
  exact ⟨_, rfl, law_post rfl rfl rfl (by kernel_rfl) hW' hb⟩
theorem said : Rows.QuoteLinesSaid :=
  OpenClaim.holds_of_cond 7 Tryd.f7 rfl rfl rfl rfl rfl rfl rfl ⟨rfl, rfl, rfl, rfl, rfl⟩ rfl rfl rfl rfl rfl (by kernel_rfl) Tryd.func7 (by kernel_rfl)
    (of_decide_eq_true (by kernel_rfl)) (by unfold Func.isWrapper; first | (rw [if_pos (by decide +kernel)]; kernel_rfl) | (rw [if_neg (by decide +kernel)]; exact ⟨rfl, rfl⟩))
    (fun os started H enc _ F => by rw [OpenClaim.pre_eq_preRow]; exact lifted os started H enc F)
theorem plain (f : FuncId) (fn : Func) (hf : Tryd.pinned.checked.prog.funcNamed "philtre/philtrelaw04.QuoteLines" = some f) (hfn : Tryd.pinned.checked.prog.funcs[f]? = some fn) :
    true = Tryd.pinned.checked.prog.looks [] ∧ ∀ (j : Nat) t, fn.params[j]? = some t → Tryd.pinned.checked.prog.wantsStandIn t = false := by
  obtain rfl : f = 7 := Option.some.inj ((show Tryd.prog.funcNamed "philtre/philtrelaw04.QuoteLines" = some 7 by kernel_rfl).symm.trans hf) |>.symm
  obtain rfl : fn = Tryd.f7 := (Option.some.inj (Tryd.func7.symm.trans hfn)).symm
  refine ⟨by kernel_rfl, fun j t ht => ?_⟩
  have hall : (Tryd.f7.params.toList.all fun u => !Tryd.prog.wantsStandIn u) = true := by kernel_rfl
  have := List.all_eq_true.1 hall t (Array.mem_toList_iff.2 (Array.mem_of_getElem? ht))
  show Tryd.prog.wantsStandIn t = false
  simpa using this
end quoteLines
/-- The card. -/
theorem quoteLines_card : Rows.QuoteLinesCardSaid :=
  Claim7.holds_tied_plain_at .later [] _ _ _ _ quoteLines.said (fun _ h => by cases h) (by kernel_rfl) (fun _ h => by cases h) quoteLines_row_tie rfl ⟨rfl, rfl⟩ (by kernel_rfl) rfl quoteLines.plain (by kernel_rfl)
#print axioms quoteLines_card
end Go.Proofs.YtgjabbffpfhmjaaDoor
