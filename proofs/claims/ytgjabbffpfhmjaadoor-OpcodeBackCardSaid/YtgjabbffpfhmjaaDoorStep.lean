/- step.RightGuard, RightStep, by their contracts. -/
import Derived.Test.YtgjabbffpfhmjaaDoorInf
import Derived.Test.YtgjabbffpfhmjaaDoorAid
namespace Go.Proofs.YtgjabbffpfhmjaaDoor
open Go.RowKit Go.Extern.Stop Go.Stop Go.Extern Go.Proofs.YtgjabbffpfhmjaaDoorW.PrintWords

/-- A guard, a step, an operation, as data. -/
structure Grd where
  kind : Int
  key : ByteArray
  val : ByteArray
structure Stp where
  kind : Int
  key : ByteArray
  val : ByteArray
  old : ByteArray
  n : Int
def Grd.v (g : Grd) : Value := .agg #[.int .i64 g.kind, .string g.key, .string g.val]
def Stp.v (s : Stp) : Value := .agg #[.int .i64 s.kind, .string s.key, .string s.val, .string s.old, .int .i64 s.n]
def goodG (g : Grd) : Bool := decide (g.key.size ≤ 16) && decide (g.val.size ≤ 32) && (g.kind == 3 || ((g.kind == 1 || g.kind == 2) && g.val.toList.isEmpty))
def goodS (s : Stp) : Bool := decide (s.key.size ≤ 16) && decide (s.val.size ≤ 32) && decide (s.old.size ≤ 32) &&
  ((s.kind == 4 && s.n == 0) || (s.kind == 1 && s.old.toList.isEmpty && s.n == 0) || (s.kind == 3 && s.val.toList.isEmpty && s.old.toList.isEmpty) || (s.kind == 2 && s.val.toList.isEmpty && s.old.toList.isEmpty && s.n == 0))

set_option maxHeartbeats 4000000 in
theorem rightGuard_calls (g : Grd) (w : World) :
    Calls Tryd.prog 82 #[g.v] w fun e w' => e = .returned (.bool (goodG g)) ∧ Below w.heap.size w w' := by
  obtain ⟨kind, key, val⟩ := g
  unfold Grd.v goodG
  simp only
  go_enter Tryd.func82, Tryd.ntmps82
  by_cases h1 : 16 < key.size
  · have h1' : decide (key.size ≤ 16) = false := by simp; omega
    go_wp2
    all_goals
      go_ret
      exact ⟨by simp [h1'], by first | exact below_new _ _ | exact (below_new _ _).drew⟩
  by_cases h2 : 32 < val.size
  · have h2' : decide (val.size ≤ 32) = false := by simp; omega
    go_wp2
    all_goals
      go_ret
      exact ⟨by simp [h2'], by first | exact below_new _ _ | exact (below_new _ _).drew⟩
  have h1' : decide (key.size ≤ 16) = true := by simp; omega
  have h2' : decide (val.size ≤ 32) = true := by simp; omega
  have H1 := Lib.hid h1'
  have H2 := Lib.hid h2'
  clear h1' h2'
  go_wp2
  all_goals
    go_ret
    refine ⟨ret_bool ?_, by first | exact below_new _ _ | exact (below_new _ _).drew | exact (below_new _ _).drew.drew⟩
    rw [H1.out, H2.out]
    simp_all

set_option maxRecDepth 100000 in
set_option maxHeartbeats 8000000 in
theorem rightStep_calls (g : Stp) (w : World) :
    Calls Tryd.prog 85 #[g.v] w fun e w' => e = .returned (.bool (goodS g)) ∧ Below w.heap.size w w' := by
  obtain ⟨kind, key, val, old, n⟩ := g
  unfold Stp.v goodS
  simp only
  go_enter Tryd.func85, Tryd.ntmps85
  by_cases h1 : 16 < key.size
  · have h1' : decide (key.size ≤ 16) = false := by simp; omega
    go_wp2
    all_goals
      go_ret
      exact ⟨by simp [h1'], by first | exact below_new _ _ | exact (below_new _ _).drew⟩
  by_cases h2 : 32 < val.size
  · have h2' : decide (val.size ≤ 32) = false := by simp; omega
    have h3' : (32 : Int) < max (val.size : Int) (old.size : Int) := by omega
    go_wp2
    all_goals
      go_ret
      exact ⟨by simp [h2'], by first | exact below_new _ _ | exact (below_new _ _).drew⟩
  by_cases h3 : 32 < old.size
  · have h2' : decide (old.size ≤ 32) = false := by simp; omega
    have h3' : (32 : Int) < max (val.size : Int) (old.size : Int) := by omega
    go_wp2
    all_goals
      go_ret
      exact ⟨by simp [h2'], by first | exact below_new _ _ | exact (below_new _ _).drew⟩
  have h1' : decide (key.size ≤ 16) = true := by simp; omega
  have h2' : decide (val.size ≤ 32) = true := by simp; omega
  have h3' : decide (old.size ≤ 32) = true := by simp; omega
  have h4' : max (val.size : Int) (old.size : Int) ≤ (32 : Int) := by omega
  have H1 := Lib.hid h1'
  have H2 := Lib.hid h2'
  have H3 := Lib.hid h3'
  clear h1' h2' h3' h2 h3
  go_wp2
  all_goals
    go_ret
    refine ⟨ret_bool ?_, by
      repeat' (first
        | exact Below.refl _ _
        | apply Below.drew
        | refine Below.alloc ?_ (by first | exact Nat.le_refl _ | (simp; done) | (simp; omega)) _
        | refine Below.setCell ?_ (by first | exact Nat.le_refl _ | (simp; done) | (simp; omega)) _)⟩
    rw [H1.out, H2.out, H3.out]
    simp_all
end Go.Proofs.YtgjabbffpfhmjaaDoor
