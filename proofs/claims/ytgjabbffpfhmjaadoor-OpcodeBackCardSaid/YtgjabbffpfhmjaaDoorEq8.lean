/- '==' of guards, of steps. -/
import Derived.Test.YtgjabbffpfhmjaaDoorStepR
import Derived.Laws.StructEq
namespace Go.Proofs.YtgjabbffpfhmjaaDoor
open Go.RowKit Go.Extern.Stop Go.Stop Go.Extern Go.Proofs.YtgjabbffpfhmjaaDoorW.PrintWords

def grdEq (a b : Grd) : Bool := a.kind == b.kind && a.key.toList == b.key.toList && a.val.toList == b.val.toList
theorem neq_grd (a b : Grd) (W : World) : (binOp .neq 72 a.v b.v).run Tryd.prog W = .ok (.bool (!grdEq a b)) W := by
  obtain ⟨k, x, y⟩ := a
  obtain ⟨k', x', y'⟩ := b
  unfold Grd.v grdEq
  simp only
  cases h1 : (k == k') <;> cases h2 : (x.toList == x'.toList) <;> cases h3 : (y.toList == y'.toList) <;> go_simp
def stpEq (a b : Stp) : Bool := a.kind == b.kind && a.key.toList == b.key.toList && a.val.toList == b.val.toList && a.old.toList == b.old.toList && a.n == b.n
set_option maxHeartbeats 4000000 in
theorem neq_stp (a b : Stp) (W : World) : (binOp .neq 74 a.v b.v).run Tryd.prog W = .ok (.bool (!stpEq a b)) W := by
  obtain ⟨k, x, y, z, n⟩ := a
  obtain ⟨k', x', y', z', n'⟩ := b
  unfold Stp.v stpEq
  simp only
  cases h1 : (k == k') <;> cases h2 : (x.toList == x'.toList) <;> cases h3 : (y.toList == y'.toList) <;> cases h4 : (z.toList == z'.toList) <;> cases h5 : (n == n') <;> go_simp
end Go.Proofs.YtgjabbffpfhmjaaDoor
