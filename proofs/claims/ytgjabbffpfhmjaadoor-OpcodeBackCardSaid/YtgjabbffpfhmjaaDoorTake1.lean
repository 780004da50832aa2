/- Two equal beginnings, one longer. -/
import Derived.Test.YtgjabbffpfhmjaaDoorAid
namespace Go.Proofs.YtgjabbffpfhmjaaDoor
theorem take_eq_step {α : Type} {a b : List α} {k : Nat} {x y : α} (h : a.take k = b.take k) (ha : a[k]? = some x) (hb : b[k]? = some y) (hxy : x = y) : a.take (k + 1) = b.take (k + 1) := by
  subst hxy
  rw [take_one a k x ha, take_one b k x hb, h]
end Go.Proofs.YtgjabbffpfhmjaaDoor
