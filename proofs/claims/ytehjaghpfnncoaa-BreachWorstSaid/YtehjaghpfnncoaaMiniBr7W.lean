/- The functions in the seat's program. -/
import Derived.Test.YtehjaghpfnncoaaMiniBr7
import Derived.Test.YtehjaghpfnncoaaMiniBr6W
import Derived.KernelRfl
set_option linter.unusedSimpArgs false
set_option linter.unusedVariables false
namespace Go.Mini
open Go Go.Proofs
set_option maxRecDepth 100000

theorem tr_Worst : trFunc Try.prog 30000 [21] Try.f7 = some { mf_law27_BreachWorst with body := erase mf_law27_BreachWorst.body } := by kernel_rfl
theorem nm_Worst : (Try.f7.name == "runtime.NumGoroutine") = false := by kernel_rfl
theorem ps_Worst : PSpec Try.prog id_law27_BreachWorst F_Worst := pspec_of (mkT_ok (PTl_ok (l := [(id_law27_small, F_small), (id_breach_Right, F_right), (id_breach_Worst, F_worst)]) (PTl_cons ps_small (PTl_cons ps_right (PTl_cons ps_worst PTl_nil))))) mixed Try.func7 nm_Worst tr_Worst fun ds r h => by
  obtain ⟨⟨x0, x1⟩, hds, hr⟩ := FF_inv h
  clear h
  subst hds
  obtain rfl := Option.some.inj hr
  exact ⟨Nat.le_of_ble_eq_true rfl, w_Worst _ (mkT_at rfl) (mkT_at rfl) (mkT_at rfl) x0 x1⟩
end Go.Mini
