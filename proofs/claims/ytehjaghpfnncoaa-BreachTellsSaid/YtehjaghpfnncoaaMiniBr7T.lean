/- The functions in the seat's program. -/
import Derived.Test.YtehjaghpfnncoaaMiniBr7
import Derived.Test.YtehjaghpfnncoaaMiniBr6T
import Derived.KernelRfl
set_option linter.unusedSimpArgs false
set_option linter.unusedVariables false
namespace Go.Mini
open Go Go.Proofs
set_option maxRecDepth 100000

theorem tr_Tells : trFunc Try.prog 26000 [] Try.f3 = some { mf_law27_BreachTells with body := erase mf_law27_BreachTells.body } := by kernel_rfl
theorem nm_Tells : (Try.f3.name == "runtime.NumGoroutine") = false := by kernel_rfl
theorem ps_Tells : PSpec Try.prog id_law27_BreachTells F_Tells := pspec_of (mkT_ok (PTl_ok (l := [(id_law27_small, F_small), (id_breach_Next, F_next), (id_ref27_Next, F_next2), (id_breach_Notice, F_notice), (id_ref27_Notice, F_notice2), (id_breach_Waive, F_waive), (id_ref27_Waive, F_waive2), (id_breach_Right, F_right), (id_ref27_Right, F_right2), (id_breach_Worst, F_worst), (id_ref27_Worst, F_worst2)]) (PTl_cons ps_small (PTl_cons ps_next (PTl_cons ps_next2 (PTl_cons ps_notice (PTl_cons ps_notice2 (PTl_cons ps_waive (PTl_cons ps_waive2 (PTl_cons ps_right (PTl_cons ps_right2 (PTl_cons ps_worst (PTl_cons ps_worst2 PTl_nil))))))))))))) mixed Try.func3 nm_Tells tr_Tells fun ds r h => by
  obtain ⟨⟨x0, x1, x2, x3, x4, x5⟩, hds, hr⟩ := FF_inv h
  clear h
  subst hds
  obtain rfl := Option.some.inj hr
  exact ⟨Nat.le_of_ble_eq_true rfl, w_Tells _ (mkT_at rfl) (mkT_at rfl) (mkT_at rfl) (mkT_at rfl) (mkT_at rfl) (mkT_at rfl) (mkT_at rfl) (mkT_at rfl) (mkT_at rfl) (mkT_at rfl) (mkT_at rfl) x0 x1 x2 x3 x4 x5⟩
end Go.Mini
