/- The functions in the seat's program. -/
import Derived.Test.YtehjaghpfnncoaaMiniBr7
import Derived.Test.YtehjaghpfnncoaaMiniBr6E
import Derived.KernelRfl
set_option linter.unusedSimpArgs false
set_option linter.unusedVariables false
namespace Go.Mini
open Go Go.Proofs
set_option maxRecDepth 100000

theorem tr_Ends : trFunc Try.prog 29000 [] Try.f6 = some { mf_law27_BreachEnds with body := erase mf_law27_BreachEnds.body } := by kernel_rfl
theorem nm_Ends : (Try.f6.name == "runtime.NumGoroutine") = false := by kernel_rfl
theorem ps_Ends : PSpec Try.prog id_law27_BreachEnds F_Ends := pspec_of (mkT_ok (PTl_ok (l := [(id_law27_small, F_small), (id_breach_Right, F_right), (id_breach_Next, F_next), (id_breach_Notice, F_notice), (id_breach_Waive, F_waive)]) (PTl_cons ps_small (PTl_cons ps_right (PTl_cons ps_next (PTl_cons ps_notice (PTl_cons ps_waive PTl_nil))))))) mixed Try.func6 nm_Ends tr_Ends fun ds r h => by
  obtain ⟨⟨x0, x1, x2, x3, x4⟩, hds, hr⟩ := FF_inv h
  clear h
  subst hds
  obtain ⟨hc, rfl⟩ := onlyIf_inv hr
  exact ⟨Nat.le_of_ble_eq_true rfl, w_Ends _ (mkT_at rfl) (mkT_at rfl) (mkT_at rfl) (mkT_at rfl) (mkT_at rfl) x0 x1 x2 x3 x4 hc⟩
end Go.Mini
