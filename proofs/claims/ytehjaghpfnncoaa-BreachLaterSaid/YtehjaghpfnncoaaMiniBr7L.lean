/- The functions in the seat's program. -/
import Derived.Test.YtehjaghpfnncoaaMiniBr7
import Derived.Test.YtehjaghpfnncoaaMiniBr6L
import Derived.KernelRfl
set_option linter.unusedSimpArgs false
set_option linter.unusedVariables false
namespace Go.Mini
open Go Go.Proofs
set_option maxRecDepth 100000

theorem tr_Later : trFunc Try.prog 28000 [] Try.f5 = some { mf_law27_BreachLater with body := erase mf_law27_BreachLater.body } := by kernel_rfl
theorem nm_Later : (Try.f5.name == "runtime.NumGoroutine") = false := by kernel_rfl
theorem ps_Later : PSpec Try.prog id_law27_BreachLater F_Later := pspec_of (mkT_ok (PTl_ok (l := [(id_law27_small, F_small), (id_law27_play, F_play), (id_law27_order, F_order), (id_law27_fallen, F_fallen)]) (PTl_cons ps_small (PTl_cons ps_play (PTl_cons ps_order (PTl_cons ps_fallen PTl_nil)))))) mixed Try.func5 nm_Later tr_Later fun ds r h => by
  obtain ⟨⟨x0, x1, x2, x3⟩, hds, hr⟩ := FF_inv h
  clear h
  subst hds
  obtain ⟨hc, rfl⟩ := onlyIf_inv hr
  exact ⟨Nat.le_of_ble_eq_true rfl, w_Later _ (mkT_at rfl) (mkT_at rfl) (mkT_at rfl) (mkT_at rfl) x0 x1 x2 x3 hc⟩
end Go.Mini
