/- The functions in the seat's program. -/
import Derived.Test.YtehjaghpfnncoaaMiniBr7
import Derived.Test.YtehjaghpfnncoaaMiniBr6S
import Derived.KernelRfl
set_option linter.unusedSimpArgs false
set_option linter.unusedVariables false
namespace Go.Mini
open Go Go.Proofs
set_option maxRecDepth 100000

theorem tr_Story : trFunc Try.prog 27000 [] Try.f4 = some { mf_law27_BreachStory with body := erase mf_law27_BreachStory.body } := by kernel_rfl
theorem nm_Story : (Try.f4.name == "runtime.NumGoroutine") = false := by kernel_rfl
theorem ps_Story : PSpec Try.prog id_law27_BreachStory F_Story := pspec_of (mkT_ok (PTl_ok (l := [(id_law27_small, F_small), (id_law27_play, F_play), (id_law27_expected, F_expected), (id_law27_fallen, F_fallen), (id_breach_Right, F_right)]) (PTl_cons ps_small (PTl_cons ps_play (PTl_cons ps_expected (PTl_cons ps_fallen (PTl_cons ps_right PTl_nil))))))) mixed Try.func4 nm_Story tr_Story fun ds r h => by
  obtain ⟨⟨x0, x1, x2⟩, hds, hr⟩ := FF_inv h
  clear h
  subst hds
  obtain ⟨hc, rfl⟩ := onlyIf_inv hr
  exact ⟨Nat.le_of_ble_eq_true rfl, w_Story _ (mkT_at rfl) (mkT_at rfl) (mkT_at rfl) (mkT_at rfl) (mkT_at rfl) x0 x1 x2 hc⟩
end Go.Mini
