/- The functions in the seat's program. -/
import Derived.Test.YtehjaghpfnncoaaMiniBr6
import Derived.Test.YtehjaghpfnncoaaProg
import Derived.KernelRfl
set_option linter.unusedSimpArgs false
set_option linter.unusedVariables false
namespace Go.Mini
open Go Go.Proofs
set_option maxRecDepth 100000

theorem mixed : Try.prog.follows .mixedOrders = true := by kernel_rfl
theorem tr_day : trFunc Try.prog 3000 [] Try.f23 = some { mf_breach_day with body := erase mf_breach_day.body } := by kernel_rfl
theorem nm_day : (Try.f23.name == "runtime.NumGoroutine") = false := by kernel_rfl
theorem ps_day : PSpec Try.prog id_breach_day F_day := pspec_of (mkT_ok (PTl_ok (l := []) PTl_nil)) mixed Try.func23 nm_day tr_day fun ds r h => by
  obtain ⟨x0, hds, hr⟩ := FF_inv h
  clear h
  subst hds
  obtain rfl := Option.some.inj hr
  exact ⟨Nat.le_of_ble_eq_true rfl, w_day _  x0⟩
theorem tr_right : trFunc Try.prog 2000 [] Try.f15 = some { mf_breach_Right with body := erase mf_breach_Right.body } := by kernel_rfl
theorem nm_right : (Try.f15.name == "runtime.NumGoroutine") = false := by kernel_rfl
theorem ps_right : PSpec Try.prog id_breach_Right F_right := pspec_of (mkT_ok (PTl_ok (l := [(id_breach_day, F_day)]) (PTl_cons ps_day PTl_nil))) mixed Try.func15 nm_right tr_right fun ds r h => by
  obtain ⟨⟨x0, x1⟩, hds, hr⟩ := FF_inv h
  clear h
  subst hds
  obtain rfl := Option.some.inj hr
  exact ⟨Nat.le_of_ble_eq_true rfl, w_right _ (mkT_at rfl) x0 x1⟩
theorem tr_right2 : trFunc Try.prog 12000 [] Try.f16 = some { mf_ref27_Right with body := erase mf_ref27_Right.body } := by kernel_rfl
theorem nm_right2 : (Try.f16.name == "runtime.NumGoroutine") = false := by kernel_rfl
theorem ps_right2 : PSpec Try.prog id_ref27_Right F_right2 := pspec_of (mkT_ok (PTl_ok (l := []) PTl_nil)) mixed Try.func16 nm_right2 tr_right2 fun ds r h => by
  obtain ⟨⟨x0, x1⟩, hds, hr⟩ := FF_inv h
  clear h
  subst hds
  obtain rfl := Option.some.inj hr
  exact ⟨Nat.le_of_ble_eq_true rfl, w_right2 _  x0 x1⟩
theorem tr_known : trFunc Try.prog 4000 [] Try.f24 = some { mf_breach_known with body := erase mf_breach_known.body } := by kernel_rfl
theorem nm_known : (Try.f24.name == "runtime.NumGoroutine") = false := by kernel_rfl
theorem ps_known : PSpec Try.prog id_breach_known F_known := pspec_of (mkT_ok (PTl_ok (l := [(id_breach_Right, F_right), (id_breach_day, F_day)]) (PTl_cons ps_right (PTl_cons ps_day PTl_nil)))) mixed Try.func24 nm_known tr_known fun ds r h => by
  obtain ⟨⟨x0, x1, x2⟩, hds, hr⟩ := FF_inv h
  clear h
  subst hds
  obtain rfl := Option.some.inj hr
  exact ⟨Nat.le_of_ble_eq_true rfl, w_known _ (mkT_at rfl) (mkT_at rfl) x0 x1 x2⟩
theorem tr_notice : trFunc Try.prog 5000 [] Try.f11 = some { mf_breach_Notice with body := erase mf_breach_Notice.body } := by kernel_rfl
theorem nm_notice : (Try.f11.name == "runtime.NumGoroutine") = false := by kernel_rfl
theorem ps_notice : PSpec Try.prog id_breach_Notice F_notice := pspec_of (mkT_ok (PTl_ok (l := [(id_breach_known, F_known)]) (PTl_cons ps_known PTl_nil))) mixed Try.func11 nm_notice tr_notice fun ds r h => by
  obtain ⟨⟨x0, x1, x2⟩, hds, hr⟩ := FF_inv h
  clear h
  subst hds
  obtain rfl := Option.some.inj hr
  exact ⟨Nat.le_of_ble_eq_true rfl, w_notice _ (mkT_at rfl) x0 x1 x2⟩
theorem tr_waive : trFunc Try.prog 6000 [] Try.f13 = some { mf_breach_Waive with body := erase mf_breach_Waive.body } := by kernel_rfl
theorem nm_waive : (Try.f13.name == "runtime.NumGoroutine") = false := by kernel_rfl
theorem ps_waive : PSpec Try.prog id_breach_Waive F_waive := pspec_of (mkT_ok (PTl_ok (l := [(id_breach_known, F_known)]) (PTl_cons ps_known PTl_nil))) mixed Try.func13 nm_waive tr_waive fun ds r h => by
  obtain ⟨⟨x0, x1, x2⟩, hds, hr⟩ := FF_inv h
  clear h
  subst hds
  obtain rfl := Option.some.inj hr
  exact ⟨Nat.le_of_ble_eq_true rfl, w_waive _ (mkT_at rfl) x0 x1 x2⟩
theorem tr_next : trFunc Try.prog 1000 [] Try.f9 = some { mf_breach_Next with body := erase mf_breach_Next.body } := by kernel_rfl
theorem nm_next : (Try.f9.name == "runtime.NumGoroutine") = false := by kernel_rfl
theorem ps_next : PSpec Try.prog id_breach_Next F_next := pspec_of (mkT_ok (PTl_ok (l := [(id_breach_Right, F_right), (id_breach_day, F_day)]) (PTl_cons ps_right (PTl_cons ps_day PTl_nil)))) mixed Try.func9 nm_next tr_next fun ds r h => by
  obtain ⟨⟨x0, x1, x2, x3, x4⟩, hds, hr⟩ := FF_inv h
  clear h
  subst hds
  obtain rfl := Option.some.inj hr
  exact ⟨Nat.le_of_ble_eq_true rfl, w_next _ (mkT_at rfl) (mkT_at rfl) x0 x1 x2 x3 x4⟩
theorem tr_notice2 : trFunc Try.prog 13000 [] Try.f12 = some { mf_ref27_Notice with body := erase mf_ref27_Notice.body } := by kernel_rfl
theorem nm_notice2 : (Try.f12.name == "runtime.NumGoroutine") = false := by kernel_rfl
theorem ps_notice2 : PSpec Try.prog id_ref27_Notice F_notice2 := pspec_of (mkT_ok (PTl_ok (l := [(id_ref27_Right, F_right2)]) (PTl_cons ps_right2 PTl_nil))) mixed Try.func12 nm_notice2 tr_notice2 fun ds r h => by
  obtain ⟨⟨x0, x1, x2⟩, hds, hr⟩ := FF_inv h
  clear h
  subst hds
  obtain rfl := Option.some.inj hr
  exact ⟨Nat.le_of_ble_eq_true rfl, w_notice2 _ (mkT_at rfl) x0 x1 x2⟩
theorem tr_waive2 : trFunc Try.prog 14000 [] Try.f14 = some { mf_ref27_Waive with body := erase mf_ref27_Waive.body } := by kernel_rfl
theorem nm_waive2 : (Try.f14.name == "runtime.NumGoroutine") = false := by kernel_rfl
theorem ps_waive2 : PSpec Try.prog id_ref27_Waive F_waive2 := pspec_of (mkT_ok (PTl_ok (l := [(id_ref27_Right, F_right2)]) (PTl_cons ps_right2 PTl_nil))) mixed Try.func14 nm_waive2 tr_waive2 fun ds r h => by
  obtain ⟨⟨x0, x1, x2⟩, hds, hr⟩ := FF_inv h
  clear h
  subst hds
  obtain rfl := Option.some.inj hr
  exact ⟨Nat.le_of_ble_eq_true rfl, w_waive2 _ (mkT_at rfl) x0 x1 x2⟩
theorem tr_next2 : trFunc Try.prog 11000 [] Try.f10 = some { mf_ref27_Next with body := erase mf_ref27_Next.body } := by kernel_rfl
theorem nm_next2 : (Try.f10.name == "runtime.NumGoroutine") = false := by kernel_rfl
theorem ps_next2 : PSpec Try.prog id_ref27_Next F_next2 := pspec_of (mkT_ok (PTl_ok (l := [(id_ref27_Right, F_right2)]) (PTl_cons ps_right2 PTl_nil))) mixed Try.func10 nm_next2 tr_next2 fun ds r h => by
  obtain ⟨⟨x0, x1, x2, x3, x4⟩, hds, hr⟩ := FF_inv h
  clear h
  subst hds
  obtain rfl := Option.some.inj hr
  exact ⟨Nat.le_of_ble_eq_true rfl, w_next2 _ (mkT_at rfl) x0 x1 x2 x3 x4⟩
theorem tr_order : trFunc Try.prog 25000 [] Try.f22 = some { mf_law27_order with body := erase mf_law27_order.body } := by kernel_rfl
theorem nm_order : (Try.f22.name == "runtime.NumGoroutine") = false := by kernel_rfl
theorem ps_order : PSpec Try.prog id_law27_order F_order := pspec_of (mkT_ok (PTl_ok (l := []) PTl_nil)) mixed Try.func22 nm_order tr_order fun ds r h => by
  obtain ⟨x0, hds, hr⟩ := FF_inv h
  clear h
  subst hds
  obtain rfl := Option.some.inj hr
  exact ⟨Nat.le_of_ble_eq_true rfl, w_order _  x0⟩
theorem tr_fallen : trFunc Try.prog 23000 [] Try.f21 = some { mf_law27_fallen with body := erase mf_law27_fallen.body } := by kernel_rfl
theorem nm_fallen : (Try.f21.name == "runtime.NumGoroutine") = false := by kernel_rfl
theorem ps_fallen : PSpec Try.prog id_law27_fallen F_fallen := pspec_of (mkT_ok (PTl_ok (l := []) PTl_nil)) mixed Try.func21 nm_fallen tr_fallen fun ds r h => by
  obtain ⟨x0, hds, hr⟩ := FF_inv h
  clear h
  subst hds
  obtain ⟨hc, rfl⟩ := onlyIf_inv hr
  exact ⟨Nat.le_of_ble_eq_true rfl, w_fallen _  x0 hc⟩
theorem tr_worst : trFunc Try.prog 7000 [] Try.f17 = some { mf_breach_Worst with body := erase mf_breach_Worst.body } := by kernel_rfl
theorem nm_worst : (Try.f17.name == "runtime.NumGoroutine") = false := by kernel_rfl
theorem ps_worst : PSpec Try.prog id_breach_Worst F_worst := pspec_of (mkT_ok (PTl_ok (l := [(id_breach_Right, F_right)]) (PTl_cons ps_right PTl_nil))) mixed Try.func17 nm_worst tr_worst fun ds r h => by
  obtain ⟨x0, hds, hr⟩ := FF_inv h
  clear h
  subst hds
  obtain ⟨hc, rfl⟩ := onlyIf_inv hr
  exact ⟨Nat.le_of_ble_eq_true rfl, w_worst _ (mkT_at rfl) x0 hc⟩
theorem tr_worst2 : trFunc Try.prog 15000 [] Try.f18 = some { mf_ref27_Worst with body := erase mf_ref27_Worst.body } := by kernel_rfl
theorem nm_worst2 : (Try.f18.name == "runtime.NumGoroutine") = false := by kernel_rfl
theorem ps_worst2 : PSpec Try.prog id_ref27_Worst F_worst2 := pspec_of (mkT_ok (PTl_ok (l := [(id_ref27_Right, F_right2)]) (PTl_cons ps_right2 PTl_nil))) mixed Try.func18 nm_worst2 tr_worst2 fun ds r h => by
  obtain ⟨x0, hds, hr⟩ := FF_inv h
  clear h
  subst hds
  obtain ⟨hc, rfl⟩ := onlyIf_inv hr
  exact ⟨Nat.le_of_ble_eq_true rfl, w_worst2 _ (mkT_at rfl) x0 hc⟩
theorem tr_play : trFunc Try.prog 22000 [] Try.f19 = some { mf_law27_play with body := erase mf_law27_play.body } := by kernel_rfl
theorem nm_play : (Try.f19.name == "runtime.NumGoroutine") = false := by kernel_rfl
theorem ps_play : PSpec Try.prog id_law27_play F_play := pspec_of (mkT_ok (PTl_ok (l := [(id_breach_Next, F_next)]) (PTl_cons ps_next PTl_nil))) mixed Try.func19 nm_play tr_play fun ds r h => by
  obtain ⟨⟨x0, x1, x2⟩, hds, hr⟩ := FF_inv h
  clear h
  subst hds
  obtain ⟨hc, rfl⟩ := onlyIf_inv hr
  exact ⟨Nat.le_of_ble_eq_true rfl, w_play _ (mkT_at rfl) x0 x1 x2 hc⟩
theorem tr_expected : trFunc Try.prog 24000 [] Try.f20 = some { mf_law27_expected with body := erase mf_law27_expected.body } := by kernel_rfl
theorem nm_expected : (Try.f20.name == "runtime.NumGoroutine") = false := by kernel_rfl
theorem ps_expected : PSpec Try.prog id_law27_expected F_expected := pspec_of (mkT_ok (PTl_ok (l := []) PTl_nil)) mixed Try.func20 nm_expected tr_expected fun ds r h => by
  obtain ⟨⟨x0, x1⟩, hds, hr⟩ := FF_inv h
  clear h
  subst hds
  obtain ⟨hc, rfl⟩ := onlyIf_inv hr
  exact ⟨Nat.le_of_ble_eq_true rfl, w_expected _  x0 x1 hc⟩
theorem tr_small : trFunc Try.prog 21000 [] Try.f8 = some { mf_law27_small with body := erase mf_law27_small.body } := by kernel_rfl
theorem nm_small : (Try.f8.name == "runtime.NumGoroutine") = false := by kernel_rfl
theorem ps_small : PSpec Try.prog id_law27_small F_small := pspec_of (mkT_ok (PTl_ok (l := [(id_breach_Next, F_next), (id_breach_Notice, F_notice), (id_breach_Waive, F_waive), (id_breach_Worst, F_worst), (id_breach_Right, F_right)]) (PTl_cons ps_next (PTl_cons ps_notice (PTl_cons ps_waive (PTl_cons ps_worst (PTl_cons ps_right PTl_nil))))))) mixed Try.func8 nm_small tr_small fun ds r h => by
  obtain ⟨_, hds, hr⟩ := FF_inv h
  clear h
  subst hds
  obtain rfl := Option.some.inj hr
  exact ⟨Nat.le_of_ble_eq_true rfl, w_small _ (mkT_at rfl) (mkT_at rfl) (mkT_at rfl) (mkT_at rfl) (mkT_at rfl) ⟩
end Go.Mini
