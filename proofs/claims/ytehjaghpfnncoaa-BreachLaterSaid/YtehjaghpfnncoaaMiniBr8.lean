/- The breaches' arguments, typed. -/
import Derived.Test.YtehjaghpfnncoaaMiniS
import Derived.Test.YtehjaghpfnncoaaMiniBr7
set_option linter.unusedSimpArgs false
set_option linter.unusedVariables false
namespace Go.Mini
open Go
theorem fit_br {es : List (List Data)} (h : ∀ x ∈ es, Fit (.st [.int .i64, .int .i64]) x) : ∃ l : List Br, es = l.map brL ∧ ∀ b ∈ l, True := fit_list fun x hx => by
  have := h x hx
  simp only [Fit, Fits] at this
  obtain ⟨_, _, rfl, ⟨n, rfl, -⟩, _, _, rfl, ⟨m, rfl, -⟩, rfl⟩ := this
  exact ⟨(n, m), rfl, trivial⟩
theorem wf_u8 {n : Int} (h : (Lit.int .u8 n).wf = true) : 0 ≤ n ∧ n ≤ 255 := by simpa [Lit.wf, IntKind.min, IntKind.max, IntKind.signed, IntKind.bits] using h
theorem wf_u16 {n : Int} (h : (Lit.int .u16 n).wf = true) : 0 ≤ n ∧ n ≤ 65535 := by simpa [Lit.wf, IntKind.min, IntKind.max, IntKind.signed, IntKind.bits] using h
theorem fit_u8 {es : List (List Data)} (h : ∀ x ∈ es, Fit (.int .u8) x) : ∃ l : List Int, es = l.map u8L ∧ ∀ n ∈ l, 0 ≤ n ∧ n ≤ 255 := fit_list fun x hx => by
  have := h x hx
  simp only [Fit] at this
  obtain ⟨n, rfl, hw⟩ := this
  exact ⟨n, rfl, wf_u8 hw⟩
end Go.Mini
