/- The numbers of the functions in this translation. -/
import Derived.Test.YtehjaghpfnncoaaMiniH
set_option linter.unusedSimpArgs false
set_option linter.unusedVariables false
namespace Go.Mini
def id_law27_BreachTells : FuncId := 3
def id_law27_BreachStory : FuncId := 4
def id_law27_BreachLater : FuncId := 5
def id_law27_BreachEnds : FuncId := 6
def id_law27_BreachWorst : FuncId := 7
def id_law27_small : FuncId := 8
def id_breach_Next : FuncId := 9
def id_ref27_Next : FuncId := 10
def id_breach_Notice : FuncId := 11
def id_ref27_Notice : FuncId := 12
def id_breach_Waive : FuncId := 13
def id_ref27_Waive : FuncId := 14
def id_breach_Right : FuncId := 15
def id_ref27_Right : FuncId := 16
def id_breach_Worst : FuncId := 17
def id_ref27_Worst : FuncId := 18
def id_law27_play : FuncId := 19
def id_law27_expected : FuncId := 20
def id_law27_fallen : FuncId := 21
def id_law27_order : FuncId := 22
def id_breach_day : FuncId := 23
def id_breach_known : FuncId := 24
end Go.Mini
