/- A part of the proof: MiniKLaw06, MiniLw1, MiniLw2, MiniLw3, MiniLw4, MiniLw5, MiniPsMoves1. -/
import Derived.Test.YtjcpopjafedmpaaM04
import Derived.Test.YtjcpopjafedmpaaM09
import Derived.Test.YtjcpopjafedmpaaM10
import Derived.Test.YtjcpopjafedmpaaProg
import Derived.KernelRfl
set_option linter.unusedSimpArgs false
set_option linter.unusedVariables false
open Nat renaming reduceEqDiff → yA, reduceAdd → yB, reduceSub → yC, reduceMul → yD, reduceLeDiff → yE, reduceLT → yF, reduceBEq → yG
open Bool renaming false_eq_true → yH
open Int renaming reduceEq → yI
open List renaming length_map → yJ, getElem?_map → yK, getElem?_eq_getElem → yL
open List.cons renaming injEq → yM
namespace Go.Mini
open Go
def mf_law06_LinearMoves:MFunc :=
 { n:=191,np:=4,res:=[.t 8],body :=
 (.seq (.ops [
 ⟨(some 7),none,.box 102007 (.t 3)⟩,⟨(some 8),none,.mv (.c (.dat (.bool false)))⟩])
 (.seq (.ops [
 ⟨(some 28),none,.call id_law06_small []⟩,⟨(some 9),none,.mv (.t 28)⟩])
 (.seq (.ops [
 ⟨(some 29),none,.mv (.t 0)⟩,⟨(some 30),none,.len (.t 29)⟩,⟨(some 10),none,.mv (.t 30)⟩])
 (.seq (.seq (.ops [
 ⟨(some 31),none,.mv (.t 0)⟩,⟨(some 32),none,.call id_ref06_Few [(.t 31),(.c (.dat (.int .i64 3))),(.c (.dat (.int .i64 1)))]⟩,⟨(some 33),none,.un .not (.t 32)⟩,⟨(some 34),none,.mv (.t 33)⟩,⟨(some 35),(some (34,false)),.load 4 true (.t 7)⟩,⟨(some 36),(some (34,false)),.call id_ref05_Few [(.t 35),(.c (.dat (.int .i64 1)))]⟩,⟨(some 37),(some (34,false)),.un .not (.t 36)⟩,⟨(some 38),none,.pick (.t 34) (.c (.dat (.bool true))) (.t 37)⟩,⟨(some 39),none,.mv (.t 38)⟩,⟨(some 40),(some (39,false)),.mv (.t 0)⟩,⟨(some 41),(some (39,false)),.mv (.t 10)⟩,⟨(some 42),(some (39,false)),.call id_linear_Right [(.t 40),(.t 41)]⟩,⟨(some 43),(some (39,false)),.un .not (.t 42)⟩,⟨(some 44),none,.pick (.t 39) (.c (.dat (.bool true))) (.t 43)⟩,⟨(some 45),none,.mv (.t 44)⟩,⟨(some 46),(some (45,false)),.mv (.t 10)⟩,⟨(some 47),(some (45,false)),.bin .eql (.t 46) (.c (.dat (.int .i64 0)))⟩,⟨(some 48),none,.pick (.t 45) (.c (.dat (.bool true))) (.t 47)⟩,⟨(some 49),none,.mv (.t 48)⟩,⟨(some 50),(some (49,false)),.load 4 true (.t 7)⟩,⟨(some 51),(some (49,false)),.call id_frac_Right [(.t 50)]⟩,⟨(some 52),(some (49,false)),.un .not (.t 51)⟩,⟨(some 53),none,.pick (.t 49) (.c (.dat (.bool true))) (.t 52)⟩,⟨(some 54),none,.mv (.t 53)⟩,⟨(some 55),(some (54,false)),.load 4 true (.t 7)⟩,⟨(some 56),(some (54,false)),.call id_ref06_Zero [(.t 55)]⟩,⟨(some 57),none,.pick (.t 54) (.c (.dat (.bool true))) (.t 56)⟩])
 (.cond (.t 57)
 (.seq (.ops [
 ⟨(some 58),none,.mv (.t 9)⟩,⟨(some 8),none,.mv (.t 58)⟩])
 .ret)
 .skip))
 (.seq (.ops [
 ⟨(some 59),none,.mv (.t 1)⟩,⟨(some 60),none,.conv .i64 (.t 59)⟩,⟨(some 61),none,.mv (.t 10)⟩,⟨(some 62),none,.bin .rem (.t 60) (.t 61)⟩,⟨(some 11),none,.mv (.t 62)⟩])
 (.seq (.ops [
 ⟨(some 63),none,.mv (.t 2)⟩,⟨(some 64),none,.conv .i64 (.t 63)⟩,⟨(some 65),none,.mv (.t 10)⟩,⟨(some 66),none,.bin .rem (.t 64) (.t 65)⟩,⟨(some 12),none,.mv (.t 66)⟩])
 (.seq (.ghost (.move) (.ops [
 ⟨(some 68),none,.mv (.t 0)⟩,⟨(some 69),none,.mv (.t 10)⟩,⟨(some 70),none,.call id_linear_Solve [(.t 68),(.t 69)]⟩,⟨(some 67),none,.mv (.t 70)⟩,⟨(some 71),none,.ext 0 (.t 67)⟩,⟨(some 72),none,.ext 1 (.t 67)⟩,⟨(some 13),none,.mv (.t 71)⟩,⟨(some 14),none,.mv (.t 72)⟩]))
 (.seq (.ghost (.move) (.ops [
 ⟨(some 73),none,.bsl 102073 true [] 5 0 []⟩,⟨(some 74),none,.mv (.t 0)⟩,⟨(some 75),none,.app 102075 [.nil,(.dat (.int .i64 0)),.nil,(.dat (.int .i64 0)),.nil] 88 (.t 73) (.t 74)⟩,⟨(some 15),none,.mv (.t 75)⟩]))
 (.seq (.ops [
 ⟨(some 76),none,.bsl 102076 true [] 5 0 []⟩,⟨(some 77),none,.mv (.t 0)⟩,⟨(some 78),none,.app 102078 [.nil,(.dat (.int .i64 0)),.nil,(.dat (.int .i64 0)),.nil] 88 (.t 76) (.t 77)⟩,⟨(some 16),none,.mv (.t 78)⟩])
 (.seq (.ops [
 ⟨(some 79),none,.bsl 102079 true [] 5 0 []⟩,⟨(some 80),none,.mv (.t 0)⟩,⟨(some 81),none,.app 102081 [.nil,(.dat (.int .i64 0)),.nil,(.dat (.int .i64 0)),.nil] 88 (.t 79) (.t 80)⟩,⟨(some 17),none,.mv (.t 81)⟩])
 (.seq (.ops [
 ⟨(some 82),none,.mv (.t 17)⟩,⟨(some 83),none,.mv (.t 11)⟩,⟨(some 84),none,.mv (.t 0)⟩,⟨(some 85),none,.mv (.t 12)⟩,⟨(some 86),none,.iad 5 (.t 84) (.t 85)⟩,⟨(some 87),none,.load 5 true (.t 86)⟩,⟨(some 88),none,.iad 5 (.t 82) (.t 83)⟩,⟨none,none,.store 5 (.t 88) (.t 87)⟩])
 (.seq (.ops [
 ⟨(some 89),none,.mv (.t 17)⟩,⟨(some 90),none,.mv (.t 12)⟩,⟨(some 91),none,.mv (.t 0)⟩,⟨(some 92),none,.mv (.t 11)⟩,⟨(some 93),none,.iad 5 (.t 91) (.t 92)⟩,⟨(some 94),none,.load 5 true (.t 93)⟩,⟨(some 95),none,.iad 5 (.t 89) (.t 90)⟩,⟨none,none,.store 5 (.t 95) (.t 94)⟩])
 (.seq (.ghost (.move) (.opsD [
 ⟨(some 97),none,.mv (.t 0)⟩,⟨(some 98),none,.mv (.t 11)⟩,⟨(some 99),none,.iad 5 (.t 97) (.t 98)⟩,⟨(some 100),none,.load 5 true (.t 99)⟩,⟨(some 101),none,.load 4 true (.t 7)⟩,⟨(some 102),none,.call id_law06_times [(.t 100),(.t 101)]⟩,⟨(some 96),none,.mv (.t 102)⟩,⟨(some 103),none,.ext 0 (.t 96)⟩,⟨(some 104),none,.ext 1 (.t 96)⟩,⟨(some 18),none,.alloc 102018 [.nil,(.dat (.int .i64 0)),.nil,(.dat (.int .i64 0)),.nil]⟩,⟨none,none,.store 5 (.t 18) (.t 103)⟩,⟨(some 19),none,.mv (.t 104)⟩] [[],[],[],[],[],[],[],[],[],[3,4],[],[]]))
 (.seq (.opsD [
 ⟨(some 106),none,.mv (.t 0)⟩,⟨(some 107),none,.mv (.t 11)⟩,⟨(some 108),none,.iad 5 (.t 106) (.t 107)⟩,⟨(some 109),none,.load 5 true (.t 108)⟩,⟨(some 110),none,.mv (.t 0)⟩,⟨(some 111),none,.mv (.t 12)⟩,⟨(some 112),none,.iad 5 (.t 110) (.t 111)⟩,⟨(some 113),none,.load 5 true (.t 112)⟩,⟨(some 114),none,.call id_law06_plus [(.t 109),(.t 113)]⟩,⟨(some 105),none,.mv (.t 114)⟩,⟨(some 115),none,.ext 0 (.t 105)⟩,⟨(some 116),none,.ext 1 (.t 105)⟩,⟨(some 20),none,.alloc 102020 [.nil,(.dat (.int .i64 0)),.nil,(.dat (.int .i64 0)),.nil]⟩,⟨none,none,.store 5 (.t 20) (.t 115)⟩,⟨(some 21),none,.mv (.t 116)⟩] [[],[],[],[],[],[],[],[],[],[],[],[],[3,7],[],[]])
 (.seq (.seq (.ghost (.move) (.ops [
 ⟨(some 117),none,.mv (.t 19)⟩,⟨(some 118),none,.un .not (.t 117)⟩,⟨(some 119),none,.mv (.t 118)⟩,⟨(some 120),(some (119,false)),.mv (.t 21)⟩,⟨(some 121),(some (119,false)),.un .not (.t 120)⟩,⟨(some 122),none,.pick (.t 119) (.c (.dat (.bool true))) (.t 121)⟩]))
 (.cond (.t 122)
 (.seq (.ops [
 ⟨(some 8),none,.mv (.c (.dat (.bool false)))⟩])
 .ret)
 .skip))
 (.seq (.ops [
 ⟨(some 123),none,.mv (.t 15)⟩,⟨(some 124),none,.mv (.t 11)⟩,⟨(some 125),none,.load 5 true (.t 18)⟩,⟨(some 126),none,.iad 5 (.t 123) (.t 124)⟩,⟨none,none,.store 5 (.t 126) (.t 125)⟩])
 (.seq (.seq (.ops [
 ⟨(some 127),none,.mv (.t 11)⟩,⟨(some 128),none,.mv (.t 12)⟩,⟨(some 129),none,.bin .neq (.t 127) (.t 128)⟩])
 (.cond (.t 129)
 (.ops [
 ⟨(some 130),none,.mv (.t 16)⟩,⟨(some 131),none,.mv (.t 11)⟩,⟨(some 132),none,.load 5 true (.t 20)⟩,⟨(some 133),none,.iad 5 (.t 130) (.t 131)⟩,⟨none,none,.store 5 (.t 133) (.t 132)⟩])
 .skip))
 (.seq (.ghost (.freeze 15) (.ghost (.freeze 16) (.ghost (.freeze 17) (.ops [
 ⟨(some 135),none,.mv (.t 15)⟩,⟨(some 136),none,.mv (.t 10)⟩,⟨(some 137),none,.call id_linear_Solve [(.t 135),(.t 136)]⟩,⟨(some 134),none,.mv (.t 137)⟩,⟨(some 138),none,.ext 0 (.t 134)⟩,⟨(some 139),none,.ext 1 (.t 134)⟩,⟨(some 22),none,.mv (.t 138)⟩,⟨(some 23),none,.mv (.t 139)⟩]))))
 (.seq (.ops [
 ⟨(some 141),none,.mv (.t 16)⟩,⟨(some 142),none,.mv (.t 10)⟩,⟨(some 143),none,.call id_linear_Solve [(.t 141),(.t 142)]⟩,⟨(some 140),none,.mv (.t 143)⟩,⟨(some 144),none,.ext 0 (.t 140)⟩,⟨(some 145),none,.ext 1 (.t 140)⟩,⟨(some 24),none,.mv (.t 144)⟩,⟨(some 25),none,.mv (.t 145)⟩])
 (.seq (.ops [
 ⟨(some 147),none,.mv (.t 17)⟩,⟨(some 148),none,.mv (.t 10)⟩,⟨(some 149),none,.call id_linear_Solve [(.t 147),(.t 148)]⟩,⟨(some 146),none,.mv (.t 149)⟩,⟨(some 150),none,.ext 0 (.t 146)⟩,⟨(some 151),none,.ext 1 (.t 146)⟩,⟨(some 26),none,.mv (.t 150)⟩,⟨(some 27),none,.mv (.t 151)⟩])
 (.seq (.seq (.ghost (.move) (.ops [
 ⟨(some 152),none,.mv (.t 23)⟩,⟨(some 153),none,.bin .neq (.t 152) (.c (.dat (.int .i64 6)))⟩,⟨(some 154),none,.mv (.t 153)⟩,⟨(some 155),(some (154,true)),.mv (.t 23)⟩,⟨(some 156),(some (154,true)),.mv (.t 14)⟩,⟨(some 157),(some (154,true)),.bin .neq (.t 155) (.t 156)⟩,⟨(some 158),(some (154,true)),.mv (.t 157)⟩,⟨(some 159),(some (158,false)),.mv (.t 13)⟩,⟨(some 160),(some (158,false)),.mv (.t 22)⟩,⟨(some 161),(some (158,false)),.call id_ref06_Same [(.t 159),(.t 160)]⟩,⟨(some 162),(some (158,false)),.un .not (.t 161)⟩,⟨(some 163),(some (154,true)),.pick (.t 158) (.c (.dat (.bool true))) (.t 162)⟩,⟨(some 164),none,.pick (.t 154) (.t 163) (.c (.dat (.bool false)))⟩,⟨(some 165),none,.mv (.t 164)⟩,⟨(some 166),(some (165,false)),.mv (.t 25)⟩,⟨(some 167),(some (165,false)),.bin .neq (.t 166) (.c (.dat (.int .i64 6)))⟩,⟨(some 168),(some (165,false)),.mv (.t 167)⟩,⟨(some 169),(some (168,true)),.mv (.t 25)⟩,⟨(some 170),(some (168,true)),.mv (.t 14)⟩,⟨(some 171),(some (168,true)),.bin .neq (.t 169) (.t 170)⟩,⟨(some 172),(some (168,true)),.mv (.t 171)⟩,⟨(some 173),(some (172,false)),.mv (.t 13)⟩,⟨(some 174),(some (172,false)),.mv (.t 24)⟩,⟨(some 175),(some (172,false)),.call id_ref06_Same [(.t 173),(.t 174)]⟩,⟨(some 176),(some (172,false)),.un .not (.t 175)⟩,⟨(some 177),(some (168,true)),.pick (.t 172) (.c (.dat (.bool true))) (.t 176)⟩,⟨(some 178),(some (165,false)),.pick (.t 168) (.t 177) (.c (.dat (.bool false)))⟩,⟨(some 179),none,.pick (.t 165) (.c (.dat (.bool true))) (.t 178)⟩]))
 (.cond (.t 179)
 (.seq (.ops [
 ⟨(some 8),none,.mv (.c (.dat (.bool false)))⟩])
 .ret)
 .skip))
 (.seq (.ops [
 ⟨(some 180),none,.mv (.t 9)⟩,⟨(some 181),none,.mv (.t 180)⟩,⟨(some 182),(some (181,true)),.mv (.t 27)⟩,⟨(some 183),(some (181,true)),.mv (.t 14)⟩,⟨(some 184),(some (181,true)),.bin .eql (.t 182) (.t 183)⟩,⟨(some 185),none,.pick (.t 181) (.t 184) (.c (.dat (.bool false)))⟩,⟨(some 186),none,.mv (.t 185)⟩,⟨(some 187),(some (186,true)),.mv (.t 13)⟩,⟨(some 188),(some (186,true)),.mv (.t 26)⟩,⟨(some 189),(some (186,true)),.call id_ref06_Same [(.t 187),(.t 188)]⟩,⟨(some 190),none,.pick (.t 186) (.t 189) (.c (.dat (.bool false)))⟩,⟨(some 8),none,.mv (.t 190)⟩])
 .ret)))))))))))))))))))))) }
def mf_law06_small:MFunc :=
 { n:=106,np:=0,res:=[.t 0],body :=
 (.seq (.ops [
 ⟨(some 0),none,.mv (.c (.dat (.bool false)))⟩])
 (.seq (.ops [
 ⟨(some 16),none,.bsl 105016 false [(.dat (.int .i64 0)),(.dat (.int .i64 0))] 1 2 [(0,1,(.c (.dat (.int .i64 2)))),(1,1,(.c (.dat (.int .i64 1))))]⟩,⟨(some 17),none,.call id_law06_row [(.t 16)]⟩,⟨(some 18),none,.bsl 105018 false [.nil,(.dat (.int .i64 0)),.nil,(.dat (.int .i64 0)),.nil] 5 1 [(0,5,(.t 17))]⟩,⟨(some 19),none,.call id_linear_Solve [(.t 18),(.c (.dat (.int .i64 1)))]⟩,⟨(some 15),none,.mv (.t 19)⟩,⟨(some 20),none,.ext 0 (.t 15)⟩,⟨(some 21),none,.ext 1 (.t 15)⟩,⟨(some 1),none,.mv (.t 20)⟩,⟨(some 2),none,.mv (.t 21)⟩])
 (.seq (.ops [
 ⟨(some 23),none,.bsl 105023 false [(.dat (.int .i64 0)),(.dat (.int .i64 0)),(.dat (.int .i64 0))] 1 3 [(0,1,(.c (.dat (.int .i64 1)))),(1,1,(.c (.dat (.int .i64 1)))),(2,1,(.c (.dat (.int .i64 3))))]⟩,⟨(some 24),none,.call id_law06_row [(.t 23)]⟩,⟨(some 25),none,.bsl 105025 false [(.dat (.int .i64 0)),(.dat (.int .i64 0)),(.dat (.int .i64 0))] 1 3 [(0,1,(.c (.dat (.int .i64 1)))),(1,1,(.c (.dat (.int .i64 (-1))))),(2,1,(.c (.dat (.int .i64 1))))]⟩,⟨(some 26),none,.call id_law06_row [(.t 25)]⟩,⟨(some 27),none,.bsl 105027 false [.nil,(.dat (.int .i64 0)),.nil,(.dat (.int .i64 0)),.nil,.nil,(.dat (.int .i64 0)),.nil,(.dat (.int .i64 0)),.nil] 5 2 [(0,5,(.t 24)),(5,5,(.t 26))]⟩,⟨(some 28),none,.call id_linear_Solve [(.t 27),(.c (.dat (.int .i64 2)))]⟩,⟨(some 22),none,.mv (.t 28)⟩,⟨(some 29),none,.ext 0 (.t 22)⟩,⟨(some 30),none,.ext 1 (.t 22)⟩,⟨(some 3),none,.mv (.t 29)⟩,⟨(some 4),none,.mv (.t 30)⟩])
 (.seq (.ops [
 ⟨(some 31),none,.bsl 105031 false [(.dat (.int .i64 0)),(.dat (.int .i64 0)),(.dat (.int .i64 0))] 1 3 [(0,1,(.c (.dat (.int .i64 1)))),(1,1,(.c (.dat (.int .i64 2)))),(2,1,(.c (.dat (.int .i64 1))))]⟩,⟨(some 32),none,.call id_law06_row [(.t 31)]⟩,⟨(some 33),none,.bsl 105033 false [(.dat (.int .i64 0)),(.dat (.int .i64 0)),(.dat (.int .i64 0))] 1 3 [(0,1,(.c (.dat (.int .i64 2)))),(1,1,(.c (.dat (.int .i64 4)))),(2,1,(.c (.dat (.int .i64 5))))]⟩,⟨(some 34),none,.call id_law06_row [(.t 33)]⟩,⟨(some 35),none,.bsl 105035 false [.nil,(.dat (.int .i64 0)),.nil,(.dat (.int .i64 0)),.nil,.nil,(.dat (.int .i64 0)),.nil,(.dat (.int .i64 0)),.nil] 5 2 [(0,5,(.t 32)),(5,5,(.t 34))]⟩,⟨(some 5),none,.mv (.t 35)⟩])
 (.seq (.ops [
 ⟨(some 37),none,.mv (.t 5)⟩,⟨(some 38),none,.call id_linear_Solve [(.t 37),(.c (.dat (.int .i64 2)))]⟩,⟨(some 36),none,.mv (.t 38)⟩,⟨(some 39),none,.ext 0 (.t 36)⟩,⟨(some 40),none,.ext 1 (.t 36)⟩,⟨(some 6),none,.mv (.t 39)⟩,⟨(some 7),none,.mv (.t 40)⟩])
 (.seq (.ops [
 ⟨(some 42),none,.mv (.t 5)⟩,⟨(some 43),none,.call id_linear_Kernel [(.t 42),(.c (.dat (.int .i64 2)))]⟩,⟨(some 41),none,.mv (.t 43)⟩,⟨(some 44),none,.ext 0 (.t 41)⟩,⟨(some 45),none,.ext 1 (.t 41)⟩,⟨(some 8),none,.mv (.t 44)⟩,⟨(some 9),none,.mv (.t 45)⟩])
 (.seq (.ops [
 ⟨(some 47),none,.mv (.t 5)⟩,⟨(some 48),none,.call id_linear_Rank [(.t 47),(.c (.dat (.int .i64 2)))]⟩,⟨(some 46),none,.mv (.t 48)⟩,⟨(some 49),none,.ext 0 (.t 46)⟩,⟨(some 50),none,.ext 1 (.t 46)⟩,⟨(some 10),none,.mv (.t 49)⟩,⟨(some 11),none,.mv (.t 50)⟩])
 (.seq (.ops [
 ⟨(some 52),none,.call id_ref05_Of [(.c (.dat (.int .i64 1))),(.c (.dat (.int .i64 2)))]⟩,⟨(some 51),none,.mv (.t 52)⟩,⟨(some 53),none,.ext 0 (.t 51)⟩,⟨(some 54),none,.ext 1 (.t 51)⟩,⟨(some 12),none,.alloc 105012 [(.dat (.int .i64 0)),.nil,(.dat (.int .i64 0)),.nil]⟩,⟨none,none,.store 4 (.t 12) (.t 53)⟩,⟨(some 13),none,.mv (.t 54)⟩])
 (.seq (.ops [
 ⟨(some 55),none,.mv (.t 1)⟩,⟨(some 56),none,.load 4 true (.t 12)⟩,⟨(some 57),none,.bsl 105057 false [(.dat (.int .i64 0)),.nil,(.dat (.int .i64 0)),.nil] 4 1 [(0,4,(.t 56))]⟩,⟨(some 58),none,.call id_ref06_Same [(.t 55),(.t 57)]⟩,⟨(some 59),none,.mv (.t 58)⟩,⟨(some 60),(some (59,true)),.mv (.t 2)⟩,⟨(some 61),(some (59,true)),.bin .eql (.t 60) (.c (.dat (.int .i64 0)))⟩,⟨(some 62),none,.pick (.t 59) (.t 61) (.c (.dat (.bool false)))⟩,⟨(some 63),none,.mv (.t 62)⟩,⟨(some 64),(some (63,true)),.mv (.t 3)⟩,⟨(some 65),(some (63,true)),.call id_law06_number [(.c (.dat (.int .i64 2)))]⟩,⟨(some 66),(some (63,true)),.call id_law06_number [(.c (.dat (.int .i64 1)))]⟩,⟨(some 67),(some (63,true)),.bsl 105067 false [(.dat (.int .i64 0)),.nil,(.dat (.int .i64 0)),.nil,(.dat (.int .i64 0)),.nil,(.dat (.int .i64 0)),.nil] 4 2 [(0,4,(.t 65)),(4,4,(.t 66))]⟩,⟨(some 68),(some (63,true)),.call id_ref06_Same [(.t 64),(.t 67)]⟩,⟨(some 69),none,.pick (.t 63) (.t 68) (.c (.dat (.bool false)))⟩,⟨(some 70),none,.mv (.t 69)⟩,⟨(some 71),(some (70,true)),.mv (.t 4)⟩,⟨(some 72),(some (70,true)),.bin .eql (.t 71) (.c (.dat (.int .i64 0)))⟩,⟨(some 73),none,.pick (.t 70) (.t 72) (.c (.dat (.bool false)))⟩,⟨(some 14),none,.mv (.t 73)⟩])
 (.seq (.ops [
 ⟨(some 74),none,.mv (.t 14)⟩,⟨(some 75),none,.mv (.t 74)⟩,⟨(some 76),(some (75,true)),.mv (.t 7)⟩,⟨(some 77),(some (75,true)),.bin .eql (.t 76) (.c (.dat (.int .i64 17)))⟩,⟨(some 78),none,.pick (.t 75) (.t 77) (.c (.dat (.bool false)))⟩,⟨(some 79),none,.mv (.t 78)⟩,⟨(some 80),(some (79,true)),.mv (.t 9)⟩,⟨(some 81),none,.pick (.t 79) (.t 80) (.c (.dat (.bool false)))⟩,⟨(some 82),none,.mv (.t 81)⟩,⟨(some 83),(some (82,true)),.mv (.t 8)⟩,⟨(some 84),(some (82,true)),.call id_law06_number [(.c (.dat (.int .i64 (-2))))]⟩,⟨(some 85),(some (82,true)),.call id_law06_number [(.c (.dat (.int .i64 1)))]⟩,⟨(some 86),(some (82,true)),.bsl 105086 false [(.dat (.int .i64 0)),.nil,(.dat (.int .i64 0)),.nil,(.dat (.int .i64 0)),.nil,(.dat (.int .i64 0)),.nil] 4 2 [(0,4,(.t 84)),(4,4,(.t 85))]⟩,⟨(some 87),(some (82,true)),.call id_ref06_Same [(.t 83),(.t 86)]⟩,⟨(some 88),none,.pick (.t 82) (.t 87) (.c (.dat (.bool false)))⟩,⟨(some 89),none,.mv (.t 88)⟩,⟨(some 90),(some (89,true)),.mv (.t 10)⟩,⟨(some 91),(some (89,true)),.bin .eql (.t 90) (.c (.dat (.int .i64 1)))⟩,⟨(some 92),none,.pick (.t 89) (.t 91) (.c (.dat (.bool false)))⟩,⟨(some 93),none,.mv (.t 92)⟩,⟨(some 94),(some (93,true)),.mv (.t 11)⟩,⟨(some 95),(some (93,true)),.bin .eql (.t 94) (.c (.dat (.int .i64 0)))⟩,⟨(some 96),none,.pick (.t 93) (.t 95) (.c (.dat (.bool false)))⟩,⟨(some 97),none,.mv (.t 96)⟩,⟨(some 98),(some (97,true)),.mv (.t 5)⟩,⟨(some 99),(some (97,true)),.mv (.t 8)⟩,⟨(some 100),(some (97,true)),.call id_linear_Check [(.t 98),(.c (.dat (.int .i64 2))),(.t 99)]⟩,⟨(some 101),(some (97,true)),.beq false (.t 100) (.c (.dat (.bool false)))⟩,⟨(some 102),none,.pick (.t 97) (.t 101) (.c (.dat (.bool false)))⟩,⟨(some 103),none,.mv (.t 102)⟩,⟨(some 104),(some (103,true)),.call id_linear_Right [(.c .nil),(.c (.dat (.int .i64 0)))]⟩,⟨(some 105),none,.pick (.t 103) (.t 104) (.c (.dat (.bool false)))⟩,⟨(some 0),none,.mv (.t 105)⟩])
 .ret)))))))))) }
def mf_law06_times:MFunc :=
 { n:=50,np:=2,res:=[.cell 4 5 true,.t 5],body :=
 (.seq (.ops [
 ⟨(some 2),none,.box 117002 (.t 0)⟩,⟨(some 3),none,.box 117003 (.t 1)⟩,⟨(some 4),none,.alloc 117004 [.nil,(.dat (.int .i64 0)),.nil,(.dat (.int .i64 0)),.nil]⟩,⟨(some 5),none,.mv (.c (.dat (.bool false)))⟩])
 (.seq (.ops [
 ⟨(some 6),none,.alloc 117006 [.nil,(.dat (.int .i64 0)),.nil,(.dat (.int .i64 0)),.nil]⟩])
 (.seq (.seq (.ops [
 ⟨(some 7),none,.mv (.c (.dat (.int .i64 0)))⟩])
 (.block 0
 (.loop
 (.seq (.seq (.ops [
 ⟨(some 12),none,.mv (.t 7)⟩,⟨(some 13),none,.fad 0 (.t 2)⟩,⟨(some 14),none,.load 1 false (.t 13)⟩,⟨(some 15),none,.len (.t 14)⟩,⟨(some 16),none,.bin .lss (.t 12) (.t 15)⟩])
 (.cond (.t 16)
 .skip
 (.exit 0)))
 (.seq (.block 1
 (.seq (.opsD [
 ⟨(some 20),none,.fad 0 (.t 2)⟩,⟨(some 21),none,.load 1 false (.t 20)⟩,⟨(some 22),none,.mv (.t 7)⟩,⟨(some 23),none,.iad 4 (.t 21) (.t 22)⟩,⟨(some 24),none,.load 4 true (.t 23)⟩,⟨(some 25),none,.load 4 true (.t 3)⟩,⟨(some 26),none,.call id_frac_Mul [(.t 24),(.t 25)]⟩,⟨(some 19),none,.mv (.t 26)⟩,⟨(some 27),none,.ext 0 (.t 19)⟩,⟨(some 28),none,.ext 1 (.t 19)⟩,⟨(some 8),none,.alloc 117008 [(.dat (.int .i64 0)),.nil,(.dat (.int .i64 0)),.nil]⟩,⟨none,none,.store 4 (.t 8) (.t 27)⟩,⟨(some 9),none,.mv (.t 28)⟩] [[],[],[],[],[],[],[],[],[],[],[1,4,5],[],[]])
 (.seq (.seq (.ops [
 ⟨(some 29),none,.mv (.t 9)⟩,⟨(some 30),none,.bin .neq (.t 29) (.c (.dat (.int .i64 0)))⟩])
 (.cond (.t 30)
 (.seq (.ops [
 ⟨(some 31),none,.load 5 true (.t 6)⟩,⟨none,none,.store 5 (.t 4) (.t 31)⟩,⟨(some 5),none,.mv (.c (.dat (.bool false)))⟩])
 .ret)
 .skip))
 (.ops [
 ⟨(some 32),none,.fad 0 (.t 6)⟩,⟨(some 33),none,.load 1 false (.t 32)⟩,⟨(some 34),none,.load 4 true (.t 8)⟩,⟨(some 35),none,.bsl 117035 false [(.dat (.int .i64 0)),.nil,(.dat (.int .i64 0)),.nil] 4 1 [(0,4,(.t 34))]⟩,⟨(some 36),none,.app 117036 [(.dat (.int .i64 0)),.nil,(.dat (.int .i64 0)),.nil] 64 (.t 33) (.t 35)⟩,⟨(some 37),none,.fad 0 (.t 6)⟩,⟨none,none,.store 1 (.t 37) (.t 36)⟩]))))
 (.ops [
 ⟨(some 17),none,.mv (.t 7)⟩,⟨(some 18),none,.bin .add (.t 17) (.c (.dat (.int .i64 1)))⟩,⟨(some 7),none,.mv (.t 18)⟩]))))))
 (.seq (.ops [
 ⟨(some 39),none,.fad 1 (.t 2)⟩,⟨(some 40),none,.load 4 true (.t 39)⟩,⟨(some 41),none,.load 4 true (.t 3)⟩,⟨(some 42),none,.call id_frac_Mul [(.t 40),(.t 41)]⟩,⟨(some 38),none,.mv (.t 42)⟩,⟨(some 43),none,.ext 0 (.t 38)⟩,⟨(some 44),none,.ext 1 (.t 38)⟩,⟨(some 10),none,.alloc 117010 [(.dat (.int .i64 0)),.nil,(.dat (.int .i64 0)),.nil]⟩,⟨none,none,.store 4 (.t 10) (.t 43)⟩,⟨(some 11),none,.mv (.t 44)⟩])
 (.seq (.ops [
 ⟨(some 45),none,.load 4 true (.t 10)⟩,⟨(some 46),none,.fad 1 (.t 6)⟩,⟨none,none,.store 4 (.t 46) (.t 45)⟩])
 (.seq (.ops [
 ⟨(some 47),none,.load 5 true (.t 6)⟩,⟨(some 48),none,.mv (.t 11)⟩,⟨(some 49),none,.bin .eql (.t 48) (.c (.dat (.int .i64 0)))⟩,⟨none,none,.store 5 (.t 4) (.t 47)⟩,⟨(some 5),none,.mv (.t 49)⟩])
 .ret)))))) }
def mf_law06_plus:MFunc :=
 { n:=62,np:=2,res:=[.cell 4 5 true,.t 5],body :=
 (.seq (.ops [
 ⟨(some 2),none,.box 118002 (.t 0)⟩,⟨(some 3),none,.box 118003 (.t 1)⟩,⟨(some 4),none,.alloc 118004 [.nil,(.dat (.int .i64 0)),.nil,(.dat (.int .i64 0)),.nil]⟩,⟨(some 5),none,.mv (.c (.dat (.bool false)))⟩])
 (.seq (.ops [
 ⟨(some 6),none,.alloc 118006 [.nil,(.dat (.int .i64 0)),.nil,(.dat (.int .i64 0)),.nil]⟩])
 (.seq (.seq (.ops [
 ⟨(some 7),none,.mv (.c (.dat (.int .i64 0)))⟩])
 (.block 0
 (.loop
 (.seq (.seq (.ops [
 ⟨(some 12),none,.mv (.t 7)⟩,⟨(some 13),none,.fad 0 (.t 2)⟩,⟨(some 14),none,.load 1 false (.t 13)⟩,⟨(some 15),none,.len (.t 14)⟩,⟨(some 16),none,.bin .lss (.t 12) (.t 15)⟩,⟨(some 17),none,.mv (.t 16)⟩,⟨(some 18),(some (17,true)),.mv (.t 7)⟩,⟨(some 19),(some (17,true)),.fad 0 (.t 3)⟩,⟨(some 20),(some (17,true)),.load 1 false (.t 19)⟩,⟨(some 21),(some (17,true)),.len (.t 20)⟩,⟨(some 22),(some (17,true)),.bin .lss (.t 18) (.t 21)⟩,⟨(some 23),none,.pick (.t 17) (.t 22) (.c (.dat (.bool false)))⟩])
 (.cond (.t 23)
 .skip
 (.exit 0)))
 (.seq (.block 1
 (.seq (.opsD [
 ⟨(some 27),none,.fad 0 (.t 2)⟩,⟨(some 28),none,.load 1 false (.t 27)⟩,⟨(some 29),none,.mv (.t 7)⟩,⟨(some 30),none,.iad 4 (.t 28) (.t 29)⟩,⟨(some 31),none,.load 4 true (.t 30)⟩,⟨(some 32),none,.fad 0 (.t 3)⟩,⟨(some 33),none,.load 1 false (.t 32)⟩,⟨(some 34),none,.mv (.t 7)⟩,⟨(some 35),none,.iad 4 (.t 33) (.t 34)⟩,⟨(some 36),none,.load 4 true (.t 35)⟩,⟨(some 37),none,.call id_frac_Add [(.t 31),(.t 36)]⟩,⟨(some 26),none,.mv (.t 37)⟩,⟨(some 38),none,.ext 0 (.t 26)⟩,⟨(some 39),none,.ext 1 (.t 26)⟩,⟨(some 8),none,.alloc 118008 [(.dat (.int .i64 0)),.nil,(.dat (.int .i64 0)),.nil]⟩,⟨none,none,.store 4 (.t 8) (.t 38)⟩,⟨(some 9),none,.mv (.t 39)⟩] [[],[],[],[],[],[],[],[],[],[],[],[],[],[],[1,4,6,9],[],[]])
 (.seq (.seq (.ops [
 ⟨(some 40),none,.mv (.t 9)⟩,⟨(some 41),none,.bin .neq (.t 40) (.c (.dat (.int .i64 0)))⟩])
 (.cond (.t 41)
 (.seq (.ops [
 ⟨(some 42),none,.load 5 true (.t 6)⟩,⟨none,none,.store 5 (.t 4) (.t 42)⟩,⟨(some 5),none,.mv (.c (.dat (.bool false)))⟩])
 .ret)
 .skip))
 (.ops [
 ⟨(some 43),none,.fad 0 (.t 6)⟩,⟨(some 44),none,.load 1 false (.t 43)⟩,⟨(some 45),none,.load 4 true (.t 8)⟩,⟨(some 46),none,.bsl 118046 false [(.dat (.int .i64 0)),.nil,(.dat (.int .i64 0)),.nil] 4 1 [(0,4,(.t 45))]⟩,⟨(some 47),none,.app 118047 [(.dat (.int .i64 0)),.nil,(.dat (.int .i64 0)),.nil] 64 (.t 44) (.t 46)⟩,⟨(some 48),none,.fad 0 (.t 6)⟩,⟨none,none,.store 1 (.t 48) (.t 47)⟩]))))
 (.ops [
 ⟨(some 24),none,.mv (.t 7)⟩,⟨(some 25),none,.bin .add (.t 24) (.c (.dat (.int .i64 1)))⟩,⟨(some 7),none,.mv (.t 25)⟩]))))))
 (.seq (.ops [
 ⟨(some 50),none,.fad 1 (.t 2)⟩,⟨(some 51),none,.load 4 true (.t 50)⟩,⟨(some 52),none,.fad 1 (.t 3)⟩,⟨(some 53),none,.load 4 true (.t 52)⟩,⟨(some 54),none,.call id_frac_Add [(.t 51),(.t 53)]⟩,⟨(some 49),none,.mv (.t 54)⟩,⟨(some 55),none,.ext 0 (.t 49)⟩,⟨(some 56),none,.ext 1 (.t 49)⟩,⟨(some 10),none,.alloc 118010 [(.dat (.int .i64 0)),.nil,(.dat (.int .i64 0)),.nil]⟩,⟨none,none,.store 4 (.t 10) (.t 55)⟩,⟨(some 11),none,.mv (.t 56)⟩])
 (.seq (.ops [
 ⟨(some 57),none,.load 4 true (.t 10)⟩,⟨(some 58),none,.fad 1 (.t 6)⟩,⟨none,none,.store 4 (.t 58) (.t 57)⟩])
 (.seq (.ops [
 ⟨(some 59),none,.load 5 true (.t 6)⟩,⟨(some 60),none,.mv (.t 11)⟩,⟨(some 61),none,.bin .eql (.t 60) (.c (.dat (.int .i64 0)))⟩,⟨none,none,.store 5 (.t 4) (.t 59)⟩,⟨(some 5),none,.mv (.t 61)⟩])
 .ret)))))) }
def mf_law06_number:MFunc :=
 { n:=11,np:=1,res:=[.cell 2 4 true],body :=
 (.seq (.ops [
 ⟨(some 2),none,.alloc 122002 [(.dat (.int .i64 0)),.nil,(.dat (.int .i64 0)),.nil]⟩])
 (.seq (.ops [
 ⟨(some 6),none,.mv (.t 0)⟩,⟨(some 7),none,.call id_ref05_Of [(.t 6),(.c (.dat (.int .i64 1)))]⟩,⟨(some 5),none,.mv (.t 7)⟩,⟨(some 8),none,.ext 0 (.t 5)⟩,⟨(some 9),none,.ext 1 (.t 5)⟩,⟨(some 3),none,.alloc 122003 [(.dat (.int .i64 0)),.nil,(.dat (.int .i64 0)),.nil]⟩,⟨none,none,.store 4 (.t 3) (.t 8)⟩,⟨(some 4),none,.mv (.t 9)⟩])
 (.seq (.ops [
 ⟨(some 10),none,.load 4 true (.t 3)⟩,⟨none,none,.store 4 (.t 2) (.t 10)⟩])
 .ret))) }
def mf_law06_row:MFunc :=
 { n:=31,np:=1,res:=[.cell 2 5 true],body :=
 (.seq (.ops [
 ⟨(some 2),none,.alloc 123002 [.nil,(.dat (.int .i64 0)),.nil,(.dat (.int .i64 0)),.nil]⟩])
 (.seq (.ops [
 ⟨(some 3),none,.alloc 123003 [.nil,(.dat (.int .i64 0)),.nil,(.dat (.int .i64 0)),.nil]⟩])
 (.seq (.seq (.ops [
 ⟨(some 4),none,.mv (.c (.dat (.int .i64 0)))⟩])
 (.block 0
 (.loop
 (.seq (.seq (.ops [
 ⟨(some 5),none,.mv (.t 4)⟩,⟨(some 6),none,.mv (.t 0)⟩,⟨(some 7),none,.len (.t 6)⟩,⟨(some 8),none,.bin .sub (.t 7) (.c (.dat (.int .i64 1)))⟩,⟨(some 9),none,.bin .lss (.t 5) (.t 8)⟩])
 (.cond (.t 9)
 .skip
 (.exit 0)))
 (.seq (.block 1
 (.opsD [
 ⟨(some 12),none,.fad 0 (.t 3)⟩,⟨(some 13),none,.load 1 false (.t 12)⟩,⟨(some 14),none,.mv (.t 0)⟩,⟨(some 15),none,.mv (.t 4)⟩,⟨(some 16),none,.iad 1 (.t 14) (.t 15)⟩,⟨(some 17),none,.load 1 false (.t 16)⟩,⟨(some 18),none,.call id_law06_number [(.t 17)]⟩,⟨(some 19),none,.bsl 123019 false [(.dat (.int .i64 0)),.nil,(.dat (.int .i64 0)),.nil] 4 1 [(0,4,(.t 18))]⟩,⟨(some 20),none,.app 123020 [(.dat (.int .i64 0)),.nil,(.dat (.int .i64 0)),.nil] 64 (.t 13) (.t 19)⟩,⟨(some 21),none,.fad 0 (.t 3)⟩,⟨none,none,.store 1 (.t 21) (.t 20)⟩] [[],[],[],[],[],[],[],[],[],[],[]]))
 (.ops [
 ⟨(some 10),none,.mv (.t 4)⟩,⟨(some 11),none,.bin .add (.t 10) (.c (.dat (.int .i64 1)))⟩,⟨(some 4),none,.mv (.t 11)⟩]))))))
 (.seq (.ops [
 ⟨(some 22),none,.mv (.t 0)⟩,⟨(some 23),none,.mv (.t 0)⟩,⟨(some 24),none,.len (.t 23)⟩,⟨(some 25),none,.bin .sub (.t 24) (.c (.dat (.int .i64 1)))⟩,⟨(some 26),none,.iad 1 (.t 22) (.t 25)⟩,⟨(some 27),none,.load 1 false (.t 26)⟩,⟨(some 28),none,.call id_law06_number [(.t 27)]⟩,⟨(some 29),none,.fad 1 (.t 3)⟩,⟨none,none,.store 4 (.t 29) (.t 28)⟩])
 (.seq (.ops [
 ⟨(some 30),none,.load 5 true (.t 3)⟩,⟨none,none,.store 5 (.t 2) (.t 30)⟩])
 .ret))))) }
end Go.Mini
namespace Go.Mini
open Go
set_option maxRecDepth 10000
set_option maxHeartbeats 4000000
def numF (n:Int):FRaw:=encR (n:Rat)
theorem newR_num {n:Int} (h:i64R n):newR (encB n) (encB 1) = (numF n,0):=by
  rw [newR_enc (lim_i64 h) (lim_i64 (by unfold i64R; omega)) (by omega)]
  exact Prod.ext (congrArg encR (Rat.num_divInt_den (n:Rat))) rfl
theorem numF_len {n:Int} (h:i64R n):(numF n).1.2.length ≤ 1000000 ∧ (numF n).2.2.length ≤ 1000000:=by
  have h1:=newR_num h
  have h2:=okF_new (encB n) (encB 1)
  rw [h1] at h2
  exact h2
theorem okF_num {n:Int} (h:i64R n):okF (numF n):=numF_len h
noncomputable def F_wnum:List Data → Option PRes:=FF (α:=Int) (fun (n:Int) => ([.int .i64 n]:List Data)) (fun (n:Int) => onlyIf (i64R n) (.same (.agg (fracL (numF n)))))
theorem F_wnum_inj:∀ a b:Int,(fun (n:Int) => ([.int .i64 n]:List Data)) a = (fun (n:Int) => ([.int .i64 n]:List Data)) b → a = b:=by
    intro n1 n2 h
    simp only [yM,Data.int.injEq,Data.agg.injEq,Data.sl.injEq,Data.bool.injEq,Data.str.injEq,Data.ptr.injEq,Data.tup.injEq,Prod.mk.injEq,true_and,and_true] at h ⊢
    first | exact h | simpa [Prod.ext_iff,and_assoc] using h | grind
@[go_sem] theorem F_wnum_eq (n:Int) (hc:i64R n):F_wnum [.int .i64 n] = some (.same (.agg (fracL (numF n)))):=(FF_eq F_wnum_inj n).trans (onlyIf_pos hc _)
theorem w_wnum (T:Tab) (h_gOf:T id_ref05_Of = mkE F_gOf) (n:Int) (hc:i64R n) :
    wp T mf_law06_number.body (endS mf_law06_number.res (.same (.agg (fracL (numF n))))) ⟨initTm [.dat (.int .i64 n)],emp⟩:=by
  refine wp_start ?_
  simp only [mf_law06_number]
  have h1:i64R 1:=by unfold i64R; omega
  have hF:=F_gOf_eq n 1 ⟨hc,h1⟩
  rw [newR_num hc] at hF
  simp only [fracE,fracL] at hF
  simp only [go_sem,reduceIte,yA,yB,yC,yD,yE,yH,reduceCtorEq,yF,yG,yI,h_gOf,hF,fracL]
  repeat' (first | refine wpG_not ?_ ?_ | refine wpG_yes ?_ ?_ | refine wpB_not ?_ ?_ | refine wpB_yes ?_ ?_ | refine wpGD_not ?_ ?_ | refine wpGD_yes ?_ ?_) <;> intro h <;> simp only [h,go_sem,reduceIte,yA,yB,yC,yD,yE,yH,reduceCtorEq,yF,yG,yI,h_gOf,hF,fracL]
def rowOf (l:List Int):RowD:=(l.dropLast.map numF,numF (l.getLastD 0))
theorem rowOf_at {l:List Int} {i:Nat} {x:Int} (hx:l[i]? = some x) (h:i + 1 < l.length):(l.take (i + 1)).map numF = (l.take i).map numF ++ [numF x]:=by
  rw [List.take_add_one,hx,List.map_append]
  rfl
noncomputable def F_wrow:List Data → Option PRes:=FF (α:=List Int) (fun (l:List Int) => ([.sl (l.map i64L)]:List Data)) (fun (l:List Int) => onlyIf (2 ≤ l.length ∧ l.length ≤ 1000 ∧ ∀ x ∈ l,i64R x) (.same (.agg (rowL (rowOf l)))))
theorem F_wrow_inj:∀ a b:List Int,(fun (l:List Int) => ([.sl (l.map i64L)]:List Data)) a = (fun (l:List Int) => ([.sl (l.map i64L)]:List Data)) b → a = b:=by
    intro l1 l2 h
    exact map_inj i64L_inj _ _ (by simpa using h)
@[go_sem] theorem F_wrow_eq (l:List Int) (hc:2 ≤ l.length ∧ l.length ≤ 1000 ∧ ∀ x ∈ l,i64R x):F_wrow [.sl (l.map i64L)] = some (.same (.agg (rowL (rowOf l)))):=(FF_eq F_wrow_inj l).trans (onlyIf_pos hc _)
theorem w_wrow (T:Tab) (h_wnum:T id_law06_number = mkE F_wnum) (l:List Int) (hc:2 ≤ l.length ∧ l.length ≤ 1000 ∧ ∀ x ∈ l,i64R x) :
    wp T mf_law06_row.body (endS mf_law06_row.res (.same (.agg (rowL (rowOf l))))) ⟨initTm [.dat (.sl (l.map i64L))],emp⟩:=by
  refine wp_start ?_
  simp only [mf_law06_row]
  obtain ⟨hl,hlm,hlr⟩:=hc
  have hw0:IntKind.i64.wrap ((l.length:Int) - 1) = ((l.length - 1:Nat):Int):=by rw [wrap64 _ (by omega) (by omega)]; omega
  simp only [go_sem,reduceIte,yA,yB,yC,yD,yE,yH,reduceCtorEq,yF,yG,yI,h_wnum,yJ]
  refine wp_loop_keep [0,2,3] [123002] (fun ((i,g):Nat × Nat) tm mem => i ≤ l.length - 1 ∧ tm 4 = .dat (.int .i64 i) ∧ (i = 0 → mem 123003 = some (0,[.nil,.dat (.int .i64 0),.nil,.dat (.int .i64 0),.nil])) ∧ (0 < i → mem 123003 = some (0,[.ref 123020 g 4 0 i,.dat (.int .i64 0),.nil,.dat (.int .i64 0),.nil]) ∧ mem 123020 = some (g,rowE fracL ((l.take i).map numF)))) (fun (i,_) => l.length - 1 - i) (0,0) (by refine ⟨Nat.zero_le _,rfl,fun _ => rfl,fun h => absurd h (by omega)⟩) ?_
  intro vs ms hvs hms
  simp only [go_sem,reduceIte,yA,yB,yC,yD,yE,yH,reduceCtorEq,yF,yG,yI,h_wnum,yJ] at hvs hms
  subst hvs hms
  rintro ⟨i,g⟩ tm mem hk hm ⟨hi,h4,hz,hp⟩
  simp only [go_sem,reduceIte,yA,yB,yC,yD,yE,yH,reduceCtorEq,yF,yG,yI,h_wnum,yM] at hk hm
  obtain ⟨h0,h2,h3⟩:=hk
  rcases Decidable.em (i < l.length - 1) with hlt | hge
  · obtain ⟨x,hx⟩:∃ x,l[i]? = some x:=⟨_,yL (by omega)⟩
    have hxr:i64R x:=hlr x (List.mem_of_getElem? hx)
    have d1:decide ((i:Int) < ((l.length - 1:Nat):Int)) = true:=decide_eq_true (by omega)
    have w3:IntKind.i64.wrap ((i:Int) + 1) = ((i + 1:Nat):Int):=by rw [wrap64 _ (by omega) (by omega)]; omega
    have hmx:(1 ≤ maxLen) = True:=eq_true (by unfold maxLen; omega)
    have hnx:=rowOf_at hx (by omega)
    rcases hnf:numF x with ⟨⟨a,b⟩,⟨c,d⟩⟩
    rw [hnf] at hnx
    rcases Nat.eq_zero_or_pos i with h0' | hpos
    · have hm3:=hz h0'
      have hnx0:=hnx
      rw [h0'] at hnx0
      simp only [List.take_zero,List.map_nil,List.nil_append] at hnx0
      simp only [go_sem,reduceIte,yA,yB,yC,yD,yE,yH,reduceCtorEq,yF,yG,yI,h_wnum,h0,h2,h3,h4,hm,hm3,hx,hxr,hnf,d1,w3,hw0,hmx,fracL,i64L,yJ,yK]
      repeat' (first | refine wpG_not ?_ ?_ | refine wpG_yes ?_ ?_ | refine wpB_not ?_ ?_ | refine wpB_yes ?_ ?_ | refine wpGD_not ?_ ?_ | refine wpGD_yes ?_ ?_) <;> intro h <;> simp only [h,go_sem,reduceIte,yA,yB,yC,yD,yE,yH,reduceCtorEq,yF,yG,yI,h_wnum,h0,h2,h3,h4,hm,hm3,hx,hxr,hnf,d1,w3,hw0,hmx,fracL,i64L,yJ,yK]
      exact ⟨(i + 1,nextO (mem 123020)),by dsimp only; omega,by dsimp only; omega,rfl,fun h => by dsimp only at h; omega,fun _ => ⟨by rw [h0'],by dsimp only; rw [h0',hnx0]; rfl⟩⟩
    · obtain ⟨hm3,hm20⟩:=hp hpos
      have htl:((l.take i).map numF).length = i:=by rw [yJ,List.length_take]; omega
      have hap:=app_row fracL_len fracL_one 123020 g 64 ((l.take i).map numF) ((a,b),(c,d)) (cs:=[.dat (.int .i64 a),.dat (.sl (b.map i64L)),.dat (.int .i64 c),.dat (.sl (d.map i64L))]) rfl (by omega) (by omega)
      rw [htl,← hnx] at hap
      simp only [go_sem,reduceIte,yA,yB,yC,yD,yE,yH,reduceCtorEq,yF,yG,yI,h_wnum,h0,h2,h3,h4,hm,hm3,hm20,hx,hxr,hnf,d1,w3,hw0,hmx,hap,fracL,i64L,yJ,yK]
      repeat' (first | refine wpG_not ?_ ?_ | refine wpG_yes ?_ ?_ | refine wpB_not ?_ ?_ | refine wpB_yes ?_ ?_ | refine wpGD_not ?_ ?_ | refine wpGD_yes ?_ ?_) <;> intro h <;> simp only [h,go_sem,reduceIte,yA,yB,yC,yD,yE,yH,reduceCtorEq,yF,yG,yI,h_wnum,h0,h2,h3,h4,hm,hm3,hm20,hx,hxr,hnf,d1,w3,hw0,hmx,hap,fracL,i64L,yJ,yK]
      exact ⟨(i + 1,g + 1),by dsimp only; omega,by dsimp only; omega,rfl,fun h => by dsimp only at h; omega,fun _ => ⟨rfl,rfl⟩⟩
  · obtain rfl:i = l.length - 1:=by omega
    obtain ⟨hm3,hm20⟩:=hp (by omega)
    have d1:decide (((l.length - 1:Nat):Int) < ((l.length - 1:Nat):Int)) = false:=decide_eq_false (by omega)
    obtain ⟨x,hx⟩:∃ x,l[l.length - 1]? = some x:=⟨_,yL (by omega)⟩
    have hxr:i64R x:=hlr x (List.mem_of_getElem? hx)
    have hrow:rowOf l = ((l.take (l.length - 1)).map numF,numF x):=by
      unfold rowOf
      rw [List.dropLast_eq_take,List.getLastD_eq_getLast?,List.getLast?_eq_getElem?,hx]
      rfl
    have hD:∀ n (m:Mem),m 123020 = some (g,rowE fracL ((l.take (l.length - 1)).map numF)) → toD (n + 1) m (.ref 123020 g 4 0 (l.length - 1)) = some (.sl (((l.take (l.length - 1)).map numF).map fracL)):=fun n m hm => by
      have:=toD_row (n:=n) fracL_len hm
      rw [show ((l.take (l.length - 1)).map numF).length = l.length - 1 by rw [yJ,List.length_take]; omega] at this
      exact this
    rcases hnf:numF x with ⟨⟨a,b⟩,⟨c,d⟩⟩
    rw [hrow,hnf]
    simp only [go_sem,reduceIte,yA,yB,yC,yD,yE,yH,reduceCtorEq,yF,yG,yI,h_wnum,h0,h2,h3,h4,hm,hm3,hx,hxr,hnf,d1,hw0,fracL,i64L,rowL,yJ,yK]
    repeat' (first | refine wpG_not ?_ ?_ | refine wpG_yes ?_ ?_ | refine wpB_not ?_ ?_ | refine wpB_yes ?_ ?_ | refine wpGD_not ?_ ?_ | refine wpGD_yes ?_ ?_) <;> intro h <;> simp only [h,go_sem,reduceIte,yA,yB,yC,yD,yE,yH,reduceCtorEq,yF,yG,yI,h_wnum,h0,h2,h3,h4,hm,hm3,hx,hxr,hnf,d1,hw0,fracL,i64L,rowL,yJ,yK]
    rw [hD 4 _ (by simp [updM,hm20])]
    rfl
end Go.Mini
namespace Go.Mini
open Go
set_option maxRecDepth 10000
set_option maxHeartbeats 4000000
theorem rowL_one (r:RowD):((rowL r).map MV.dat).all MV.one = true:=rfl
def homog (rs:List RowD):List RowD:=rs.map fun r => (r.1,numF 0)
theorem numF_zero:numF 0 = zF:=encR_zero
theorem i64_0:i64R 0:=by unfold i64R; omega
/-- All operations on a row's elements succeed. -/
def timesOK (r:RowD) (f:FRaw):Prop:=(∀ a ∈ r.1,(mulF a f).2 = 0) ∧ (mulF r.2 f).2 = 0
def timesX (r:RowD) (f:FRaw):RowD:=(r.1.map fun a => (mulF a f).1,(mulF r.2 f).1)
noncomputable def F_wtimes:List Data → Option PRes:=FF (α:=RowD × FRaw) (fun (r,f) => ([.agg (rowL r),.agg (fracL f)]:List Data)) (fun (r,f) => onlyIf (r.1.length ≤ 1000 ∧ okRow r ∧ okF f ∧ timesOK r f) (.same (.tup [.agg (rowL (timesX r f)),.bool true])))
theorem F_wtimes_inj:∀ a b:RowD × FRaw,(fun (r,f) => ([.agg (rowL r),.agg (fracL f)]:List Data)) a = (fun (r,f) => ([.agg (rowL r),.agg (fracL f)]:List Data)) b → a = b:=by
    rintro ⟨r1,f1⟩ ⟨r2,f2⟩ h
    simp only [yM,Data.agg.injEq] at h; exact Prod.ext (rowL_inj _ _ h.1) (fracL_inj _ _ h.2.1)
@[go_sem] theorem F_wtimes_eq (r:RowD) (f:FRaw) (hc:r.1.length ≤ 1000 ∧ okRow r ∧ okF f ∧ timesOK r f):F_wtimes [.agg (rowL r),.agg (fracL f)] = some (.same (.tup [.agg (rowL (timesX r f)),.bool true])):=(FF_eq F_wtimes_inj (r,f)).trans (onlyIf_pos hc _)
theorem w_wtimes (T:Tab) (h_fMul:T id_frac_Mul = mkE F_fMul) (r:RowD) (f:FRaw) (hc:r.1.length ≤ 1000 ∧ okRow r ∧ okF f ∧ timesOK r f) :
    wp T mf_law06_times.body (endS mf_law06_times.res (.same (.tup [.agg (rowL (timesX r f)),.bool true]))) ⟨initTm [.dat (.agg (rowL r)),.dat (.agg (fracL f))],emp⟩:=by
  refine wp_start ?_
  simp only [mf_law06_times]
  obtain ⟨hrl,⟨⟨-,hA⟩,hV1,hV2⟩,⟨hf1,hf2⟩,hok,hokV⟩:=hc
  obtain ⟨A,⟨v1,v2⟩,⟨v3,v4⟩⟩:=r
  obtain ⟨⟨f1,f2⟩,⟨f3,f4⟩⟩:=f
  dsimp only at hrl hA hV1 hV2 hf1 hf2 hok hokV
  obtain ⟨B,hB⟩:∃ B:List FRaw,B = A.map fun a => (mulF a ((f1,f2),(f3,f4))).1:=⟨_,rfl⟩
  have hBl:B.length = A.length:=by rw [hB,yJ]
  rcases hMV:mulF ((v1,v2),(v3,v4)) ((f1,f2),(f3,f4)) with ⟨⟨⟨p1,p2⟩,⟨p3,p4⟩⟩,pe⟩
  rw [hMV] at hokV
  dsimp only at hokV
  subst hokV
  have hres:timesX (A,((v1,v2),(v3,v4))) ((f1,f2),(f3,f4)) = (B,((p1,p2),(p3,p4))):=by unfold timesX; rw [hB]; dsimp only; rw [hMV]
  rw [hres]
  simp only [go_sem,reduceIte,yA,yB,yC,yD,yE,yH,reduceCtorEq,yF,yG,yI,h_fMul,rowL,fracL,yJ]
  refine wp_loop_keep [2,3,4,6] [117002,117003,117004] (fun ((i,g):Nat × Nat) tm mem => i ≤ A.length ∧ tm 7 = .dat (.int .i64 i) ∧ (i = 0 → mem 117006 = some (0,[.nil,.dat (.int .i64 0),.nil,.dat (.int .i64 0),.nil])) ∧ (0 < i → mem 117006 = some (0,[.ref 117036 g 4 0 i,.dat (.int .i64 0),.nil,.dat (.int .i64 0),.nil]) ∧ mem 117036 = some (g,rowE fracL (B.take i)))) (fun (i,_) => A.length - i) (0,0) (by refine ⟨Nat.zero_le _,rfl,fun _ => rfl,fun h => absurd h (by omega)⟩) ?_
  intro vs ms hvs hms
  simp only [go_sem,reduceIte,yA,yB,yC,yD,yE,yH,reduceCtorEq,yF,yG,yI,h_fMul,rowL,fracL,yJ] at hvs hms
  subst hvs hms
  rintro ⟨i,g⟩ tm mem hk hm ⟨hi,h7,hz,hp⟩
  simp only [go_sem,reduceIte,yA,yB,yC,yD,yE,yH,reduceCtorEq,yF,yG,yI,h_fMul,yM] at hk hm
  obtain ⟨h2,h3,h4,h6⟩:=hk
  obtain ⟨m2,m3,m4⟩:=hm
  rcases Decidable.em (i < A.length) with hlt | hge
  · obtain ⟨⟨⟨a1,a2⟩,⟨a3,a4⟩⟩,hx⟩:∃ f,A[i]? = some f:=⟨_,yL hlt⟩
    obtain ⟨o1,o2⟩:=hA _ (List.mem_of_getElem? hx)
    have hm0:=hok _ (List.mem_of_getElem? hx)
    dsimp only at o1 o2
    rcases hM:mulF ((a1,a2),(a3,a4)) ((f1,f2),(f3,f4)) with ⟨⟨⟨b1,b2⟩,⟨b3,b4⟩⟩,be⟩
    rw [hM] at hm0
    dsimp only at hm0
    subst hm0
    have hbx:B[i]? = some ((b1,b2),(b3,b4)):=by rw [hB,yK,hx,Option.map_some,hM]
    have hnt:B.take i ++ [((b1,b2),(b3,b4))] = B.take (i + 1):=by rw [List.take_add_one,hbx]; rfl
    have d1:decide ((i:Int) < (A.length:Int)) = true:=decide_eq_true (by omega)
    have w3:IntKind.i64.wrap ((i:Int) + 1) = ((i + 1:Nat):Int):=by rw [wrap64 _ (by omega) (by omega)]; omega
    have hmx:(1 ≤ maxLen) = True:=eq_true (by unfold maxLen; omega)
    rcases Nat.eq_zero_or_pos i with h0' | hpos
    · have hm6:=hz h0'
      have hnx0:=hnt
      rw [h0'] at hnx0
      simp only [List.take_zero,List.nil_append] at hnx0
      simp only [go_sem,reduceIte,yA,yB,yC,yD,yE,yH,reduceCtorEq,yF,yG,yI,h_fMul,h2,h3,h4,h6,h7,m2,m3,m4,hm6,hx,hM,o1,o2,hf1,hf2,d1,w3,hmx,rowL,fracL,fracE,i64L,yJ,yK,beq_self_eq_true,Bool.not_true,bne]
      repeat' (first | refine wpG_not ?_ ?_ | refine wpG_yes ?_ ?_ | refine wpB_not ?_ ?_ | refine wpB_yes ?_ ?_ | refine wpGD_not ?_ ?_ | refine wpGD_yes ?_ ?_) <;> intro h <;> simp only [h,go_sem,reduceIte,yA,yB,yC,yD,yE,yH,reduceCtorEq,yF,yG,yI,h_fMul,h2,h3,h4,h6,h7,m2,m3,m4,hm6,hx,hM,o1,o2,hf1,hf2,d1,w3,hmx,rowL,fracL,fracE,i64L,yJ,yK,beq_self_eq_true,Bool.not_true,bne]
      exact ⟨(i + 1,nextO (mem 117036)),by dsimp only; omega,by dsimp only; omega,rfl,fun h => by dsimp only at h; omega,fun _ => ⟨by rw [h0'],by dsimp only; rw [h0',← hnx0]; rfl⟩⟩
    · obtain ⟨hm6,hm36⟩:=hp hpos
      have htl:(B.take i).length = i:=by rw [List.length_take]; omega
      have hap:=app_row fracL_len fracL_one 117036 g 64 (B.take i) ((b1,b2),(b3,b4)) (cs:=[.dat (.int .i64 b1),.dat (.sl (b2.map i64L)),.dat (.int .i64 b3),.dat (.sl (b4.map i64L))]) rfl (by omega) (by omega)
      rw [htl,hnt] at hap
      simp only [go_sem,reduceIte,yA,yB,yC,yD,yE,yH,reduceCtorEq,yF,yG,yI,h_fMul,h2,h3,h4,h6,h7,m2,m3,m4,hm6,hm36,hx,hM,o1,o2,hf1,hf2,d1,w3,hmx,hap,rowL,fracL,fracE,i64L,yJ,yK,beq_self_eq_true,Bool.not_true,bne]
      repeat' (first | refine wpG_not ?_ ?_ | refine wpG_yes ?_ ?_ | refine wpB_not ?_ ?_ | refine wpB_yes ?_ ?_ | refine wpGD_not ?_ ?_ | refine wpGD_yes ?_ ?_) <;> intro h <;> simp only [h,go_sem,reduceIte,yA,yB,yC,yD,yE,yH,reduceCtorEq,yF,yG,yI,h_fMul,h2,h3,h4,h6,h7,m2,m3,m4,hm6,hm36,hx,hM,o1,o2,hf1,hf2,d1,w3,hmx,hap,rowL,fracL,fracE,i64L,yJ,yK,beq_self_eq_true,Bool.not_true,bne]
      exact ⟨(i + 1,g + 1),by dsimp only; omega,by dsimp only; omega,rfl,fun h => by dsimp only at h; omega,fun _ => ⟨rfl,rfl⟩⟩
  · obtain rfl:i = A.length:=by omega
    have d1:decide ((A.length:Int) < (A.length:Int)) = false:=decide_eq_false (by omega)
    rw [List.take_of_length_le (by omega)] at hp
    rcases Nat.eq_zero_or_pos A.length with h0' | hpos
    · have hm6:=hz h0'
      have hBn:B = []:=List.eq_nil_of_length_eq_zero (by omega)
      simp only [go_sem,reduceIte,yA,yB,yC,yD,yE,yH,reduceCtorEq,yF,yG,yI,h_fMul,h2,h3,h4,h6,h7,m2,m3,m4,hm6,hMV,hV1,hV2,hf1,hf2,d1,rowL,fracL,fracE,i64L,yJ,beq_self_eq_true]
      repeat' (first | refine wpG_not ?_ ?_ | refine wpG_yes ?_ ?_ | refine wpB_not ?_ ?_ | refine wpB_yes ?_ ?_ | refine wpGD_not ?_ ?_ | refine wpGD_yes ?_ ?_) <;> intro h <;> simp only [h,go_sem,reduceIte,yA,yB,yC,yD,yE,yH,reduceCtorEq,yF,yG,yI,h_fMul,h2,h3,h4,h6,h7,m2,m3,m4,hm6,hMV,hV1,hV2,hf1,hf2,d1,rowL,fracL,fracE,i64L,yJ,beq_self_eq_true]
      rw [hBn]
      rfl
    · obtain ⟨hm6,hm36⟩:=hp hpos
      have hD:∀ n (m:Mem),m 117036 = some (g,rowE fracL B) → toD (n + 1) m (.ref 117036 g 4 0 A.length) = some (.sl (B.map fracL)):=fun n m hm => by
        have:=toD_row (n:=n) fracL_len hm
        rw [hBl] at this
        exact this
      simp only [go_sem,reduceIte,yA,yB,yC,yD,yE,yH,reduceCtorEq,yF,yG,yI,h_fMul,h2,h3,h4,h6,h7,m2,m3,m4,hm6,hMV,hV1,hV2,hf1,hf2,d1,rowL,fracL,fracE,i64L,yJ,beq_self_eq_true]
      repeat' (first | refine wpG_not ?_ ?_ | refine wpG_yes ?_ ?_ | refine wpB_not ?_ ?_ | refine wpB_yes ?_ ?_ | refine wpGD_not ?_ ?_ | refine wpGD_yes ?_ ?_) <;> intro h <;> simp only [h,go_sem,reduceIte,yA,yB,yC,yD,yE,yH,reduceCtorEq,yF,yG,yI,h_fMul,h2,h3,h4,h6,h7,m2,m3,m4,hm6,hMV,hV1,hV2,hf1,hf2,d1,rowL,fracL,fracE,i64L,yJ,beq_self_eq_true]
      rw [hD 3 _ (by simp [updM,hm36])]
      rfl
def plusOK (r r2:RowD):Prop:=r.1.length = r2.1.length ∧ (∀ (i:Nat) a b,r.1[i]? = some a → r2.1[i]? = some b → (addF a b).2 = 0) ∧ (addF r.2 r2.2).2 = 0
def plusX (r r2:RowD):RowD:=(List.zipWith (fun a b => (addF a b).1) r.1 r2.1,(addF r.2 r2.2).1)
noncomputable def F_wplus:List Data → Option PRes:=FF (α:=RowD × RowD) (fun (r,r2) => ([.agg (rowL r),.agg (rowL r2)]:List Data)) (fun (r,r2) => onlyIf (r.1.length ≤ 1000 ∧ okRow r ∧ okRow r2 ∧ plusOK r r2) (.same (.tup [.agg (rowL (plusX r r2)),.bool true])))
theorem F_wplus_inj:∀ a b:RowD × RowD,(fun (r,r2) => ([.agg (rowL r),.agg (rowL r2)]:List Data)) a = (fun (r,r2) => ([.agg (rowL r),.agg (rowL r2)]:List Data)) b → a = b:=by
    rintro ⟨r1,r21⟩ ⟨r2,r22⟩ h
    simp only [yM,Data.agg.injEq] at h; exact Prod.ext (rowL_inj _ _ h.1) (rowL_inj _ _ h.2.1)
@[go_sem] theorem F_wplus_eq (r:RowD) (r2:RowD) (hc:r.1.length ≤ 1000 ∧ okRow r ∧ okRow r2 ∧ plusOK r r2):F_wplus [.agg (rowL r),.agg (rowL r2)] = some (.same (.tup [.agg (rowL (plusX r r2)),.bool true])):=(FF_eq F_wplus_inj (r,r2)).trans (onlyIf_pos hc _)
theorem w_wplus (T:Tab) (h_fAdd:T id_frac_Add = mkE F_fAdd) (r:RowD) (r2:RowD) (hc:r.1.length ≤ 1000 ∧ okRow r ∧ okRow r2 ∧ plusOK r r2) :
    wp T mf_law06_plus.body (endS mf_law06_plus.res (.same (.tup [.agg (rowL (plusX r r2)),.bool true]))) ⟨initTm [.dat (.agg (rowL r)),.dat (.agg (rowL r2))],emp⟩:=by
  refine wp_start ?_
  simp only [mf_law06_plus]
  obtain ⟨hrl,⟨⟨-,hA⟩,hV1,hV2⟩,⟨⟨-,hC⟩,hW1,hW2⟩,hlen,hok,hokV⟩:=hc
  obtain ⟨A,⟨v1,v2⟩,⟨v3,v4⟩⟩:=r
  obtain ⟨C,⟨u1,u2⟩,⟨u3,u4⟩⟩:=r2
  dsimp only at hrl hA hV1 hV2 hC hW1 hW2 hlen hok hokV
  obtain ⟨B,hB⟩:∃ B:List FRaw,B = List.zipWith (fun a b => (addF a b).1) A C:=⟨_,rfl⟩
  have hBl:B.length = A.length:=by rw [hB,List.length_zipWith]; omega
  rcases hMV:addF ((v1,v2),(v3,v4)) ((u1,u2),(u3,u4)) with ⟨⟨⟨p1,p2⟩,⟨p3,p4⟩⟩,pe⟩
  rw [hMV] at hokV
  dsimp only at hokV
  subst hokV
  have hres:plusX (A,((v1,v2),(v3,v4))) (C,((u1,u2),(u3,u4))) = (B,((p1,p2),(p3,p4))):=by unfold plusX; rw [hB]; dsimp only; rw [hMV]
  rw [hres]
  simp only [go_sem,reduceIte,yA,yB,yC,yD,yE,yH,reduceCtorEq,yF,yG,yI,h_fAdd,rowL,fracL,yJ]
  refine wp_loop_keep [2,3,4,6] [118002,118003,118004] (fun ((i,g):Nat × Nat) tm mem => i ≤ A.length ∧ tm 7 = .dat (.int .i64 i) ∧ (i = 0 → mem 118006 = some (0,[.nil,.dat (.int .i64 0),.nil,.dat (.int .i64 0),.nil])) ∧ (0 < i → mem 118006 = some (0,[.ref 118047 g 4 0 i,.dat (.int .i64 0),.nil,.dat (.int .i64 0),.nil]) ∧ mem 118047 = some (g,rowE fracL (B.take i)))) (fun (i,_) => A.length - i) (0,0) (by refine ⟨Nat.zero_le _,rfl,fun _ => rfl,fun h => absurd h (by omega)⟩) ?_
  intro vs ms hvs hms
  simp only [go_sem,reduceIte,yA,yB,yC,yD,yE,yH,reduceCtorEq,yF,yG,yI,h_fAdd,rowL,fracL,yJ] at hvs hms
  subst hvs hms
  rintro ⟨i,g⟩ tm mem hk hm ⟨hi,h7,hz,hp⟩
  simp only [go_sem,reduceIte,yA,yB,yC,yD,yE,yH,reduceCtorEq,yF,yG,yI,h_fAdd,yM] at hk hm
  obtain ⟨h2,h3,h4,h6⟩:=hk
  obtain ⟨m2,m3,m4⟩:=hm
  rcases Decidable.em (i < A.length) with hlt | hge
  · obtain ⟨⟨⟨a1,a2⟩,⟨a3,a4⟩⟩,hx⟩:∃ f,A[i]? = some f:=⟨_,yL hlt⟩
    obtain ⟨⟨⟨c1,c2⟩,⟨c3,c4⟩⟩,hy⟩:∃ f,C[i]? = some f:=⟨_,yL (by omega)⟩
    obtain ⟨o1,o2⟩:=hA _ (List.mem_of_getElem? hx)
    obtain ⟨o3,o4⟩:=hC _ (List.mem_of_getElem? hy)
    have hm0:=hok i _ _ hx hy
    dsimp only at o1 o2 o3 o4
    rcases hM:addF ((a1,a2),(a3,a4)) ((c1,c2),(c3,c4)) with ⟨⟨⟨b1,b2⟩,⟨b3,b4⟩⟩,be⟩
    rw [hM] at hm0
    dsimp only at hm0
    subst hm0
    have hbx:B[i]? = some ((b1,b2),(b3,b4)):=by rw [hB,List.getElem?_zipWith,hx,hy]; dsimp only; rw [hM]
    have hnt:B.take i ++ [((b1,b2),(b3,b4))] = B.take (i + 1):=by rw [List.take_add_one,hbx]; rfl
    have d1:decide ((i:Int) < (A.length:Int)) = true:=decide_eq_true (by omega)
    have d2:decide ((i:Int) < (C.length:Int)) = true:=decide_eq_true (by omega)
    have w3:IntKind.i64.wrap ((i:Int) + 1) = ((i + 1:Nat):Int):=by rw [wrap64 _ (by omega) (by omega)]; omega
    have hmx:(1 ≤ maxLen) = True:=eq_true (by unfold maxLen; omega)
    rcases Nat.eq_zero_or_pos i with h0' | hpos
    · have hm6:=hz h0'
      have hnx0:=hnt
      rw [h0'] at hnx0
      simp only [List.take_zero,List.nil_append] at hnx0
      simp only [go_sem,reduceIte,yA,yB,yC,yD,yE,yH,reduceCtorEq,yF,yG,yI,h_fAdd,h2,h3,h4,h6,h7,m2,m3,m4,hm6,hx,hy,hM,o1,o2,o3,o4,d1,d2,w3,hmx,rowL,fracL,fracE,i64L,yJ,yK,beq_self_eq_true,Bool.not_true,bne]
      repeat' (first | refine wpG_not ?_ ?_ | refine wpG_yes ?_ ?_ | refine wpB_not ?_ ?_ | refine wpB_yes ?_ ?_ | refine wpGD_not ?_ ?_ | refine wpGD_yes ?_ ?_) <;> intro h <;> simp only [h,go_sem,reduceIte,yA,yB,yC,yD,yE,yH,reduceCtorEq,yF,yG,yI,h_fAdd,h2,h3,h4,h6,h7,m2,m3,m4,hm6,hx,hy,hM,o1,o2,o3,o4,d1,d2,w3,hmx,rowL,fracL,fracE,i64L,yJ,yK,beq_self_eq_true,Bool.not_true,bne]
      exact ⟨(i + 1,nextO (mem 118047)),by dsimp only; omega,by dsimp only; omega,rfl,fun h => by dsimp only at h; omega,fun _ => ⟨by rw [h0'],by dsimp only; rw [h0',← hnx0]; rfl⟩⟩
    · obtain ⟨hm6,hm36⟩:=hp hpos
      have htl:(B.take i).length = i:=by rw [List.length_take]; omega
      have hap:=app_row fracL_len fracL_one 118047 g 64 (B.take i) ((b1,b2),(b3,b4)) (cs:=[.dat (.int .i64 b1),.dat (.sl (b2.map i64L)),.dat (.int .i64 b3),.dat (.sl (b4.map i64L))]) rfl (by omega) (by omega)
      rw [htl,hnt] at hap
      simp only [go_sem,reduceIte,yA,yB,yC,yD,yE,yH,reduceCtorEq,yF,yG,yI,h_fAdd,h2,h3,h4,h6,h7,m2,m3,m4,hm6,hm36,hx,hy,hM,o1,o2,o3,o4,d1,d2,w3,hmx,hap,rowL,fracL,fracE,i64L,yJ,yK,beq_self_eq_true,Bool.not_true,bne]
      repeat' (first | refine wpG_not ?_ ?_ | refine wpG_yes ?_ ?_ | refine wpB_not ?_ ?_ | refine wpB_yes ?_ ?_ | refine wpGD_not ?_ ?_ | refine wpGD_yes ?_ ?_) <;> intro h <;> simp only [h,go_sem,reduceIte,yA,yB,yC,yD,yE,yH,reduceCtorEq,yF,yG,yI,h_fAdd,h2,h3,h4,h6,h7,m2,m3,m4,hm6,hm36,hx,hy,hM,o1,o2,o3,o4,d1,d2,w3,hmx,hap,rowL,fracL,fracE,i64L,yJ,yK,beq_self_eq_true,Bool.not_true,bne]
      exact ⟨(i + 1,g + 1),by dsimp only; omega,by dsimp only; omega,rfl,fun h => by dsimp only at h; omega,fun _ => ⟨rfl,rfl⟩⟩
  · obtain rfl:i = A.length:=by omega
    have d1:decide ((A.length:Int) < (A.length:Int)) = false:=decide_eq_false (by omega)
    rw [List.take_of_length_le (by omega)] at hp
    rcases Nat.eq_zero_or_pos A.length with h0' | hpos
    · have hm6:=hz h0'
      have hBn:B = []:=List.eq_nil_of_length_eq_zero (by omega)
      simp only [go_sem,reduceIte,yA,yB,yC,yD,yE,yH,reduceCtorEq,yF,yG,yI,h_fAdd,h2,h3,h4,h6,h7,m2,m3,m4,hm6,hMV,hV1,hV2,hW1,hW2,d1,rowL,fracL,fracE,i64L,yJ,beq_self_eq_true]
      repeat' (first | refine wpG_not ?_ ?_ | refine wpG_yes ?_ ?_ | refine wpB_not ?_ ?_ | refine wpB_yes ?_ ?_ | refine wpGD_not ?_ ?_ | refine wpGD_yes ?_ ?_) <;> intro h <;> simp only [h,go_sem,reduceIte,yA,yB,yC,yD,yE,yH,reduceCtorEq,yF,yG,yI,h_fAdd,h2,h3,h4,h6,h7,m2,m3,m4,hm6,hMV,hV1,hV2,hW1,hW2,d1,rowL,fracL,fracE,i64L,yJ,beq_self_eq_true]
      rw [hBn]
      rfl
    · obtain ⟨hm6,hm36⟩:=hp hpos
      have hD:∀ n (m:Mem),m 118047 = some (g,rowE fracL B) → toD (n + 1) m (.ref 118047 g 4 0 A.length) = some (.sl (B.map fracL)):=fun n m hm => by
        have:=toD_row (n:=n) fracL_len hm
        rw [hBl] at this
        exact this
      simp only [go_sem,reduceIte,yA,yB,yC,yD,yE,yH,reduceCtorEq,yF,yG,yI,h_fAdd,h2,h3,h4,h6,h7,m2,m3,m4,hm6,hMV,hV1,hV2,hW1,hW2,d1,rowL,fracL,fracE,i64L,yJ,beq_self_eq_true]
      repeat' (first | refine wpG_not ?_ ?_ | refine wpG_yes ?_ ?_ | refine wpB_not ?_ ?_ | refine wpB_yes ?_ ?_ | refine wpGD_not ?_ ?_ | refine wpGD_yes ?_ ?_) <;> intro h <;> simp only [h,go_sem,reduceIte,yA,yB,yC,yD,yE,yH,reduceCtorEq,yF,yG,yI,h_fAdd,h2,h3,h4,h6,h7,m2,m3,m4,hm6,hMV,hV1,hV2,hW1,hW2,d1,rowL,fracL,fracE,i64L,yJ,beq_self_eq_true]
      rw [hD 3 _ (by simp [updM,hm36])]
      rfl
end Go.Mini
namespace Go.Mini
open Go
set_option maxRecDepth 100000
set_option maxHeartbeats 4000000
theorem okRows_dec {rs:List RowD} (h:(decide (rs.length ≤ 1000000) && rs.all fun r => (decide (r.1.length ≤ 1000000) && r.1.all fun f => decide (f.1.2.length ≤ 1000000) && decide (f.2.2.length ≤ 1000000)) && (decide (r.2.1.2.length ≤ 1000000) && decide (r.2.2.2.length ≤ 1000000))) = true):okRows rs:=by
  simp only [Bool.and_eq_true,decide_eq_true_eq,List.all_eq_true] at h
  exact ⟨h.1,fun r hr => ⟨⟨(h.2 r hr).1.1,fun f hf => (h.2 r hr).1.2 f hf⟩,(h.2 r hr).2⟩⟩
noncomputable def F_wsmall:List Data → Option PRes:=FF (α:=Unit) (fun (_:Unit) => ([]:List Data)) (fun (_:Unit) => some (.same (.bool true)))
theorem F_wsmall_inj:∀ a b:Unit,(fun (_:Unit) => ([]:List Data)) a = (fun (_:Unit) => ([]:List Data)) b → a = b:=by
    intro _ _ _; rfl
@[go_sem] theorem F_wsmall_eq :F_wsmall [] = some (.same (.bool true)):=FF_eq F_wsmall_inj ()
theorem w_wsmall (T:Tab) (h_wrow:T id_law06_row = mkE F_wrow) (h_wnum:T id_law06_number = mkE F_wnum) (h_linSolve:T id_linear_Solve = mkE F_linSolve) (h_linKern:T id_linear_Kernel = mkE F_linKern) (h_linRank:T id_linear_Rank = mkE F_linRank) (h_linCheck:T id_linear_Check = mkE F_linCheck) (h_linRight:T id_linear_Right = mkE F_linRight) (h_gOf:T id_ref05_Of = mkE F_gOf) (h_hSame:T id_ref06_Same = mkE F_hSame)  :
    wp T mf_law06_small.body (endS mf_law06_small.res (.same (.bool true))) ⟨initTm [],emp⟩:=by
  refine wp_start ?_
  simp only [mf_law06_small]
  have i64s:∀ x:Int,-10 ≤ x ∧ x ≤ 10 → i64R x:=fun x h => by unfold i64R; omega
  have r1:=F_wrow_eq [2,1] ⟨by decide,by decide,fun x hx => i64s x (by simp at hx; omega)⟩
  have r2:=F_wrow_eq [1,1,3] ⟨by decide,by decide,fun x hx => i64s x (by simp at hx; omega)⟩
  have r3:=F_wrow_eq [1,-1,1] ⟨by decide,by decide,fun x hx => i64s x (by simp at hx; omega)⟩
  have r4:=F_wrow_eq [1,2,1] ⟨by decide,by decide,fun x hx => i64s x (by simp at hx; omega)⟩
  have r5:=F_wrow_eq [2,4,5] ⟨by decide,by decide,fun x hx => i64s x (by simp at hx; omega)⟩
  have e1:rowOf [2,1] = ([((1,[2]),(1,[1]))],((1,[1]),(1,[1]))):=by decide +kernel
  have e2:rowOf [1,1,3] = ([((1,[1]),(1,[1])),((1,[1]),(1,[1]))],((1,[3]),(1,[1]))):=by decide +kernel
  have e3:rowOf [1,-1,1] = ([((1,[1]),(1,[1])),((-1,[1]),(1,[1]))],((1,[1]),(1,[1]))):=by decide +kernel
  have e4:rowOf [1,2,1] = ([((1,[1]),(1,[1])),((1,[2]),(1,[1]))],((1,[1]),(1,[1]))):=by decide +kernel
  have e5:rowOf [2,4,5] = ([((1,[2]),(1,[1])),((1,[4]),(1,[1]))],((1,[5]),(1,[1]))):=by decide +kernel
  have s1:=F_linSolve_eq [rowOf [2,1]] 1 (okRows_dec (by decide +kernel))
  have s2:=F_linSolve_eq [rowOf [1,1,3],rowOf [1,-1,1]] 2 (okRows_dec (by decide +kernel))
  have s3:=F_linSolve_eq [rowOf [1,2,1],rowOf [2,4,5]] 2 (okRows_dec (by decide +kernel))
  have k3:=F_linKern_eq [rowOf [1,2,1],rowOf [2,4,5]] 2 (okRows_dec (by decide +kernel))
  have a3:=F_linRank_eq [rowOf [1,2,1],rowOf [2,4,5]] 2 (okRows_dec (by decide +kernel))
  have kx:kernX [rowOf [1,2,1],rowOf [2,4,5]] 2 = ([((-1,[2]),(1,[1])),((1,[1]),(1,[1]))],true):=by decide +kernel
  have okk:okL [((-1,[2]),(1,[1])),((1,[1]),(1,[1]))]:=⟨by decide,fun f hf => by simp at hf; rcases hf with rfl | rfl <;> exact ⟨by decide,by decide⟩⟩
  have c3:=F_linCheck_eq [rowOf [1,2,1],rowOf [2,4,5]] 2 [((-1,[2]),(1,[1])),((1,[1]),(1,[1]))] ⟨okRows_dec (by decide +kernel),okk⟩
  have g0:=F_linRight_eq [] 0 (okRows_dec (by decide +kernel))
  rw [show solveX [rowOf [2,1]] 1 = ([((1,[1]),(1,[2]))],0) by decide +kernel] at s1
  rw [show solveX [rowOf [1,1,3],rowOf [1,-1,1]] 2 = ([((1,[2]),(1,[1])),((1,[1]),(1,[1]))],0) by decide +kernel] at s2
  rw [show solveX [rowOf [1,2,1],rowOf [2,4,5]] 2 = ([],17) by decide +kernel] at s3
  rw [kx] at k3
  rw [show rankX [rowOf [1,2,1],rowOf [2,4,5]] 2 = (1,0) by decide +kernel] at a3
  rw [show checkX [rowOf [1,2,1],rowOf [2,4,5]] 2 [((-1,[2]),(1,[1])),((1,[1]),(1,[1]))] = false by decide +kernel] at c3
  rw [show rightS [] 0 = true by decide +kernel] at g0
  rw [e1] at r1 s1
  rw [e2] at r2 s2
  rw [e3] at r3 s2
  rw [e4] at r4 s3 k3 a3 c3
  rw [e5] at r5 s3 k3 a3 c3
  have n2:=F_wnum_eq 2 (i64s 2 (by omega))
  have n1:=F_wnum_eq 1 (i64s 1 (by omega))
  have nm:=F_wnum_eq (-2) (i64s (-2) (by omega))
  rw [show numF 2 = ((1,[2]),(1,[1])) by decide +kernel] at n2
  rw [show numF 1 = ((1,[1]),(1,[1])) by decide +kernel] at n1
  rw [show numF (-2) = ((-1,[2]),(1,[1])) by decide +kernel] at nm
  have hh:=F_gOf_eq 1 2 ⟨i64s 1 (by omega),i64s 2 (by omega)⟩
  rw [show newR (encB 1) (encB 2) = (((1,[1]),(1,[2])),0) by decide +kernel] at hh
  have okh:okL [((1,[1]),(1,[2]))]:=⟨by decide,fun f hf => by simp at hf; rcases hf with rfl; exact ⟨by decide,by decide⟩⟩
  have ok2:okL [((1,[2]),(1,[1])),((1,[1]),(1,[1]))]:=⟨by decide,fun f hf => by simp at hf; rcases hf with rfl | rfl <;> exact ⟨by decide,by decide⟩⟩
  have q1:=F_hSame_eq [((1,[1]),(1,[2]))] [((1,[1]),(1,[2]))] ⟨okh,okh⟩
  have q2:=F_hSame_eq [((1,[2]),(1,[1])),((1,[1]),(1,[1]))] [((1,[2]),(1,[1])),((1,[1]),(1,[1]))] ⟨ok2,ok2⟩
  have q3:=F_hSame_eq [((-1,[2]),(1,[1])),((1,[1]),(1,[1]))] [((-1,[2]),(1,[1])),((1,[1]),(1,[1]))] ⟨okk,okk⟩
  rw [show sameFs [((1,[1]),(1,[2]))] [((1,[1]),(1,[2]))] = true from decide_eq_true rfl] at q1
  rw [show sameFs [((1,[2]),(1,[1])),((1,[1]),(1,[1]))] [((1,[2]),(1,[1])),((1,[1]),(1,[1]))] = true from decide_eq_true rfl] at q2
  rw [show sameFs [((-1,[2]),(1,[1])),((1,[1]),(1,[1]))] [((-1,[2]),(1,[1])),((1,[1]),(1,[1]))] = true from decide_eq_true rfl] at q3
  clear e1 e2 e3 e4 e5 kx
  simp only [rowL,fracL,fracE,i64L,List.map_cons,List.map_nil] at r1 r2 r3 r4 r5 s1 s2 s3 k3 a3 c3 g0 n1 n2 nm hh q1 q2 q3
  simp only [go_sem,reduceIte,yA,yB,yC,yD,yE,yH,reduceCtorEq,yF,yG,yI,h_wrow,h_wnum,h_linSolve,h_linKern,h_linRank,h_linCheck,h_linRight,h_gOf,h_hSame,r1,r2,r3,r4,r5,s1,s2,s3,k3,a3,c3,g0,n1,n2,nm,hh,q1,q2,q3,beq_self_eq_true]
end Go.Mini
namespace Go.Mini
open Go
set_option maxRecDepth 10000
set_option maxHeartbeats 4000000
theorem few_okF {f:FRaw} (h:fewF f 1 = true):f.1.2.length ≤ 1 ∧ f.2.2.length ≤ 1:=by
  unfold fewF at h
  simp only [Bool.and_eq_true,decide_eq_true_eq] at h
  omega
theorem few_list {l:List FRaw} (h:fewFs l 3 1 = true):l.length ≤ 3 ∧ ∀ f ∈ l,fewF f 1 = true:=by
  unfold fewFs at h
  simp only [Bool.and_eq_true,decide_eq_true_eq,List.all_eq_true] at h
  exact ⟨by omega,h.2⟩
theorem few_rows {l:List RowD} (h:fewRows l 3 1 = true):l.length ≤ 3 ∧ ∀ r ∈ l,fewFs r.1 3 1 = true ∧ fewF r.2 1 = true:=by
  unfold fewRows fewRow at h
  simp only [Bool.and_eq_true,decide_eq_true_eq,List.all_eq_true] at h
  exact ⟨by omega,h.2⟩
theorem okF_few {f:FRaw} (h:fewF f 1 = true):okF f:=⟨by have:=few_okF h; omega,by have:=few_okF h; omega⟩
theorem okL_few {l:List FRaw} (h:fewFs l 3 1 = true):okL l:=⟨by have:=(few_list h).1; omega,fun f hf => okF_few ((few_list h).2 f hf)⟩
theorem okRows_few {l:List RowD} (h:fewRows l 3 1 = true):okRows l:=⟨by have:=(few_rows h).1; omega,fun r hr => ⟨okL_few ((few_rows h).2 r hr).1,okF_few ((few_rows h).2 r hr).2⟩⟩
def OnlyP (rs:List RowD) (x:List FRaw):Prop:=fewRows rs 3 1 = true → fewFs x 3 1 = true → rightS rs rs.length = true →
  (∃ a,solveX rs rs.length = (a,0) ∧ kernX rs rs.length = ([],false) ∧ okL a ∧ checkX rs rs.length a = true ∧ (checkX rs rs.length x = true → sameFs x a = true)) ∨
  (∃ k,solveX rs rs.length = ([],17) ∧ kernX rs rs.length = (k,true) ∧ okL k ∧ k.length = rs.length ∧ (k.all fun f => f.1.1 == 0) = false ∧ okRows (homog rs) ∧ checkX (homog rs) rs.length k = true)
end Go.Mini
namespace Go.Mini
open Go
set_option maxRecDepth 10000
set_option maxHeartbeats 4000000
theorem lenRow {l:List RowD} {k:Nat} (h:k < l.length):(k * 5 + 5 ≤ (rowE rowL l).length) = True:=eq_true (by rw [rowE_len rowL_len]; omega)
theorem setRow {l:List RowD} {k:Nat} (h:k < l.length) (A:List FRaw) (a:Int) (b:List Int) (c:Int) (d:List Int) :
    List.take (k * 5) (rowE rowL l) ++ [MV.dat (.sl (A.map fracL)),MV.dat (.int .i64 a),.dat (.sl (b.map i64L)),.dat (.int .i64 c),.dat (.sl (d.map i64L))] ++ List.drop (k * 5 + 5) (rowE rowL l) = rowE rowL (l.set k (A,((a,b),(c,d)))):=by
  rw [← rowE_set rowL_len h]
  rfl
theorem even_rows (l:List RowD):((l.map rowL).all fun e => e.length == 5) = true:=by
  rw [List.all_eq_true]
  intro e he
  obtain ⟨b,-,rfl⟩:=List.mem_map.1 he
  rfl
theorem app_all (k:Nat) (l:List RowD) (h:l.length ≤ 1000):appC k 0 5 0 88 l.length ((l.map rowL).flatten.map .dat) (some (0,[])) = some (.ref k 1 5 0 l.length,some (k,1,rowE rowL l)):=by
  have:=app_rows rowL_len rowL_one k 0 88 [] l (by simp; omega) (by simp; omega)
  simpa [rowE] using this
theorem fr_row {l:List RowD} {n:Nat} (h:l.length = n) (K:St → Prop) (st:St) (s k g:Nat):wpFr2 K st s k g 5 0 n (some (g,rowE rowL l)) = K ⟨upd st.tm s (.dat (.sl (l.map rowL))),kill st.mem k⟩:=by
  subst h
  exact wpFr2_row rowL_len s k g l
/-- At a ghost that does nothing: what is known of the state, and nothing else. -/
theorem ghost_abs {K:St → Prop} {tm:Nat → MV} {m:Mem} (P:(Nat → MV) → Mem → Prop) (h0:P tm m) (h:∀ tm m,P tm m → K ⟨tm,m⟩):ghostK K ⟨tm,m⟩ .move:=ghostK_skip (h tm m h0)
def scaledX (rs:List RowD) (a:Nat) (r:RowD) (f:FRaw):List RowD:=rs.set a (timesX r f)
def addedX (rs:List RowD) (a b:Nat) (r r2:RowD):List RowD:=if a = b then rs else rs.set a (plusX r r2)
def turnedX (rs:List RowD) (a b:Nat) (r r2:RowD):List RowD:=(rs.set a r2).set b r
def MovesP (rs:List RowD) (i k:Nat) (f:FRaw):Prop:=fewRows rs 3 1 = true → fewF f 1 = true → rightS rs rs.length = true → 0 < rs.length → rightF f = true → (f.1.1 == 0) = false → ∀ ra rb,rs[i % rs.length]? = some ra → rs[k % rs.length]? = some rb →
  timesOK ra f ∧ plusOK ra rb ∧ okRows (scaledX rs (i % rs.length) ra f) ∧ okRows (addedX rs (i % rs.length) (k % rs.length) ra rb) ∧ okL (solveX rs rs.length).1 ∧
    (solveX (scaledX rs (i % rs.length) ra f) rs.length = solveX rs rs.length ∨ solveX (scaledX rs (i % rs.length) ra f) rs.length = ([],6)) ∧
    (solveX (addedX rs (i % rs.length) (k % rs.length) ra rb) rs.length = solveX rs rs.length ∨ solveX (addedX rs (i % rs.length) (k % rs.length) ra rb) rs.length = ([],6)) ∧
    solveX (turnedX rs (i % rs.length) (k % rs.length) ra rb) rs.length = solveX rs rs.length
noncomputable def F_wMoves:List Data → Option PRes:=FF (α:=(List RowD) × Nat × Nat × Int × (List Int) × Int × (List Int)) (fun (rs,i,k,s,l,s2,l2) => ([.sl (rs.map rowL),.int .u8 i,.int .u8 k,.agg [.int .i64 s,.sl (l.map i64L),.int .i64 s2,.sl (l2.map i64L)]]:List Data)) (fun (rs,i,k,s,l,s2,l2) => onlyIf (i < 256 ∧ k < 256 ∧ MovesP rs i k ((s,l),(s2,l2))) (.same (.bool true)))
theorem F_wMoves_inj:∀ a b:(List RowD) × Nat × Nat × Int × (List Int) × Int × (List Int),(fun (rs,i,k,s,l,s2,l2) => ([.sl (rs.map rowL),.int .u8 i,.int .u8 k,.agg [.int .i64 s,.sl (l.map i64L),.int .i64 s2,.sl (l2.map i64L)]]:List Data)) a = (fun (rs,i,k,s,l,s2,l2) => ([.sl (rs.map rowL),.int .u8 i,.int .u8 k,.agg [.int .i64 s,.sl (l.map i64L),.int .i64 s2,.sl (l2.map i64L)]]:List Data)) b → a = b:=by
    rintro ⟨rs1,i1,k1,s1,l1,s21,l21⟩ ⟨rs2,i2,k2,s2,l2,s22,l22⟩ h
    simp only [yM,Data.sl.injEq,Data.agg.injEq,Data.int.injEq,Int.natCast_inj] at h; exact Prod.ext (map_inj rowL_inj _ _ h.1) (Prod.ext h.2.1.2 (Prod.ext h.2.2.1.2 (Prod.ext h.2.2.2.1.1.2 (Prod.ext (map_inj i64L_inj _ _ h.2.2.2.1.2.1) (Prod.ext h.2.2.2.1.2.2.1.2 (map_inj i64L_inj _ _ h.2.2.2.1.2.2.2.1))))))
@[go_sem] theorem F_wMoves_eq (rs:List RowD) (i:Nat) (k:Nat) (s:Int) (l:List Int) (s2:Int) (l2:List Int) (hc:i < 256 ∧ k < 256 ∧ MovesP rs i k ((s,l),(s2,l2))):F_wMoves [.sl (rs.map rowL),.int .u8 i,.int .u8 k,.agg [.int .i64 s,.sl (l.map i64L),.int .i64 s2,.sl (l2.map i64L)]] = some (.same (.bool true)):=(FF_eq F_wMoves_inj (rs,i,k,s,l,s2,l2)).trans (onlyIf_pos hc _)
theorem w_wMoves (T:Tab) (h_wsmall:T id_law06_small = mkE F_wsmall) (h_hFew:T id_ref06_Few = mkE F_hFew) (h_gFew:T id_ref05_Few = mkE F_gFew) (h_linRight:T id_linear_Right = mkE F_linRight) (h_fRight:T id_frac_Right = mkE F_fRight) (h_hZero:T id_ref06_Zero = mkE F_hZero) (h_linSolve:T id_linear_Solve = mkE F_linSolve) (h_hSame:T id_ref06_Same = mkE F_hSame) (h_wtimes:T id_law06_times = mkE F_wtimes) (h_wplus:T id_law06_plus = mkE F_wplus) (rs:List RowD) (i:Nat) (k:Nat) (s:Int) (l:List Int) (s2:Int) (l2:List Int) (hc:i < 256 ∧ k < 256 ∧ MovesP rs i k ((s,l),(s2,l2))) :
    wp T mf_law06_LinearMoves.body (endS mf_law06_LinearMoves.res (.same (.bool true))) ⟨initTm [.dat (.sl (rs.map rowL)),.dat (.int .u8 i),.dat (.int .u8 k),.dat (.agg [.int .i64 s,.sl (l.map i64L),.int .i64 s2,.sl (l2.map i64L)])],emp⟩:=by
  refine wp_start ?_
  simp only [mf_law06_LinearMoves]
  obtain ⟨hi8,hk8,hc⟩:=hc
  have sm:=F_wsmall_eq
  have g1:=F_hFew_eq rs 3 1 (by omega)
  rcases hf:fewRows rs 3 1
  · rw [hf] at g1
    simp only [go_sem,reduceIte,yA,yB,yC,yD,yE,yH,reduceCtorEq,yF,yG,yI,h_wsmall,h_hFew,h_gFew,h_linRight,h_fRight,h_hZero,h_linSolve,h_hSame,h_wtimes,h_wplus,sm,g1,yJ]
    repeat' (first | refine wpG_not ?_ ?_ | refine wpG_yes ?_ ?_ | refine wpB_not ?_ ?_ | refine wpB_yes ?_ ?_ | refine wpGD_not ?_ ?_ | refine wpGD_yes ?_ ?_) <;> intro h <;> simp only [h,go_sem,reduceIte,yA,yB,yC,yD,yE,yH,reduceCtorEq,yF,yG,yI,h_wsmall,h_hFew,h_gFew,h_linRight,h_fRight,h_hZero,h_linSolve,h_hSame,h_wtimes,h_wplus,sm,g1,yJ]
  rw [hf] at g1
  rcases hff:fewF ((s,l),(s2,l2)) 1
  · simp only [go_sem,reduceIte,yA,yB,yC,yD,yE,yH,reduceCtorEq,yF,yG,yI,h_wsmall,h_hFew,h_gFew,h_linRight,h_fRight,h_hZero,h_linSolve,h_hSame,h_wtimes,h_wplus,sm,g1,hff,yJ]
    repeat' (first | refine wpG_not ?_ ?_ | refine wpG_yes ?_ ?_ | refine wpB_not ?_ ?_ | refine wpB_yes ?_ ?_ | refine wpGD_not ?_ ?_ | refine wpGD_yes ?_ ?_) <;> intro h <;> simp only [h,go_sem,reduceIte,yA,yB,yC,yD,yE,yH,reduceCtorEq,yF,yG,yI,h_wsmall,h_hFew,h_gFew,h_linRight,h_fRight,h_hZero,h_linSolve,h_hSame,h_wtimes,h_wplus,sm,g1,hff,yJ]
  have okr:=okRows_few hf
  have hn3:=(few_rows hf).1
  obtain ⟨okf1,okf2⟩:=okF_few hff
  dsimp only at okf1 okf2
  rcases hr:rightS rs rs.length
  · simp only [go_sem,reduceIte,yA,yB,yC,yD,yE,yH,reduceCtorEq,yF,yG,yI,h_wsmall,h_hFew,h_gFew,h_linRight,h_fRight,h_hZero,h_linSolve,h_hSame,h_wtimes,h_wplus,sm,g1,hff,okr,hr,yJ]
    repeat' (first | refine wpG_not ?_ ?_ | refine wpG_yes ?_ ?_ | refine wpB_not ?_ ?_ | refine wpB_yes ?_ ?_ | refine wpGD_not ?_ ?_ | refine wpGD_yes ?_ ?_) <;> intro h <;> simp only [h,go_sem,reduceIte,yA,yB,yC,yD,yE,yH,reduceCtorEq,yF,yG,yI,h_wsmall,h_hFew,h_gFew,h_linRight,h_fRight,h_hZero,h_linSolve,h_hSame,h_wtimes,h_wplus,sm,g1,hff,okr,hr,yJ]
  rcases Nat.eq_zero_or_pos rs.length with hz | hpos
  · have hn0:((rs.length:Int) == 0) = true:=by rw [beq_iff_eq]; omega
    simp only [go_sem,reduceIte,yA,yB,yC,yD,yE,yH,reduceCtorEq,yF,yG,yI,h_wsmall,h_hFew,h_gFew,h_linRight,h_fRight,h_hZero,h_linSolve,h_hSame,h_wtimes,h_wplus,sm,g1,hff,okr,hr,hn0,yJ]
    repeat' (first | refine wpG_not ?_ ?_ | refine wpG_yes ?_ ?_ | refine wpB_not ?_ ?_ | refine wpB_yes ?_ ?_ | refine wpGD_not ?_ ?_ | refine wpGD_yes ?_ ?_) <;> intro h <;> simp only [h,go_sem,reduceIte,yA,yB,yC,yD,yE,yH,reduceCtorEq,yF,yG,yI,h_wsmall,h_hFew,h_gFew,h_linRight,h_fRight,h_hZero,h_linSolve,h_hSame,h_wtimes,h_wplus,sm,g1,hff,okr,hr,hn0,yJ]
  have hn0:((rs.length:Int) == 0) = false:=by rw [beq_eq_false_iff_ne]; omega
  have hnz:¬ ((rs.length:Int) = 0):=by omega
  rcases hrf:rightF ((s,l),(s2,l2))
  · simp only [go_sem,reduceIte,yA,yB,yC,yD,yE,yH,reduceCtorEq,yF,yG,yI,h_wsmall,h_hFew,h_gFew,h_linRight,h_fRight,h_hZero,h_linSolve,h_hSame,h_wtimes,h_wplus,sm,g1,hff,okr,hr,hn0,hrf,okf1,okf2,yJ]
    repeat' (first | refine wpG_not ?_ ?_ | refine wpG_yes ?_ ?_ | refine wpB_not ?_ ?_ | refine wpB_yes ?_ ?_ | refine wpGD_not ?_ ?_ | refine wpGD_yes ?_ ?_) <;> intro h <;> simp only [h,go_sem,reduceIte,yA,yB,yC,yD,yE,yH,reduceCtorEq,yF,yG,yI,h_wsmall,h_hFew,h_gFew,h_linRight,h_fRight,h_hZero,h_linSolve,h_hSame,h_wtimes,h_wplus,sm,g1,hff,okr,hr,hn0,hrf,okf1,okf2,yJ]
  rcases hz0:(s == 0)
  case true => simp only [go_sem,reduceIte,yA,yB,yC,yD,yE,yH,reduceCtorEq,yF,yG,yI,h_wsmall,h_hFew,h_gFew,h_linRight,h_fRight,h_hZero,h_linSolve,h_hSame,h_wtimes,h_wplus,sm,g1,hff,okr,hr,hn0,hrf,okf1,okf2,hz0,yJ]
               repeat' (first | refine wpG_not ?_ ?_ | refine wpG_yes ?_ ?_ | refine wpB_not ?_ ?_ | refine wpB_yes ?_ ?_ | refine wpGD_not ?_ ?_ | refine wpGD_yes ?_ ?_) <;> intro h <;> simp only [h,go_sem,reduceIte,yA,yB,yC,yD,yE,yH,reduceCtorEq,yF,yG,yI,h_wsmall,h_hFew,h_gFew,h_linRight,h_fRight,h_hZero,h_linSolve,h_hSame,h_wtimes,h_wplus,sm,g1,hff,okr,hr,hn0,hrf,okf1,okf2,hz0,yJ]
  have hw1:IntKind.i64.wrap (i:Int) = i:=wrap64 _ (by omega) (by omega)
  have hw2:IntKind.i64.wrap (k:Int) = k:=wrap64 _ (by omega) (by omega)
  have ht1:((i:Int)).tmod (rs.length:Int) = ((i % rs.length:Nat):Int):=by rw [Int.tmod_eq_emod_of_nonneg (by omega)]; rfl
  have ht2:((k:Int)).tmod (rs.length:Int) = ((k % rs.length:Nat):Int):=by rw [Int.tmod_eq_emod_of_nonneg (by omega)]; rfl
  have ha:=Nat.mod_lt i hpos
  have hb:=Nat.mod_lt k hpos
  obtain ⟨ra,hra⟩:∃ x,rs[i % rs.length]? = some x:=⟨_,yL ha⟩
  obtain ⟨rb,hrb⟩:∃ x,rs[k % rs.length]? = some x:=⟨_,yL hb⟩
  obtain ⟨q1,q2,q3,q4,q5,q6,q7,q8⟩:=hc hf hff hr hpos hrf hz0 ra rb hra hrb
  have hoa:=okr.2 _ (List.mem_of_getElem? hra)
  have hob:=okr.2 _ (List.mem_of_getElem? hrb)
  have hla:=(few_list ((few_rows hf).2 _ (List.mem_of_getElem? hra)).1).1
  have tm1:=F_wtimes_eq ra ((s,l),(s2,l2)) ⟨by omega,hoa,⟨okf1,okf2⟩,q1⟩
  have pl1:=F_wplus_eq ra rb ⟨by omega,hoa,hob,q2⟩
  have ap1:=app_all 102073 rs (by omega)
  have ap2:=app_all 102076 rs (by omega)
  have ap3:=app_all 102079 rs (by omega)
  have hev:=even_rows rs
  generalize hA:i % rs.length = a at *
  generalize hB:k % rs.length = b at *
  obtain ⟨A,⟨a1,a2⟩,⟨a3,a4⟩⟩:=ra
  obtain ⟨B,⟨b1,b2⟩,⟨b3,b4⟩⟩:=rb
  rcases hT:timesX (A,((a1,a2),(a3,a4))) ((s,l),(s2,l2)) with ⟨TA,⟨t1,t2⟩,⟨t3,t4⟩⟩
  rcases hP:plusX (A,((a1,a2),(a3,a4))) (B,((b1,b2),(b3,b4))) with ⟨PA,⟨p1,p2⟩,⟨p3,p4⟩⟩
  rw [hT] at tm1
  rw [hP] at pl1
  unfold scaledX at q3 q6
  rw [hT] at q3 q6
  unfold addedX at q4 q7
  rw [hP] at q4 q7
  unfold turnedX at q8
  simp only [rowL,fracL] at tm1 pl1
  simp only [go_sem,reduceIte,yA,yB,yC,yD,yE,yH,reduceCtorEq,yF,yG,yI,h_wsmall,h_hFew,h_gFew,h_linRight,h_fRight,h_hZero,h_linSolve,h_hSame,h_wtimes,h_wplus,hnz,sm,g1,hff,okr,hr,hn0,hrf,okf1,okf2,hz0,hw1,hw2,ht1,ht2,fracL,yJ]
  refine ghost_abs (fun tm m => tm 0 = .dat (.sl (rs.map rowL)) ∧ tm 9 = .dat (.bool true) ∧ tm 10 = .dat (.int .i64 rs.length) ∧ tm 11 = .dat (.int .i64 a) ∧ tm 12 = .dat (.int .i64 b) ∧ tm 7 = .ptr 102007 0 0 ∧ m 102007 = some (0,[.dat (.int .i64 s),.dat (.sl (l.map i64L)),.dat (.int .i64 s2),.dat (.sl (l2.map i64L))]) ∧ m 102073 = none ∧ m 102076 = none ∧ m 102079 = none) (by refine ⟨?_,?_,?_,?_,?_,?_,?_,?_,?_,?_⟩ <;> first | rfl | simp only [go_sem,reduceIte,yA,yB,yC,yD,yE,yH,reduceCtorEq,yF,yG,yI,h_wsmall,h_hFew,h_gFew,h_linRight,h_fRight,h_hZero,h_linSolve,h_hSame,h_wtimes,h_wplus]) ?_
  rintro tm m ⟨h0,h9,h10,h11,h12,h7,m7,m73,m76,m79⟩
  have sv0:=F_linSolve_eq rs rs.length okr
  rcases hX:solveX rs rs.length with ⟨X,e⟩
  rw [hX] at q5 q6 q7 q8 sv0
  dsimp only at q5
  simp only [go_sem,reduceIte,yA,yB,yC,yD,yE,yH,reduceCtorEq,yF,yG,yI,h_wsmall,h_hFew,h_gFew,h_linRight,h_fRight,h_hZero,h_linSolve,h_hSame,h_wtimes,h_wplus,h0,h10,sv0]
  refine ghost_abs (fun tm m => tm 0 = .dat (.sl (rs.map rowL)) ∧ tm 9 = .dat (.bool true) ∧ tm 10 = .dat (.int .i64 rs.length) ∧ tm 11 = .dat (.int .i64 a) ∧ tm 12 = .dat (.int .i64 b) ∧ tm 7 = .ptr 102007 0 0 ∧ m 102007 = some (0,[.dat (.int .i64 s),.dat (.sl (l.map i64L)),.dat (.int .i64 s2),.dat (.sl (l2.map i64L))]) ∧ m 102073 = none ∧ m 102076 = none ∧ m 102079 = none ∧ tm 13 = .dat (.sl (X.map fracL)) ∧ tm 14 = .dat (.int .i64 e)) (by refine ⟨?_,?_,?_,?_,?_,?_,?_,?_,?_,?_,?_,?_⟩ <;> first | rfl | assumption | simp only [go_sem,reduceIte,yA,yB,yC,yD,yE,yH,reduceCtorEq,yF,yG,yI,h_wsmall,h_hFew,h_gFew,h_linRight,h_fRight,h_hZero,h_linSolve,h_hSame,h_wtimes,h_wplus,h0,h9,h10,h11,h12,h7]) ?_
  clear h0 h9 h10 h11 h12 h7 m7 m73 m76 m79 tm m
  rintro tm m ⟨h0,h9,h10,h11,h12,h7,m7,m73,m76,m79,h13,h14⟩
  have sl1:=lenRow ha
  have st1:=setRow ha B b1 b2 b3 b4
  have hb':b < (rs.set a (B,((b1,b2),(b3,b4)))).length:=by rw [List.length_set]; exact hb
  have sl2:=lenRow hb'
  have st2:=setRow hb' A a1 a2 a3 a4
  simp only [go_sem,reduceIte,yA,yB,yC,yD,yE,yH,reduceCtorEq,yF,yG,yI,h_wsmall,h_hFew,h_gFew,h_linRight,h_fRight,h_hZero,h_linSolve,h_hSame,h_wtimes,h_wplus,h0,h11,h12,m73,m76,m79,ap1,ap2,ap3,hev,ha,hb,hra,hrb,sl1,st1,sl2,st2,rowL,fracL,yJ,yK]
  refine ghost_abs (fun tm m => tm 0 = .dat (.sl (rs.map rowL)) ∧ tm 9 = .dat (.bool true) ∧ tm 10 = .dat (.int .i64 rs.length) ∧ tm 11 = .dat (.int .i64 a) ∧ tm 12 = .dat (.int .i64 b) ∧ tm 7 = .ptr 102007 0 0 ∧ m 102007 = some (0,[.dat (.int .i64 s),.dat (.sl (l.map i64L)),.dat (.int .i64 s2),.dat (.sl (l2.map i64L))]) ∧ tm 15 = .ref 102073 1 5 0 rs.length ∧ tm 16 = .ref 102076 1 5 0 rs.length ∧ tm 17 = .ref 102079 1 5 0 rs.length ∧ m 102073 = some (1,rowE rowL rs) ∧ m 102076 = some (1,rowE rowL rs) ∧ m 102079 = some (1,rowE rowL ((rs.set a (B,((b1,b2),(b3,b4)))).set b (A,((a1,a2),(a3,a4))))) ∧ tm 13 = .dat (.sl (X.map fracL)) ∧ tm 14 = .dat (.int .i64 e)) (by refine ⟨?_,?_,?_,?_,?_,?_,?_,?_,?_,?_,?_,?_,?_,?_,?_⟩ <;> first | rfl | assumption | simp only [go_sem,reduceIte,yA,yB,yC,yD,yE,yH,reduceCtorEq,yF,yG,yI,h_wsmall,h_hFew,h_gFew,h_linRight,h_fRight,h_hZero,h_linSolve,h_hSame,h_wtimes,h_wplus,h0,h9,h10,h11,h12,h7,h13,h14,m7]) ?_
  clear h0 h9 h10 h11 h12 h7 m7 m73 m76 m79 h13 h14 tm m
  rintro tm m ⟨h0,h9,h10,h11,h12,h7,m7,h15,h16,h17,m73,m76,m79,h13,h14⟩
  simp only [go_sem,reduceIte,yA,yB,yC,yD,yE,yH,reduceCtorEq,yF,yG,yI,h_wsmall,h_hFew,h_gFew,h_linRight,h_fRight,h_hZero,h_linSolve,h_hSame,h_wtimes,h_wplus,h0,h11,h12,h7,m7,ha,hb,hra,hrb,tm1,pl1,rowL,fracL,yJ,yK]
  refine ghost_abs (fun tm m => tm 0 = .dat (.sl (rs.map rowL)) ∧ tm 9 = .dat (.bool true) ∧ tm 10 = .dat (.int .i64 rs.length) ∧ tm 11 = .dat (.int .i64 a) ∧ tm 12 = .dat (.int .i64 b) ∧ tm 15 = .ref 102073 1 5 0 rs.length ∧ tm 16 = .ref 102076 1 5 0 rs.length ∧ tm 17 = .ref 102079 1 5 0 rs.length ∧ m 102073 = some (1,rowE rowL rs) ∧ m 102076 = some (1,rowE rowL rs) ∧ m 102079 = some (1,rowE rowL ((rs.set a (B,((b1,b2),(b3,b4)))).set b (A,((a1,a2),(a3,a4))))) ∧ tm 13 = .dat (.sl (X.map fracL)) ∧ tm 14 = .dat (.int .i64 e) ∧ tm 19 = .dat (.bool true) ∧ tm 21 = .dat (.bool true) ∧ (∃ g,tm 18 = .ptr 102018 g 0 ∧ m 102018 = some (g,[MV.dat (.sl (TA.map fracL)),MV.dat (.int .i64 t1),.dat (.sl (t2.map i64L)),.dat (.int .i64 t3),.dat (.sl (t4.map i64L))])) ∧ (∃ g,tm 20 = .ptr 102020 g 0 ∧ m 102020 = some (g,[MV.dat (.sl (PA.map fracL)),MV.dat (.int .i64 p1),.dat (.sl (p2.map i64L)),.dat (.int .i64 p3),.dat (.sl (p4.map i64L))]))) (by refine ⟨?_,?_,?_,?_,?_,?_,?_,?_,?_,?_,?_,?_,?_,?_,?_,⟨nextO (m 102018),?_,?_⟩,⟨nextO (m 102020),?_,?_⟩⟩ <;> first | rfl | assumption | simp only [go_sem,reduceIte,yA,yB,yC,yD,yE,yH,reduceCtorEq,yF,yG,yI,h_wsmall,h_hFew,h_gFew,h_linRight,h_fRight,h_hZero,h_linSolve,h_hSame,h_wtimes,h_wplus,h0,h9,h10,h11,h12,h13,h14,h15,h16,h17,m73,m76,m79]) ?_
  clear h0 h9 h10 h11 h12 h7 m7 h15 h16 h17 m73 m76 m79 h13 h14 tm m
  rintro tm m ⟨h0,h9,h10,h11,h12,h15,h16,h17,m73,m76,m79,h13,h14,h19,h21,⟨g18,h18,m18⟩,⟨g20,h20,m20⟩⟩
  clear tm1 pl1 sm g1 ap1 ap2 ap3 hev sl2 st2 sl1 st1 sv0
  have sl1:=lenRow ha
  have st3:=setRow ha TA t1 t2 t3 t4
  have st4:=setRow ha PA p1 p2 p3 p4
  have okt:okRows ((rs.set a (B,((b1,b2),(b3,b4)))).set b (A,((a1,a2),(a3,a4)))):=by
    refine ⟨by rw [List.length_set,List.length_set]; exact okr.1,fun r hr => ?_⟩
    rcases List.mem_or_eq_of_mem_set hr with hr | rfl
    · rcases List.mem_or_eq_of_mem_set hr with hr | rfl
      · exact okr.2 r hr
      · exact hob
    · exact hoa
  have sv1:=F_linSolve_eq _ rs.length q3
  have sv2:=F_linSolve_eq _ rs.length q4
  have sv3:=F_linSolve_eq _ rs.length okt
  rw [q8] at sv3
  have fr1:=fr_row (l:=rs.set a (TA,((t1,t2),(t3,t4)))) (n:=rs.length) (List.length_set ..)
  have fr2:=fr_row (l:=rs.set a (PA,((p1,p2),(p3,p4)))) (n:=rs.length) (List.length_set ..)
  have fr3:=fr_row (l:=(rs.set a (B,((b1,b2),(b3,b4)))).set b (A,((a1,a2),(a3,a4)))) (n:=rs.length) (by rw [List.length_set,List.length_set])
  have fr4:=fr_row (l:=rs) rfl
  have ss:=F_hSame_eq X X ⟨q5,q5⟩
  rw [show sameFs X X = true from decide_eq_true rfl] at ss
  by_cases hab:a = b
  · have hab':((a:Int) == (b:Int)) = true:=by rw [beq_iff_eq]; omega
    rw [if_pos hab] at q4 q7 sv2
    simp only [go_sem,reduceIte,yA,yB,yC,yD,yE,yH,reduceCtorEq,yF,yG,yI,h_wsmall,h_hFew,h_gFew,h_linRight,h_fRight,h_hZero,h_linSolve,h_hSame,h_wtimes,h_wplus,h0,h9,h10,h11,h12,h15,h16,h17,m73,m76,m79,h13,h14,h19,h21,h18,m18,h20,m20,ha,hab',sl1,st3,fr1,fr3,fr4,sv1,sv2,sv3,Bool.not_true,Bool.not_false,bne]
    refine ghost_abs (fun tm m => tm 9 = .dat (.bool true) ∧ tm 13 = .dat (.sl (X.map fracL)) ∧ tm 14 = .dat (.int .i64 e) ∧ tm 22 = .dat (.sl ((solveX (rs.set a (TA,((t1,t2),(t3,t4)))) rs.length).1.map fracL)) ∧ tm 23 = .dat (.int .i64 (solveX (rs.set a (TA,((t1,t2),(t3,t4)))) rs.length).2) ∧ tm 24 = .dat (.sl ((solveX rs rs.length).1.map fracL)) ∧ tm 25 = .dat (.int .i64 (solveX rs rs.length).2) ∧ tm 26 = .dat (.sl (X.map fracL)) ∧ tm 27 = .dat (.int .i64 e)) (by refine ⟨?_,?_,?_,?_,?_,?_,?_,?_,?_⟩ <;> first | rfl | assumption | simp only [go_sem,reduceIte,yA,yB,yC,yD,yE,yH,reduceCtorEq,yF,yG,yI,h_wsmall,h_hFew,h_gFew,h_linRight,h_fRight,h_hZero,h_linSolve,h_hSame,h_wtimes,h_wplus,h9,h13,h14]) ?_
    clear h0 h9 h10 h11 h12 h15 h16 h17 m73 m76 m79 h13 h14 h19 h21 h18 m18 h20 m20 fr1 fr2 fr3 fr4 sv1 sv2 sv3 st3 st4 tm m
    rintro tm m ⟨h9,h13,h14,h22,h23,h24,h25,h26,h27⟩
    have s6:((6:Int) == 6) = true:=rfl
    rcases h6:(e == 6) <;> rcases q6 with q6 | q6 <;> rcases q7 with q7 | q7 <;> rw [q6] at h22 h23 <;> rw [q7] at h24 h25 <;> simp only [go_sem,reduceIte,yA,yB,yC,yD,yE,yH,reduceCtorEq,yF,yG,yI,h_wsmall,h_hFew,h_gFew,h_linRight,h_fRight,h_hZero,h_linSolve,h_hSame,h_wtimes,h_wplus,h9,h13,h14,h22,h23,h24,h25,h26,h27,h6,s6,ss,beq_self_eq_true,Bool.not_true,Bool.not_false,bne]
  · have hab':((a:Int) == (b:Int)) = false:=by rw [beq_eq_false_iff_ne]; omega
    rw [if_neg hab] at q4 q7 sv2
    simp only [go_sem,reduceIte,yA,yB,yC,yD,yE,yH,reduceCtorEq,yF,yG,yI,h_wsmall,h_hFew,h_gFew,h_linRight,h_fRight,h_hZero,h_linSolve,h_hSame,h_wtimes,h_wplus,h0,h9,h10,h11,h12,h15,h16,h17,m73,m76,m79,h13,h14,h19,h21,h18,m18,h20,m20,ha,hab',sl1,st3,st4,fr1,fr2,fr3,fr4,sv1,sv2,sv3,Bool.not_true,Bool.not_false,bne]
    refine ghost_abs (fun tm m => tm 9 = .dat (.bool true) ∧ tm 13 = .dat (.sl (X.map fracL)) ∧ tm 14 = .dat (.int .i64 e) ∧ tm 22 = .dat (.sl ((solveX (rs.set a (TA,((t1,t2),(t3,t4)))) rs.length).1.map fracL)) ∧ tm 23 = .dat (.int .i64 (solveX (rs.set a (TA,((t1,t2),(t3,t4)))) rs.length).2) ∧ tm 24 = .dat (.sl ((solveX (rs.set a (PA,((p1,p2),(p3,p4)))) rs.length).1.map fracL)) ∧ tm 25 = .dat (.int .i64 (solveX (rs.set a (PA,((p1,p2),(p3,p4)))) rs.length).2) ∧ tm 26 = .dat (.sl (X.map fracL)) ∧ tm 27 = .dat (.int .i64 e)) (by refine ⟨?_,?_,?_,?_,?_,?_,?_,?_,?_⟩ <;> first | rfl | assumption | simp only [go_sem,reduceIte,yA,yB,yC,yD,yE,yH,reduceCtorEq,yF,yG,yI,h_wsmall,h_hFew,h_gFew,h_linRight,h_fRight,h_hZero,h_linSolve,h_hSame,h_wtimes,h_wplus,h9,h13,h14]) ?_
    clear h0 h9 h10 h11 h12 h15 h16 h17 m73 m76 m79 h13 h14 h19 h21 h18 m18 h20 m20 fr1 fr2 fr3 fr4 sv1 sv2 sv3 st3 st4 tm m
    rintro tm m ⟨h9,h13,h14,h22,h23,h24,h25,h26,h27⟩
    have s6:((6:Int) == 6) = true:=rfl
    rcases h6:(e == 6) <;> rcases q6 with q6 | q6 <;> rcases q7 with q7 | q7 <;> rw [q6] at h22 h23 <;> rw [q7] at h24 h25 <;> simp only [go_sem,reduceIte,yA,yB,yC,yD,yE,yH,reduceCtorEq,yF,yG,yI,h_wsmall,h_hFew,h_gFew,h_linRight,h_fRight,h_hZero,h_linSolve,h_hSame,h_wtimes,h_wplus,h9,h13,h14,h22,h23,h24,h25,h26,h27,h6,s6,ss,beq_self_eq_true,Bool.not_true,Bool.not_false,bne]
end Go.Mini
namespace Go.Mini
open Go Go.Proofs
set_option maxRecDepth 100000
theorem mixed:Try.prog.follows .mixedOrders = true:=by kernel_rfl
theorem tr_trim:trFunc Try.prog 177000 [] Try.f79 = some { mf_big_trim with body:=erase mf_big_trim.body }:=by kernel_rfl
theorem nm_trim : (Try.f79.name == "runtime.NumGoroutine") = false := by kernel_rfl
theorem ps_trim:PSpec Try.prog id_big_trim F_trim:=pspec_of (mkTE_ok (PTl_ok (l:=[]) PTl_nil) (ETl_ok (l:=[]) ETl_nil)) mixed Try.func79 nm_trim tr_trim fun ds r h => by
  obtain ⟨x0,hds,hr⟩:=FF_inv h
  clear h
  subst hds
  obtain ⟨hc,rfl⟩:=onlyIf_inv hr
  exact ⟨Nat.le_of_ble_eq_true rfl,w_trim _  x0 hc⟩
theorem es_trim:ESpec Try.prog id_big_trim (mkG G_trim):=RSpec.toE (rspec_of (mkTE_ok (PTl_ok (l:=[]) PTl_nil) (ETl_ok (l:=[]) ETl_nil)) mixed Try.func79 nm_trim tr_trim fun args mem x h => by
  obtain ⟨a,⟨rfl,hm,hl⟩,rfl⟩:=GG_inv h
  exact ⟨Nat.le_of_ble_eq_true rfl,w_trimG _ a.l a.k a.g mem hm hl⟩)
theorem tr_isNaN:trFunc Try.prog 184000 [] Try.f86 = some { mf_cmp_isNaN_int with body:=erase mf_cmp_isNaN_int.body }:=by kernel_rfl
theorem nm_isNaN : (Try.f86.name == "runtime.NumGoroutine") = false := by kernel_rfl
theorem ps_isNaN:PSpec Try.prog id_cmp_isNaN_int F_isNaN:=pspec_of (mkTE_ok (PTl_ok (l:=[]) PTl_nil) (ETl_ok (l:=[]) ETl_nil)) mixed Try.func86 nm_isNaN tr_isNaN fun ds r h => by
  obtain ⟨x0,hds,hr⟩:=FF_inv h
  clear h
  subst hds
  obtain rfl:=Option.some.inj hr
  exact ⟨Nat.le_of_ble_eq_true rfl,w_isNaN _  x0⟩
theorem tr_cmpI:trFunc Try.prog 174000 [] Try.f76 = some { mf_cmp_Compare_int with body:=erase mf_cmp_Compare_int.body }:=by kernel_rfl
theorem nm_cmpI : (Try.f76.name == "runtime.NumGoroutine") = false := by kernel_rfl
theorem ps_cmpI:PSpec Try.prog id_cmp_Compare_int F_cmpI:=pspec_of (mkTE_ok (PTl_ok (l:=[(id_cmp_isNaN_int,F_isNaN)]) (PTl_cons ps_isNaN PTl_nil)) (ETl_ok (l:=[]) ETl_nil)) mixed Try.func76 nm_cmpI tr_cmpI fun ds r h => by
  obtain ⟨⟨x0,x1⟩,hds,hr⟩:=FF_inv h
  clear h
  subst hds
  obtain rfl:=Option.some.inj hr
  exact ⟨Nat.le_of_ble_eq_true rfl,w_cmpI _ (mkTE_F rfl rfl) x0 x1⟩
theorem tr_orI:trFunc Try.prog 179000 [] Try.f81 = some { mf_cmp_Or_int with body:=erase mf_cmp_Or_int.body }:=by kernel_rfl
theorem nm_orI : (Try.f81.name == "runtime.NumGoroutine") = false := by kernel_rfl
theorem ps_orI:PSpec Try.prog id_cmp_Or_int F_orI:=pspec_of (mkTE_ok (PTl_ok (l:=[]) PTl_nil) (ETl_ok (l:=[]) ETl_nil)) mixed Try.func81 nm_orI tr_orI fun ds r h => by
  obtain ⟨x0,hds,hr⟩:=FF_inv h
  clear h
  subst hds
  obtain ⟨hc,rfl⟩:=onlyIf_inv hr
  exact ⟨Nat.le_of_ble_eq_true rfl,w_orI _  x0 hc⟩
theorem tr_clone:trFunc Try.prog 156000 [5] Try.f58 = some { mf_slices_Clone_int with body:=erase mf_slices_Clone_int.body }:=by kernel_rfl
theorem nm_clone : (Try.f58.name == "runtime.NumGoroutine") = false := by kernel_rfl
theorem ps_clone:PSpec Try.prog id_slices_Clone_int F_clone:=pspec_of (mkTE_ok (PTl_ok (l:=[]) PTl_nil) (ETl_ok (l:=[]) ETl_nil)) mixed Try.func58 nm_clone tr_clone fun ds r h => by
  obtain ⟨x0,hds,hr⟩:=FF_inv h
  clear h
  subst hds
  obtain ⟨hc,rfl⟩:=onlyIf_inv hr
  exact ⟨Nat.le_of_ble_eq_true rfl,w_clone _  x0 hc⟩
theorem tr_bigRight:trFunc Try.prog 136000 [] Try.f38 = some { mf_big_Right with body:=erase mf_big_Right.body }:=by kernel_rfl
theorem nm_bigRight : (Try.f38.name == "runtime.NumGoroutine") = false := by kernel_rfl
theorem ps_bigRight:PSpec Try.prog id_big_Right F_bigRight:=pspec_of (mkTE_ok (PTl_ok (l:=[]) PTl_nil) (ETl_ok (l:=[]) ETl_nil)) mixed Try.func38 nm_bigRight tr_bigRight fun ds r h => by
  obtain ⟨⟨x0,x1⟩,hds,hr⟩:=FF_inv h
  clear h
  subst hds
  obtain ⟨hc,rfl⟩:=onlyIf_inv hr
  exact ⟨Nat.le_of_ble_eq_true rfl,w_bigRight _  x0 x1 hc⟩
theorem tr_signed:trFunc Try.prog 158000 [] Try.f60 = some { mf_big_signed with body:=erase mf_big_signed.body }:=by kernel_rfl
theorem nm_signed : (Try.f60.name == "runtime.NumGoroutine") = false := by kernel_rfl
theorem ps_signed:PSpec Try.prog id_big_signed F_signed:=pspec_of (mkTE_ok (PTl_ok (l:=[(id_big_trim,F_trim)]) (PTl_cons ps_trim PTl_nil)) (ETl_ok (l:=[(id_big_trim,mkG G_trim)]) (ETl_cons es_trim ETl_nil))) mixed Try.func60 nm_signed tr_signed fun ds r h => by
  obtain ⟨⟨x0,x1⟩,hds,hr⟩:=FF_inv h
  clear h
  subst hds
  obtain ⟨hc,rfl⟩:=onlyIf_inv hr
  exact ⟨Nat.le_of_ble_eq_true rfl,w_signed _ (mkTE_FG rfl rfl) x0 x1 hc⟩
theorem tr_compare:trFunc Try.prog 175000 [] Try.f77 = some { mf_big_compare with body:=erase mf_big_compare.body }:=by kernel_rfl
theorem nm_compare : (Try.f77.name == "runtime.NumGoroutine") = false := by kernel_rfl
theorem ps_compare:PSpec Try.prog id_big_compare F_compare:=pspec_of (mkTE_ok (PTl_ok (l:=[(id_cmp_Compare_int,F_cmpI)]) (PTl_cons ps_cmpI PTl_nil)) (ETl_ok (l:=[]) ETl_nil)) mixed Try.func77 nm_compare tr_compare fun ds r h => by
  obtain ⟨⟨x0,x1⟩,hds,hr⟩:=FF_inv h
  clear h
  subst hds
  obtain ⟨hc,rfl⟩:=onlyIf_inv hr
  exact ⟨Nat.le_of_ble_eq_true rfl,w_compare _ (mkTE_F rfl rfl) x0 x1 hc⟩
theorem tr_add:trFunc Try.prog 172000 [] Try.f74 = some { mf_big_add with body:=erase mf_big_add.body }:=by kernel_rfl
theorem nm_add : (Try.f74.name == "runtime.NumGoroutine") = false := by kernel_rfl
theorem ps_add:PSpec Try.prog id_big_add F_add:=pspec_of (mkTE_ok (PTl_ok (l:=[(id_big_trim,F_trim)]) (PTl_cons ps_trim PTl_nil)) (ETl_ok (l:=[(id_big_trim,mkG G_trim)]) (ETl_cons es_trim ETl_nil))) mixed Try.func74 nm_add tr_add fun ds r h => by
  obtain ⟨⟨x0,x1⟩,hds,hr⟩:=FF_inv h
  clear h
  subst hds
  obtain ⟨hc,rfl⟩:=onlyIf_inv hr
  exact ⟨Nat.le_of_ble_eq_true rfl,w_add _ (mkTE_FG rfl rfl) x0 x1 hc⟩
theorem tr_sub:trFunc Try.prog 173000 [10] Try.f75 = some { mf_big_sub with body:=erase mf_big_sub.body }:=by kernel_rfl
theorem nm_sub : (Try.f75.name == "runtime.NumGoroutine") = false := by kernel_rfl
theorem ps_sub:PSpec Try.prog id_big_sub F_sub:=pspec_of (mkTE_ok (PTl_ok (l:=[(id_slices_Clone_int,F_clone),(id_big_trim,F_trim)]) (PTl_cons ps_clone (PTl_cons ps_trim PTl_nil))) (ETl_ok (l:=[(id_big_trim,mkG G_trim)]) (ETl_cons es_trim ETl_nil))) mixed Try.func75 nm_sub tr_sub fun ds r h => by
  obtain ⟨⟨x0,x1⟩,hds,hr⟩:=FF_inv h
  clear h
  subst hds
  obtain ⟨hc,rfl⟩:=onlyIf_inv hr
  exact ⟨Nat.le_of_ble_eq_true rfl,w_sub _ (mkTE_F rfl rfl) (mkTE_FG rfl rfl) x0 x1 hc⟩
theorem tr_mul:trFunc Try.prog 161000 [] Try.f63 = some { mf_big_mul with body:=erase mf_big_mul.body }:=by kernel_rfl
theorem nm_mul : (Try.f63.name == "runtime.NumGoroutine") = false := by kernel_rfl
theorem ps_mul:PSpec Try.prog id_big_mul F_mul:=pspec_of (mkTE_ok (PTl_ok (l:=[(id_big_trim,F_trim)]) (PTl_cons ps_trim PTl_nil)) (ETl_ok (l:=[(id_big_trim,mkG G_trim)]) (ETl_cons es_trim ETl_nil))) mixed Try.func63 nm_mul tr_mul fun ds r h => by
  obtain ⟨⟨x0,x1⟩,hds,hr⟩:=FF_inv h
  clear h
  subst hds
  obtain ⟨hc,rfl⟩:=onlyIf_inv hr
  exact ⟨Nat.le_of_ble_eq_true rfl,w_mul _ (mkTE_FG rfl rfl) x0 x1 hc⟩
theorem tr_short:trFunc Try.prog 176000 [] Try.f78 = some { mf_big_short with body:=erase mf_big_short.body }:=by kernel_rfl
theorem nm_short : (Try.f78.name == "runtime.NumGoroutine") = false := by kernel_rfl
theorem ps_short:PSpec Try.prog id_big_short F_short:=pspec_of (mkTE_ok (PTl_ok (l:=[(id_big_trim,F_trim)]) (PTl_cons ps_trim PTl_nil)) (ETl_ok (l:=[(id_big_trim,mkG G_trim)]) (ETl_cons es_trim ETl_nil))) mixed Try.func78 nm_short tr_short fun ds r h => by
  obtain ⟨⟨x0,x1⟩,hds,hr⟩:=FF_inv h
  clear h
  subst hds
  obtain ⟨hc,rfl⟩:=onlyIf_inv hr
  exact ⟨Nat.le_of_ble_eq_true rfl,w_short _ (mkTE_FG rfl rfl) x0 x1 hc⟩
theorem tr_settle:trFunc Try.prog 178000 [] Try.f80 = some { mf_big_settle with body:=erase mf_big_settle.body }:=by kernel_rfl
theorem nm_settle : (Try.f80.name == "runtime.NumGoroutine") = false := by kernel_rfl
theorem es_settle:ESpec Try.prog id_big_settle (mkG G_settle):=RSpec.toE (rspec_of (mkTE_ok (PTl_ok (l:=[]) PTl_nil) (ETl_ok (l:=[]) ETl_nil)) mixed Try.func80 nm_settle tr_settle fun args mem x h => by
  obtain ⟨a,⟨rfl,hc⟩,rfl⟩:=GG_inv h
  exact ⟨Nat.le_of_ble_eq_true rfl,w_settle _ a mem hc⟩)
theorem tr_div:trFunc Try.prog 157000 [54] Try.f59 = some { mf_big_div with body:=erase mf_big_div.body }:=by kernel_rfl
theorem nm_div : (Try.f59.name == "runtime.NumGoroutine") = false := by kernel_rfl
theorem ps_div:PSpec Try.prog id_big_div F_div:=pspec_of (mkTE_ok (PTl_ok (l:=[(id_big_compare,F_compare),(id_slices_Clone_int,F_clone),(id_big_short,F_short),(id_big_trim,F_trim),(id_big_mul,F_mul)]) (PTl_cons ps_compare (PTl_cons ps_clone (PTl_cons ps_short (PTl_cons ps_trim (PTl_cons ps_mul PTl_nil)))))) (ETl_ok (l:=[(id_big_trim,mkG G_trim),(id_big_settle,mkG G_settle)]) (ETl_cons es_trim (ETl_cons es_settle ETl_nil)))) mixed Try.func59 nm_div tr_div fun ds r h => by
  obtain ⟨⟨x0,x1⟩,hds,hr⟩:=FF_inv h
  clear h
  subst hds
  obtain ⟨hc,rfl⟩:=onlyIf_inv hr
  exact ⟨Nat.le_of_ble_eq_true rfl,w_div _ (mkTE_F rfl rfl) (mkTE_F rfl rfl) (mkTE_F rfl rfl) (mkTE_FG rfl rfl) (mkTE_F rfl rfl) (mkTE_E rfl rfl) x0 x1 hc⟩
theorem tr_checked:trFunc Try.prog 155000 [] Try.f57 = some { mf_big_checked with body:=erase mf_big_checked.body }:=by kernel_rfl
theorem nm_checked : (Try.f57.name == "runtime.NumGoroutine") = false := by kernel_rfl
theorem ps_checked:PSpec Try.prog id_big_checked F_checked:=pspec_of (mkTE_ok (PTl_ok (l:=[]) PTl_nil) (ETl_ok (l:=[]) ETl_nil)) mixed Try.func57 nm_checked tr_checked fun ds r h => by
  obtain ⟨⟨x0,x1,x2⟩,hds,hr⟩:=FF_inv h
  clear h
  subst hds
  obtain rfl:=Option.some.inj hr
  exact ⟨Nat.le_of_ble_eq_true rfl,w_checked _  x0 x1 x2⟩
theorem tr_Neg:trFunc Try.prog 152000 [] Try.f54 = some { mf_big_Neg with body:=erase mf_big_Neg.body }:=by kernel_rfl
theorem nm_Neg : (Try.f54.name == "runtime.NumGoroutine") = false := by kernel_rfl
theorem ps_Neg:PSpec Try.prog id_big_Neg F_Neg:=pspec_of (mkTE_ok (PTl_ok (l:=[(id_big_Right,F_bigRight),(id_slices_Clone_int,F_clone),(id_big_signed,F_signed)]) (PTl_cons ps_bigRight (PTl_cons ps_clone (PTl_cons ps_signed PTl_nil)))) (ETl_ok (l:=[]) ETl_nil)) mixed Try.func54 nm_Neg tr_Neg fun ds r h => by
  obtain ⟨⟨x0,x1⟩,hds,hr⟩:=FF_inv h
  clear h
  subst hds
  obtain ⟨hc,rfl⟩:=onlyIf_inv hr
  exact ⟨Nat.le_of_ble_eq_true rfl,w_Neg _ (mkTE_F rfl rfl) (mkTE_F rfl rfl) (mkTE_F rfl rfl) x0 x1 hc⟩
theorem tr_Mul:trFunc Try.prog 140000 [] Try.f42 = some { mf_big_Mul with body:=erase mf_big_Mul.body }:=by kernel_rfl
theorem nm_Mul : (Try.f42.name == "runtime.NumGoroutine") = false := by kernel_rfl
theorem ps_Mul:PSpec Try.prog id_big_Mul F_Mul:=pspec_of (mkTE_ok (PTl_ok (l:=[(id_big_Right,F_bigRight),(id_big_mul,F_mul),(id_big_signed,F_signed),(id_big_checked,F_checked)]) (PTl_cons ps_bigRight (PTl_cons ps_mul (PTl_cons ps_signed (PTl_cons ps_checked PTl_nil))))) (ETl_ok (l:=[]) ETl_nil)) mixed Try.func42 nm_Mul tr_Mul fun ds r h => by
  obtain ⟨⟨x0,x1,x2,x3⟩,hds,hr⟩:=FF_inv h
  clear h
  subst hds
  obtain ⟨hc,rfl⟩:=onlyIf_inv hr
  exact ⟨Nat.le_of_ble_eq_true rfl,w_Mul _ (mkTE_F rfl rfl) (mkTE_F rfl rfl) (mkTE_F rfl rfl) (mkTE_F rfl rfl) x0 x1 x2 x3 hc⟩
theorem tr_Add:trFunc Try.prog 160000 [] Try.f62 = some { mf_big_Add with body:=erase mf_big_Add.body }:=by kernel_rfl
theorem nm_Add : (Try.f62.name == "runtime.NumGoroutine") = false := by kernel_rfl
theorem ps_Add:PSpec Try.prog id_big_Add F_Add:=pspec_of (mkTE_ok (PTl_ok (l:=[(id_big_Right,F_bigRight),(id_cmp_Or_int,F_orI),(id_big_add,F_add),(id_big_sub,F_sub),(id_big_compare,F_compare),(id_big_signed,F_signed),(id_big_checked,F_checked)]) (PTl_cons ps_bigRight (PTl_cons ps_orI (PTl_cons ps_add (PTl_cons ps_sub (PTl_cons ps_compare (PTl_cons ps_signed (PTl_cons ps_checked PTl_nil)))))))) (ETl_ok (l:=[]) ETl_nil)) mixed Try.func62 nm_Add tr_Add fun ds r h => by
  obtain ⟨⟨x0,x1,x2,x3⟩,hds,hr⟩:=FF_inv h
  clear h
  subst hds
  obtain ⟨hc,rfl⟩:=onlyIf_inv hr
  exact ⟨Nat.le_of_ble_eq_true rfl,w_Add _ (mkTE_F rfl rfl) (mkTE_F rfl rfl) (mkTE_F rfl rfl) (mkTE_F rfl rfl) (mkTE_F rfl rfl) (mkTE_F rfl rfl) (mkTE_F rfl rfl) x0 x1 x2 x3 hc⟩
theorem tr_Compare:trFunc Try.prog 154000 [] Try.f56 = some { mf_big_Compare with body:=erase mf_big_Compare.body }:=by kernel_rfl
theorem nm_Compare : (Try.f56.name == "runtime.NumGoroutine") = false := by kernel_rfl
theorem ps_Compare:PSpec Try.prog id_big_Compare F_Compare:=pspec_of (mkTE_ok (PTl_ok (l:=[(id_big_Right,F_bigRight),(id_cmp_Compare_int,F_cmpI),(id_big_compare,F_compare)]) (PTl_cons ps_bigRight (PTl_cons ps_cmpI (PTl_cons ps_compare PTl_nil)))) (ETl_ok (l:=[]) ETl_nil)) mixed Try.func56 nm_Compare tr_Compare fun ds r h => by
  obtain ⟨⟨x0,x1,x2,x3⟩,hds,hr⟩:=FF_inv h
  clear h
  subst hds
  obtain ⟨hc,rfl⟩:=onlyIf_inv hr
  exact ⟨Nat.le_of_ble_eq_true rfl,w_Compare _ (mkTE_F rfl rfl) (mkTE_F rfl rfl) (mkTE_F rfl rfl) x0 x1 x2 x3 hc⟩
theorem tr_Gcd:trFunc Try.prog 137000 [] Try.f39 = some { mf_big_Gcd with body:=erase mf_big_Gcd.body }:=by kernel_rfl
theorem nm_Gcd : (Try.f39.name == "runtime.NumGoroutine") = false := by kernel_rfl
theorem ps_Gcd:PSpec Try.prog id_big_Gcd F_Gcd:=pspec_of (mkTE_ok (PTl_ok (l:=[(id_big_Right,F_bigRight),(id_slices_Clone_int,F_clone),(id_big_div,F_div),(id_big_signed,F_signed),(id_big_checked,F_checked)]) (PTl_cons ps_bigRight (PTl_cons ps_clone (PTl_cons ps_div (PTl_cons ps_signed (PTl_cons ps_checked PTl_nil)))))) (ETl_ok (l:=[]) ETl_nil)) mixed Try.func39 nm_Gcd tr_Gcd fun ds r h => by
  obtain ⟨⟨x0,x1,x2,x3⟩,hds,hr⟩:=FF_inv h
  clear h
  subst hds
  obtain ⟨hc,rfl⟩:=onlyIf_inv hr
  exact ⟨Nat.le_of_ble_eq_true rfl,w_Gcd _ (mkTE_F rfl rfl) (mkTE_F rfl rfl) (mkTE_F rfl rfl) (mkTE_F rfl rfl) (mkTE_F rfl rfl) x0 x1 x2 x3 hc⟩
theorem tr_Div:trFunc Try.prog 153000 [] Try.f55 = some { mf_big_Div with body:=erase mf_big_Div.body }:=by kernel_rfl
theorem nm_Div : (Try.f55.name == "runtime.NumGoroutine") = false := by kernel_rfl
theorem ps_Div:PSpec Try.prog id_big_Div F_Div:=pspec_of (mkTE_ok (PTl_ok (l:=[(id_big_Right,F_bigRight),(id_big_div,F_div),(id_big_add,F_add),(id_big_sub,F_sub),(id_big_signed,F_signed)]) (PTl_cons ps_bigRight (PTl_cons ps_div (PTl_cons ps_add (PTl_cons ps_sub (PTl_cons ps_signed PTl_nil)))))) (ETl_ok (l:=[]) ETl_nil)) mixed Try.func55 nm_Div tr_Div fun ds r h => by
  obtain ⟨⟨x0,x1,x2,x3⟩,hds,hr⟩:=FF_inv h
  clear h
  subst hds
  obtain ⟨hc,rfl⟩:=onlyIf_inv hr
  exact ⟨Nat.le_of_ble_eq_true rfl,w_Div _ (mkTE_F rfl rfl) (mkTE_F rfl rfl) (mkTE_F rfl rfl) (mkTE_F rfl rfl) (mkTE_F rfl rfl) x0 x1 x2 x3 hc⟩
theorem tr_bigOf:trFunc Try.prog 150000 [] Try.f52 = some { mf_big_Of with body:=erase mf_big_Of.body }:=by kernel_rfl
theorem nm_bigOf : (Try.f52.name == "runtime.NumGoroutine") = false := by kernel_rfl
theorem ps_bigOf:PSpec Try.prog id_big_Of F_bigOf:=pspec_of (mkTE_ok (PTl_ok (l:=[(id_big_signed,F_signed)]) (PTl_cons ps_signed PTl_nil)) (ETl_ok (l:=[]) ETl_nil)) mixed Try.func52 nm_bigOf tr_bigOf fun ds r h => by
  obtain ⟨x0,hds,hr⟩:=FF_inv h
  clear h
  subst hds
  obtain ⟨hc,rfl⟩:=onlyIf_inv hr
  exact ⟨Nat.le_of_ble_eq_true rfl,w_bigOf _ (mkTE_F rfl rfl) x0 hc⟩
theorem tr_bigInt:trFunc Try.prog 159000 [] Try.f61 = some { mf_big_Int with body:=erase mf_big_Int.body }:=by kernel_rfl
theorem nm_bigInt : (Try.f61.name == "runtime.NumGoroutine") = false := by kernel_rfl
theorem ps_bigInt:PSpec Try.prog id_big_Int F_bigInt:=pspec_of (mkTE_ok (PTl_ok (l:=[(id_big_Right,F_bigRight)]) (PTl_cons ps_bigRight PTl_nil)) (ETl_ok (l:=[]) ETl_nil)) mixed Try.func61 nm_bigInt tr_bigInt fun ds r h => by
  obtain ⟨⟨x0,x1⟩,hds,hr⟩:=FF_inv h
  clear h
  subst hds
  obtain ⟨hc,rfl⟩:=onlyIf_inv hr
  exact ⟨Nat.le_of_ble_eq_true rfl,w_bigInt _ (mkTE_F rfl rfl) x0 x1 hc⟩
theorem tr_fone:trFunc Try.prog 138000 [] Try.f40 = some { mf_frac_one with body:=erase mf_frac_one.body }:=by kernel_rfl
theorem nm_fone : (Try.f40.name == "runtime.NumGoroutine") = false := by kernel_rfl
theorem ps_fone:PSpec Try.prog id_frac_one F_fone:=pspec_of (mkTE_ok (PTl_ok (l:=[(id_big_Int,F_bigInt)]) (PTl_cons ps_bigInt PTl_nil)) (ETl_ok (l:=[]) ETl_nil)) mixed Try.func40 nm_fone tr_fone fun ds r h => by
  obtain ⟨⟨x0,x1⟩,hds,hr⟩:=FF_inv h
  clear h
  subst hds
  obtain ⟨hc,rfl⟩:=onlyIf_inv hr
  exact ⟨Nat.le_of_ble_eq_true rfl,w_fone _ (mkTE_F rfl rfl) x0 x1 hc⟩
theorem tr_fRight:trFunc Try.prog 116000 [] Try.f18 = some { mf_frac_Right with body:=erase mf_frac_Right.body }:=by kernel_rfl
theorem nm_fRight : (Try.f18.name == "runtime.NumGoroutine") = false := by kernel_rfl
theorem ps_fRight:PSpec Try.prog id_frac_Right F_fRight:=pspec_of (mkTE_ok (PTl_ok (l:=[(id_big_Right,F_bigRight),(id_big_Gcd,F_Gcd),(id_frac_one,F_fone)]) (PTl_cons ps_bigRight (PTl_cons ps_Gcd (PTl_cons ps_fone PTl_nil)))) (ETl_ok (l:=[]) ETl_nil)) mixed Try.func18 nm_fRight tr_fRight fun ds r h => by
  obtain ⟨⟨x0,x1,x2,x3⟩,hds,hr⟩:=FF_inv h
  clear h
  subst hds
  obtain ⟨hc,rfl⟩:=onlyIf_inv hr
  exact ⟨Nat.le_of_ble_eq_true rfl,w_fRight _ (mkTE_F rfl rfl) (mkTE_F rfl rfl) (mkTE_F rfl rfl) x0 x1 x2 x3 hc⟩
theorem tr_fNew:trFunc Try.prog 149000 [] Try.f51 = some { mf_frac_New with body:=erase mf_frac_New.body }:=by kernel_rfl
theorem nm_fNew : (Try.f51.name == "runtime.NumGoroutine") = false := by kernel_rfl
theorem ps_fNew:PSpec Try.prog id_frac_New F_fNew:=pspec_of (mkTE_ok (PTl_ok (l:=[(id_big_Right,F_bigRight),(id_big_Neg,F_Neg),(id_big_Gcd,F_Gcd),(id_big_Div,F_Div)]) (PTl_cons ps_bigRight (PTl_cons ps_Neg (PTl_cons ps_Gcd (PTl_cons ps_Div PTl_nil))))) (ETl_ok (l:=[]) ETl_nil)) mixed Try.func51 nm_fNew tr_fNew fun ds r h => by
  obtain ⟨⟨x0,x1,x2,x3⟩,hds,hr⟩:=FF_inv h
  clear h
  subst hds
  obtain ⟨hc,rfl⟩:=onlyIf_inv hr
  exact ⟨Nat.le_of_ble_eq_true rfl,w_fNew _ (mkTE_F rfl rfl) (mkTE_F rfl rfl) (mkTE_F rfl rfl) (mkTE_F rfl rfl) x0 x1 x2 x3 hc⟩
theorem tr_fOf:trFunc Try.prog 130000 [] Try.f32 = some { mf_frac_Of with body:=erase mf_frac_Of.body }:=by kernel_rfl
theorem nm_fOf : (Try.f32.name == "runtime.NumGoroutine") = false := by kernel_rfl
theorem ps_fOf:PSpec Try.prog id_frac_Of F_fOf:=pspec_of (mkTE_ok (PTl_ok (l:=[(id_big_Of,F_bigOf),(id_frac_New,F_fNew)]) (PTl_cons ps_bigOf (PTl_cons ps_fNew PTl_nil))) (ETl_ok (l:=[]) ETl_nil)) mixed Try.func32 nm_fOf tr_fOf fun ds r h => by
  obtain ⟨⟨x0,x1⟩,hds,hr⟩:=FF_inv h
  clear h
  subst hds
  obtain ⟨hc,rfl⟩:=onlyIf_inv hr
  exact ⟨Nat.le_of_ble_eq_true rfl,w_fOf _ (mkTE_F rfl rfl) (mkTE_F rfl rfl) x0 x1 hc⟩
theorem tr_fsum:trFunc Try.prog 139000 [] Try.f41 = some { mf_frac_sum with body:=erase mf_frac_sum.body }:=by kernel_rfl
theorem nm_fsum : (Try.f41.name == "runtime.NumGoroutine") = false := by kernel_rfl
theorem ps_fsum:PSpec Try.prog id_frac_sum F_fsum:=pspec_of (mkTE_ok (PTl_ok (l:=[(id_big_Mul,F_Mul),(id_big_Add,F_Add)]) (PTl_cons ps_Mul (PTl_cons ps_Add PTl_nil))) (ETl_ok (l:=[]) ETl_nil)) mixed Try.func41 nm_fsum tr_fsum fun ds r h => by
  obtain ⟨⟨x0,x1,x2,x3,x4,x5,x6,x7⟩,hds,hr⟩:=FF_inv h
  clear h
  subst hds
  obtain ⟨hc,rfl⟩:=onlyIf_inv hr
  exact ⟨Nat.le_of_ble_eq_true rfl,w_fsum _ (mkTE_F rfl rfl) (mkTE_F rfl rfl) x0 x1 x2 x3 x4 x5 x6 x7 hc⟩
theorem tr_fquot:trFunc Try.prog 141000 [] Try.f43 = some { mf_frac_quotient with body:=erase mf_frac_quotient.body }:=by kernel_rfl
theorem nm_fquot : (Try.f43.name == "runtime.NumGoroutine") = false := by kernel_rfl
theorem ps_fquot:PSpec Try.prog id_frac_quotient F_fquot:=pspec_of (mkTE_ok (PTl_ok (l:=[(id_frac_New,F_fNew)]) (PTl_cons ps_fNew PTl_nil)) (ETl_ok (l:=[]) ETl_nil)) mixed Try.func43 nm_fquot tr_fquot fun ds r h => by
  obtain ⟨⟨x0,x1,x2,x3,x4,x5⟩,hds,hr⟩:=FF_inv h
  clear h
  subst hds
  obtain ⟨hc,rfl⟩:=onlyIf_inv hr
  exact ⟨Nat.le_of_ble_eq_true rfl,w_fquot _ (mkTE_F rfl rfl) x0 x1 x2 x3 x4 x5 hc⟩
theorem tr_fAdd:trFunc Try.prog 119000 [] Try.f21 = some { mf_frac_Add with body:=erase mf_frac_Add.body }:=by kernel_rfl
theorem nm_fAdd : (Try.f21.name == "runtime.NumGoroutine") = false := by kernel_rfl
theorem ps_fAdd:PSpec Try.prog id_frac_Add F_fAdd:=pspec_of (mkTE_ok (PTl_ok (l:=[(id_frac_Right,F_fRight),(id_frac_sum,F_fsum),(id_big_Mul,F_Mul),(id_frac_quotient,F_fquot)]) (PTl_cons ps_fRight (PTl_cons ps_fsum (PTl_cons ps_Mul (PTl_cons ps_fquot PTl_nil))))) (ETl_ok (l:=[]) ETl_nil)) mixed Try.func21 nm_fAdd tr_fAdd fun ds r h => by
  obtain ⟨⟨x0,x1,x2,x3,x4,x5,x6,x7⟩,hds,hr⟩:=FF_inv h
  clear h
  subst hds
  obtain ⟨hc,rfl⟩:=onlyIf_inv hr
  exact ⟨Nat.le_of_ble_eq_true rfl,w_fAdd _ (mkTE_F rfl rfl) (mkTE_F rfl rfl) (mkTE_F rfl rfl) (mkTE_F rfl rfl) x0 x1 x2 x3 x4 x5 x6 x7 hc⟩
theorem tr_fSub:trFunc Try.prog 132000 [] Try.f34 = some { mf_frac_Sub with body:=erase mf_frac_Sub.body }:=by kernel_rfl
theorem nm_fSub : (Try.f34.name == "runtime.NumGoroutine") = false := by kernel_rfl
theorem ps_fSub:PSpec Try.prog id_frac_Sub F_fSub:=pspec_of (mkTE_ok (PTl_ok (l:=[(id_frac_Right,F_fRight),(id_big_Neg,F_Neg),(id_frac_Add,F_fAdd)]) (PTl_cons ps_fRight (PTl_cons ps_Neg (PTl_cons ps_fAdd PTl_nil)))) (ETl_ok (l:=[]) ETl_nil)) mixed Try.func34 nm_fSub tr_fSub fun ds r h => by
  obtain ⟨⟨x0,x1,x2,x3,x4,x5,x6,x7⟩,hds,hr⟩:=FF_inv h
  clear h
  subst hds
  obtain ⟨hc,rfl⟩:=onlyIf_inv hr
  exact ⟨Nat.le_of_ble_eq_true rfl,w_fSub _ (mkTE_F rfl rfl) (mkTE_F rfl rfl) (mkTE_F rfl rfl) x0 x1 x2 x3 x4 x5 x6 x7 hc⟩
theorem tr_fMul:trFunc Try.prog 134000 [] Try.f36 = some { mf_frac_Mul with body:=erase mf_frac_Mul.body }:=by kernel_rfl
theorem nm_fMul : (Try.f36.name == "runtime.NumGoroutine") = false := by kernel_rfl
theorem ps_fMul:PSpec Try.prog id_frac_Mul F_fMul:=pspec_of (mkTE_ok (PTl_ok (l:=[(id_frac_Right,F_fRight),(id_big_Mul,F_Mul),(id_frac_quotient,F_fquot)]) (PTl_cons ps_fRight (PTl_cons ps_Mul (PTl_cons ps_fquot PTl_nil)))) (ETl_ok (l:=[]) ETl_nil)) mixed Try.func36 nm_fMul tr_fMul fun ds r h => by
  obtain ⟨⟨x0,x1,x2,x3,x4,x5,x6,x7⟩,hds,hr⟩:=FF_inv h
  clear h
  subst hds
  obtain ⟨hc,rfl⟩:=onlyIf_inv hr
  exact ⟨Nat.le_of_ble_eq_true rfl,w_fMul _ (mkTE_F rfl rfl) (mkTE_F rfl rfl) (mkTE_F rfl rfl) x0 x1 x2 x3 x4 x5 x6 x7 hc⟩
theorem tr_fDiv:trFunc Try.prog 169000 [] Try.f71 = some { mf_frac_Div with body:=erase mf_frac_Div.body }:=by kernel_rfl
theorem nm_fDiv : (Try.f71.name == "runtime.NumGoroutine") = false := by kernel_rfl
theorem ps_fDiv:PSpec Try.prog id_frac_Div F_fDiv:=pspec_of (mkTE_ok (PTl_ok (l:=[(id_frac_Right,F_fRight),(id_big_Mul,F_Mul),(id_frac_quotient,F_fquot)]) (PTl_cons ps_fRight (PTl_cons ps_Mul (PTl_cons ps_fquot PTl_nil)))) (ETl_ok (l:=[]) ETl_nil)) mixed Try.func71 nm_fDiv tr_fDiv fun ds r h => by
  obtain ⟨⟨x0,x1,x2,x3,x4,x5,x6,x7⟩,hds,hr⟩:=FF_inv h
  clear h
  subst hds
  obtain ⟨hc,rfl⟩:=onlyIf_inv hr
  exact ⟨Nat.le_of_ble_eq_true rfl,w_fDiv _ (mkTE_F rfl rfl) (mkTE_F rfl rfl) (mkTE_F rfl rfl) x0 x1 x2 x3 x4 x5 x6 x7 hc⟩
theorem tr_fCompare:trFunc Try.prog 135000 [] Try.f37 = some { mf_frac_Compare with body:=erase mf_frac_Compare.body }:=by kernel_rfl
theorem nm_fCompare : (Try.f37.name == "runtime.NumGoroutine") = false := by kernel_rfl
theorem ps_fCompare:PSpec Try.prog id_frac_Compare F_fCompare:=pspec_of (mkTE_ok (PTl_ok (l:=[(id_frac_Right,F_fRight),(id_big_Div,F_Div),(id_big_Compare,F_Compare)]) (PTl_cons ps_fRight (PTl_cons ps_Div (PTl_cons ps_Compare PTl_nil)))) (ETl_ok (l:=[]) ETl_nil)) mixed Try.func37 nm_fCompare tr_fCompare fun ds r h => by
  obtain ⟨⟨x0,x1,x2,x3,x4,x5,x6,x7⟩,hds,hr⟩:=FF_inv h
  clear h
  subst hds
  obtain ⟨hc,rfl⟩:=onlyIf_inv hr
  exact ⟨Nat.le_of_ble_eq_true rfl,w_fCompare _ (mkTE_F rfl rfl) (mkTE_F rfl rfl) (mkTE_F rfl rfl) x0 x1 x2 x3 x4 x5 x6 x7 hc⟩
end Go.Mini
