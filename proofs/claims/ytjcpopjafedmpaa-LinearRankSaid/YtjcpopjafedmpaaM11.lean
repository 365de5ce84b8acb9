/- A part of the proof: MiniKLaw06, MiniLw1, MiniLw2, MiniLw3, MiniLw4, MiniLw5, MiniLw7, MiniPsRank1, MiniPsRank2, MiniLm1. -/
import Derived.Test.YtjcpopjafedmpaaM04
import Derived.Test.YtjcpopjafedmpaaM09
import Derived.Test.YtjcpopjafedmpaaM10
import Derived.Test.YtjcpopjafedmpaaProg
import Derived.KernelRfl
import Derived.Test.YtjcpopjafedmpaaM03
set_option linter.unusedSimpArgs false
set_option linter.unusedVariables false
open Nat renaming reduceEqDiff → yA, reduceAdd → yB, reduceSub → yC, reduceMul → yD, reduceLeDiff → yE, reduceLT → yF, reduceBEq → yG
open Bool renaming false_eq_true → yH
open Int renaming reduceEq → yI
open List renaming length_map → yJ, getElem?_map → yK, getElem?_eq_getElem → yL
open List.cons renaming injEq → yM
namespace Go.Mini
open Go
def mf_law06_LinearRank:MFunc :=
 { n:=186,np:=3,res:=[.t 6],body :=
 (.seq (.ops [
 ⟨(some 6),none,.mv (.c (.dat (.bool false)))⟩])
 (.seq (.ops [
 ⟨(some 25),none,.call id_law06_small []⟩,⟨(some 7),none,.mv (.t 25)⟩])
 (.seq (.ops [
 ⟨(some 26),none,.mv (.t 0)⟩,⟨(some 27),none,.len (.t 26)⟩,⟨(some 8),none,.mv (.t 27)⟩])
 (.seq (.seq (.ops [
 ⟨(some 28),none,.mv (.t 0)⟩,⟨(some 29),none,.call id_ref06_Few [(.t 28),(.c (.dat (.int .i64 3))),(.c (.dat (.int .i64 1)))]⟩,⟨(some 30),none,.un .not (.t 29)⟩,⟨(some 31),none,.mv (.t 30)⟩,⟨(some 32),(some (31,false)),.mv (.t 0)⟩,⟨(some 33),(some (31,false)),.mv (.t 8)⟩,⟨(some 34),(some (31,false)),.call id_linear_Right [(.t 32),(.t 33)]⟩,⟨(some 35),(some (31,false)),.un .not (.t 34)⟩,⟨(some 36),none,.pick (.t 31) (.c (.dat (.bool true))) (.t 35)⟩])
 (.cond (.t 36)
 (.seq (.ops [
 ⟨(some 37),none,.mv (.t 7)⟩,⟨(some 6),none,.mv (.t 37)⟩])
 .ret)
 .skip))
 (.seq (.ops [
 ⟨(some 39),none,.mv (.t 0)⟩,⟨(some 40),none,.mv (.t 8)⟩,⟨(some 41),none,.call id_linear_Rank [(.t 39),(.t 40)]⟩,⟨(some 38),none,.mv (.t 41)⟩,⟨(some 42),none,.ext 0 (.t 38)⟩,⟨(some 43),none,.ext 1 (.t 38)⟩,⟨(some 9),none,.mv (.t 42)⟩,⟨(some 10),none,.mv (.t 43)⟩])
 (.seq (.ops [
 ⟨(some 45),none,.mv (.t 0)⟩,⟨(some 46),none,.mv (.t 8)⟩,⟨(some 47),none,.call id_linear_Solve [(.t 45),(.t 46)]⟩,⟨(some 44),none,.mv (.t 47)⟩,⟨(some 48),none,.ext 0 (.t 44)⟩,⟨(some 49),none,.ext 1 (.t 44)⟩,⟨(some 11),none,.mv (.t 48)⟩,⟨(some 12),none,.mv (.t 49)⟩])
 (.seq (.ops [
 ⟨(some 51),none,.mv (.t 0)⟩,⟨(some 52),none,.mv (.t 8)⟩,⟨(some 53),none,.call id_linear_Kernel [(.t 51),(.t 52)]⟩,⟨(some 50),none,.mv (.t 53)⟩,⟨(some 54),none,.ext 0 (.t 50)⟩,⟨(some 55),none,.ext 1 (.t 50)⟩,⟨(some 13),none,.mv (.t 54)⟩,⟨(some 14),none,.mv (.t 55)⟩])
 (.seq (.ops [
 ⟨(some 57),none,.mv (.t 0)⟩,⟨(some 58),none,.call id_law06_homogeneous [(.t 57)]⟩,⟨(some 59),none,.mv (.t 8)⟩,⟨(some 60),none,.call id_linear_Rank [(.t 58),(.t 59)]⟩,⟨(some 56),none,.mv (.t 60)⟩,⟨(some 61),none,.ext 0 (.t 56)⟩,⟨(some 62),none,.ext 1 (.t 56)⟩,⟨(some 15),none,.mv (.t 61)⟩,⟨(some 16),none,.mv (.t 62)⟩])
 (.seq (.seq (.ops [
 ⟨(some 63),none,.mv (.t 10)⟩,⟨(some 64),none,.bin .neq (.t 63) (.c (.dat (.int .i64 0)))⟩,⟨(some 65),none,.mv (.t 64)⟩,⟨(some 66),(some (65,false)),.mv (.t 16)⟩,⟨(some 67),(some (65,false)),.bin .neq (.t 66) (.c (.dat (.int .i64 0)))⟩,⟨(some 68),none,.pick (.t 65) (.c (.dat (.bool true))) (.t 67)⟩,⟨(some 69),none,.mv (.t 68)⟩,⟨(some 70),(some (69,false)),.mv (.t 9)⟩,⟨(some 71),(some (69,false)),.bin .lss (.t 70) (.c (.dat (.int .i64 0)))⟩,⟨(some 72),none,.pick (.t 69) (.c (.dat (.bool true))) (.t 71)⟩,⟨(some 73),none,.mv (.t 72)⟩,⟨(some 74),(some (73,false)),.mv (.t 9)⟩,⟨(some 75),(some (73,false)),.mv (.t 8)⟩,⟨(some 76),(some (73,false)),.bin .gtr (.t 74) (.t 75)⟩,⟨(some 77),none,.pick (.t 73) (.c (.dat (.bool true))) (.t 76)⟩,⟨(some 78),none,.mv (.t 77)⟩,⟨(some 79),(some (78,false)),.mv (.t 9)⟩,⟨(some 80),(some (78,false)),.mv (.t 8)⟩,⟨(some 81),(some (78,false)),.bin .eql (.t 79) (.t 80)⟩,⟨(some 82),(some (78,false)),.mv (.t 12)⟩,⟨(some 83),(some (78,false)),.bin .eql (.t 82) (.c (.dat (.int .i64 0)))⟩,⟨(some 84),(some (78,false)),.beq true (.t 81) (.t 83)⟩,⟨(some 85),none,.pick (.t 78) (.c (.dat (.bool true))) (.t 84)⟩,⟨(some 86),none,.mv (.t 85)⟩,⟨(some 87),(some (86,false)),.mv (.t 9)⟩,⟨(some 88),(some (86,false)),.mv (.t 8)⟩,⟨(some 89),(some (86,false)),.bin .eql (.t 87) (.t 88)⟩,⟨(some 90),(some (86,false)),.mv (.t 14)⟩,⟨(some 91),(some (86,false)),.beq false (.t 89) (.t 90)⟩,⟨(some 92),none,.pick (.t 86) (.c (.dat (.bool true))) (.t 91)⟩,⟨(some 93),none,.mv (.t 92)⟩,⟨(some 94),(some (93,false)),.mv (.t 15)⟩,⟨(some 95),(some (93,false)),.mv (.t 9)⟩,⟨(some 96),(some (93,false)),.bin .neq (.t 94) (.t 95)⟩,⟨(some 97),none,.pick (.t 93) (.c (.dat (.bool true))) (.t 96)⟩])
 (.cond (.t 97)
 (.seq (.ops [
 ⟨(some 6),none,.mv (.c (.dat (.bool false)))⟩])
 .ret)
 .skip))
 (.seq (.seq (.ops [
 ⟨(some 98),none,.mv (.t 8)⟩,⟨(some 99),none,.bin .eql (.t 98) (.c (.dat (.int .i64 0)))⟩])
 (.cond (.t 99)
 (.seq (.ops [
 ⟨(some 100),none,.mv (.t 7)⟩,⟨(some 6),none,.mv (.t 100)⟩])
 .ret)
 .skip))
 (.seq (.ghost (.move) (.ops [
 ⟨(some 101),none,.mv (.t 1)⟩,⟨(some 102),none,.conv .i64 (.t 101)⟩,⟨(some 103),none,.mv (.t 8)⟩,⟨(some 104),none,.bin .rem (.t 102) (.t 103)⟩,⟨(some 17),none,.mv (.t 104)⟩]))
 (.seq (.ops [
 ⟨(some 105),none,.mv (.t 2)⟩,⟨(some 106),none,.conv .i64 (.t 105)⟩,⟨(some 107),none,.mv (.t 8)⟩,⟨(some 108),none,.bin .rem (.t 106) (.t 107)⟩,⟨(some 18),none,.mv (.t 108)⟩])
 (.seq (.ops [
 ⟨(some 109),none,.bsl 104109 true [] 5 0 []⟩,⟨(some 110),none,.mv (.t 0)⟩,⟨(some 111),none,.app 104111 [.nil,(.dat (.int .i64 0)),.nil,(.dat (.int .i64 0)),.nil] 88 (.t 109) (.t 110)⟩,⟨(some 19),none,.mv (.t 111)⟩])
 (.seq (.ops [
 ⟨(some 112),none,.mv (.t 19)⟩,⟨(some 113),none,.mv (.t 17)⟩,⟨(some 114),none,.mv (.t 0)⟩,⟨(some 115),none,.mv (.t 18)⟩,⟨(some 116),none,.iad 5 (.t 114) (.t 115)⟩,⟨(some 117),none,.load 5 true (.t 116)⟩,⟨(some 118),none,.iad 5 (.t 112) (.t 113)⟩,⟨none,none,.store 5 (.t 118) (.t 117)⟩])
 (.seq (.ops [
 ⟨(some 119),none,.bsl 104119 true [] 5 0 []⟩,⟨(some 120),none,.mv (.t 0)⟩,⟨(some 121),none,.app 104121 [.nil,(.dat (.int .i64 0)),.nil,(.dat (.int .i64 0)),.nil] 88 (.t 119) (.t 120)⟩,⟨(some 20),none,.mv (.t 121)⟩])
 (.seq (.ghost (.move) (.opsD [
 ⟨(some 123),none,.mv (.t 20)⟩,⟨(some 124),none,.mv (.t 17)⟩,⟨(some 125),none,.mv (.t 0)⟩,⟨(some 126),none,.mv (.t 17)⟩,⟨(some 127),none,.iad 5 (.t 125) (.t 126)⟩,⟨(some 128),none,.load 5 true (.t 127)⟩,⟨(some 129),none,.call id_law06_number [(.c (.dat (.int .i64 0)))]⟩,⟨(some 130),none,.call id_law06_times [(.t 128),(.t 129)]⟩,⟨(some 122),none,.mv (.t 130)⟩,⟨(some 131),none,.ext 0 (.t 122)⟩,⟨(some 132),none,.ext 1 (.t 122)⟩,⟨(some 133),none,.iad 5 (.t 123) (.t 124)⟩,⟨none,none,.store 5 (.t 133) (.t 131)⟩] [[],[],[],[],[],[],[],[],[],[],[],[],[]]))
 (.seq (.ghost (.freeze 19) (.ghost (.freeze 20) (.ops [
 ⟨(some 135),none,.mv (.t 19)⟩,⟨(some 136),none,.mv (.t 8)⟩,⟨(some 137),none,.call id_linear_Rank [(.t 135),(.t 136)]⟩,⟨(some 134),none,.mv (.t 137)⟩,⟨(some 138),none,.ext 0 (.t 134)⟩,⟨(some 139),none,.ext 1 (.t 134)⟩,⟨(some 21),none,.mv (.t 138)⟩,⟨(some 22),none,.mv (.t 139)⟩])))
 (.seq (.ops [
 ⟨(some 141),none,.mv (.t 20)⟩,⟨(some 142),none,.mv (.t 8)⟩,⟨(some 143),none,.call id_linear_Rank [(.t 141),(.t 142)]⟩,⟨(some 140),none,.mv (.t 143)⟩,⟨(some 144),none,.ext 0 (.t 140)⟩,⟨(some 145),none,.ext 1 (.t 140)⟩,⟨(some 23),none,.mv (.t 144)⟩,⟨(some 24),none,.mv (.t 145)⟩])
 (.seq (.ghost (.move) (.ops [
 ⟨(some 146),none,.mv (.t 7)⟩,⟨(some 147),none,.mv (.t 146)⟩,⟨(some 148),(some (147,true)),.mv (.t 22)⟩,⟨(some 149),(some (147,true)),.bin .eql (.t 148) (.c (.dat (.int .i64 0)))⟩,⟨(some 150),none,.pick (.t 147) (.t 149) (.c (.dat (.bool false)))⟩,⟨(some 151),none,.mv (.t 150)⟩,⟨(some 152),(some (151,true)),.mv (.t 24)⟩,⟨(some 153),(some (151,true)),.bin .eql (.t 152) (.c (.dat (.int .i64 0)))⟩,⟨(some 154),none,.pick (.t 151) (.t 153) (.c (.dat (.bool false)))⟩,⟨(some 155),none,.mv (.t 154)⟩,⟨(some 156),(some (155,true)),.mv (.t 21)⟩,⟨(some 157),(some (155,true)),.mv (.t 9)⟩,⟨(some 158),(some (155,true)),.bin .leq (.t 156) (.t 157)⟩,⟨(some 159),none,.pick (.t 155) (.t 158) (.c (.dat (.bool false)))⟩,⟨(some 160),none,.mv (.t 159)⟩,⟨(some 161),(some (160,true)),.mv (.t 23)⟩,⟨(some 162),(some (160,true)),.mv (.t 9)⟩,⟨(some 163),(some (160,true)),.bin .leq (.t 161) (.t 162)⟩,⟨(some 164),none,.pick (.t 160) (.t 163) (.c (.dat (.bool false)))⟩,⟨(some 165),none,.mv (.t 164)⟩,⟨(some 166),(some (165,true)),.mv (.t 23)⟩,⟨(some 167),(some (165,true)),.mv (.t 9)⟩,⟨(some 168),(some (165,true)),.bin .sub (.t 167) (.c (.dat (.int .i64 1)))⟩,⟨(some 169),(some (165,true)),.bin .geq (.t 166) (.t 168)⟩,⟨(some 170),none,.pick (.t 165) (.t 169) (.c (.dat (.bool false)))⟩,⟨(some 171),none,.mv (.t 170)⟩,⟨(some 172),(some (171,true)),.mv (.t 23)⟩,⟨(some 173),(some (171,true)),.mv (.t 8)⟩,⟨(some 174),(some (171,true)),.bin .lss (.t 172) (.t 173)⟩,⟨(some 175),none,.pick (.t 171) (.t 174) (.c (.dat (.bool false)))⟩,⟨(some 176),none,.mv (.t 175)⟩,⟨(some 177),(some (176,true)),.mv (.t 17)⟩,⟨(some 178),(some (176,true)),.mv (.t 18)⟩,⟨(some 179),(some (176,true)),.bin .eql (.t 177) (.t 178)⟩,⟨(some 180),(some (176,true)),.mv (.t 179)⟩,⟨(some 181),(some (180,false)),.mv (.t 21)⟩,⟨(some 182),(some (180,false)),.mv (.t 8)⟩,⟨(some 183),(some (180,false)),.bin .lss (.t 181) (.t 182)⟩,⟨(some 184),(some (176,true)),.pick (.t 180) (.c (.dat (.bool true))) (.t 183)⟩,⟨(some 185),none,.pick (.t 176) (.t 184) (.c (.dat (.bool false)))⟩,⟨(some 6),none,.mv (.t 185)⟩]))
 .ret))))))))))))))))))) }
def mf_law06_small:MFunc :=
 { n:=106,np:=0,res:=[.t 0],body :=
 (.seq (.ops [
 ⟨(some 0),none,.mv (.c (.dat (.bool false)))⟩])
 (.seq (.ops [
 ⟨(some 16),none,.bsl 105016 false [(.dat (.int .i64 0)),(.dat (.int .i64 0))] 1 2 [(0,1,(.c (.dat (.int .i64 2)))),(1,1,(.c (.dat (.int .i64 1))))]⟩,⟨(some 17),none,.call id_law06_row [(.t 16)]⟩,⟨(some 18),none,.bsl 105018 false [.nil,(.dat (.int .i64 0)),.nil,(.dat (.int .i64 0)),.nil] 5 1 [(0,5,(.t 17))]⟩,⟨(some 19),none,.call id_linear_Solve [(.t 18),(.c (.dat (.int .i64 1)))]⟩,⟨(some 15),none,.mv (.t 19)⟩,⟨(some 20),none,.ext 0 (.t 15)⟩,⟨(some 21),none,.ext 1 (.t 15)⟩,⟨(some 1),none,.mv (.t 20)⟩,⟨(some 2),none,.mv (.t 21)⟩])
 (.seq (.ops [
 ⟨(some 23),none,.bsl 105023 false [(.dat (.int .i64 0)),(.dat (.int .i64 0)),(.dat (.int .i64 0))] 1 3 [(0,1,(.c (.dat (.int .i64 1)))),(1,1,(.c (.dat (.int .i64 1)))),(2,1,(.c (.dat (.int .i64 3))))]⟩,⟨(some 24),none,.call id_law06_row [(.t 23)]⟩,⟨(some 25),none,.bsl 105025 false [(.dat (.int .i64 0)),(.dat (.int .i64 0)),(.dat (.int .i64 0))] 1 3 [(0,1,(.c (.dat (.int .i64 1)))),(1,1,(.c (.dat (.int .i64 (-1))))),(2,1,(.c (.dat (.int .i64 1))))]⟩,⟨(some 26),none,.call id_law06_row [(.t 25)]⟩,⟨(some 27),none,.bsl 105027 false [.nil,(.dat (.int .i64 0)),.nil,(.dat (.int .i64 0)),.nil,.nil,(.dat (.int .i64 0)),.nil,(.dat (.int .i64 0)),.nil] 5 2 [(0,5,(.t 24)),(5,5,(.t 26))]⟩,⟨(some 28),none,.call id_linear_Solve [(.t 27),(.c (.dat (.int .i64 2)))]⟩,⟨(some 22),none,.mv (.t 28)⟩,⟨(some 29),none,.ext 0 (.t 22)⟩,⟨(some 30),none,.ext 1 (.t 22)⟩,⟨(some 3),none,.mv (.t 29)⟩,⟨(some 4),none,.mv (.t 30)⟩])
 (.seq (.ops [
 ⟨(some 31),none,.bsl 105031 false [(.dat (.int .i64 0)),(.dat (.int .i64 0)),(.dat (.int .i64 0))] 1 3 [(0,1,(.c (.dat (.int .i64 1)))),(1,1,(.c (.dat (.int .i64 2)))),(2,1,(.c (.dat (.int .i64 1))))]⟩,⟨(some 32),none,.call id_law06_row [(.t 31)]⟩,⟨(some 33),none,.bsl 105033 false [(.dat (.int .i64 0)),(.dat (.int .i64 0)),(.dat (.int .i64 0))] 1 3 [(0,1,(.c (.dat (.int .i64 2)))),(1,1,(.c (.dat (.int .i64 4)))),(2,1,(.c (.dat (.int .i64 5))))]⟩,⟨(some 34),none,.call id_law06_row [(.t 33)]⟩,⟨(some 35),none,.bsl 105035 false [.nil,(.dat (.int .i64 0)),.nil,(.dat (.int .i64 0)),.nil,.nil,(.dat (.int .i64 0)),.nil,(.dat (.int .i64 0)),.nil] 5 2 [(0,5,(.t 32)),(5,5,(.t 34))]⟩,⟨(some 5),none,.mv (.t 35)⟩])
 (.seq (.ops [
 ⟨(some 37),none,.mv (.t 5)⟩,⟨(some 38),none,.call id_linear_Solve [(.t 37),(.c (.dat (.int .i64 2)))]⟩,⟨(some 36),none,.mv (.t 38)⟩,⟨(some 39),none,.ext 0 (.t 36)⟩,⟨(some 40),none,.ext 1 (.t 36)⟩,⟨(some 6),none,.mv (.t 39)⟩,⟨(some 7),none,.mv (.t 40)⟩])
 (.seq (.ops [
 ⟨(some 42),none,.mv (.t 5)⟩,⟨(some 43),none,.call id_linear_Kernel [(.t 42),(.c (.dat (.int .i64 2)))]⟩,⟨(some 41),none,.mv (.t 43)⟩,⟨(some 44),none,.ext 0 (.t 41)⟩,⟨(some 45),none,.ext 1 (.t 41)⟩,⟨(some 8),none,.mv (.t 44)⟩,⟨(some 9),none,.mv (.t 45)⟩])
 (.seq (.ops [
 ⟨(some 47),none,.mv (.t 5)⟩,⟨(some 48),none,.call id_linear_Rank [(.t 47),(.c (.dat (.int .i64 2)))]⟩,⟨(some 46),none,.mv (.t 48)⟩,⟨(some 49),none,.ext 0 (.t 46)⟩,⟨(some 50),none,.ext 1 (.t 46)⟩,⟨(some 10),none,.mv (.t 49)⟩,⟨(some 11),none,.mv (.t 50)⟩])
 (.seq (.ops [
 ⟨(some 52),none,.call id_ref05_Of [(.c (.dat (.int .i64 1))),(.c (.dat (.int .i64 2)))]⟩,⟨(some 51),none,.mv (.t 52)⟩,⟨(some 53),none,.ext 0 (.t 51)⟩,⟨(some 54),none,.ext 1 (.t 51)⟩,⟨(some 12),none,.alloc 105012 [(.dat (.int .i64 0)),.nil,(.dat (.int .i64 0)),.nil]⟩,⟨none,none,.store 4 (.t 12) (.t 53)⟩,⟨(some 13),none,.mv (.t 54)⟩])
 (.seq (.ops [
 ⟨(some 55),none,.mv (.t 1)⟩,⟨(some 56),none,.load 4 true (.t 12)⟩,⟨(some 57),none,.bsl 105057 false [(.dat (.int .i64 0)),.nil,(.dat (.int .i64 0)),.nil] 4 1 [(0,4,(.t 56))]⟩,⟨(some 58),none,.call id_ref06_Same [(.t 55),(.t 57)]⟩,⟨(some 59),none,.mv (.t 58)⟩,⟨(some 60),(some (59,true)),.mv (.t 2)⟩,⟨(some 61),(some (59,true)),.bin .eql (.t 60) (.c (.dat (.int .i64 0)))⟩,⟨(some 62),none,.pick (.t 59) (.t 61) (.c (.dat (.bool false)))⟩,⟨(some 63),none,.mv (.t 62)⟩,⟨(some 64),(some (63,true)),.mv (.t 3)⟩,⟨(some 65),(some (63,true)),.call id_law06_number [(.c (.dat (.int .i64 2)))]⟩,⟨(some 66),(some (63,true)),.call id_law06_number [(.c (.dat (.int .i64 1)))]⟩,⟨(some 67),(some (63,true)),.bsl 105067 false [(.dat (.int .i64 0)),.nil,(.dat (.int .i64 0)),.nil,(.dat (.int .i64 0)),.nil,(.dat (.int .i64 0)),.nil] 4 2 [(0,4,(.t 65)),(4,4,(.t 66))]⟩,⟨(some 68),(some (63,true)),.call id_ref06_Same [(.t 64),(.t 67)]⟩,⟨(some 69),none,.pick (.t 63) (.t 68) (.c (.dat (.bool false)))⟩,⟨(some 70),none,.mv (.t 69)⟩,⟨(some 71),(some (70,true)),.mv (.t 4)⟩,⟨(some 72),(some (70,true)),.bin .eql (.t 71) (.c (.dat (.int .i64 0)))⟩,⟨(some 73),none,.pick (.t 70) (.t 72) (.c (.dat (.bool false)))⟩,⟨(some 14),none,.mv (.t 73)⟩])
 (.seq (.ops [
 ⟨(some 74),none,.mv (.t 14)⟩,⟨(some 75),none,.mv (.t 74)⟩,⟨(some 76),(some (75,true)),.mv (.t 7)⟩,⟨(some 77),(some (75,true)),.bin .eql (.t 76) (.c (.dat (.int .i64 17)))⟩,⟨(some 78),none,.pick (.t 75) (.t 77) (.c (.dat (.bool false)))⟩,⟨(some 79),none,.mv (.t 78)⟩,⟨(some 80),(some (79,true)),.mv (.t 9)⟩,⟨(some 81),none,.pick (.t 79) (.t 80) (.c (.dat (.bool false)))⟩,⟨(some 82),none,.mv (.t 81)⟩,⟨(some 83),(some (82,true)),.mv (.t 8)⟩,⟨(some 84),(some (82,true)),.call id_law06_number [(.c (.dat (.int .i64 (-2))))]⟩,⟨(some 85),(some (82,true)),.call id_law06_number [(.c (.dat (.int .i64 1)))]⟩,⟨(some 86),(some (82,true)),.bsl 105086 false [(.dat (.int .i64 0)),.nil,(.dat (.int .i64 0)),.nil,(.dat (.int .i64 0)),.nil,(.dat (.int .i64 0)),.nil] 4 2 [(0,4,(.t 84)),(4,4,(.t 85))]⟩,⟨(some 87),(some (82,true)),.call id_ref06_Same [(.t 83),(.t 86)]⟩,⟨(some 88),none,.pick (.t 82) (.t 87) (.c (.dat (.bool false)))⟩,⟨(some 89),none,.mv (.t 88)⟩,⟨(some 90),(some (89,true)),.mv (.t 10)⟩,⟨(some 91),(some (89,true)),.bin .eql (.t 90) (.c (.dat (.int .i64 1)))⟩,⟨(some 92),none,.pick (.t 89) (.t 91) (.c (.dat (.bool false)))⟩,⟨(some 93),none,.mv (.t 92)⟩,⟨(some 94),(some (93,true)),.mv (.t 11)⟩,⟨(some 95),(some (93,true)),.bin .eql (.t 94) (.c (.dat (.int .i64 0)))⟩,⟨(some 96),none,.pick (.t 93) (.t 95) (.c (.dat (.bool false)))⟩,⟨(some 97),none,.mv (.t 96)⟩,⟨(some 98),(some (97,true)),.mv (.t 5)⟩,⟨(some 99),(some (97,true)),.mv (.t 8)⟩,⟨(some 100),(some (97,true)),.call id_linear_Check [(.t 98),(.c (.dat (.int .i64 2))),(.t 99)]⟩,⟨(some 101),(some (97,true)),.beq false (.t 100) (.c (.dat (.bool false)))⟩,⟨(some 102),none,.pick (.t 97) (.t 101) (.c (.dat (.bool false)))⟩,⟨(some 103),none,.mv (.t 102)⟩,⟨(some 104),(some (103,true)),.call id_linear_Right [(.c .nil),(.c (.dat (.int .i64 0)))]⟩,⟨(some 105),none,.pick (.t 103) (.t 104) (.c (.dat (.bool false)))⟩,⟨(some 0),none,.mv (.t 105)⟩])
 .ret)))))))))) }
def mf_law06_homogeneous:MFunc :=
 { n:=22,np:=1,res:=[.t 2],body :=
 (.seq (.ops [
 ⟨(some 2),none,.mv (.c .nil)⟩])
 (.seq (.ops [
 ⟨(some 3),none,.mv (.c .nil)⟩])
 (.seq (.seq (.ops [
 ⟨(some 4),none,.mv (.c (.dat (.int .i64 0)))⟩])
 (.block 0
 (.ghost (.adopt 3 114020 5) (.loop
 (.seq (.seq (.ops [
 ⟨(some 5),none,.mv (.t 4)⟩,⟨(some 6),none,.mv (.t 0)⟩,⟨(some 7),none,.len (.t 6)⟩,⟨(some 8),none,.bin .lss (.t 5) (.t 7)⟩])
 (.cond (.t 8)
 .skip
 (.exit 0)))
 (.seq (.block 1
 (.opsD [
 ⟨(some 11),none,.mv (.t 3)⟩,⟨(some 12),none,.mv (.t 0)⟩,⟨(some 13),none,.mv (.t 4)⟩,⟨(some 14),none,.iad 5 (.t 12) (.t 13)⟩,⟨(some 15),none,.fad 0 (.t 14)⟩,⟨(some 16),none,.load 1 false (.t 15)⟩,⟨(some 17),none,.call id_law06_number [(.c (.dat (.int .i64 0)))]⟩,⟨(some 18),none,.build [.nil,(.dat (.int .i64 0)),.nil,(.dat (.int .i64 0)),.nil] [(0,1,(.t 16)),(1,4,(.t 17))]⟩,⟨(some 19),none,.bsl 114019 false [.nil,(.dat (.int .i64 0)),.nil,(.dat (.int .i64 0)),.nil] 5 1 [(0,5,(.t 18))]⟩,⟨(some 20),none,.app 114020 [.nil,(.dat (.int .i64 0)),.nil,(.dat (.int .i64 0)),.nil] 88 (.t 11) (.t 19)⟩,⟨(some 3),none,.mv (.t 20)⟩] [[],[],[],[],[],[],[],[],[],[],[]]))
 (.ops [
 ⟨(some 9),none,.mv (.t 4)⟩,⟨(some 10),none,.bin .add (.t 9) (.c (.dat (.int .i64 1)))⟩,⟨(some 4),none,.mv (.t 10)⟩])))))))
 (.seq (.ops [
 ⟨(some 21),none,.mv (.t 3)⟩,⟨(some 2),none,.mv (.t 21)⟩])
 .ret)))) }
def mf_law06_times:MFunc :=
 { n:=50,np:=2,res:=[.cell 4 5 true,.t 5],body :=
 (.seq (.ops [
 ⟨(some 2),none,.box 117002 (.t 0)⟩,⟨(some 3),none,.box 117003 (.t 1)⟩,⟨(some 4),none,.alloc 117004 [.nil,(.dat (.int .i64 0)),.nil,(.dat (.int .i64 0)),.nil]⟩,⟨(some 5),none,.mv (.c (.dat (.bool false)))⟩])
 (.seq (.ops [
 ⟨(some 6),none,.alloc 117006 [.nil,(.dat (.int .i64 0)),.nil,(.dat (.int .i64 0)),.nil]⟩])
 (.seq (.seq (.ops [
 ⟨(some 7),none,.mv (.c (.dat (.int .i64 0)))⟩])
 (.block 0
 (.loop
 (.seq (.seq (.ops [
 ⟨(some 12),none,.mv (.t 7)⟩,⟨(some 13),none,.fad 0 (.t 2)⟩,⟨(some 14),none,.load 1 false (.t 13)⟩,⟨(some 15),none,.len (.t 14)⟩,⟨(some 16),none,.bin .lss (.t 12) (.t 15)⟩])
 (.cond (.t 16)
 .skip
 (.exit 0)))
 (.seq (.block 1
 (.seq (.opsD [
 ⟨(some 20),none,.fad 0 (.t 2)⟩,⟨(some 21),none,.load 1 false (.t 20)⟩,⟨(some 22),none,.mv (.t 7)⟩,⟨(some 23),none,.iad 4 (.t 21) (.t 22)⟩,⟨(some 24),none,.load 4 true (.t 23)⟩,⟨(some 25),none,.load 4 true (.t 3)⟩,⟨(some 26),none,.call id_frac_Mul [(.t 24),(.t 25)]⟩,⟨(some 19),none,.mv (.t 26)⟩,⟨(some 27),none,.ext 0 (.t 19)⟩,⟨(some 28),none,.ext 1 (.t 19)⟩,⟨(some 8),none,.alloc 117008 [(.dat (.int .i64 0)),.nil,(.dat (.int .i64 0)),.nil]⟩,⟨none,none,.store 4 (.t 8) (.t 27)⟩,⟨(some 9),none,.mv (.t 28)⟩] [[],[],[],[],[],[],[],[],[],[],[1,4,5],[],[]])
 (.seq (.seq (.ops [
 ⟨(some 29),none,.mv (.t 9)⟩,⟨(some 30),none,.bin .neq (.t 29) (.c (.dat (.int .i64 0)))⟩])
 (.cond (.t 30)
 (.seq (.ops [
 ⟨(some 31),none,.load 5 true (.t 6)⟩,⟨none,none,.store 5 (.t 4) (.t 31)⟩,⟨(some 5),none,.mv (.c (.dat (.bool false)))⟩])
 .ret)
 .skip))
 (.ops [
 ⟨(some 32),none,.fad 0 (.t 6)⟩,⟨(some 33),none,.load 1 false (.t 32)⟩,⟨(some 34),none,.load 4 true (.t 8)⟩,⟨(some 35),none,.bsl 117035 false [(.dat (.int .i64 0)),.nil,(.dat (.int .i64 0)),.nil] 4 1 [(0,4,(.t 34))]⟩,⟨(some 36),none,.app 117036 [(.dat (.int .i64 0)),.nil,(.dat (.int .i64 0)),.nil] 64 (.t 33) (.t 35)⟩,⟨(some 37),none,.fad 0 (.t 6)⟩,⟨none,none,.store 1 (.t 37) (.t 36)⟩]))))
 (.ops [
 ⟨(some 17),none,.mv (.t 7)⟩,⟨(some 18),none,.bin .add (.t 17) (.c (.dat (.int .i64 1)))⟩,⟨(some 7),none,.mv (.t 18)⟩]))))))
 (.seq (.ops [
 ⟨(some 39),none,.fad 1 (.t 2)⟩,⟨(some 40),none,.load 4 true (.t 39)⟩,⟨(some 41),none,.load 4 true (.t 3)⟩,⟨(some 42),none,.call id_frac_Mul [(.t 40),(.t 41)]⟩,⟨(some 38),none,.mv (.t 42)⟩,⟨(some 43),none,.ext 0 (.t 38)⟩,⟨(some 44),none,.ext 1 (.t 38)⟩,⟨(some 10),none,.alloc 117010 [(.dat (.int .i64 0)),.nil,(.dat (.int .i64 0)),.nil]⟩,⟨none,none,.store 4 (.t 10) (.t 43)⟩,⟨(some 11),none,.mv (.t 44)⟩])
 (.seq (.ops [
 ⟨(some 45),none,.load 4 true (.t 10)⟩,⟨(some 46),none,.fad 1 (.t 6)⟩,⟨none,none,.store 4 (.t 46) (.t 45)⟩])
 (.seq (.ops [
 ⟨(some 47),none,.load 5 true (.t 6)⟩,⟨(some 48),none,.mv (.t 11)⟩,⟨(some 49),none,.bin .eql (.t 48) (.c (.dat (.int .i64 0)))⟩,⟨none,none,.store 5 (.t 4) (.t 47)⟩,⟨(some 5),none,.mv (.t 49)⟩])
 .ret)))))) }
def mf_law06_number:MFunc :=
 { n:=11,np:=1,res:=[.cell 2 4 true],body :=
 (.seq (.ops [
 ⟨(some 2),none,.alloc 122002 [(.dat (.int .i64 0)),.nil,(.dat (.int .i64 0)),.nil]⟩])
 (.seq (.ops [
 ⟨(some 6),none,.mv (.t 0)⟩,⟨(some 7),none,.call id_ref05_Of [(.t 6),(.c (.dat (.int .i64 1)))]⟩,⟨(some 5),none,.mv (.t 7)⟩,⟨(some 8),none,.ext 0 (.t 5)⟩,⟨(some 9),none,.ext 1 (.t 5)⟩,⟨(some 3),none,.alloc 122003 [(.dat (.int .i64 0)),.nil,(.dat (.int .i64 0)),.nil]⟩,⟨none,none,.store 4 (.t 3) (.t 8)⟩,⟨(some 4),none,.mv (.t 9)⟩])
 (.seq (.ops [
 ⟨(some 10),none,.load 4 true (.t 3)⟩,⟨none,none,.store 4 (.t 2) (.t 10)⟩])
 .ret))) }
def mf_law06_row:MFunc :=
 { n:=31,np:=1,res:=[.cell 2 5 true],body :=
 (.seq (.ops [
 ⟨(some 2),none,.alloc 123002 [.nil,(.dat (.int .i64 0)),.nil,(.dat (.int .i64 0)),.nil]⟩])
 (.seq (.ops [
 ⟨(some 3),none,.alloc 123003 [.nil,(.dat (.int .i64 0)),.nil,(.dat (.int .i64 0)),.nil]⟩])
 (.seq (.seq (.ops [
 ⟨(some 4),none,.mv (.c (.dat (.int .i64 0)))⟩])
 (.block 0
 (.loop
 (.seq (.seq (.ops [
 ⟨(some 5),none,.mv (.t 4)⟩,⟨(some 6),none,.mv (.t 0)⟩,⟨(some 7),none,.len (.t 6)⟩,⟨(some 8),none,.bin .sub (.t 7) (.c (.dat (.int .i64 1)))⟩,⟨(some 9),none,.bin .lss (.t 5) (.t 8)⟩])
 (.cond (.t 9)
 .skip
 (.exit 0)))
 (.seq (.block 1
 (.opsD [
 ⟨(some 12),none,.fad 0 (.t 3)⟩,⟨(some 13),none,.load 1 false (.t 12)⟩,⟨(some 14),none,.mv (.t 0)⟩,⟨(some 15),none,.mv (.t 4)⟩,⟨(some 16),none,.iad 1 (.t 14) (.t 15)⟩,⟨(some 17),none,.load 1 false (.t 16)⟩,⟨(some 18),none,.call id_law06_number [(.t 17)]⟩,⟨(some 19),none,.bsl 123019 false [(.dat (.int .i64 0)),.nil,(.dat (.int .i64 0)),.nil] 4 1 [(0,4,(.t 18))]⟩,⟨(some 20),none,.app 123020 [(.dat (.int .i64 0)),.nil,(.dat (.int .i64 0)),.nil] 64 (.t 13) (.t 19)⟩,⟨(some 21),none,.fad 0 (.t 3)⟩,⟨none,none,.store 1 (.t 21) (.t 20)⟩] [[],[],[],[],[],[],[],[],[],[],[]]))
 (.ops [
 ⟨(some 10),none,.mv (.t 4)⟩,⟨(some 11),none,.bin .add (.t 10) (.c (.dat (.int .i64 1)))⟩,⟨(some 4),none,.mv (.t 11)⟩]))))))
 (.seq (.ops [
 ⟨(some 22),none,.mv (.t 0)⟩,⟨(some 23),none,.mv (.t 0)⟩,⟨(some 24),none,.len (.t 23)⟩,⟨(some 25),none,.bin .sub (.t 24) (.c (.dat (.int .i64 1)))⟩,⟨(some 26),none,.iad 1 (.t 22) (.t 25)⟩,⟨(some 27),none,.load 1 false (.t 26)⟩,⟨(some 28),none,.call id_law06_number [(.t 27)]⟩,⟨(some 29),none,.fad 1 (.t 3)⟩,⟨none,none,.store 4 (.t 29) (.t 28)⟩])
 (.seq (.ops [
 ⟨(some 30),none,.load 5 true (.t 3)⟩,⟨none,none,.store 5 (.t 2) (.t 30)⟩])
 .ret))))) }
end Go.Mini
namespace Go.Mini
open Go
set_option maxRecDepth 10000
set_option maxHeartbeats 4000000
def numF (n:Int):FRaw:=encR (n:Rat)
theorem newR_num {n:Int} (h:i64R n):newR (encB n) (encB 1) = (numF n,0):=by
  rw [newR_enc (lim_i64 h) (lim_i64 (by unfold i64R; omega)) (by omega)]
  exact Prod.ext (congrArg encR (Rat.num_divInt_den (n:Rat))) rfl
theorem numF_len {n:Int} (h:i64R n):(numF n).1.2.length ≤ 1000000 ∧ (numF n).2.2.length ≤ 1000000:=by
  have h1:=newR_num h
  have h2:=okF_new (encB n) (encB 1)
  rw [h1] at h2
  exact h2
theorem okF_num {n:Int} (h:i64R n):okF (numF n):=numF_len h
noncomputable def F_wnum:List Data → Option PRes:=FF (α:=Int) (fun (n:Int) => ([.int .i64 n]:List Data)) (fun (n:Int) => onlyIf (i64R n) (.same (.agg (fracL (numF n)))))
theorem F_wnum_inj:∀ a b:Int,(fun (n:Int) => ([.int .i64 n]:List Data)) a = (fun (n:Int) => ([.int .i64 n]:List Data)) b → a = b:=by
    intro n1 n2 h
    simp only [yM,Data.int.injEq,Data.agg.injEq,Data.sl.injEq,Data.bool.injEq,Data.str.injEq,Data.ptr.injEq,Data.tup.injEq,Prod.mk.injEq,true_and,and_true] at h ⊢
    first | exact h | simpa [Prod.ext_iff,and_assoc] using h | grind
@[go_sem] theorem F_wnum_eq (n:Int) (hc:i64R n):F_wnum [.int .i64 n] = some (.same (.agg (fracL (numF n)))):=(FF_eq F_wnum_inj n).trans (onlyIf_pos hc _)
theorem w_wnum (T:Tab) (h_gOf:T id_ref05_Of = mkE F_gOf) (n:Int) (hc:i64R n) :
    wp T mf_law06_number.body (endS mf_law06_number.res (.same (.agg (fracL (numF n))))) ⟨initTm [.dat (.int .i64 n)],emp⟩:=by
  refine wp_start ?_
  simp only [mf_law06_number]
  have h1:i64R 1:=by unfold i64R; omega
  have hF:=F_gOf_eq n 1 ⟨hc,h1⟩
  rw [newR_num hc] at hF
  simp only [fracE,fracL] at hF
  simp only [go_sem,reduceIte,yA,yB,yC,yD,yE,yH,reduceCtorEq,yF,yG,yI,h_gOf,hF,fracL]
  repeat' (first | refine wpG_not ?_ ?_ | refine wpG_yes ?_ ?_ | refine wpB_not ?_ ?_ | refine wpB_yes ?_ ?_ | refine wpGD_not ?_ ?_ | refine wpGD_yes ?_ ?_) <;> intro h <;> simp only [h,go_sem,reduceIte,yA,yB,yC,yD,yE,yH,reduceCtorEq,yF,yG,yI,h_gOf,hF,fracL]
def rowOf (l:List Int):RowD:=(l.dropLast.map numF,numF (l.getLastD 0))
theorem rowOf_at {l:List Int} {i:Nat} {x:Int} (hx:l[i]? = some x) (h:i + 1 < l.length):(l.take (i + 1)).map numF = (l.take i).map numF ++ [numF x]:=by
  rw [List.take_add_one,hx,List.map_append]
  rfl
noncomputable def F_wrow:List Data → Option PRes:=FF (α:=List Int) (fun (l:List Int) => ([.sl (l.map i64L)]:List Data)) (fun (l:List Int) => onlyIf (2 ≤ l.length ∧ l.length ≤ 1000 ∧ ∀ x ∈ l,i64R x) (.same (.agg (rowL (rowOf l)))))
theorem F_wrow_inj:∀ a b:List Int,(fun (l:List Int) => ([.sl (l.map i64L)]:List Data)) a = (fun (l:List Int) => ([.sl (l.map i64L)]:List Data)) b → a = b:=by
    intro l1 l2 h
    exact map_inj i64L_inj _ _ (by simpa using h)
@[go_sem] theorem F_wrow_eq (l:List Int) (hc:2 ≤ l.length ∧ l.length ≤ 1000 ∧ ∀ x ∈ l,i64R x):F_wrow [.sl (l.map i64L)] = some (.same (.agg (rowL (rowOf l)))):=(FF_eq F_wrow_inj l).trans (onlyIf_pos hc _)
theorem w_wrow (T:Tab) (h_wnum:T id_law06_number = mkE F_wnum) (l:List Int) (hc:2 ≤ l.length ∧ l.length ≤ 1000 ∧ ∀ x ∈ l,i64R x) :
    wp T mf_law06_row.body (endS mf_law06_row.res (.same (.agg (rowL (rowOf l))))) ⟨initTm [.dat (.sl (l.map i64L))],emp⟩:=by
  refine wp_start ?_
  simp only [mf_law06_row]
  obtain ⟨hl,hlm,hlr⟩:=hc
  have hw0:IntKind.i64.wrap ((l.length:Int) - 1) = ((l.length - 1:Nat):Int):=by rw [wrap64 _ (by omega) (by omega)]; omega
  simp only [go_sem,reduceIte,yA,yB,yC,yD,yE,yH,reduceCtorEq,yF,yG,yI,h_wnum,yJ]
  refine wp_loop_keep [0,2,3] [123002] (fun ((i,g):Nat × Nat) tm mem => i ≤ l.length - 1 ∧ tm 4 = .dat (.int .i64 i) ∧ (i = 0 → mem 123003 = some (0,[.nil,.dat (.int .i64 0),.nil,.dat (.int .i64 0),.nil])) ∧ (0 < i → mem 123003 = some (0,[.ref 123020 g 4 0 i,.dat (.int .i64 0),.nil,.dat (.int .i64 0),.nil]) ∧ mem 123020 = some (g,rowE fracL ((l.take i).map numF)))) (fun (i,_) => l.length - 1 - i) (0,0) (by refine ⟨Nat.zero_le _,rfl,fun _ => rfl,fun h => absurd h (by omega)⟩) ?_
  intro vs ms hvs hms
  simp only [go_sem,reduceIte,yA,yB,yC,yD,yE,yH,reduceCtorEq,yF,yG,yI,h_wnum,yJ] at hvs hms
  subst hvs hms
  rintro ⟨i,g⟩ tm mem hk hm ⟨hi,h4,hz,hp⟩
  simp only [go_sem,reduceIte,yA,yB,yC,yD,yE,yH,reduceCtorEq,yF,yG,yI,h_wnum,yM] at hk hm
  obtain ⟨h0,h2,h3⟩:=hk
  rcases Decidable.em (i < l.length - 1) with hlt | hge
  · obtain ⟨x,hx⟩:∃ x,l[i]? = some x:=⟨_,yL (by omega)⟩
    have hxr:i64R x:=hlr x (List.mem_of_getElem? hx)
    have d1:decide ((i:Int) < ((l.length - 1:Nat):Int)) = true:=decide_eq_true (by omega)
    have w3:IntKind.i64.wrap ((i:Int) + 1) = ((i + 1:Nat):Int):=by rw [wrap64 _ (by omega) (by omega)]; omega
    have hmx:(1 ≤ maxLen) = True:=eq_true (by unfold maxLen; omega)
    have hnx:=rowOf_at hx (by omega)
    rcases hnf:numF x with ⟨⟨a,b⟩,⟨c,d⟩⟩
    rw [hnf] at hnx
    rcases Nat.eq_zero_or_pos i with h0' | hpos
    · have hm3:=hz h0'
      have hnx0:=hnx
      rw [h0'] at hnx0
      simp only [List.take_zero,List.map_nil,List.nil_append] at hnx0
      simp only [go_sem,reduceIte,yA,yB,yC,yD,yE,yH,reduceCtorEq,yF,yG,yI,h_wnum,h0,h2,h3,h4,hm,hm3,hx,hxr,hnf,d1,w3,hw0,hmx,fracL,i64L,yJ,yK]
      repeat' (first | refine wpG_not ?_ ?_ | refine wpG_yes ?_ ?_ | refine wpB_not ?_ ?_ | refine wpB_yes ?_ ?_ | refine wpGD_not ?_ ?_ | refine wpGD_yes ?_ ?_) <;> intro h <;> simp only [h,go_sem,reduceIte,yA,yB,yC,yD,yE,yH,reduceCtorEq,yF,yG,yI,h_wnum,h0,h2,h3,h4,hm,hm3,hx,hxr,hnf,d1,w3,hw0,hmx,fracL,i64L,yJ,yK]
      exact ⟨(i + 1,nextO (mem 123020)),by dsimp only; omega,by dsimp only; omega,rfl,fun h => by dsimp only at h; omega,fun _ => ⟨by rw [h0'],by dsimp only; rw [h0',hnx0]; rfl⟩⟩
    · obtain ⟨hm3,hm20⟩:=hp hpos
      have htl:((l.take i).map numF).length = i:=by rw [yJ,List.length_take]; omega
      have hap:=app_row fracL_len fracL_one 123020 g 64 ((l.take i).map numF) ((a,b),(c,d)) (cs:=[.dat (.int .i64 a),.dat (.sl (b.map i64L)),.dat (.int .i64 c),.dat (.sl (d.map i64L))]) rfl (by omega) (by omega)
      rw [htl,← hnx] at hap
      simp only [go_sem,reduceIte,yA,yB,yC,yD,yE,yH,reduceCtorEq,yF,yG,yI,h_wnum,h0,h2,h3,h4,hm,hm3,hm20,hx,hxr,hnf,d1,w3,hw0,hmx,hap,fracL,i64L,yJ,yK]
      repeat' (first | refine wpG_not ?_ ?_ | refine wpG_yes ?_ ?_ | refine wpB_not ?_ ?_ | refine wpB_yes ?_ ?_ | refine wpGD_not ?_ ?_ | refine wpGD_yes ?_ ?_) <;> intro h <;> simp only [h,go_sem,reduceIte,yA,yB,yC,yD,yE,yH,reduceCtorEq,yF,yG,yI,h_wnum,h0,h2,h3,h4,hm,hm3,hm20,hx,hxr,hnf,d1,w3,hw0,hmx,hap,fracL,i64L,yJ,yK]
      exact ⟨(i + 1,g + 1),by dsimp only; omega,by dsimp only; omega,rfl,fun h => by dsimp only at h; omega,fun _ => ⟨rfl,rfl⟩⟩
  · obtain rfl:i = l.length - 1:=by omega
    obtain ⟨hm3,hm20⟩:=hp (by omega)
    have d1:decide (((l.length - 1:Nat):Int) < ((l.length - 1:Nat):Int)) = false:=decide_eq_false (by omega)
    obtain ⟨x,hx⟩:∃ x,l[l.length - 1]? = some x:=⟨_,yL (by omega)⟩
    have hxr:i64R x:=hlr x (List.mem_of_getElem? hx)
    have hrow:rowOf l = ((l.take (l.length - 1)).map numF,numF x):=by
      unfold rowOf
      rw [List.dropLast_eq_take,List.getLastD_eq_getLast?,List.getLast?_eq_getElem?,hx]
      rfl
    have hD:∀ n (m:Mem),m 123020 = some (g,rowE fracL ((l.take (l.length - 1)).map numF)) → toD (n + 1) m (.ref 123020 g 4 0 (l.length - 1)) = some (.sl (((l.take (l.length - 1)).map numF).map fracL)):=fun n m hm => by
      have:=toD_row (n:=n) fracL_len hm
      rw [show ((l.take (l.length - 1)).map numF).length = l.length - 1 by rw [yJ,List.length_take]; omega] at this
      exact this
    rcases hnf:numF x with ⟨⟨a,b⟩,⟨c,d⟩⟩
    rw [hrow,hnf]
    simp only [go_sem,reduceIte,yA,yB,yC,yD,yE,yH,reduceCtorEq,yF,yG,yI,h_wnum,h0,h2,h3,h4,hm,hm3,hx,hxr,hnf,d1,hw0,fracL,i64L,rowL,yJ,yK]
    repeat' (first | refine wpG_not ?_ ?_ | refine wpG_yes ?_ ?_ | refine wpB_not ?_ ?_ | refine wpB_yes ?_ ?_ | refine wpGD_not ?_ ?_ | refine wpGD_yes ?_ ?_) <;> intro h <;> simp only [h,go_sem,reduceIte,yA,yB,yC,yD,yE,yH,reduceCtorEq,yF,yG,yI,h_wnum,h0,h2,h3,h4,hm,hm3,hx,hxr,hnf,d1,hw0,fracL,i64L,rowL,yJ,yK]
    rw [hD 4 _ (by simp [updM,hm20])]
    rfl
end Go.Mini
namespace Go.Mini
open Go
set_option maxRecDepth 10000
set_option maxHeartbeats 4000000
theorem rowL_one (r:RowD):((rowL r).map MV.dat).all MV.one = true:=rfl
def homog (rs:List RowD):List RowD:=rs.map fun r => (r.1,numF 0)
theorem numF_zero:numF 0 = zF:=encR_zero
theorem i64_0:i64R 0:=by unfold i64R; omega
noncomputable def F_whom:List Data → Option PRes:=FF (α:=List RowD) (fun (rs:List RowD) => ([.sl (rs.map rowL)]:List Data)) (fun (rs:List RowD) => onlyIf (rs.length ≤ 1000) (.same (.sl ((homog rs).map rowL))))
theorem F_whom_inj:∀ a b:List RowD,(fun (rs:List RowD) => ([.sl (rs.map rowL)]:List Data)) a = (fun (rs:List RowD) => ([.sl (rs.map rowL)]:List Data)) b → a = b:=by
    intro rs1 rs2 h
    exact map_inj rowL_inj _ _ (by simpa using h)
@[go_sem] theorem F_whom_eq (rs:List RowD) (hc:rs.length ≤ 1000):F_whom [.sl (rs.map rowL)] = some (.same (.sl ((homog rs).map rowL))):=(FF_eq F_whom_inj rs).trans (onlyIf_pos hc _)
theorem w_whom (T:Tab) (h_wnum:T id_law06_number = mkE F_wnum) (rs:List RowD) (hc:rs.length ≤ 1000) :
    wp T mf_law06_homogeneous.body (endS mf_law06_homogeneous.res (.same (.sl ((homog rs).map rowL)))) ⟨initTm [.dat (.sl (rs.map rowL))],emp⟩:=by
  refine wp_start ?_
  simp only [mf_law06_homogeneous]
  have hn0:=i64_0
  simp only [go_sem,reduceIte,yA,yB,yC,yD,yE,yH,reduceCtorEq,yF,yG,yI,h_wnum,yJ]
  refine wp_loop_keep [0] [] (fun ((i,g):Nat × Nat) tm mem => i ≤ rs.length ∧ tm 4 = .dat (.int .i64 i) ∧ tm 3 = .ref 114020 g 5 0 i ∧ mem 114020 = some (g,rowE rowL ((homog rs).take i))) (fun (i,_) => rs.length - i) (0,0) (by refine ⟨Nat.zero_le _,rfl,rfl,rfl⟩) ?_
  intro vs ms hvs hms
  simp only [go_sem,reduceIte,yA,yB,yC,yD,yE,yH,reduceCtorEq,yF,yG,yI,h_wnum,yJ] at hvs hms
  subst hvs hms
  rintro ⟨i,g⟩ tm mem hk hm ⟨hi,h4,h3,hm20⟩
  simp only [go_sem,reduceIte,yA,yB,yC,yD,yE,yH,reduceCtorEq,yF,yG,yI,h_wnum,yM] at hk
  have h0:=hk
  have hhl:(homog rs).length = rs.length:=by simp [homog]
  rcases Decidable.em (i < rs.length) with hlt | hge
  · obtain ⟨⟨A,V⟩,hx⟩:∃ f,rs[i]? = some f:=⟨_,yL hlt⟩
    have hhx:(homog rs)[i]? = some (A,zF):=by unfold homog; rw [yK,hx,numF_zero]; rfl
    have d1:decide ((i:Int) < (rs.length:Int)) = true:=decide_eq_true (by omega)
    have w3:IntKind.i64.wrap ((i:Int) + 1) = ((i + 1:Nat):Int):=by rw [wrap64 _ (by omega) (by omega)]; omega
    have htl:((homog rs).take i).length = i:=by rw [List.length_take]; omega
    have hap:=app_row rowL_len rowL_one 114020 g 88 ((homog rs).take i) (A,zF) (cs:=[.dat (.sl (A.map fracL)),.dat (.int .i64 0),.dat (.sl []),.dat (.int .i64 1),.dat (.sl [[.int .i64 1]])]) rfl (by omega) (by omega)
    have hnt:(homog rs).take i ++ [(A,zF)] = (homog rs).take (i + 1):=by rw [List.take_add_one,hhx]; rfl
    rw [htl,hnt] at hap
    simp only [go_sem,reduceIte,yA,yB,yC,yD,yE,yH,reduceCtorEq,yF,yG,yI,h_wnum,h0,h3,h4,hm20,hx,hn0,d1,w3,hap,rowL,fracL,numF_zero,zF,i64L,List.map_nil,List.map_cons,yJ,yK]
    repeat' (first | refine wpG_not ?_ ?_ | refine wpG_yes ?_ ?_ | refine wpB_not ?_ ?_ | refine wpB_yes ?_ ?_ | refine wpGD_not ?_ ?_ | refine wpGD_yes ?_ ?_) <;> intro h <;> simp only [h,go_sem,reduceIte,yA,yB,yC,yD,yE,yH,reduceCtorEq,yF,yG,yI,h_wnum,h0,h3,h4,hm20,hx,hn0,d1,w3,hap,rowL,fracL,numF_zero,zF,i64L,List.map_nil,List.map_cons,yJ,yK]
    exact ⟨(i + 1,g + 1),by dsimp only; omega,by dsimp only; omega,rfl,rfl,rfl⟩
  · obtain rfl:i = rs.length:=by omega
    have d1:decide ((rs.length:Int) < (rs.length:Int)) = false:=decide_eq_false (by omega)
    rw [List.take_of_length_le (by omega)] at hm20
    have hD:=toD_row (n:=5) rowL_len hm20
    rw [hhl] at hD
    simp only [go_sem,reduceIte,yA,yB,yC,yD,yE,yH,reduceCtorEq,yF,yG,yI,h_wnum,h0,h3,h4,hm20,hD,d1,yJ]
    repeat' (first | refine wpG_not ?_ ?_ | refine wpG_yes ?_ ?_ | refine wpB_not ?_ ?_ | refine wpB_yes ?_ ?_ | refine wpGD_not ?_ ?_ | refine wpGD_yes ?_ ?_) <;> intro h <;> simp only [h,go_sem,reduceIte,yA,yB,yC,yD,yE,yH,reduceCtorEq,yF,yG,yI,h_wnum,h0,h3,h4,hm20,hD,d1,yJ]
/-- All operations on a row's elements succeed. -/
def timesOK (r:RowD) (f:FRaw):Prop:=(∀ a ∈ r.1,(mulF a f).2 = 0) ∧ (mulF r.2 f).2 = 0
def timesX (r:RowD) (f:FRaw):RowD:=(r.1.map fun a => (mulF a f).1,(mulF r.2 f).1)
noncomputable def F_wtimes:List Data → Option PRes:=FF (α:=RowD × FRaw) (fun (r,f) => ([.agg (rowL r),.agg (fracL f)]:List Data)) (fun (r,f) => onlyIf (r.1.length ≤ 1000 ∧ okRow r ∧ okF f ∧ timesOK r f) (.same (.tup [.agg (rowL (timesX r f)),.bool true])))
theorem F_wtimes_inj:∀ a b:RowD × FRaw,(fun (r,f) => ([.agg (rowL r),.agg (fracL f)]:List Data)) a = (fun (r,f) => ([.agg (rowL r),.agg (fracL f)]:List Data)) b → a = b:=by
    rintro ⟨r1,f1⟩ ⟨r2,f2⟩ h
    simp only [yM,Data.agg.injEq] at h; exact Prod.ext (rowL_inj _ _ h.1) (fracL_inj _ _ h.2.1)
@[go_sem] theorem F_wtimes_eq (r:RowD) (f:FRaw) (hc:r.1.length ≤ 1000 ∧ okRow r ∧ okF f ∧ timesOK r f):F_wtimes [.agg (rowL r),.agg (fracL f)] = some (.same (.tup [.agg (rowL (timesX r f)),.bool true])):=(FF_eq F_wtimes_inj (r,f)).trans (onlyIf_pos hc _)
theorem w_wtimes (T:Tab) (h_fMul:T id_frac_Mul = mkE F_fMul) (r:RowD) (f:FRaw) (hc:r.1.length ≤ 1000 ∧ okRow r ∧ okF f ∧ timesOK r f) :
    wp T mf_law06_times.body (endS mf_law06_times.res (.same (.tup [.agg (rowL (timesX r f)),.bool true]))) ⟨initTm [.dat (.agg (rowL r)),.dat (.agg (fracL f))],emp⟩:=by
  refine wp_start ?_
  simp only [mf_law06_times]
  obtain ⟨hrl,⟨⟨-,hA⟩,hV1,hV2⟩,⟨hf1,hf2⟩,hok,hokV⟩:=hc
  obtain ⟨A,⟨v1,v2⟩,⟨v3,v4⟩⟩:=r
  obtain ⟨⟨f1,f2⟩,⟨f3,f4⟩⟩:=f
  dsimp only at hrl hA hV1 hV2 hf1 hf2 hok hokV
  obtain ⟨B,hB⟩:∃ B:List FRaw,B = A.map fun a => (mulF a ((f1,f2),(f3,f4))).1:=⟨_,rfl⟩
  have hBl:B.length = A.length:=by rw [hB,yJ]
  rcases hMV:mulF ((v1,v2),(v3,v4)) ((f1,f2),(f3,f4)) with ⟨⟨⟨p1,p2⟩,⟨p3,p4⟩⟩,pe⟩
  rw [hMV] at hokV
  dsimp only at hokV
  subst hokV
  have hres:timesX (A,((v1,v2),(v3,v4))) ((f1,f2),(f3,f4)) = (B,((p1,p2),(p3,p4))):=by unfold timesX; rw [hB]; dsimp only; rw [hMV]
  rw [hres]
  simp only [go_sem,reduceIte,yA,yB,yC,yD,yE,yH,reduceCtorEq,yF,yG,yI,h_fMul,rowL,fracL,yJ]
  refine wp_loop_keep [2,3,4,6] [117002,117003,117004] (fun ((i,g):Nat × Nat) tm mem => i ≤ A.length ∧ tm 7 = .dat (.int .i64 i) ∧ (i = 0 → mem 117006 = some (0,[.nil,.dat (.int .i64 0),.nil,.dat (.int .i64 0),.nil])) ∧ (0 < i → mem 117006 = some (0,[.ref 117036 g 4 0 i,.dat (.int .i64 0),.nil,.dat (.int .i64 0),.nil]) ∧ mem 117036 = some (g,rowE fracL (B.take i)))) (fun (i,_) => A.length - i) (0,0) (by refine ⟨Nat.zero_le _,rfl,fun _ => rfl,fun h => absurd h (by omega)⟩) ?_
  intro vs ms hvs hms
  simp only [go_sem,reduceIte,yA,yB,yC,yD,yE,yH,reduceCtorEq,yF,yG,yI,h_fMul,rowL,fracL,yJ] at hvs hms
  subst hvs hms
  rintro ⟨i,g⟩ tm mem hk hm ⟨hi,h7,hz,hp⟩
  simp only [go_sem,reduceIte,yA,yB,yC,yD,yE,yH,reduceCtorEq,yF,yG,yI,h_fMul,yM] at hk hm
  obtain ⟨h2,h3,h4,h6⟩:=hk
  obtain ⟨m2,m3,m4⟩:=hm
  rcases Decidable.em (i < A.length) with hlt | hge
  · obtain ⟨⟨⟨a1,a2⟩,⟨a3,a4⟩⟩,hx⟩:∃ f,A[i]? = some f:=⟨_,yL hlt⟩
    obtain ⟨o1,o2⟩:=hA _ (List.mem_of_getElem? hx)
    have hm0:=hok _ (List.mem_of_getElem? hx)
    dsimp only at o1 o2
    rcases hM:mulF ((a1,a2),(a3,a4)) ((f1,f2),(f3,f4)) with ⟨⟨⟨b1,b2⟩,⟨b3,b4⟩⟩,be⟩
    rw [hM] at hm0
    dsimp only at hm0
    subst hm0
    have hbx:B[i]? = some ((b1,b2),(b3,b4)):=by rw [hB,yK,hx,Option.map_some,hM]
    have hnt:B.take i ++ [((b1,b2),(b3,b4))] = B.take (i + 1):=by rw [List.take_add_one,hbx]; rfl
    have d1:decide ((i:Int) < (A.length:Int)) = true:=decide_eq_true (by omega)
    have w3:IntKind.i64.wrap ((i:Int) + 1) = ((i + 1:Nat):Int):=by rw [wrap64 _ (by omega) (by omega)]; omega
    have hmx:(1 ≤ maxLen) = True:=eq_true (by unfold maxLen; omega)
    rcases Nat.eq_zero_or_pos i with h0' | hpos
    · have hm6:=hz h0'
      have hnx0:=hnt
      rw [h0'] at hnx0
      simp only [List.take_zero,List.nil_append] at hnx0
      simp only [go_sem,reduceIte,yA,yB,yC,yD,yE,yH,reduceCtorEq,yF,yG,yI,h_fMul,h2,h3,h4,h6,h7,m2,m3,m4,hm6,hx,hM,o1,o2,hf1,hf2,d1,w3,hmx,rowL,fracL,fracE,i64L,yJ,yK,beq_self_eq_true,Bool.not_true,bne]
      repeat' (first | refine wpG_not ?_ ?_ | refine wpG_yes ?_ ?_ | refine wpB_not ?_ ?_ | refine wpB_yes ?_ ?_ | refine wpGD_not ?_ ?_ | refine wpGD_yes ?_ ?_) <;> intro h <;> simp only [h,go_sem,reduceIte,yA,yB,yC,yD,yE,yH,reduceCtorEq,yF,yG,yI,h_fMul,h2,h3,h4,h6,h7,m2,m3,m4,hm6,hx,hM,o1,o2,hf1,hf2,d1,w3,hmx,rowL,fracL,fracE,i64L,yJ,yK,beq_self_eq_true,Bool.not_true,bne]
      exact ⟨(i + 1,nextO (mem 117036)),by dsimp only; omega,by dsimp only; omega,rfl,fun h => by dsimp only at h; omega,fun _ => ⟨by rw [h0'],by dsimp only; rw [h0',← hnx0]; rfl⟩⟩
    · obtain ⟨hm6,hm36⟩:=hp hpos
      have htl:(B.take i).length = i:=by rw [List.length_take]; omega
      have hap:=app_row fracL_len fracL_one 117036 g 64 (B.take i) ((b1,b2),(b3,b4)) (cs:=[.dat (.int .i64 b1),.dat (.sl (b2.map i64L)),.dat (.int .i64 b3),.dat (.sl (b4.map i64L))]) rfl (by omega) (by omega)
      rw [htl,hnt] at hap
      simp only [go_sem,reduceIte,yA,yB,yC,yD,yE,yH,reduceCtorEq,yF,yG,yI,h_fMul,h2,h3,h4,h6,h7,m2,m3,m4,hm6,hm36,hx,hM,o1,o2,hf1,hf2,d1,w3,hmx,hap,rowL,fracL,fracE,i64L,yJ,yK,beq_self_eq_true,Bool.not_true,bne]
      repeat' (first | refine wpG_not ?_ ?_ | refine wpG_yes ?_ ?_ | refine wpB_not ?_ ?_ | refine wpB_yes ?_ ?_ | refine wpGD_not ?_ ?_ | refine wpGD_yes ?_ ?_) <;> intro h <;> simp only [h,go_sem,reduceIte,yA,yB,yC,yD,yE,yH,reduceCtorEq,yF,yG,yI,h_fMul,h2,h3,h4,h6,h7,m2,m3,m4,hm6,hm36,hx,hM,o1,o2,hf1,hf2,d1,w3,hmx,hap,rowL,fracL,fracE,i64L,yJ,yK,beq_self_eq_true,Bool.not_true,bne]
      exact ⟨(i + 1,g + 1),by dsimp only; omega,by dsimp only; omega,rfl,fun h => by dsimp only at h; omega,fun _ => ⟨rfl,rfl⟩⟩
  · obtain rfl:i = A.length:=by omega
    have d1:decide ((A.length:Int) < (A.length:Int)) = false:=decide_eq_false (by omega)
    rw [List.take_of_length_le (by omega)] at hp
    rcases Nat.eq_zero_or_pos A.length with h0' | hpos
    · have hm6:=hz h0'
      have hBn:B = []:=List.eq_nil_of_length_eq_zero (by omega)
      simp only [go_sem,reduceIte,yA,yB,yC,yD,yE,yH,reduceCtorEq,yF,yG,yI,h_fMul,h2,h3,h4,h6,h7,m2,m3,m4,hm6,hMV,hV1,hV2,hf1,hf2,d1,rowL,fracL,fracE,i64L,yJ,beq_self_eq_true]
      repeat' (first | refine wpG_not ?_ ?_ | refine wpG_yes ?_ ?_ | refine wpB_not ?_ ?_ | refine wpB_yes ?_ ?_ | refine wpGD_not ?_ ?_ | refine wpGD_yes ?_ ?_) <;> intro h <;> simp only [h,go_sem,reduceIte,yA,yB,yC,yD,yE,yH,reduceCtorEq,yF,yG,yI,h_fMul,h2,h3,h4,h6,h7,m2,m3,m4,hm6,hMV,hV1,hV2,hf1,hf2,d1,rowL,fracL,fracE,i64L,yJ,beq_self_eq_true]
      rw [hBn]
      rfl
    · obtain ⟨hm6,hm36⟩:=hp hpos
      have hD:∀ n (m:Mem),m 117036 = some (g,rowE fracL B) → toD (n + 1) m (.ref 117036 g 4 0 A.length) = some (.sl (B.map fracL)):=fun n m hm => by
        have:=toD_row (n:=n) fracL_len hm
        rw [hBl] at this
        exact this
      simp only [go_sem,reduceIte,yA,yB,yC,yD,yE,yH,reduceCtorEq,yF,yG,yI,h_fMul,h2,h3,h4,h6,h7,m2,m3,m4,hm6,hMV,hV1,hV2,hf1,hf2,d1,rowL,fracL,fracE,i64L,yJ,beq_self_eq_true]
      repeat' (first | refine wpG_not ?_ ?_ | refine wpG_yes ?_ ?_ | refine wpB_not ?_ ?_ | refine wpB_yes ?_ ?_ | refine wpGD_not ?_ ?_ | refine wpGD_yes ?_ ?_) <;> intro h <;> simp only [h,go_sem,reduceIte,yA,yB,yC,yD,yE,yH,reduceCtorEq,yF,yG,yI,h_fMul,h2,h3,h4,h6,h7,m2,m3,m4,hm6,hMV,hV1,hV2,hf1,hf2,d1,rowL,fracL,fracE,i64L,yJ,beq_self_eq_true]
      rw [hD 3 _ (by simp [updM,hm36])]
      rfl
def plusOK (r r2:RowD):Prop:=r.1.length = r2.1.length ∧ (∀ (i:Nat) a b,r.1[i]? = some a → r2.1[i]? = some b → (addF a b).2 = 0) ∧ (addF r.2 r2.2).2 = 0
def plusX (r r2:RowD):RowD:=(List.zipWith (fun a b => (addF a b).1) r.1 r2.1,(addF r.2 r2.2).1)
end Go.Mini
namespace Go.Mini
open Go
set_option maxRecDepth 100000
set_option maxHeartbeats 4000000
theorem okRows_dec {rs:List RowD} (h:(decide (rs.length ≤ 1000000) && rs.all fun r => (decide (r.1.length ≤ 1000000) && r.1.all fun f => decide (f.1.2.length ≤ 1000000) && decide (f.2.2.length ≤ 1000000)) && (decide (r.2.1.2.length ≤ 1000000) && decide (r.2.2.2.length ≤ 1000000))) = true):okRows rs:=by
  simp only [Bool.and_eq_true,decide_eq_true_eq,List.all_eq_true] at h
  exact ⟨h.1,fun r hr => ⟨⟨(h.2 r hr).1.1,fun f hf => (h.2 r hr).1.2 f hf⟩,(h.2 r hr).2⟩⟩
noncomputable def F_wsmall:List Data → Option PRes:=FF (α:=Unit) (fun (_:Unit) => ([]:List Data)) (fun (_:Unit) => some (.same (.bool true)))
theorem F_wsmall_inj:∀ a b:Unit,(fun (_:Unit) => ([]:List Data)) a = (fun (_:Unit) => ([]:List Data)) b → a = b:=by
    intro _ _ _; rfl
@[go_sem] theorem F_wsmall_eq :F_wsmall [] = some (.same (.bool true)):=FF_eq F_wsmall_inj ()
theorem w_wsmall (T:Tab) (h_wrow:T id_law06_row = mkE F_wrow) (h_wnum:T id_law06_number = mkE F_wnum) (h_linSolve:T id_linear_Solve = mkE F_linSolve) (h_linKern:T id_linear_Kernel = mkE F_linKern) (h_linRank:T id_linear_Rank = mkE F_linRank) (h_linCheck:T id_linear_Check = mkE F_linCheck) (h_linRight:T id_linear_Right = mkE F_linRight) (h_gOf:T id_ref05_Of = mkE F_gOf) (h_hSame:T id_ref06_Same = mkE F_hSame)  :
    wp T mf_law06_small.body (endS mf_law06_small.res (.same (.bool true))) ⟨initTm [],emp⟩:=by
  refine wp_start ?_
  simp only [mf_law06_small]
  have i64s:∀ x:Int,-10 ≤ x ∧ x ≤ 10 → i64R x:=fun x h => by unfold i64R; omega
  have r1:=F_wrow_eq [2,1] ⟨by decide,by decide,fun x hx => i64s x (by simp at hx; omega)⟩
  have r2:=F_wrow_eq [1,1,3] ⟨by decide,by decide,fun x hx => i64s x (by simp at hx; omega)⟩
  have r3:=F_wrow_eq [1,-1,1] ⟨by decide,by decide,fun x hx => i64s x (by simp at hx; omega)⟩
  have r4:=F_wrow_eq [1,2,1] ⟨by decide,by decide,fun x hx => i64s x (by simp at hx; omega)⟩
  have r5:=F_wrow_eq [2,4,5] ⟨by decide,by decide,fun x hx => i64s x (by simp at hx; omega)⟩
  have e1:rowOf [2,1] = ([((1,[2]),(1,[1]))],((1,[1]),(1,[1]))):=by decide +kernel
  have e2:rowOf [1,1,3] = ([((1,[1]),(1,[1])),((1,[1]),(1,[1]))],((1,[3]),(1,[1]))):=by decide +kernel
  have e3:rowOf [1,-1,1] = ([((1,[1]),(1,[1])),((-1,[1]),(1,[1]))],((1,[1]),(1,[1]))):=by decide +kernel
  have e4:rowOf [1,2,1] = ([((1,[1]),(1,[1])),((1,[2]),(1,[1]))],((1,[1]),(1,[1]))):=by decide +kernel
  have e5:rowOf [2,4,5] = ([((1,[2]),(1,[1])),((1,[4]),(1,[1]))],((1,[5]),(1,[1]))):=by decide +kernel
  have s1:=F_linSolve_eq [rowOf [2,1]] 1 (okRows_dec (by decide +kernel))
  have s2:=F_linSolve_eq [rowOf [1,1,3],rowOf [1,-1,1]] 2 (okRows_dec (by decide +kernel))
  have s3:=F_linSolve_eq [rowOf [1,2,1],rowOf [2,4,5]] 2 (okRows_dec (by decide +kernel))
  have k3:=F_linKern_eq [rowOf [1,2,1],rowOf [2,4,5]] 2 (okRows_dec (by decide +kernel))
  have a3:=F_linRank_eq [rowOf [1,2,1],rowOf [2,4,5]] 2 (okRows_dec (by decide +kernel))
  have kx:kernX [rowOf [1,2,1],rowOf [2,4,5]] 2 = ([((-1,[2]),(1,[1])),((1,[1]),(1,[1]))],true):=by decide +kernel
  have okk:okL [((-1,[2]),(1,[1])),((1,[1]),(1,[1]))]:=⟨by decide,fun f hf => by simp at hf; rcases hf with rfl | rfl <;> exact ⟨by decide,by decide⟩⟩
  have c3:=F_linCheck_eq [rowOf [1,2,1],rowOf [2,4,5]] 2 [((-1,[2]),(1,[1])),((1,[1]),(1,[1]))] ⟨okRows_dec (by decide +kernel),okk⟩
  have g0:=F_linRight_eq [] 0 (okRows_dec (by decide +kernel))
  rw [show solveX [rowOf [2,1]] 1 = ([((1,[1]),(1,[2]))],0) by decide +kernel] at s1
  rw [show solveX [rowOf [1,1,3],rowOf [1,-1,1]] 2 = ([((1,[2]),(1,[1])),((1,[1]),(1,[1]))],0) by decide +kernel] at s2
  rw [show solveX [rowOf [1,2,1],rowOf [2,4,5]] 2 = ([],17) by decide +kernel] at s3
  rw [kx] at k3
  rw [show rankX [rowOf [1,2,1],rowOf [2,4,5]] 2 = (1,0) by decide +kernel] at a3
  rw [show checkX [rowOf [1,2,1],rowOf [2,4,5]] 2 [((-1,[2]),(1,[1])),((1,[1]),(1,[1]))] = false by decide +kernel] at c3
  rw [show rightS [] 0 = true by decide +kernel] at g0
  rw [e1] at r1 s1
  rw [e2] at r2 s2
  rw [e3] at r3 s2
  rw [e4] at r4 s3 k3 a3 c3
  rw [e5] at r5 s3 k3 a3 c3
  have n2:=F_wnum_eq 2 (i64s 2 (by omega))
  have n1:=F_wnum_eq 1 (i64s 1 (by omega))
  have nm:=F_wnum_eq (-2) (i64s (-2) (by omega))
  rw [show numF 2 = ((1,[2]),(1,[1])) by decide +kernel] at n2
  rw [show numF 1 = ((1,[1]),(1,[1])) by decide +kernel] at n1
  rw [show numF (-2) = ((-1,[2]),(1,[1])) by decide +kernel] at nm
  have hh:=F_gOf_eq 1 2 ⟨i64s 1 (by omega),i64s 2 (by omega)⟩
  rw [show newR (encB 1) (encB 2) = (((1,[1]),(1,[2])),0) by decide +kernel] at hh
  have okh:okL [((1,[1]),(1,[2]))]:=⟨by decide,fun f hf => by simp at hf; rcases hf with rfl; exact ⟨by decide,by decide⟩⟩
  have ok2:okL [((1,[2]),(1,[1])),((1,[1]),(1,[1]))]:=⟨by decide,fun f hf => by simp at hf; rcases hf with rfl | rfl <;> exact ⟨by decide,by decide⟩⟩
  have q1:=F_hSame_eq [((1,[1]),(1,[2]))] [((1,[1]),(1,[2]))] ⟨okh,okh⟩
  have q2:=F_hSame_eq [((1,[2]),(1,[1])),((1,[1]),(1,[1]))] [((1,[2]),(1,[1])),((1,[1]),(1,[1]))] ⟨ok2,ok2⟩
  have q3:=F_hSame_eq [((-1,[2]),(1,[1])),((1,[1]),(1,[1]))] [((-1,[2]),(1,[1])),((1,[1]),(1,[1]))] ⟨okk,okk⟩
  rw [show sameFs [((1,[1]),(1,[2]))] [((1,[1]),(1,[2]))] = true from decide_eq_true rfl] at q1
  rw [show sameFs [((1,[2]),(1,[1])),((1,[1]),(1,[1]))] [((1,[2]),(1,[1])),((1,[1]),(1,[1]))] = true from decide_eq_true rfl] at q2
  rw [show sameFs [((-1,[2]),(1,[1])),((1,[1]),(1,[1]))] [((-1,[2]),(1,[1])),((1,[1]),(1,[1]))] = true from decide_eq_true rfl] at q3
  clear e1 e2 e3 e4 e5 kx
  simp only [rowL,fracL,fracE,i64L,List.map_cons,List.map_nil] at r1 r2 r3 r4 r5 s1 s2 s3 k3 a3 c3 g0 n1 n2 nm hh q1 q2 q3
  simp only [go_sem,reduceIte,yA,yB,yC,yD,yE,yH,reduceCtorEq,yF,yG,yI,h_wrow,h_wnum,h_linSolve,h_linKern,h_linRank,h_linCheck,h_linRight,h_gOf,h_hSame,r1,r2,r3,r4,r5,s1,s2,s3,k3,a3,c3,g0,n1,n2,nm,hh,q1,q2,q3,beq_self_eq_true]
end Go.Mini
namespace Go.Mini
open Go
set_option maxRecDepth 10000
set_option maxHeartbeats 4000000
theorem few_okF {f:FRaw} (h:fewF f 1 = true):f.1.2.length ≤ 1 ∧ f.2.2.length ≤ 1:=by
  unfold fewF at h
  simp only [Bool.and_eq_true,decide_eq_true_eq] at h
  omega
theorem few_list {l:List FRaw} (h:fewFs l 3 1 = true):l.length ≤ 3 ∧ ∀ f ∈ l,fewF f 1 = true:=by
  unfold fewFs at h
  simp only [Bool.and_eq_true,decide_eq_true_eq,List.all_eq_true] at h
  exact ⟨by omega,h.2⟩
theorem few_rows {l:List RowD} (h:fewRows l 3 1 = true):l.length ≤ 3 ∧ ∀ r ∈ l,fewFs r.1 3 1 = true ∧ fewF r.2 1 = true:=by
  unfold fewRows fewRow at h
  simp only [Bool.and_eq_true,decide_eq_true_eq,List.all_eq_true] at h
  exact ⟨by omega,h.2⟩
theorem okF_few {f:FRaw} (h:fewF f 1 = true):okF f:=⟨by have:=few_okF h; omega,by have:=few_okF h; omega⟩
theorem okL_few {l:List FRaw} (h:fewFs l 3 1 = true):okL l:=⟨by have:=(few_list h).1; omega,fun f hf => okF_few ((few_list h).2 f hf)⟩
theorem okRows_few {l:List RowD} (h:fewRows l 3 1 = true):okRows l:=⟨by have:=(few_rows h).1; omega,fun r hr => ⟨okL_few ((few_rows h).2 r hr).1,okF_few ((few_rows h).2 r hr).2⟩⟩
def OnlyP (rs:List RowD) (x:List FRaw):Prop:=fewRows rs 3 1 = true → fewFs x 3 1 = true → rightS rs rs.length = true →
  (∃ a,solveX rs rs.length = (a,0) ∧ kernX rs rs.length = ([],false) ∧ okL a ∧ checkX rs rs.length a = true ∧ (checkX rs rs.length x = true → sameFs x a = true)) ∨
  (∃ k,solveX rs rs.length = ([],17) ∧ kernX rs rs.length = (k,true) ∧ okL k ∧ k.length = rs.length ∧ (k.all fun f => f.1.1 == 0) = false ∧ okRows (homog rs) ∧ checkX (homog rs) rs.length k = true)
end Go.Mini
namespace Go.Mini
open Go
set_option maxRecDepth 10000
set_option maxHeartbeats 4000000
theorem lenRow {l:List RowD} {k:Nat} (h:k < l.length):(k * 5 + 5 ≤ (rowE rowL l).length) = True:=eq_true (by rw [rowE_len rowL_len]; omega)
theorem setRow {l:List RowD} {k:Nat} (h:k < l.length) (A:List FRaw) (a:Int) (b:List Int) (c:Int) (d:List Int) :
    List.take (k * 5) (rowE rowL l) ++ [MV.dat (.sl (A.map fracL)),MV.dat (.int .i64 a),.dat (.sl (b.map i64L)),.dat (.int .i64 c),.dat (.sl (d.map i64L))] ++ List.drop (k * 5 + 5) (rowE rowL l) = rowE rowL (l.set k (A,((a,b),(c,d)))):=by
  rw [← rowE_set rowL_len h]
  rfl
theorem even_rows (l:List RowD):((l.map rowL).all fun e => e.length == 5) = true:=by
  rw [List.all_eq_true]
  intro e he
  obtain ⟨b,-,rfl⟩:=List.mem_map.1 he
  rfl
theorem app_all (k:Nat) (l:List RowD) (h:l.length ≤ 1000):appC k 0 5 0 88 l.length ((l.map rowL).flatten.map .dat) (some (0,[])) = some (.ref k 1 5 0 l.length,some (k,1,rowE rowL l)):=by
  have:=app_rows rowL_len rowL_one k 0 88 [] l (by simp; omega) (by simp; omega)
  simpa [rowE] using this
theorem fr_row {l:List RowD} {n:Nat} (h:l.length = n) (K:St → Prop) (st:St) (s k g:Nat):wpFr2 K st s k g 5 0 n (some (g,rowE rowL l)) = K ⟨upd st.tm s (.dat (.sl (l.map rowL))),kill st.mem k⟩:=by
  subst h
  exact wpFr2_row rowL_len s k g l
/-- At a ghost that does nothing: what is known of the state, and nothing else. -/
theorem ghost_abs {K:St → Prop} {tm:Nat → MV} {m:Mem} (P:(Nat → MV) → Mem → Prop) (h0:P tm m) (h:∀ tm m,P tm m → K ⟨tm,m⟩):ghostK K ⟨tm,m⟩ .move:=ghostK_skip (h tm m h0)
def scaledX (rs:List RowD) (a:Nat) (r:RowD) (f:FRaw):List RowD:=rs.set a (timesX r f)
def addedX (rs:List RowD) (a b:Nat) (r r2:RowD):List RowD:=if a = b then rs else rs.set a (plusX r r2)
def turnedX (rs:List RowD) (a b:Nat) (r r2:RowD):List RowD:=(rs.set a r2).set b r
def MovesP (rs:List RowD) (i k:Nat) (f:FRaw):Prop:=fewRows rs 3 1 = true → fewF f 1 = true → rightS rs rs.length = true → 0 < rs.length → rightF f = true → (f.1.1 == 0) = false → ∀ ra rb,rs[i % rs.length]? = some ra → rs[k % rs.length]? = some rb →
  timesOK ra f ∧ plusOK ra rb ∧ okRows (scaledX rs (i % rs.length) ra f) ∧ okRows (addedX rs (i % rs.length) (k % rs.length) ra rb) ∧ okL (solveX rs rs.length).1 ∧
    (solveX (scaledX rs (i % rs.length) ra f) rs.length = solveX rs rs.length ∨ solveX (scaledX rs (i % rs.length) ra f) rs.length = ([],6)) ∧
    (solveX (addedX rs (i % rs.length) (k % rs.length) ra rb) rs.length = solveX rs rs.length ∨ solveX (addedX rs (i % rs.length) (k % rs.length) ra rb) rs.length = ([],6)) ∧
    solveX (turnedX rs (i % rs.length) (k % rs.length) ra rb) rs.length = solveX rs rs.length
end Go.Mini
namespace Go.Mini
open Go
set_option maxRecDepth 10000
set_option maxHeartbeats 4000000
def noneX (rs:List RowD) (a:Nat) (r:RowD):List RowD:=rs.set a (timesX r (numF 0))
def RankP (rs:List RowD) (i k:Nat):Prop:=fewRows rs 3 1 = true → rightS rs rs.length = true →
  ∃ r:Int,rankX rs rs.length = (r,0) ∧ rankX (homog rs) rs.length = (r,0) ∧ okRows (homog rs) ∧ 0 ≤ r ∧ r ≤ rs.length ∧ (r == (rs.length:Int)) = ((solveX rs rs.length).2 == 0) ∧ (r == (rs.length:Int)) = !(kernX rs rs.length).2 ∧
    (0 < rs.length → ∀ ra rb,rs[i % rs.length]? = some ra → rs[k % rs.length]? = some rb → timesOK ra (numF 0) ∧ okRows (noneX rs (i % rs.length) ra) ∧ ∃ t u:Int,rankX (rs.set (i % rs.length) rb) rs.length = (t,0) ∧ rankX (noneX rs (i % rs.length) ra) rs.length = (u,0) ∧ t ≤ r ∧ u ≤ r ∧ r - 1 ≤ u ∧ u < rs.length ∧ (i % rs.length = k % rs.length ∨ t < rs.length))
noncomputable def F_wRank:List Data → Option PRes:=FF (α:=(List RowD) × Nat × Nat) (fun (rs,i,k) => ([.sl (rs.map rowL),.int .u8 i,.int .u8 k]:List Data)) (fun (rs,i,k) => onlyIf (i < 256 ∧ k < 256 ∧ RankP rs i k) (.same (.bool true)))
theorem F_wRank_inj:∀ a b:(List RowD) × Nat × Nat,(fun (rs,i,k) => ([.sl (rs.map rowL),.int .u8 i,.int .u8 k]:List Data)) a = (fun (rs,i,k) => ([.sl (rs.map rowL),.int .u8 i,.int .u8 k]:List Data)) b → a = b:=by
    rintro ⟨rs1,i1,k1⟩ ⟨rs2,i2,k2⟩ h
    simp only [yM,Data.sl.injEq,Data.int.injEq,Int.natCast_inj] at h; exact Prod.ext (map_inj rowL_inj _ _ h.1) (Prod.ext h.2.1.2 h.2.2.1.2)
@[go_sem] theorem F_wRank_eq (rs:List RowD) (i:Nat) (k:Nat) (hc:i < 256 ∧ k < 256 ∧ RankP rs i k):F_wRank [.sl (rs.map rowL),.int .u8 i,.int .u8 k] = some (.same (.bool true)):=(FF_eq F_wRank_inj (rs,i,k)).trans (onlyIf_pos hc _)
theorem w_wRank (T:Tab) (h_wsmall:T id_law06_small = mkE F_wsmall) (h_hFew:T id_ref06_Few = mkE F_hFew) (h_linRight:T id_linear_Right = mkE F_linRight) (h_linRank:T id_linear_Rank = mkE F_linRank) (h_linSolve:T id_linear_Solve = mkE F_linSolve) (h_linKern:T id_linear_Kernel = mkE F_linKern) (h_whom:T id_law06_homogeneous = mkE F_whom) (h_wnum:T id_law06_number = mkE F_wnum) (h_wtimes:T id_law06_times = mkE F_wtimes) (rs:List RowD) (i:Nat) (k:Nat) (hc:i < 256 ∧ k < 256 ∧ RankP rs i k) :
    wp T mf_law06_LinearRank.body (endS mf_law06_LinearRank.res (.same (.bool true))) ⟨initTm [.dat (.sl (rs.map rowL)),.dat (.int .u8 i),.dat (.int .u8 k)],emp⟩:=by
  refine wp_start ?_
  simp only [mf_law06_LinearRank]
  obtain ⟨hi8,hk8,hc⟩:=hc
  have sm:=F_wsmall_eq
  have g1:=F_hFew_eq rs 3 1 (by omega)
  rcases hf:fewRows rs 3 1
  · rw [hf] at g1
    simp only [go_sem,reduceIte,yA,yB,yC,yD,yE,yH,reduceCtorEq,yF,yG,yI,h_wsmall,h_hFew,h_linRight,h_linRank,h_linSolve,h_linKern,h_whom,h_wnum,h_wtimes,sm,g1,yJ]
    repeat' (first | refine wpG_not ?_ ?_ | refine wpG_yes ?_ ?_ | refine wpB_not ?_ ?_ | refine wpB_yes ?_ ?_ | refine wpGD_not ?_ ?_ | refine wpGD_yes ?_ ?_) <;> intro h <;> simp only [h,go_sem,reduceIte,yA,yB,yC,yD,yE,yH,reduceCtorEq,yF,yG,yI,h_wsmall,h_hFew,h_linRight,h_linRank,h_linSolve,h_linKern,h_whom,h_wnum,h_wtimes,sm,g1,yJ]
  rw [hf] at g1
  have okr:=okRows_few hf
  have hn3:=(few_rows hf).1
  rcases hr:rightS rs rs.length
  · simp only [go_sem,reduceIte,yA,yB,yC,yD,yE,yH,reduceCtorEq,yF,yG,yI,h_wsmall,h_hFew,h_linRight,h_linRank,h_linSolve,h_linKern,h_whom,h_wnum,h_wtimes,sm,g1,okr,hr,yJ]
    repeat' (first | refine wpG_not ?_ ?_ | refine wpG_yes ?_ ?_ | refine wpB_not ?_ ?_ | refine wpB_yes ?_ ?_ | refine wpGD_not ?_ ?_ | refine wpGD_yes ?_ ?_) <;> intro h <;> simp only [h,go_sem,reduceIte,yA,yB,yC,yD,yE,yH,reduceCtorEq,yF,yG,yI,h_wsmall,h_hFew,h_linRight,h_linRank,h_linSolve,h_linKern,h_whom,h_wnum,h_wtimes,sm,g1,okr,hr,yJ]
  obtain ⟨r,hR,hH,okh,hr0,hrn,hrs,hrk,hmain⟩:=hc hf hr
  have rk:=F_linRank_eq rs rs.length okr
  have rh:=F_linRank_eq (homog rs) rs.length okh
  have sv:=F_linSolve_eq rs rs.length okr
  have kn:=F_linKern_eq rs rs.length okr
  have hm:=F_whom_eq rs (by omega)
  rw [hR] at rk
  rw [hH] at rh
  rcases hX:solveX rs rs.length with ⟨X,e⟩
  rcases hK:kernX rs rs.length with ⟨Q,ok⟩
  rw [hX] at sv hrs
  rw [hK] at kn hrk
  dsimp only at hrs hrk
  have d1:decide (r < 0) = false:=decide_eq_false (by omega)
  have d2:decide (r > (rs.length:Int)) = false:=decide_eq_false (by omega)
  have e1:(((r == (rs.length:Int))) == (e == 0)) = true:=by rw [hrs]; exact beq_self_eq_true _
  have e2:(((r == (rs.length:Int))) == ok) = false:=by rw [hrk]; cases ok <;> rfl
  have e3:(r == r) = true:=beq_self_eq_true r
  rcases Nat.eq_zero_or_pos rs.length with hz | hpos
  · have hn0:((rs.length:Int) == 0) = true:=by rw [beq_iff_eq]; omega
    simp only [go_sem,reduceIte,yA,yB,yC,yD,yE,yH,reduceCtorEq,yF,yG,yI,h_wsmall,h_hFew,h_linRight,h_linRank,h_linSolve,h_linKern,h_whom,h_wnum,h_wtimes,sm,g1,okr,hr,rk,rh,sv,kn,hm,d1,d2,e1,e2,e3,hn0,yJ,beq_self_eq_true,Bool.not_true,Bool.not_false,bne]
  have hn0:((rs.length:Int) == 0) = false:=by rw [beq_eq_false_iff_ne]; omega
  simp only [go_sem,reduceIte,yA,yB,yC,yD,yE,yH,reduceCtorEq,yF,yG,yI,h_wsmall,h_hFew,h_linRight,h_linRank,h_linSolve,h_linKern,h_whom,h_wnum,h_wtimes,sm,g1,okr,hr,rk,rh,sv,kn,hm,d1,d2,e1,e2,e3,hn0,yJ,beq_self_eq_true,Bool.not_true,Bool.not_false,bne]
  refine ghost_abs (fun tm m => tm 0 = .dat (.sl (rs.map rowL)) ∧ tm 1 = .dat (.int .u8 i) ∧ tm 2 = .dat (.int .u8 k) ∧ tm 7 = .dat (.bool true) ∧ tm 8 = .dat (.int .i64 rs.length) ∧ tm 9 = .dat (.int .i64 r) ∧ m 104109 = none ∧ m 104119 = none) (by refine ⟨?_,?_,?_,?_,?_,?_,?_,?_⟩ <;> first | rfl | simp only [go_sem,reduceIte,yA,yB,yC,yD,yE,yH,reduceCtorEq,yF,yG,yI,h_wsmall,h_hFew,h_linRight,h_linRank,h_linSolve,h_linKern,h_whom,h_wnum,h_wtimes]) ?_
  rintro tm m ⟨h0,h1,h2,h7,h8,h9,m9,m19⟩
  have hw1:IntKind.i64.wrap (i:Int) = i:=wrap64 _ (by omega) (by omega)
  have hw2:IntKind.i64.wrap (k:Int) = k:=wrap64 _ (by omega) (by omega)
  have ht1:((i:Int)).tmod (rs.length:Int) = ((i % rs.length:Nat):Int):=by rw [Int.tmod_eq_emod_of_nonneg (by omega)]; rfl
  have ht2:((k:Int)).tmod (rs.length:Int) = ((k % rs.length:Nat):Int):=by rw [Int.tmod_eq_emod_of_nonneg (by omega)]; rfl
  have ha:=Nat.mod_lt i hpos
  have hb:=Nat.mod_lt k hpos
  have hnz:¬ ((rs.length:Int) = 0):=by omega
  obtain ⟨ra,hra⟩:∃ x,rs[i % rs.length]? = some x:=⟨_,yL ha⟩
  obtain ⟨rb,hrb⟩:∃ x,rs[k % rs.length]? = some x:=⟨_,yL hb⟩
  obtain ⟨q1,q2,t,u,hT,hU,c1,c2,c3,c4,c5⟩:=hmain hpos ra rb hra hrb
  have hoa:=okr.2 _ (List.mem_of_getElem? hra)
  have hob:=okr.2 _ (List.mem_of_getElem? hrb)
  have hla:=(few_list ((few_rows hf).2 _ (List.mem_of_getElem? hra)).1).1
  have tm1:=F_wtimes_eq ra (numF 0) ⟨by omega,hoa,okF_num i64_0,q1⟩
  have ap1:=app_all 104109 rs (by omega)
  have ap2:=app_all 104119 rs (by omega)
  have hev:=even_rows rs
  have hn0':=i64_0
  generalize hA:i % rs.length = a at *
  generalize hB:k % rs.length = b at *
  obtain ⟨A,⟨a1,a2⟩,⟨a3,a4⟩⟩:=ra
  obtain ⟨B,⟨b1,b2⟩,⟨b3,b4⟩⟩:=rb
  rcases hTX:timesX (A,((a1,a2),(a3,a4))) (numF 0) with ⟨TA,⟨t1,t2⟩,⟨t3,t4⟩⟩
  rw [hTX] at tm1
  unfold noneX at q2 hU
  rw [hTX] at q2 hU
  rw [numF_zero] at tm1
  simp only [rowL,fracL,zF,List.map_nil,List.map_cons,i64L] at tm1
  have sl1:=lenRow ha
  have st1:=setRow ha B b1 b2 b3 b4
  simp only [go_sem,reduceIte,yA,yB,yC,yD,yE,yH,reduceCtorEq,yF,yG,yI,h_wsmall,h_hFew,h_linRight,h_linRank,h_linSolve,h_linKern,h_whom,h_wnum,h_wtimes,h0,h1,h2,h8,m9,m19,hw1,hw2,ht1,ht2,hnz,ap1,ap2,hev,ha,hb,hra,hrb,sl1,st1,rowL,fracL,yJ,yK]
  refine ghost_abs (fun tm m => tm 0 = .dat (.sl (rs.map rowL)) ∧ tm 7 = .dat (.bool true) ∧ tm 8 = .dat (.int .i64 rs.length) ∧ tm 9 = .dat (.int .i64 r) ∧ tm 17 = .dat (.int .i64 a) ∧ tm 18 = .dat (.int .i64 b) ∧ tm 19 = .ref 104109 1 5 0 rs.length ∧ tm 20 = .ref 104119 1 5 0 rs.length ∧ m 104109 = some (1,rowE rowL (rs.set a (B,((b1,b2),(b3,b4))))) ∧ m 104119 = some (1,rowE rowL rs)) (by refine ⟨?_,?_,?_,?_,?_,?_,?_,?_,?_,?_⟩ <;> first | rfl | assumption | simp only [go_sem,reduceIte,yA,yB,yC,yD,yE,yH,reduceCtorEq,yF,yG,yI,h_wsmall,h_hFew,h_linRight,h_linRank,h_linSolve,h_linKern,h_whom,h_wnum,h_wtimes,h0,h7,h8,h9]) ?_
  clear h0 h1 h2 h7 h8 h9 m9 m19 tm m
  rintro tm m ⟨h0,h7,h8,h9,h17,h18,h19,h20,m9,m19⟩
  have st3:=setRow ha TA t1 t2 t3 t4
  have fr1:=fr_row (l:=rs.set a (B,((b1,b2),(b3,b4)))) (n:=rs.length) (List.length_set ..)
  have fr2:=fr_row (l:=rs.set a (TA,((t1,t2),(t3,t4)))) (n:=rs.length) (List.length_set ..)
  have okt:okRows (rs.set a (B,((b1,b2),(b3,b4)))):=by
    refine ⟨by rw [List.length_set]; exact okr.1,fun r hr => ?_⟩
    rcases List.mem_or_eq_of_mem_set hr with hr | rfl
    · exact okr.2 r hr
    · exact hob
  have rt:=F_linRank_eq _ rs.length okt
  have ru:=F_linRank_eq _ rs.length q2
  rw [hT] at rt
  rw [hU] at ru
  simp only [go_sem,reduceIte,yA,yB,yC,yD,yE,yH,reduceCtorEq,yF,yG,yI,h_wsmall,h_hFew,h_linRight,h_linRank,h_linSolve,h_linKern,h_whom,h_wnum,h_wtimes,h0,h7,h8,h9,h17,h18,h19,h20,m9,m19,ha,hra,hn0',tm1,numF_zero,zF,sl1,st3,fr1,fr2,rt,ru,rowL,fracL,i64L,List.map_nil,List.map_cons,yJ,yK]
  refine ghost_abs (fun tm m => tm 7 = .dat (.bool true) ∧ tm 8 = .dat (.int .i64 rs.length) ∧ tm 9 = .dat (.int .i64 r) ∧ tm 17 = .dat (.int .i64 a) ∧ tm 18 = .dat (.int .i64 b) ∧ tm 21 = .dat (.int .i64 t) ∧ tm 22 = .dat (.int .i64 0) ∧ tm 23 = .dat (.int .i64 u) ∧ tm 24 = .dat (.int .i64 0)) (by refine ⟨?_,?_,?_,?_,?_,?_,?_,?_,?_⟩ <;> first | rfl | assumption | simp only [go_sem,reduceIte,yA,yB,yC,yD,yE,yH,reduceCtorEq,yF,yG,yI,h_wsmall,h_hFew,h_linRight,h_linRank,h_linSolve,h_linKern,h_whom,h_wnum,h_wtimes,h7,h8,h9,h17,h18]) ?_
  clear h0 h7 h8 h9 h17 h18 h19 h20 m9 m19 tm m
  rintro tm m ⟨h7,h8,h9,h17,h18,h21,h22,h23,h24⟩
  have z1:decide (t ≤ r) = true:=decide_eq_true c1
  have z2:decide (u ≤ r) = true:=decide_eq_true c2
  have z3:decide (u ≥ r - 1) = true:=decide_eq_true (by omega)
  have z4:decide (u < (rs.length:Int)) = true:=decide_eq_true c4
  have w1:IntKind.i64.wrap (r - 1) = r - 1:=wrap64 _ (by omega) (by omega)
  rcases c5 with c5 | c5
  · have z5:((a:Int) == (b:Int)) = true:=by rw [beq_iff_eq]; omega
    simp only [go_sem,reduceIte,yA,yB,yC,yD,yE,yH,reduceCtorEq,yF,yG,yI,h_wsmall,h_hFew,h_linRight,h_linRank,h_linSolve,h_linKern,h_whom,h_wnum,h_wtimes,h7,h8,h9,h17,h18,h21,h22,h23,h24,z1,z2,z3,z4,z5,w1,beq_self_eq_true]
  · have z6:decide (t < (rs.length:Int)) = true:=decide_eq_true c5
    rcases z5:((a:Int) == (b:Int))
    · simp only [go_sem,reduceIte,yA,yB,yC,yD,yE,yH,reduceCtorEq,yF,yG,yI,h_wsmall,h_hFew,h_linRight,h_linRank,h_linSolve,h_linKern,h_whom,h_wnum,h_wtimes,h7,h8,h9,h17,h18,h21,h22,h23,h24,z1,z2,z3,z4,z5,z6,w1,beq_self_eq_true]
    · simp only [go_sem,reduceIte,yA,yB,yC,yD,yE,yH,reduceCtorEq,yF,yG,yI,h_wsmall,h_hFew,h_linRight,h_linRank,h_linSolve,h_linKern,h_whom,h_wnum,h_wtimes,h7,h8,h9,h17,h18,h21,h22,h23,h24,z1,z2,z3,z4,z5,w1,beq_self_eq_true]
end Go.Mini
namespace Go.Mini
open Go Go.Proofs
set_option maxRecDepth 100000
theorem mixed:Try.prog.follows .mixedOrders = true:=by kernel_rfl
theorem tr_trim:trFunc Try.prog 177000 [] Try.f79 = some { mf_big_trim with body:=erase mf_big_trim.body }:=by kernel_rfl
theorem nm_trim : (Try.f79.name == "runtime.NumGoroutine") = false := by kernel_rfl
theorem ps_trim:PSpec Try.prog id_big_trim F_trim:=pspec_of (mkTE_ok (PTl_ok (l:=[]) PTl_nil) (ETl_ok (l:=[]) ETl_nil)) mixed Try.func79 nm_trim tr_trim fun ds r h => by
  obtain ⟨x0,hds,hr⟩:=FF_inv h
  clear h
  subst hds
  obtain ⟨hc,rfl⟩:=onlyIf_inv hr
  exact ⟨Nat.le_of_ble_eq_true rfl,w_trim _  x0 hc⟩
theorem es_trim:ESpec Try.prog id_big_trim (mkG G_trim):=RSpec.toE (rspec_of (mkTE_ok (PTl_ok (l:=[]) PTl_nil) (ETl_ok (l:=[]) ETl_nil)) mixed Try.func79 nm_trim tr_trim fun args mem x h => by
  obtain ⟨a,⟨rfl,hm,hl⟩,rfl⟩:=GG_inv h
  exact ⟨Nat.le_of_ble_eq_true rfl,w_trimG _ a.l a.k a.g mem hm hl⟩)
theorem tr_isNaN:trFunc Try.prog 184000 [] Try.f86 = some { mf_cmp_isNaN_int with body:=erase mf_cmp_isNaN_int.body }:=by kernel_rfl
theorem nm_isNaN : (Try.f86.name == "runtime.NumGoroutine") = false := by kernel_rfl
theorem ps_isNaN:PSpec Try.prog id_cmp_isNaN_int F_isNaN:=pspec_of (mkTE_ok (PTl_ok (l:=[]) PTl_nil) (ETl_ok (l:=[]) ETl_nil)) mixed Try.func86 nm_isNaN tr_isNaN fun ds r h => by
  obtain ⟨x0,hds,hr⟩:=FF_inv h
  clear h
  subst hds
  obtain rfl:=Option.some.inj hr
  exact ⟨Nat.le_of_ble_eq_true rfl,w_isNaN _  x0⟩
theorem tr_cmpI:trFunc Try.prog 174000 [] Try.f76 = some { mf_cmp_Compare_int with body:=erase mf_cmp_Compare_int.body }:=by kernel_rfl
theorem nm_cmpI : (Try.f76.name == "runtime.NumGoroutine") = false := by kernel_rfl
theorem ps_cmpI:PSpec Try.prog id_cmp_Compare_int F_cmpI:=pspec_of (mkTE_ok (PTl_ok (l:=[(id_cmp_isNaN_int,F_isNaN)]) (PTl_cons ps_isNaN PTl_nil)) (ETl_ok (l:=[]) ETl_nil)) mixed Try.func76 nm_cmpI tr_cmpI fun ds r h => by
  obtain ⟨⟨x0,x1⟩,hds,hr⟩:=FF_inv h
  clear h
  subst hds
  obtain rfl:=Option.some.inj hr
  exact ⟨Nat.le_of_ble_eq_true rfl,w_cmpI _ (mkTE_F rfl rfl) x0 x1⟩
theorem tr_orI:trFunc Try.prog 179000 [] Try.f81 = some { mf_cmp_Or_int with body:=erase mf_cmp_Or_int.body }:=by kernel_rfl
theorem nm_orI : (Try.f81.name == "runtime.NumGoroutine") = false := by kernel_rfl
theorem ps_orI:PSpec Try.prog id_cmp_Or_int F_orI:=pspec_of (mkTE_ok (PTl_ok (l:=[]) PTl_nil) (ETl_ok (l:=[]) ETl_nil)) mixed Try.func81 nm_orI tr_orI fun ds r h => by
  obtain ⟨x0,hds,hr⟩:=FF_inv h
  clear h
  subst hds
  obtain ⟨hc,rfl⟩:=onlyIf_inv hr
  exact ⟨Nat.le_of_ble_eq_true rfl,w_orI _  x0 hc⟩
theorem tr_clone:trFunc Try.prog 156000 [5] Try.f58 = some { mf_slices_Clone_int with body:=erase mf_slices_Clone_int.body }:=by kernel_rfl
theorem nm_clone : (Try.f58.name == "runtime.NumGoroutine") = false := by kernel_rfl
theorem ps_clone:PSpec Try.prog id_slices_Clone_int F_clone:=pspec_of (mkTE_ok (PTl_ok (l:=[]) PTl_nil) (ETl_ok (l:=[]) ETl_nil)) mixed Try.func58 nm_clone tr_clone fun ds r h => by
  obtain ⟨x0,hds,hr⟩:=FF_inv h
  clear h
  subst hds
  obtain ⟨hc,rfl⟩:=onlyIf_inv hr
  exact ⟨Nat.le_of_ble_eq_true rfl,w_clone _  x0 hc⟩
theorem tr_bigRight:trFunc Try.prog 136000 [] Try.f38 = some { mf_big_Right with body:=erase mf_big_Right.body }:=by kernel_rfl
theorem nm_bigRight : (Try.f38.name == "runtime.NumGoroutine") = false := by kernel_rfl
theorem ps_bigRight:PSpec Try.prog id_big_Right F_bigRight:=pspec_of (mkTE_ok (PTl_ok (l:=[]) PTl_nil) (ETl_ok (l:=[]) ETl_nil)) mixed Try.func38 nm_bigRight tr_bigRight fun ds r h => by
  obtain ⟨⟨x0,x1⟩,hds,hr⟩:=FF_inv h
  clear h
  subst hds
  obtain ⟨hc,rfl⟩:=onlyIf_inv hr
  exact ⟨Nat.le_of_ble_eq_true rfl,w_bigRight _  x0 x1 hc⟩
theorem tr_signed:trFunc Try.prog 158000 [] Try.f60 = some { mf_big_signed with body:=erase mf_big_signed.body }:=by kernel_rfl
theorem nm_signed : (Try.f60.name == "runtime.NumGoroutine") = false := by kernel_rfl
theorem ps_signed:PSpec Try.prog id_big_signed F_signed:=pspec_of (mkTE_ok (PTl_ok (l:=[(id_big_trim,F_trim)]) (PTl_cons ps_trim PTl_nil)) (ETl_ok (l:=[(id_big_trim,mkG G_trim)]) (ETl_cons es_trim ETl_nil))) mixed Try.func60 nm_signed tr_signed fun ds r h => by
  obtain ⟨⟨x0,x1⟩,hds,hr⟩:=FF_inv h
  clear h
  subst hds
  obtain ⟨hc,rfl⟩:=onlyIf_inv hr
  exact ⟨Nat.le_of_ble_eq_true rfl,w_signed _ (mkTE_FG rfl rfl) x0 x1 hc⟩
theorem tr_compare:trFunc Try.prog 175000 [] Try.f77 = some { mf_big_compare with body:=erase mf_big_compare.body }:=by kernel_rfl
theorem nm_compare : (Try.f77.name == "runtime.NumGoroutine") = false := by kernel_rfl
theorem ps_compare:PSpec Try.prog id_big_compare F_compare:=pspec_of (mkTE_ok (PTl_ok (l:=[(id_cmp_Compare_int,F_cmpI)]) (PTl_cons ps_cmpI PTl_nil)) (ETl_ok (l:=[]) ETl_nil)) mixed Try.func77 nm_compare tr_compare fun ds r h => by
  obtain ⟨⟨x0,x1⟩,hds,hr⟩:=FF_inv h
  clear h
  subst hds
  obtain ⟨hc,rfl⟩:=onlyIf_inv hr
  exact ⟨Nat.le_of_ble_eq_true rfl,w_compare _ (mkTE_F rfl rfl) x0 x1 hc⟩
theorem tr_add:trFunc Try.prog 172000 [] Try.f74 = some { mf_big_add with body:=erase mf_big_add.body }:=by kernel_rfl
theorem nm_add : (Try.f74.name == "runtime.NumGoroutine") = false := by kernel_rfl
theorem ps_add:PSpec Try.prog id_big_add F_add:=pspec_of (mkTE_ok (PTl_ok (l:=[(id_big_trim,F_trim)]) (PTl_cons ps_trim PTl_nil)) (ETl_ok (l:=[(id_big_trim,mkG G_trim)]) (ETl_cons es_trim ETl_nil))) mixed Try.func74 nm_add tr_add fun ds r h => by
  obtain ⟨⟨x0,x1⟩,hds,hr⟩:=FF_inv h
  clear h
  subst hds
  obtain ⟨hc,rfl⟩:=onlyIf_inv hr
  exact ⟨Nat.le_of_ble_eq_true rfl,w_add _ (mkTE_FG rfl rfl) x0 x1 hc⟩
theorem tr_sub:trFunc Try.prog 173000 [10] Try.f75 = some { mf_big_sub with body:=erase mf_big_sub.body }:=by kernel_rfl
theorem nm_sub : (Try.f75.name == "runtime.NumGoroutine") = false := by kernel_rfl
theorem ps_sub:PSpec Try.prog id_big_sub F_sub:=pspec_of (mkTE_ok (PTl_ok (l:=[(id_slices_Clone_int,F_clone),(id_big_trim,F_trim)]) (PTl_cons ps_clone (PTl_cons ps_trim PTl_nil))) (ETl_ok (l:=[(id_big_trim,mkG G_trim)]) (ETl_cons es_trim ETl_nil))) mixed Try.func75 nm_sub tr_sub fun ds r h => by
  obtain ⟨⟨x0,x1⟩,hds,hr⟩:=FF_inv h
  clear h
  subst hds
  obtain ⟨hc,rfl⟩:=onlyIf_inv hr
  exact ⟨Nat.le_of_ble_eq_true rfl,w_sub _ (mkTE_F rfl rfl) (mkTE_FG rfl rfl) x0 x1 hc⟩
theorem tr_mul:trFunc Try.prog 161000 [] Try.f63 = some { mf_big_mul with body:=erase mf_big_mul.body }:=by kernel_rfl
theorem nm_mul : (Try.f63.name == "runtime.NumGoroutine") = false := by kernel_rfl
theorem ps_mul:PSpec Try.prog id_big_mul F_mul:=pspec_of (mkTE_ok (PTl_ok (l:=[(id_big_trim,F_trim)]) (PTl_cons ps_trim PTl_nil)) (ETl_ok (l:=[(id_big_trim,mkG G_trim)]) (ETl_cons es_trim ETl_nil))) mixed Try.func63 nm_mul tr_mul fun ds r h => by
  obtain ⟨⟨x0,x1⟩,hds,hr⟩:=FF_inv h
  clear h
  subst hds
  obtain ⟨hc,rfl⟩:=onlyIf_inv hr
  exact ⟨Nat.le_of_ble_eq_true rfl,w_mul _ (mkTE_FG rfl rfl) x0 x1 hc⟩
theorem tr_short:trFunc Try.prog 176000 [] Try.f78 = some { mf_big_short with body:=erase mf_big_short.body }:=by kernel_rfl
theorem nm_short : (Try.f78.name == "runtime.NumGoroutine") = false := by kernel_rfl
theorem ps_short:PSpec Try.prog id_big_short F_short:=pspec_of (mkTE_ok (PTl_ok (l:=[(id_big_trim,F_trim)]) (PTl_cons ps_trim PTl_nil)) (ETl_ok (l:=[(id_big_trim,mkG G_trim)]) (ETl_cons es_trim ETl_nil))) mixed Try.func78 nm_short tr_short fun ds r h => by
  obtain ⟨⟨x0,x1⟩,hds,hr⟩:=FF_inv h
  clear h
  subst hds
  obtain ⟨hc,rfl⟩:=onlyIf_inv hr
  exact ⟨Nat.le_of_ble_eq_true rfl,w_short _ (mkTE_FG rfl rfl) x0 x1 hc⟩
theorem tr_settle:trFunc Try.prog 178000 [] Try.f80 = some { mf_big_settle with body:=erase mf_big_settle.body }:=by kernel_rfl
theorem nm_settle : (Try.f80.name == "runtime.NumGoroutine") = false := by kernel_rfl
theorem es_settle:ESpec Try.prog id_big_settle (mkG G_settle):=RSpec.toE (rspec_of (mkTE_ok (PTl_ok (l:=[]) PTl_nil) (ETl_ok (l:=[]) ETl_nil)) mixed Try.func80 nm_settle tr_settle fun args mem x h => by
  obtain ⟨a,⟨rfl,hc⟩,rfl⟩:=GG_inv h
  exact ⟨Nat.le_of_ble_eq_true rfl,w_settle _ a mem hc⟩)
theorem tr_div:trFunc Try.prog 157000 [54] Try.f59 = some { mf_big_div with body:=erase mf_big_div.body }:=by kernel_rfl
theorem nm_div : (Try.f59.name == "runtime.NumGoroutine") = false := by kernel_rfl
theorem ps_div:PSpec Try.prog id_big_div F_div:=pspec_of (mkTE_ok (PTl_ok (l:=[(id_big_compare,F_compare),(id_slices_Clone_int,F_clone),(id_big_short,F_short),(id_big_trim,F_trim),(id_big_mul,F_mul)]) (PTl_cons ps_compare (PTl_cons ps_clone (PTl_cons ps_short (PTl_cons ps_trim (PTl_cons ps_mul PTl_nil)))))) (ETl_ok (l:=[(id_big_trim,mkG G_trim),(id_big_settle,mkG G_settle)]) (ETl_cons es_trim (ETl_cons es_settle ETl_nil)))) mixed Try.func59 nm_div tr_div fun ds r h => by
  obtain ⟨⟨x0,x1⟩,hds,hr⟩:=FF_inv h
  clear h
  subst hds
  obtain ⟨hc,rfl⟩:=onlyIf_inv hr
  exact ⟨Nat.le_of_ble_eq_true rfl,w_div _ (mkTE_F rfl rfl) (mkTE_F rfl rfl) (mkTE_F rfl rfl) (mkTE_FG rfl rfl) (mkTE_F rfl rfl) (mkTE_E rfl rfl) x0 x1 hc⟩
theorem tr_checked:trFunc Try.prog 155000 [] Try.f57 = some { mf_big_checked with body:=erase mf_big_checked.body }:=by kernel_rfl
theorem nm_checked : (Try.f57.name == "runtime.NumGoroutine") = false := by kernel_rfl
theorem ps_checked:PSpec Try.prog id_big_checked F_checked:=pspec_of (mkTE_ok (PTl_ok (l:=[]) PTl_nil) (ETl_ok (l:=[]) ETl_nil)) mixed Try.func57 nm_checked tr_checked fun ds r h => by
  obtain ⟨⟨x0,x1,x2⟩,hds,hr⟩:=FF_inv h
  clear h
  subst hds
  obtain rfl:=Option.some.inj hr
  exact ⟨Nat.le_of_ble_eq_true rfl,w_checked _  x0 x1 x2⟩
theorem tr_Neg:trFunc Try.prog 152000 [] Try.f54 = some { mf_big_Neg with body:=erase mf_big_Neg.body }:=by kernel_rfl
theorem nm_Neg : (Try.f54.name == "runtime.NumGoroutine") = false := by kernel_rfl
theorem ps_Neg:PSpec Try.prog id_big_Neg F_Neg:=pspec_of (mkTE_ok (PTl_ok (l:=[(id_big_Right,F_bigRight),(id_slices_Clone_int,F_clone),(id_big_signed,F_signed)]) (PTl_cons ps_bigRight (PTl_cons ps_clone (PTl_cons ps_signed PTl_nil)))) (ETl_ok (l:=[]) ETl_nil)) mixed Try.func54 nm_Neg tr_Neg fun ds r h => by
  obtain ⟨⟨x0,x1⟩,hds,hr⟩:=FF_inv h
  clear h
  subst hds
  obtain ⟨hc,rfl⟩:=onlyIf_inv hr
  exact ⟨Nat.le_of_ble_eq_true rfl,w_Neg _ (mkTE_F rfl rfl) (mkTE_F rfl rfl) (mkTE_F rfl rfl) x0 x1 hc⟩
theorem tr_Mul:trFunc Try.prog 140000 [] Try.f42 = some { mf_big_Mul with body:=erase mf_big_Mul.body }:=by kernel_rfl
theorem nm_Mul : (Try.f42.name == "runtime.NumGoroutine") = false := by kernel_rfl
theorem ps_Mul:PSpec Try.prog id_big_Mul F_Mul:=pspec_of (mkTE_ok (PTl_ok (l:=[(id_big_Right,F_bigRight),(id_big_mul,F_mul),(id_big_signed,F_signed),(id_big_checked,F_checked)]) (PTl_cons ps_bigRight (PTl_cons ps_mul (PTl_cons ps_signed (PTl_cons ps_checked PTl_nil))))) (ETl_ok (l:=[]) ETl_nil)) mixed Try.func42 nm_Mul tr_Mul fun ds r h => by
  obtain ⟨⟨x0,x1,x2,x3⟩,hds,hr⟩:=FF_inv h
  clear h
  subst hds
  obtain ⟨hc,rfl⟩:=onlyIf_inv hr
  exact ⟨Nat.le_of_ble_eq_true rfl,w_Mul _ (mkTE_F rfl rfl) (mkTE_F rfl rfl) (mkTE_F rfl rfl) (mkTE_F rfl rfl) x0 x1 x2 x3 hc⟩
theorem tr_Add:trFunc Try.prog 160000 [] Try.f62 = some { mf_big_Add with body:=erase mf_big_Add.body }:=by kernel_rfl
theorem nm_Add : (Try.f62.name == "runtime.NumGoroutine") = false := by kernel_rfl
theorem ps_Add:PSpec Try.prog id_big_Add F_Add:=pspec_of (mkTE_ok (PTl_ok (l:=[(id_big_Right,F_bigRight),(id_cmp_Or_int,F_orI),(id_big_add,F_add),(id_big_sub,F_sub),(id_big_compare,F_compare),(id_big_signed,F_signed),(id_big_checked,F_checked)]) (PTl_cons ps_bigRight (PTl_cons ps_orI (PTl_cons ps_add (PTl_cons ps_sub (PTl_cons ps_compare (PTl_cons ps_signed (PTl_cons ps_checked PTl_nil)))))))) (ETl_ok (l:=[]) ETl_nil)) mixed Try.func62 nm_Add tr_Add fun ds r h => by
  obtain ⟨⟨x0,x1,x2,x3⟩,hds,hr⟩:=FF_inv h
  clear h
  subst hds
  obtain ⟨hc,rfl⟩:=onlyIf_inv hr
  exact ⟨Nat.le_of_ble_eq_true rfl,w_Add _ (mkTE_F rfl rfl) (mkTE_F rfl rfl) (mkTE_F rfl rfl) (mkTE_F rfl rfl) (mkTE_F rfl rfl) (mkTE_F rfl rfl) (mkTE_F rfl rfl) x0 x1 x2 x3 hc⟩
theorem tr_Compare:trFunc Try.prog 154000 [] Try.f56 = some { mf_big_Compare with body:=erase mf_big_Compare.body }:=by kernel_rfl
theorem nm_Compare : (Try.f56.name == "runtime.NumGoroutine") = false := by kernel_rfl
theorem ps_Compare:PSpec Try.prog id_big_Compare F_Compare:=pspec_of (mkTE_ok (PTl_ok (l:=[(id_big_Right,F_bigRight),(id_cmp_Compare_int,F_cmpI),(id_big_compare,F_compare)]) (PTl_cons ps_bigRight (PTl_cons ps_cmpI (PTl_cons ps_compare PTl_nil)))) (ETl_ok (l:=[]) ETl_nil)) mixed Try.func56 nm_Compare tr_Compare fun ds r h => by
  obtain ⟨⟨x0,x1,x2,x3⟩,hds,hr⟩:=FF_inv h
  clear h
  subst hds
  obtain ⟨hc,rfl⟩:=onlyIf_inv hr
  exact ⟨Nat.le_of_ble_eq_true rfl,w_Compare _ (mkTE_F rfl rfl) (mkTE_F rfl rfl) (mkTE_F rfl rfl) x0 x1 x2 x3 hc⟩
theorem tr_Gcd:trFunc Try.prog 137000 [] Try.f39 = some { mf_big_Gcd with body:=erase mf_big_Gcd.body }:=by kernel_rfl
theorem nm_Gcd : (Try.f39.name == "runtime.NumGoroutine") = false := by kernel_rfl
theorem ps_Gcd:PSpec Try.prog id_big_Gcd F_Gcd:=pspec_of (mkTE_ok (PTl_ok (l:=[(id_big_Right,F_bigRight),(id_slices_Clone_int,F_clone),(id_big_div,F_div),(id_big_signed,F_signed),(id_big_checked,F_checked)]) (PTl_cons ps_bigRight (PTl_cons ps_clone (PTl_cons ps_div (PTl_cons ps_signed (PTl_cons ps_checked PTl_nil)))))) (ETl_ok (l:=[]) ETl_nil)) mixed Try.func39 nm_Gcd tr_Gcd fun ds r h => by
  obtain ⟨⟨x0,x1,x2,x3⟩,hds,hr⟩:=FF_inv h
  clear h
  subst hds
  obtain ⟨hc,rfl⟩:=onlyIf_inv hr
  exact ⟨Nat.le_of_ble_eq_true rfl,w_Gcd _ (mkTE_F rfl rfl) (mkTE_F rfl rfl) (mkTE_F rfl rfl) (mkTE_F rfl rfl) (mkTE_F rfl rfl) x0 x1 x2 x3 hc⟩
theorem tr_Div:trFunc Try.prog 153000 [] Try.f55 = some { mf_big_Div with body:=erase mf_big_Div.body }:=by kernel_rfl
theorem nm_Div : (Try.f55.name == "runtime.NumGoroutine") = false := by kernel_rfl
theorem ps_Div:PSpec Try.prog id_big_Div F_Div:=pspec_of (mkTE_ok (PTl_ok (l:=[(id_big_Right,F_bigRight),(id_big_div,F_div),(id_big_add,F_add),(id_big_sub,F_sub),(id_big_signed,F_signed)]) (PTl_cons ps_bigRight (PTl_cons ps_div (PTl_cons ps_add (PTl_cons ps_sub (PTl_cons ps_signed PTl_nil)))))) (ETl_ok (l:=[]) ETl_nil)) mixed Try.func55 nm_Div tr_Div fun ds r h => by
  obtain ⟨⟨x0,x1,x2,x3⟩,hds,hr⟩:=FF_inv h
  clear h
  subst hds
  obtain ⟨hc,rfl⟩:=onlyIf_inv hr
  exact ⟨Nat.le_of_ble_eq_true rfl,w_Div _ (mkTE_F rfl rfl) (mkTE_F rfl rfl) (mkTE_F rfl rfl) (mkTE_F rfl rfl) (mkTE_F rfl rfl) x0 x1 x2 x3 hc⟩
theorem tr_bigOf:trFunc Try.prog 150000 [] Try.f52 = some { mf_big_Of with body:=erase mf_big_Of.body }:=by kernel_rfl
theorem nm_bigOf : (Try.f52.name == "runtime.NumGoroutine") = false := by kernel_rfl
theorem ps_bigOf:PSpec Try.prog id_big_Of F_bigOf:=pspec_of (mkTE_ok (PTl_ok (l:=[(id_big_signed,F_signed)]) (PTl_cons ps_signed PTl_nil)) (ETl_ok (l:=[]) ETl_nil)) mixed Try.func52 nm_bigOf tr_bigOf fun ds r h => by
  obtain ⟨x0,hds,hr⟩:=FF_inv h
  clear h
  subst hds
  obtain ⟨hc,rfl⟩:=onlyIf_inv hr
  exact ⟨Nat.le_of_ble_eq_true rfl,w_bigOf _ (mkTE_F rfl rfl) x0 hc⟩
theorem tr_bigInt:trFunc Try.prog 159000 [] Try.f61 = some { mf_big_Int with body:=erase mf_big_Int.body }:=by kernel_rfl
theorem nm_bigInt : (Try.f61.name == "runtime.NumGoroutine") = false := by kernel_rfl
theorem ps_bigInt:PSpec Try.prog id_big_Int F_bigInt:=pspec_of (mkTE_ok (PTl_ok (l:=[(id_big_Right,F_bigRight)]) (PTl_cons ps_bigRight PTl_nil)) (ETl_ok (l:=[]) ETl_nil)) mixed Try.func61 nm_bigInt tr_bigInt fun ds r h => by
  obtain ⟨⟨x0,x1⟩,hds,hr⟩:=FF_inv h
  clear h
  subst hds
  obtain ⟨hc,rfl⟩:=onlyIf_inv hr
  exact ⟨Nat.le_of_ble_eq_true rfl,w_bigInt _ (mkTE_F rfl rfl) x0 x1 hc⟩
theorem tr_fone:trFunc Try.prog 138000 [] Try.f40 = some { mf_frac_one with body:=erase mf_frac_one.body }:=by kernel_rfl
theorem nm_fone : (Try.f40.name == "runtime.NumGoroutine") = false := by kernel_rfl
theorem ps_fone:PSpec Try.prog id_frac_one F_fone:=pspec_of (mkTE_ok (PTl_ok (l:=[(id_big_Int,F_bigInt)]) (PTl_cons ps_bigInt PTl_nil)) (ETl_ok (l:=[]) ETl_nil)) mixed Try.func40 nm_fone tr_fone fun ds r h => by
  obtain ⟨⟨x0,x1⟩,hds,hr⟩:=FF_inv h
  clear h
  subst hds
  obtain ⟨hc,rfl⟩:=onlyIf_inv hr
  exact ⟨Nat.le_of_ble_eq_true rfl,w_fone _ (mkTE_F rfl rfl) x0 x1 hc⟩
theorem tr_fRight:trFunc Try.prog 116000 [] Try.f18 = some { mf_frac_Right with body:=erase mf_frac_Right.body }:=by kernel_rfl
theorem nm_fRight : (Try.f18.name == "runtime.NumGoroutine") = false := by kernel_rfl
theorem ps_fRight:PSpec Try.prog id_frac_Right F_fRight:=pspec_of (mkTE_ok (PTl_ok (l:=[(id_big_Right,F_bigRight),(id_big_Gcd,F_Gcd),(id_frac_one,F_fone)]) (PTl_cons ps_bigRight (PTl_cons ps_Gcd (PTl_cons ps_fone PTl_nil)))) (ETl_ok (l:=[]) ETl_nil)) mixed Try.func18 nm_fRight tr_fRight fun ds r h => by
  obtain ⟨⟨x0,x1,x2,x3⟩,hds,hr⟩:=FF_inv h
  clear h
  subst hds
  obtain ⟨hc,rfl⟩:=onlyIf_inv hr
  exact ⟨Nat.le_of_ble_eq_true rfl,w_fRight _ (mkTE_F rfl rfl) (mkTE_F rfl rfl) (mkTE_F rfl rfl) x0 x1 x2 x3 hc⟩
theorem tr_fNew:trFunc Try.prog 149000 [] Try.f51 = some { mf_frac_New with body:=erase mf_frac_New.body }:=by kernel_rfl
theorem nm_fNew : (Try.f51.name == "runtime.NumGoroutine") = false := by kernel_rfl
theorem ps_fNew:PSpec Try.prog id_frac_New F_fNew:=pspec_of (mkTE_ok (PTl_ok (l:=[(id_big_Right,F_bigRight),(id_big_Neg,F_Neg),(id_big_Gcd,F_Gcd),(id_big_Div,F_Div)]) (PTl_cons ps_bigRight (PTl_cons ps_Neg (PTl_cons ps_Gcd (PTl_cons ps_Div PTl_nil))))) (ETl_ok (l:=[]) ETl_nil)) mixed Try.func51 nm_fNew tr_fNew fun ds r h => by
  obtain ⟨⟨x0,x1,x2,x3⟩,hds,hr⟩:=FF_inv h
  clear h
  subst hds
  obtain ⟨hc,rfl⟩:=onlyIf_inv hr
  exact ⟨Nat.le_of_ble_eq_true rfl,w_fNew _ (mkTE_F rfl rfl) (mkTE_F rfl rfl) (mkTE_F rfl rfl) (mkTE_F rfl rfl) x0 x1 x2 x3 hc⟩
theorem tr_fOf:trFunc Try.prog 130000 [] Try.f32 = some { mf_frac_Of with body:=erase mf_frac_Of.body }:=by kernel_rfl
theorem nm_fOf : (Try.f32.name == "runtime.NumGoroutine") = false := by kernel_rfl
theorem ps_fOf:PSpec Try.prog id_frac_Of F_fOf:=pspec_of (mkTE_ok (PTl_ok (l:=[(id_big_Of,F_bigOf),(id_frac_New,F_fNew)]) (PTl_cons ps_bigOf (PTl_cons ps_fNew PTl_nil))) (ETl_ok (l:=[]) ETl_nil)) mixed Try.func32 nm_fOf tr_fOf fun ds r h => by
  obtain ⟨⟨x0,x1⟩,hds,hr⟩:=FF_inv h
  clear h
  subst hds
  obtain ⟨hc,rfl⟩:=onlyIf_inv hr
  exact ⟨Nat.le_of_ble_eq_true rfl,w_fOf _ (mkTE_F rfl rfl) (mkTE_F rfl rfl) x0 x1 hc⟩
theorem tr_fsum:trFunc Try.prog 139000 [] Try.f41 = some { mf_frac_sum with body:=erase mf_frac_sum.body }:=by kernel_rfl
theorem nm_fsum : (Try.f41.name == "runtime.NumGoroutine") = false := by kernel_rfl
theorem ps_fsum:PSpec Try.prog id_frac_sum F_fsum:=pspec_of (mkTE_ok (PTl_ok (l:=[(id_big_Mul,F_Mul),(id_big_Add,F_Add)]) (PTl_cons ps_Mul (PTl_cons ps_Add PTl_nil))) (ETl_ok (l:=[]) ETl_nil)) mixed Try.func41 nm_fsum tr_fsum fun ds r h => by
  obtain ⟨⟨x0,x1,x2,x3,x4,x5,x6,x7⟩,hds,hr⟩:=FF_inv h
  clear h
  subst hds
  obtain ⟨hc,rfl⟩:=onlyIf_inv hr
  exact ⟨Nat.le_of_ble_eq_true rfl,w_fsum _ (mkTE_F rfl rfl) (mkTE_F rfl rfl) x0 x1 x2 x3 x4 x5 x6 x7 hc⟩
theorem tr_fquot:trFunc Try.prog 141000 [] Try.f43 = some { mf_frac_quotient with body:=erase mf_frac_quotient.body }:=by kernel_rfl
theorem nm_fquot : (Try.f43.name == "runtime.NumGoroutine") = false := by kernel_rfl
theorem ps_fquot:PSpec Try.prog id_frac_quotient F_fquot:=pspec_of (mkTE_ok (PTl_ok (l:=[(id_frac_New,F_fNew)]) (PTl_cons ps_fNew PTl_nil)) (ETl_ok (l:=[]) ETl_nil)) mixed Try.func43 nm_fquot tr_fquot fun ds r h => by
  obtain ⟨⟨x0,x1,x2,x3,x4,x5⟩,hds,hr⟩:=FF_inv h
  clear h
  subst hds
  obtain ⟨hc,rfl⟩:=onlyIf_inv hr
  exact ⟨Nat.le_of_ble_eq_true rfl,w_fquot _ (mkTE_F rfl rfl) x0 x1 x2 x3 x4 x5 hc⟩
theorem tr_fAdd:trFunc Try.prog 119000 [] Try.f21 = some { mf_frac_Add with body:=erase mf_frac_Add.body }:=by kernel_rfl
theorem nm_fAdd : (Try.f21.name == "runtime.NumGoroutine") = false := by kernel_rfl
theorem ps_fAdd:PSpec Try.prog id_frac_Add F_fAdd:=pspec_of (mkTE_ok (PTl_ok (l:=[(id_frac_Right,F_fRight),(id_frac_sum,F_fsum),(id_big_Mul,F_Mul),(id_frac_quotient,F_fquot)]) (PTl_cons ps_fRight (PTl_cons ps_fsum (PTl_cons ps_Mul (PTl_cons ps_fquot PTl_nil))))) (ETl_ok (l:=[]) ETl_nil)) mixed Try.func21 nm_fAdd tr_fAdd fun ds r h => by
  obtain ⟨⟨x0,x1,x2,x3,x4,x5,x6,x7⟩,hds,hr⟩:=FF_inv h
  clear h
  subst hds
  obtain ⟨hc,rfl⟩:=onlyIf_inv hr
  exact ⟨Nat.le_of_ble_eq_true rfl,w_fAdd _ (mkTE_F rfl rfl) (mkTE_F rfl rfl) (mkTE_F rfl rfl) (mkTE_F rfl rfl) x0 x1 x2 x3 x4 x5 x6 x7 hc⟩
theorem tr_fSub:trFunc Try.prog 132000 [] Try.f34 = some { mf_frac_Sub with body:=erase mf_frac_Sub.body }:=by kernel_rfl
theorem nm_fSub : (Try.f34.name == "runtime.NumGoroutine") = false := by kernel_rfl
theorem ps_fSub:PSpec Try.prog id_frac_Sub F_fSub:=pspec_of (mkTE_ok (PTl_ok (l:=[(id_frac_Right,F_fRight),(id_big_Neg,F_Neg),(id_frac_Add,F_fAdd)]) (PTl_cons ps_fRight (PTl_cons ps_Neg (PTl_cons ps_fAdd PTl_nil)))) (ETl_ok (l:=[]) ETl_nil)) mixed Try.func34 nm_fSub tr_fSub fun ds r h => by
  obtain ⟨⟨x0,x1,x2,x3,x4,x5,x6,x7⟩,hds,hr⟩:=FF_inv h
  clear h
  subst hds
  obtain ⟨hc,rfl⟩:=onlyIf_inv hr
  exact ⟨Nat.le_of_ble_eq_true rfl,w_fSub _ (mkTE_F rfl rfl) (mkTE_F rfl rfl) (mkTE_F rfl rfl) x0 x1 x2 x3 x4 x5 x6 x7 hc⟩
theorem tr_fMul:trFunc Try.prog 134000 [] Try.f36 = some { mf_frac_Mul with body:=erase mf_frac_Mul.body }:=by kernel_rfl
theorem nm_fMul : (Try.f36.name == "runtime.NumGoroutine") = false := by kernel_rfl
theorem ps_fMul:PSpec Try.prog id_frac_Mul F_fMul:=pspec_of (mkTE_ok (PTl_ok (l:=[(id_frac_Right,F_fRight),(id_big_Mul,F_Mul),(id_frac_quotient,F_fquot)]) (PTl_cons ps_fRight (PTl_cons ps_Mul (PTl_cons ps_fquot PTl_nil)))) (ETl_ok (l:=[]) ETl_nil)) mixed Try.func36 nm_fMul tr_fMul fun ds r h => by
  obtain ⟨⟨x0,x1,x2,x3,x4,x5,x6,x7⟩,hds,hr⟩:=FF_inv h
  clear h
  subst hds
  obtain ⟨hc,rfl⟩:=onlyIf_inv hr
  exact ⟨Nat.le_of_ble_eq_true rfl,w_fMul _ (mkTE_F rfl rfl) (mkTE_F rfl rfl) (mkTE_F rfl rfl) x0 x1 x2 x3 x4 x5 x6 x7 hc⟩
theorem tr_fDiv:trFunc Try.prog 169000 [] Try.f71 = some { mf_frac_Div with body:=erase mf_frac_Div.body }:=by kernel_rfl
theorem nm_fDiv : (Try.f71.name == "runtime.NumGoroutine") = false := by kernel_rfl
theorem ps_fDiv:PSpec Try.prog id_frac_Div F_fDiv:=pspec_of (mkTE_ok (PTl_ok (l:=[(id_frac_Right,F_fRight),(id_big_Mul,F_Mul),(id_frac_quotient,F_fquot)]) (PTl_cons ps_fRight (PTl_cons ps_Mul (PTl_cons ps_fquot PTl_nil)))) (ETl_ok (l:=[]) ETl_nil)) mixed Try.func71 nm_fDiv tr_fDiv fun ds r h => by
  obtain ⟨⟨x0,x1,x2,x3,x4,x5,x6,x7⟩,hds,hr⟩:=FF_inv h
  clear h
  subst hds
  obtain ⟨hc,rfl⟩:=onlyIf_inv hr
  exact ⟨Nat.le_of_ble_eq_true rfl,w_fDiv _ (mkTE_F rfl rfl) (mkTE_F rfl rfl) (mkTE_F rfl rfl) x0 x1 x2 x3 x4 x5 x6 x7 hc⟩
theorem tr_fCompare:trFunc Try.prog 135000 [] Try.f37 = some { mf_frac_Compare with body:=erase mf_frac_Compare.body }:=by kernel_rfl
theorem nm_fCompare : (Try.f37.name == "runtime.NumGoroutine") = false := by kernel_rfl
theorem ps_fCompare:PSpec Try.prog id_frac_Compare F_fCompare:=pspec_of (mkTE_ok (PTl_ok (l:=[(id_frac_Right,F_fRight),(id_big_Div,F_Div),(id_big_Compare,F_Compare)]) (PTl_cons ps_fRight (PTl_cons ps_Div (PTl_cons ps_Compare PTl_nil)))) (ETl_ok (l:=[]) ETl_nil)) mixed Try.func37 nm_fCompare tr_fCompare fun ds r h => by
  obtain ⟨⟨x0,x1,x2,x3,x4,x5,x6,x7⟩,hds,hr⟩:=FF_inv h
  clear h
  subst hds
  obtain ⟨hc,rfl⟩:=onlyIf_inv hr
  exact ⟨Nat.le_of_ble_eq_true rfl,w_fCompare _ (mkTE_F rfl rfl) (mkTE_F rfl rfl) (mkTE_F rfl rfl) x0 x1 x2 x3 x4 x5 x6 x7 hc⟩
end Go.Mini
namespace Go.Mini
open Go Go.Proofs
set_option maxRecDepth 100000
theorem tr_wrong1:trFunc Try.prog 125000 [] Try.f27 = some { mf_linear_Right_1 with body:=erase mf_linear_Right_1.body }:=by kernel_rfl
theorem nm_wrong1 : (Try.f27.name == "runtime.NumGoroutine") = false := by kernel_rfl
theorem ps_wrong1:PSpec Try.prog id_linear_Right_1 F_wrong1:=pspec_of (mkTE_ok (PTl_ok (l:=[(id_frac_Right,F_fRight)]) (PTl_cons ps_fRight PTl_nil)) (ETl_ok (l:=[]) ETl_nil)) mixed Try.func27 nm_wrong1 tr_wrong1 fun ds r h => by
  obtain ⟨⟨x0,x1,x2,x3⟩,hds,hr⟩:=FF_inv h
  clear h
  subst hds
  obtain ⟨hc,rfl⟩:=onlyIf_inv hr
  exact ⟨Nat.le_of_ble_eq_true rfl,w_wrong1 _ (mkTE_F rfl rfl) x0 x1 x2 x3 hc⟩
theorem tr_wrong2:trFunc Try.prog 133000 [] Try.f35 = some { mf_linear_Check_1 with body:=erase mf_linear_Check_1.body }:=by kernel_rfl
theorem nm_wrong2 : (Try.f35.name == "runtime.NumGoroutine") = false := by kernel_rfl
theorem ps_wrong2:PSpec Try.prog id_linear_Check_1 F_wrong2:=pspec_of (mkTE_ok (PTl_ok (l:=[(id_frac_Right,F_fRight)]) (PTl_cons ps_fRight PTl_nil)) (ETl_ok (l:=[]) ETl_nil)) mixed Try.func35 nm_wrong2 tr_wrong2 fun ds r h => by
  obtain ⟨⟨x0,x1,x2,x3⟩,hds,hr⟩:=FF_inv h
  clear h
  subst hds
  obtain ⟨hc,rfl⟩:=onlyIf_inv hr
  exact ⟨Nat.le_of_ble_eq_true rfl,w_wrong2 _ (mkTE_F rfl rfl) x0 x1 x2 x3 hc⟩
theorem tr_ixFrac:trFunc Try.prog 146000 [] Try.f48 = some { mf_slices_IndexFunc_Frac with body:=erase mf_slices_IndexFunc_Frac.body }:=by kernel_rfl
theorem nm_ixFrac : (Try.f48.name == "runtime.NumGoroutine") = false := by kernel_rfl
theorem ps_ixFrac:PSpec Try.prog id_slices_IndexFunc_Frac F_ixFrac:=pspec_of (mkTE_ok (PTl_ok (l:=[(id_linear_Right_1,F_wrong1),(id_linear_Check_1,F_wrong2)]) (PTl_cons ps_wrong1 (PTl_cons ps_wrong2 PTl_nil))) (ETl_ok (l:=[]) ETl_nil)) mixed Try.func48 nm_ixFrac tr_ixFrac fun ds r h => by
  obtain ⟨⟨x0,x1⟩,hds,hr⟩:=FF_inv h
  clear h
  subst hds
  obtain ⟨hc,rfl⟩:=onlyIf_inv hr
  exact ⟨Nat.le_of_ble_eq_true rfl,w_ixFrac _ (mkTE_F rfl rfl) (mkTE_F rfl rfl) x0 x1 hc⟩
theorem tr_anyFrac:trFunc Try.prog 128000 [] Try.f30 = some { mf_slices_ContainsFunc_Frac with body:=erase mf_slices_ContainsFunc_Frac.body }:=by kernel_rfl
theorem nm_anyFrac : (Try.f30.name == "runtime.NumGoroutine") = false := by kernel_rfl
theorem ps_anyFrac:PSpec Try.prog id_slices_ContainsFunc_Frac F_anyFrac:=pspec_of (mkTE_ok (PTl_ok (l:=[(id_slices_IndexFunc_Frac,F_ixFrac)]) (PTl_cons ps_ixFrac PTl_nil)) (ETl_ok (l:=[]) ETl_nil)) mixed Try.func30 nm_anyFrac tr_anyFrac fun ds r h => by
  obtain ⟨⟨x0,x1⟩,hds,hr⟩:=FF_inv h
  clear h
  subst hds
  obtain ⟨hc,rfl⟩:=onlyIf_inv hr
  exact ⟨Nat.le_of_ble_eq_true rfl,w_anyFrac _ (mkTE_F rfl rfl) x0 x1 hc⟩
theorem tr_wrongRow:trFunc Try.prog 127000 [] Try.f29 = some { mf_linear_Right_2 with body:=erase mf_linear_Right_2.body }:=by kernel_rfl
theorem nm_wrongRow : (Try.f29.name == "runtime.NumGoroutine") = false := by kernel_rfl
theorem ps_wrongRow:PSpec Try.prog id_linear_Right_2 F_wrongRow:=pspec_of (mkTE_ok (PTl_ok (l:=[(id_linear_Right_1,F_wrong1),(id_slices_ContainsFunc_Frac,F_anyFrac)]) (PTl_cons ps_wrong1 (PTl_cons ps_anyFrac PTl_nil))) (ETl_ok (l:=[]) ETl_nil)) mixed Try.func29 nm_wrongRow tr_wrongRow fun ds r h => by
  obtain ⟨⟨x0,x1,x2,x3,x4,x5⟩,hds,hr⟩:=FF_inv h
  clear h
  subst hds
  obtain ⟨hc,rfl⟩:=onlyIf_inv hr
  exact ⟨Nat.le_of_ble_eq_true rfl,w_wrongRow _ (mkTE_F rfl rfl) (mkTE_F rfl rfl) x0 x1 x2 x3 x4 x5 hc⟩
theorem tr_ixRow:trFunc Try.prog 145000 [] Try.f47 = some { mf_slices_IndexFunc_Row with body:=erase mf_slices_IndexFunc_Row.body }:=by kernel_rfl
theorem nm_ixRow : (Try.f47.name == "runtime.NumGoroutine") = false := by kernel_rfl
theorem ps_ixRow:PSpec Try.prog id_slices_IndexFunc_Row F_ixRow:=pspec_of (mkTE_ok (PTl_ok (l:=[(id_linear_Right_2,F_wrongRow)]) (PTl_cons ps_wrongRow PTl_nil)) (ETl_ok (l:=[]) ETl_nil)) mixed Try.func47 nm_ixRow tr_ixRow fun ds r h => by
  obtain ⟨⟨x0,x1⟩,hds,hr⟩:=FF_inv h
  clear h
  subst hds
  obtain ⟨hc,rfl⟩:=onlyIf_inv hr
  exact ⟨Nat.le_of_ble_eq_true rfl,w_ixRow _ (mkTE_F rfl rfl) x0 x1 hc⟩
theorem tr_anyRow:trFunc Try.prog 126000 [] Try.f28 = some { mf_slices_ContainsFunc_Row with body:=erase mf_slices_ContainsFunc_Row.body }:=by kernel_rfl
theorem nm_anyRow : (Try.f28.name == "runtime.NumGoroutine") = false := by kernel_rfl
theorem ps_anyRow:PSpec Try.prog id_slices_ContainsFunc_Row F_anyRow:=pspec_of (mkTE_ok (PTl_ok (l:=[(id_slices_IndexFunc_Row,F_ixRow)]) (PTl_cons ps_ixRow PTl_nil)) (ETl_ok (l:=[]) ETl_nil)) mixed Try.func28 nm_anyRow tr_anyRow fun ds r h => by
  obtain ⟨⟨x0,x1⟩,hds,hr⟩:=FF_inv h
  clear h
  subst hds
  obtain ⟨hc,rfl⟩:=onlyIf_inv hr
  exact ⟨Nat.le_of_ble_eq_true rfl,w_anyRow _ (mkTE_F rfl rfl) x0 x1 hc⟩
theorem tr_linRight:trFunc Try.prog 108000 [] Try.f10 = some { mf_linear_Right with body:=erase mf_linear_Right.body }:=by kernel_rfl
theorem nm_linRight : (Try.f10.name == "runtime.NumGoroutine") = false := by kernel_rfl
theorem ps_linRight:PSpec Try.prog id_linear_Right F_linRight:=pspec_of (mkTE_ok (PTl_ok (l:=[(id_slices_ContainsFunc_Row,F_anyRow)]) (PTl_cons ps_anyRow PTl_nil)) (ETl_ok (l:=[]) ETl_nil)) mixed Try.func10 nm_linRight tr_linRight fun ds r h => by
  obtain ⟨⟨x0,x1⟩,hds,hr⟩:=FF_inv h
  clear h
  subst hds
  obtain ⟨hc,rfl⟩:=onlyIf_inv hr
  exact ⟨Nat.le_of_ble_eq_true rfl,w_linRight _ (mkTE_F rfl rfl) x0 x1 hc⟩
theorem tr_note:trFunc Try.prog 168000 [] Try.f70 = some { mf_linear_matrix_note with body:=erase mf_linear_matrix_note.body }:=by kernel_rfl
theorem nm_note : (Try.f70.name == "runtime.NumGoroutine") = false := by kernel_rfl
theorem es_note:ESpec Try.prog id_linear_matrix_note (mkU U_note):=espec_upd (mkTE_ok (PTl_ok (l:=[]) PTl_nil) (ETl_ok (l:=[]) ETl_nil)) mixed Try.func70 nm_note tr_note noteJ fun args mem r k g i d h => by
  obtain ⟨h1,h2,h3,h4,h5⟩:=w_note _ args mem r k g i d h
  exact ⟨h1,h2,h3,h4,h5⟩
theorem tr_zero:trFunc Try.prog 167000 [] Try.f69 = some { mf_linear_zero with body:=erase mf_linear_zero.body }:=by kernel_rfl
theorem nm_zero : (Try.f69.name == "runtime.NumGoroutine") = false := by kernel_rfl
theorem ps_zero:PSpec Try.prog id_linear_zero F_zero:=pspec_of (mkTE_ok (PTl_ok (l:=[]) PTl_nil) (ETl_ok (l:=[]) ETl_nil)) mixed Try.func69 nm_zero tr_zero fun ds r h => by
  obtain ⟨⟨x0,x1,x2,x3⟩,hds,hr⟩:=FF_inv h
  clear h
  subst hds
  obtain rfl:=Option.some.inj hr
  exact ⟨Nat.le_of_ble_eq_true rfl,w_zero _  x0 x1 x2 x3⟩
theorem tr_pivot:trFunc Try.prog 148000 [3000106,3000165,3000169] Try.f50 = some { mf_linear_matrix_pivot with body:=erase mf_linear_matrix_pivot.body }:=by kernel_rfl
theorem nm_pivot : (Try.f50.name == "runtime.NumGoroutine") = false := by kernel_rfl
theorem es_pivot:ESpec Try.prog id_linear_matrix_pivot (mkQ Q_pivot):=espec_rel (mkTE_ok (PTl_ok (l:=[(id_linear_zero,F_zero),(id_frac_Div,F_fDiv),(id_frac_Sub,F_fSub),(id_frac_Mul,F_fMul)]) (PTl_cons ps_zero (PTl_cons ps_fDiv (PTl_cons ps_fSub (PTl_cons ps_fMul PTl_nil))))) (ETl_ok (l:=[(id_linear_matrix_note,mkU U_note)]) (ETl_cons es_note ETl_nil))) mixed Try.func50 nm_pivot tr_pivot fun args mem R h => by
  obtain ⟨a,rfl,⟨h1,h2,h3,h4,h5,h6,h7⟩,rfl⟩:=Q_pivot_inv h
  exact ⟨Nat.le_of_ble_eq_true rfl,w_pivot _ (mkTE_F rfl rfl) (mkTE_E rfl rfl) (mkTE_F rfl rfl) (mkTE_F rfl rfl) (mkTE_F rfl rfl) a.go a.N a.rows a.r a.c mem h1 h2 h3 h4 h5 h6 h7⟩
theorem tr_cloneF:trFunc Try.prog 147000 [5] Try.f49 = some { mf_slices_Clone_Frac with body:=erase mf_slices_Clone_Frac.body }:=by kernel_rfl
theorem nm_cloneF : (Try.f49.name == "runtime.NumGoroutine") = false := by kernel_rfl
theorem ps_cloneF:PSpec Try.prog id_slices_Clone_Frac F_cloneF:=pspec_of (mkTE_ok (PTl_ok (l:=[]) PTl_nil) (ETl_ok (l:=[]) ETl_nil)) mixed Try.func49 nm_cloneF tr_cloneF fun ds r h => by
  obtain ⟨x0,hds,hr⟩:=FF_inv h
  clear h
  subst hds
  obtain ⟨hc,rfl⟩:=onlyIf_inv hr
  exact ⟨Nat.le_of_ble_eq_true rfl,w_cloneF _  x0 hc⟩
theorem tr_elim:trFunc Try.prog 129000 [29,34] Try.f31 = some { mf_linear_eliminated with body:=erase mf_linear_eliminated.body }:=by kernel_rfl
theorem nm_elim : (Try.f31.name == "runtime.NumGoroutine") = false := by kernel_rfl
theorem ps_elim:PSpec Try.prog id_linear_eliminated F_elim:=pspec_of (mkTE_ok (PTl_ok (l:=[(id_slices_Clone_Frac,F_cloneF)]) (PTl_cons ps_cloneF PTl_nil)) (ETl_ok (l:=[(id_linear_matrix_pivot,mkQ Q_pivot)]) (ETl_cons es_pivot ETl_nil))) mixed Try.func31 nm_elim tr_elim fun ds r h => by
  obtain ⟨⟨x0,x1,x2⟩,hds,hr⟩:=FF_inv h
  clear h
  subst hds
  obtain ⟨hc,rfl⟩:=onlyIf_inv hr
  exact ⟨Nat.le_of_ble_eq_true rfl,w_elim _ (mkTE_F rfl rfl) (mkTE_E rfl rfl) x0 x1 x2 hc⟩
theorem tr_linRank:trFunc Try.prog 121000 [] Try.f23 = some { mf_linear_Rank with body:=erase mf_linear_Rank.body }:=by kernel_rfl
theorem nm_linRank : (Try.f23.name == "runtime.NumGoroutine") = false := by kernel_rfl
theorem ps_linRank:PSpec Try.prog id_linear_Rank F_linRank:=pspec_of (mkTE_ok (PTl_ok (l:=[(id_linear_Right,F_linRight),(id_linear_eliminated,F_elim)]) (PTl_cons ps_linRight (PTl_cons ps_elim PTl_nil))) (ETl_ok (l:=[]) ETl_nil)) mixed Try.func23 nm_linRank tr_linRank fun ds r h => by
  obtain ⟨⟨x0,x1⟩,hds,hr⟩:=FF_inv h
  clear h
  subst hds
  obtain ⟨hc,rfl⟩:=onlyIf_inv hr
  exact ⟨Nat.le_of_ble_eq_true rfl,w_linRank _ (mkTE_F rfl rfl) (mkTE_F rfl rfl) x0 x1 hc⟩
theorem tr_linSolve:trFunc Try.prog 109000 [] Try.f11 = some { mf_linear_Solve with body:=erase mf_linear_Solve.body }:=by kernel_rfl
theorem nm_linSolve : (Try.f11.name == "runtime.NumGoroutine") = false := by kernel_rfl
theorem ps_linSolve:PSpec Try.prog id_linear_Solve F_linSolve:=pspec_of (mkTE_ok (PTl_ok (l:=[(id_linear_Right,F_linRight),(id_linear_eliminated,F_elim)]) (PTl_cons ps_linRight (PTl_cons ps_elim PTl_nil))) (ETl_ok (l:=[]) ETl_nil)) mixed Try.func11 nm_linSolve tr_linSolve fun ds r h => by
  obtain ⟨⟨x0,x1⟩,hds,hr⟩:=FF_inv h
  clear h
  subst hds
  obtain ⟨hc,rfl⟩:=onlyIf_inv hr
  exact ⟨Nat.le_of_ble_eq_true rfl,w_linSolve _ (mkTE_F rfl rfl) (mkTE_F rfl rfl) x0 x1 hc⟩
theorem tr_mul64:trFunc Try.prog 171000 [] Try.f73 = some { mf_math_bits_Mul64 with body:=erase mf_math_bits_Mul64.body }:=by kernel_rfl
theorem nm_mul64 : (Try.f73.name == "runtime.NumGoroutine") = false := by kernel_rfl
theorem ps_mul64:PSpec Try.prog id_math_bits_Mul64 F_mul64:=pspec_of (mkTE_ok (PTl_ok (l:=[]) PTl_nil) (ETl_ok (l:=[]) ETl_nil)) mixed Try.func73 nm_mul64 tr_mul64 fun ds r h => by
  obtain ⟨x0,hds,hr⟩:=FF_inv h
  clear h
  subst hds
  obtain ⟨hc,rfl⟩:=onlyIf_inv hr
  exact ⟨Nat.le_of_ble_eq_true rfl,w_mul64 _  x0 hc⟩
theorem tr_bmul:trFunc Try.prog 151000 [] Try.f53 = some { mf_math_bits_Mul with body:=erase mf_math_bits_Mul.body }:=by kernel_rfl
theorem nm_bmul : (Try.f53.name == "runtime.NumGoroutine") = false := by kernel_rfl
theorem ps_bmul:PSpec Try.prog id_math_bits_Mul F_bmul:=pspec_of (mkTE_ok (PTl_ok (l:=[(id_math_bits_Mul64,F_mul64)]) (PTl_cons ps_mul64 PTl_nil)) (ETl_ok (l:=[]) ETl_nil)) mixed Try.func53 nm_bmul tr_bmul fun ds r h => by
  obtain ⟨x0,hds,hr⟩:=FF_inv h
  clear h
  subst hds
  obtain ⟨hc,rfl⟩:=onlyIf_inv hr
  exact ⟨Nat.le_of_ble_eq_true rfl,w_bmul _ (mkTE_F rfl rfl) x0 hc⟩
theorem tr_repeatF:trFunc Try.prog 131000 [] Try.f33 = some { mf_slices_Repeat_Frac with body:=erase mf_slices_Repeat_Frac.body }:=by kernel_rfl
theorem nm_repeatF : (Try.f33.name == "runtime.NumGoroutine") = false := by kernel_rfl
theorem ps_repeatF:PSpec Try.prog id_slices_Repeat_Frac F_repeatF:=pspec_of (mkTE_ok (PTl_ok (l:=[(id_math_bits_Mul,F_bmul)]) (PTl_cons ps_bmul PTl_nil)) (ETl_ok (l:=[]) ETl_nil)) mixed Try.func33 nm_repeatF tr_repeatF fun ds r h => by
  obtain ⟨⟨x0,x1,x2,x3,x4⟩,hds,hr⟩:=FF_inv h
  clear h
  subst hds
  obtain ⟨hc,rfl⟩:=onlyIf_inv hr
  exact ⟨Nat.le_of_ble_eq_true rfl,w_repeatF _ (mkTE_F rfl rfl) x0 x1 x2 x3 x4 hc⟩
theorem tr_linKern:trFunc Try.prog 110000 [38] Try.f12 = some { mf_linear_Kernel with body:=erase mf_linear_Kernel.body }:=by kernel_rfl
theorem nm_linKern : (Try.f12.name == "runtime.NumGoroutine") = false := by kernel_rfl
theorem ps_linKern:PSpec Try.prog id_linear_Kernel F_linKern:=pspec_of (mkTE_ok (PTl_ok (l:=[(id_linear_Right,F_linRight),(id_linear_eliminated,F_elim),(id_frac_Of,F_fOf),(id_slices_Repeat_Frac,F_repeatF),(id_frac_Sub,F_fSub)]) (PTl_cons ps_linRight (PTl_cons ps_elim (PTl_cons ps_fOf (PTl_cons ps_repeatF (PTl_cons ps_fSub PTl_nil)))))) (ETl_ok (l:=[]) ETl_nil)) mixed Try.func12 nm_linKern tr_linKern fun ds r h => by
  obtain ⟨⟨x0,x1⟩,hds,hr⟩:=FF_inv h
  clear h
  subst hds
  obtain ⟨hc,rfl⟩:=onlyIf_inv hr
  exact ⟨Nat.le_of_ble_eq_true rfl,w_linKern _ (mkTE_F rfl rfl) (mkTE_F rfl rfl) (mkTE_F rfl rfl) (mkTE_F rfl rfl) (mkTE_F rfl rfl) x0 x1 hc⟩
theorem tr_linCheck:trFunc Try.prog 111000 [] Try.f13 = some { mf_linear_Check with body:=erase mf_linear_Check.body }:=by kernel_rfl
theorem nm_linCheck : (Try.f13.name == "runtime.NumGoroutine") = false := by kernel_rfl
theorem ps_linCheck:PSpec Try.prog id_linear_Check F_linCheck:=pspec_of (mkTE_ok (PTl_ok (l:=[(id_linear_Right,F_linRight),(id_slices_ContainsFunc_Frac,F_anyFrac),(id_frac_Of,F_fOf),(id_frac_Mul,F_fMul),(id_frac_Add,F_fAdd),(id_frac_Compare,F_fCompare)]) (PTl_cons ps_linRight (PTl_cons ps_anyFrac (PTl_cons ps_fOf (PTl_cons ps_fMul (PTl_cons ps_fAdd (PTl_cons ps_fCompare PTl_nil))))))) (ETl_ok (l:=[]) ETl_nil)) mixed Try.func13 nm_linCheck tr_linCheck fun ds r h => by
  obtain ⟨⟨x0,x1,x2⟩,hds,hr⟩:=FF_inv h
  clear h
  subst hds
  obtain ⟨hc,rfl⟩:=onlyIf_inv hr
  exact ⟨Nat.le_of_ble_eq_true rfl,w_linCheck _ (mkTE_F rfl rfl) (mkTE_F rfl rfl) (mkTE_F rfl rfl) (mkTE_F rfl rfl) (mkTE_F rfl rfl) (mkTE_F rfl rfl) x0 x1 x2 hc⟩
theorem tr_rtrim:trFunc Try.prog 183000 [18] Try.f85 = some { mf_ref04_trim with body:=erase mf_ref04_trim.body }:=by kernel_rfl
theorem nm_rtrim : (Try.f85.name == "runtime.NumGoroutine") = false := by kernel_rfl
theorem ps_rtrim:PSpec Try.prog id_ref04_trim F_rtrim:=pspec_of (mkTE_ok (PTl_ok (l:=[]) PTl_nil) (ETl_ok (l:=[]) ETl_nil)) mixed Try.func85 nm_rtrim tr_rtrim fun ds r h => by
  obtain ⟨x0,hds,hr⟩:=FF_inv h
  clear h
  subst hds
  obtain ⟨hc,rfl⟩:=onlyIf_inv hr
  exact ⟨Nat.le_of_ble_eq_true rfl,w_rtrim _  x0 hc⟩
theorem tr_rdigit:trFunc Try.prog 187000 [] Try.f89 = some { mf_ref04_digit with body:=erase mf_ref04_digit.body }:=by kernel_rfl
theorem nm_rdigit : (Try.f89.name == "runtime.NumGoroutine") = false := by kernel_rfl
theorem ps_rdigit:PSpec Try.prog id_ref04_digit F_rdigit:=pspec_of (mkTE_ok (PTl_ok (l:=[]) PTl_nil) (ETl_ok (l:=[]) ETl_nil)) mixed Try.func89 nm_rdigit tr_rdigit fun ds r h => by
  obtain ⟨⟨x0,x1⟩,hds,hr⟩:=FF_inv h
  clear h
  subst hds
  obtain ⟨hc,rfl⟩:=onlyIf_inv hr
  exact ⟨Nat.le_of_ble_eq_true rfl,w_rdigit _  x0 x1 hc⟩
theorem tr_rless:trFunc Try.prog 185000 [] Try.f87 = some { mf_ref04_less with body:=erase mf_ref04_less.body }:=by kernel_rfl
theorem nm_rless : (Try.f87.name == "runtime.NumGoroutine") = false := by kernel_rfl
theorem ps_rless:PSpec Try.prog id_ref04_less F_rless:=pspec_of (mkTE_ok (PTl_ok (l:=[(id_ref04_digit,F_rdigit)]) (PTl_cons ps_rdigit PTl_nil)) (ETl_ok (l:=[]) ETl_nil)) mixed Try.func87 nm_rless tr_rless fun ds r h => by
  obtain ⟨⟨x0,x1⟩,hds,hr⟩:=FF_inv h
  clear h
  subst hds
  obtain ⟨hc,rfl⟩:=onlyIf_inv hr
  exact ⟨Nat.le_of_ble_eq_true rfl,w_rless _ (mkTE_F rfl rfl) x0 x1 hc⟩
theorem tr_rplus:trFunc Try.prog 181000 [] Try.f83 = some { mf_ref04_plus with body:=erase mf_ref04_plus.body }:=by kernel_rfl
theorem nm_rplus : (Try.f83.name == "runtime.NumGoroutine") = false := by kernel_rfl
theorem ps_rplus:PSpec Try.prog id_ref04_plus F_rplus:=pspec_of (mkTE_ok (PTl_ok (l:=[(id_ref04_digit,F_rdigit),(id_ref04_trim,F_rtrim)]) (PTl_cons ps_rdigit (PTl_cons ps_rtrim PTl_nil))) (ETl_ok (l:=[]) ETl_nil)) mixed Try.func83 nm_rplus tr_rplus fun ds r h => by
  obtain ⟨⟨x0,x1⟩,hds,hr⟩:=FF_inv h
  clear h
  subst hds
  obtain ⟨hc,rfl⟩:=onlyIf_inv hr
  exact ⟨Nat.le_of_ble_eq_true rfl,w_rplus _ (mkTE_F rfl rfl) (mkTE_F rfl rfl) x0 x1 hc⟩
theorem tr_rminus:trFunc Try.prog 182000 [] Try.f84 = some { mf_ref04_minus with body:=erase mf_ref04_minus.body }:=by kernel_rfl
theorem nm_rminus : (Try.f84.name == "runtime.NumGoroutine") = false := by kernel_rfl
theorem ps_rminus:PSpec Try.prog id_ref04_minus F_rminus:=pspec_of (mkTE_ok (PTl_ok (l:=[(id_ref04_digit,F_rdigit),(id_ref04_trim,F_rtrim)]) (PTl_cons ps_rdigit (PTl_cons ps_rtrim PTl_nil))) (ETl_ok (l:=[]) ETl_nil)) mixed Try.func84 nm_rminus tr_rminus fun ds r h => by
  obtain ⟨⟨x0,x1⟩,hds,hr⟩:=FF_inv h
  clear h
  subst hds
  obtain ⟨hc,rfl⟩:=onlyIf_inv hr
  exact ⟨Nat.le_of_ble_eq_true rfl,w_rminus _ (mkTE_F rfl rfl) (mkTE_F rfl rfl) x0 x1 hc⟩
theorem tr_rtimes:trFunc Try.prog 186000 [] Try.f88 = some { mf_ref04_times with body:=erase mf_ref04_times.body }:=by kernel_rfl
theorem nm_rtimes : (Try.f88.name == "runtime.NumGoroutine") = false := by kernel_rfl
theorem ps_rtimes:PSpec Try.prog id_ref04_times F_rtimes:=pspec_of (mkTE_ok (PTl_ok (l:=[(id_ref04_digit,F_rdigit),(id_ref04_trim,F_rtrim)]) (PTl_cons ps_rdigit (PTl_cons ps_rtrim PTl_nil))) (ETl_ok (l:=[]) ETl_nil)) mixed Try.func88 nm_rtimes tr_rtimes fun ds r h => by
  obtain ⟨⟨x0,x1⟩,hds,hr⟩:=FF_inv h
  clear h
  subst hds
  obtain ⟨hc,rfl⟩:=onlyIf_inv hr
  exact ⟨Nat.le_of_ble_eq_true rfl,w_rtimes _ (mkTE_F rfl rfl) (mkTE_F rfl rfl) x0 x1 hc⟩
theorem tr_rover:trFunc Try.prog 180000 [26] Try.f82 = some { mf_ref04_over with body:=erase mf_ref04_over.body }:=by kernel_rfl
theorem nm_rover : (Try.f82.name == "runtime.NumGoroutine") = false := by kernel_rfl
theorem ps_rover:PSpec Try.prog id_ref04_over F_rover:=pspec_of (mkTE_ok (PTl_ok (l:=[(id_ref04_trim,F_rtrim),(id_ref04_times,F_rtimes),(id_ref04_less,F_rless),(id_ref04_minus,F_rminus)]) (PTl_cons ps_rtrim (PTl_cons ps_rtimes (PTl_cons ps_rless (PTl_cons ps_rminus PTl_nil))))) (ETl_ok (l:=[]) ETl_nil)) mixed Try.func82 nm_rover tr_rover fun ds r h => by
  obtain ⟨⟨x0,x1⟩,hds,hr⟩:=FF_inv h
  clear h
  subst hds
  obtain ⟨hc,rfl⟩:=onlyIf_inv hr
  exact ⟨Nat.le_of_ble_eq_true rfl,w_rover _ (mkTE_F rfl rfl) (mkTE_F rfl rfl) (mkTE_F rfl rfl) (mkTE_F rfl rfl) x0 x1 hc⟩
theorem tr_rmade:trFunc Try.prog 166000 [] Try.f68 = some { mf_ref04_made with body:=erase mf_ref04_made.body }:=by kernel_rfl
theorem nm_rmade : (Try.f68.name == "runtime.NumGoroutine") = false := by kernel_rfl
theorem ps_rmade:PSpec Try.prog id_ref04_made F_rmade:=pspec_of (mkTE_ok (PTl_ok (l:=[(id_ref04_trim,F_rtrim)]) (PTl_cons ps_rtrim PTl_nil)) (ETl_ok (l:=[]) ETl_nil)) mixed Try.func68 nm_rmade tr_rmade fun ds r h => by
  obtain ⟨⟨x0,x1⟩,hds,hr⟩:=FF_inv h
  clear h
  subst hds
  obtain ⟨hc,rfl⟩:=onlyIf_inv hr
  exact ⟨Nat.le_of_ble_eq_true rfl,w_rmade _ (mkTE_F rfl rfl) x0 x1 hc⟩
theorem tr_rRight:trFunc Try.prog 162000 [] Try.f64 = some { mf_ref04_Right with body:=erase mf_ref04_Right.body }:=by kernel_rfl
theorem nm_rRight : (Try.f64.name == "runtime.NumGoroutine") = false := by kernel_rfl
theorem ps_rRight:PSpec Try.prog id_ref04_Right F_rRight:=pspec_of (mkTE_ok (PTl_ok (l:=[]) PTl_nil) (ETl_ok (l:=[]) ETl_nil)) mixed Try.func64 nm_rRight tr_rRight fun ds r h => by
  obtain ⟨⟨x0,x1⟩,hds,hr⟩:=FF_inv h
  clear h
  subst hds
  obtain ⟨hc,rfl⟩:=onlyIf_inv hr
  exact ⟨Nat.le_of_ble_eq_true rfl,w_rRight _  x0 x1 hc⟩
theorem tr_rNeg:trFunc Try.prog 163000 [] Try.f65 = some { mf_ref04_Neg with body:=erase mf_ref04_Neg.body }:=by kernel_rfl
theorem nm_rNeg : (Try.f65.name == "runtime.NumGoroutine") = false := by kernel_rfl
theorem ps_rNeg:PSpec Try.prog id_ref04_Neg F_rNeg:=pspec_of (mkTE_ok (PTl_ok (l:=[(id_ref04_Right,F_rRight),(id_ref04_made,F_rmade)]) (PTl_cons ps_rRight (PTl_cons ps_rmade PTl_nil))) (ETl_ok (l:=[]) ETl_nil)) mixed Try.func65 nm_rNeg tr_rNeg fun ds r h => by
  obtain ⟨⟨x0,x1⟩,hds,hr⟩:=FF_inv h
  clear h
  subst hds
  obtain ⟨hc,rfl⟩:=onlyIf_inv hr
  exact ⟨Nat.le_of_ble_eq_true rfl,w_rNeg _ (mkTE_F rfl rfl) (mkTE_F rfl rfl) x0 x1 hc⟩
theorem tr_rOf:trFunc Try.prog 144000 [] Try.f46 = some { mf_ref04_Of with body:=erase mf_ref04_Of.body }:=by kernel_rfl
theorem nm_rOf : (Try.f46.name == "runtime.NumGoroutine") = false := by kernel_rfl
theorem ps_rOf:PSpec Try.prog id_ref04_Of F_rOf:=pspec_of (mkTE_ok (PTl_ok (l:=[(id_ref04_made,F_rmade)]) (PTl_cons ps_rmade PTl_nil)) (ETl_ok (l:=[]) ETl_nil)) mixed Try.func46 nm_rOf tr_rOf fun ds r h => by
  obtain ⟨x0,hds,hr⟩:=FF_inv h
  clear h
  subst hds
  obtain ⟨hc,rfl⟩:=onlyIf_inv hr
  exact ⟨Nat.le_of_ble_eq_true rfl,w_rOf _ (mkTE_F rfl rfl) x0 hc⟩
theorem tr_rGcd:trFunc Try.prog 164000 [] Try.f66 = some { mf_ref04_Gcd with body:=erase mf_ref04_Gcd.body }:=by kernel_rfl
theorem nm_rGcd : (Try.f66.name == "runtime.NumGoroutine") = false := by kernel_rfl
theorem ps_rGcd:PSpec Try.prog id_ref04_Gcd F_rGcd:=pspec_of (mkTE_ok (PTl_ok (l:=[(id_ref04_Right,F_rRight),(id_ref04_over,F_rover),(id_ref04_made,F_rmade)]) (PTl_cons ps_rRight (PTl_cons ps_rover (PTl_cons ps_rmade PTl_nil)))) (ETl_ok (l:=[]) ETl_nil)) mixed Try.func66 nm_rGcd tr_rGcd fun ds r h => by
  obtain ⟨⟨x0,x1,x2,x3⟩,hds,hr⟩:=FF_inv h
  clear h
  subst hds
  obtain ⟨hc,rfl⟩:=onlyIf_inv hr
  exact ⟨Nat.le_of_ble_eq_true rfl,w_rGcd _ (mkTE_F rfl rfl) (mkTE_F rfl rfl) (mkTE_F rfl rfl) x0 x1 x2 x3 hc⟩
theorem tr_rDiv:trFunc Try.prog 165000 [] Try.f67 = some { mf_ref04_Div with body:=erase mf_ref04_Div.body }:=by kernel_rfl
theorem nm_rDiv : (Try.f67.name == "runtime.NumGoroutine") = false := by kernel_rfl
theorem ps_rDiv:PSpec Try.prog id_ref04_Div F_rDiv:=pspec_of (mkTE_ok (PTl_ok (l:=[(id_ref04_Right,F_rRight),(id_ref04_over,F_rover),(id_ref04_plus,F_rplus),(id_ref04_minus,F_rminus),(id_ref04_made,F_rmade)]) (PTl_cons ps_rRight (PTl_cons ps_rover (PTl_cons ps_rplus (PTl_cons ps_rminus (PTl_cons ps_rmade PTl_nil)))))) (ETl_ok (l:=[]) ETl_nil)) mixed Try.func67 nm_rDiv tr_rDiv fun ds r h => by
  obtain ⟨⟨x0,x1,x2,x3⟩,hds,hr⟩:=FF_inv h
  clear h
  subst hds
  obtain ⟨hc,rfl⟩:=onlyIf_inv hr
  exact ⟨Nat.le_of_ble_eq_true rfl,w_rDiv _ (mkTE_F rfl rfl) (mkTE_F rfl rfl) (mkTE_F rfl rfl) (mkTE_F rfl rfl) (mkTE_F rfl rfl) x0 x1 x2 x3 hc⟩
theorem tr_gNew:trFunc Try.prog 143000 [] Try.f45 = some { mf_ref05_New with body:=erase mf_ref05_New.body }:=by kernel_rfl
theorem nm_gNew : (Try.f45.name == "runtime.NumGoroutine") = false := by kernel_rfl
theorem ps_gNew:PSpec Try.prog id_ref05_New F_gNew:=pspec_of (mkTE_ok (PTl_ok (l:=[(id_ref04_Right,F_rRight),(id_ref04_Neg,F_rNeg),(id_ref04_Gcd,F_rGcd),(id_ref04_Div,F_rDiv)]) (PTl_cons ps_rRight (PTl_cons ps_rNeg (PTl_cons ps_rGcd (PTl_cons ps_rDiv PTl_nil))))) (ETl_ok (l:=[]) ETl_nil)) mixed Try.func45 nm_gNew tr_gNew fun ds r h => by
  obtain ⟨⟨x0,x1,x2,x3⟩,hds,hr⟩:=FF_inv h
  clear h
  subst hds
  obtain ⟨hc,rfl⟩:=onlyIf_inv hr
  exact ⟨Nat.le_of_ble_eq_true rfl,w_gNew _ (mkTE_F rfl rfl) (mkTE_F rfl rfl) (mkTE_F rfl rfl) (mkTE_F rfl rfl) x0 x1 x2 x3 hc⟩
theorem tr_gOf:trFunc Try.prog 124000 [] Try.f26 = some { mf_ref05_Of with body:=erase mf_ref05_Of.body }:=by kernel_rfl
theorem nm_gOf : (Try.f26.name == "runtime.NumGoroutine") = false := by kernel_rfl
theorem ps_gOf:PSpec Try.prog id_ref05_Of F_gOf:=pspec_of (mkTE_ok (PTl_ok (l:=[(id_ref04_Of,F_rOf),(id_ref05_New,F_gNew)]) (PTl_cons ps_rOf (PTl_cons ps_gNew PTl_nil))) (ETl_ok (l:=[]) ETl_nil)) mixed Try.func26 nm_gOf tr_gOf fun ds r h => by
  obtain ⟨⟨x0,x1⟩,hds,hr⟩:=FF_inv h
  clear h
  subst hds
  obtain ⟨hc,rfl⟩:=onlyIf_inv hr
  exact ⟨Nat.le_of_ble_eq_true rfl,w_gOf _ (mkTE_F rfl rfl) (mkTE_F rfl rfl) x0 x1 hc⟩
theorem tr_gSameBig:trFunc Try.prog 142000 [] Try.f44 = some { mf_ref05_SameBig with body:=erase mf_ref05_SameBig.body }:=by kernel_rfl
theorem nm_gSameBig : (Try.f44.name == "runtime.NumGoroutine") = false := by kernel_rfl
theorem ps_gSameBig:PSpec Try.prog id_ref05_SameBig F_gSameBig:=pspec_of (mkTE_ok (PTl_ok (l:=[]) PTl_nil) (ETl_ok (l:=[]) ETl_nil)) mixed Try.func44 nm_gSameBig tr_gSameBig fun ds r h => by
  obtain ⟨⟨x0,x1,x2,x3⟩,hds,hr⟩:=FF_inv h
  clear h
  subst hds
  obtain ⟨hc,rfl⟩:=onlyIf_inv hr
  exact ⟨Nat.le_of_ble_eq_true rfl,w_gSameBig _  x0 x1 x2 x3 hc⟩
theorem tr_gSame:trFunc Try.prog 120000 [] Try.f22 = some { mf_ref05_Same with body:=erase mf_ref05_Same.body }:=by kernel_rfl
theorem nm_gSame : (Try.f22.name == "runtime.NumGoroutine") = false := by kernel_rfl
theorem ps_gSame:PSpec Try.prog id_ref05_Same F_gSame:=pspec_of (mkTE_ok (PTl_ok (l:=[(id_ref05_SameBig,F_gSameBig)]) (PTl_cons ps_gSameBig PTl_nil)) (ETl_ok (l:=[]) ETl_nil)) mixed Try.func22 nm_gSame tr_gSame fun ds r h => by
  obtain ⟨⟨x0,x1,x2,x3,x4,x5,x6,x7⟩,hds,hr⟩:=FF_inv h
  clear h
  subst hds
  obtain ⟨hc,rfl⟩:=onlyIf_inv hr
  exact ⟨Nat.le_of_ble_eq_true rfl,w_gSame _ (mkTE_F rfl rfl) x0 x1 x2 x3 x4 x5 x6 x7 hc⟩
theorem tr_gFew:trFunc Try.prog 115000 [] Try.f17 = some { mf_ref05_Few with body:=erase mf_ref05_Few.body }:=by kernel_rfl
theorem nm_gFew : (Try.f17.name == "runtime.NumGoroutine") = false := by kernel_rfl
theorem ps_gFew:PSpec Try.prog id_ref05_Few F_gFew:=pspec_of (mkTE_ok (PTl_ok (l:=[]) PTl_nil) (ETl_ok (l:=[]) ETl_nil)) mixed Try.func17 nm_gFew tr_gFew fun ds r h => by
  obtain ⟨⟨x0,x1,x2,x3,x4⟩,hds,hr⟩:=FF_inv h
  clear h
  subst hds
  obtain rfl:=Option.some.inj hr
  exact ⟨Nat.le_of_ble_eq_true rfl,w_gFew _  x0 x1 x2 x3 x4⟩
theorem tr_hFewFracs:trFunc Try.prog 107000 [] Try.f9 = some { mf_ref06_FewFracs with body:=erase mf_ref06_FewFracs.body }:=by kernel_rfl
theorem nm_hFewFracs : (Try.f9.name == "runtime.NumGoroutine") = false := by kernel_rfl
theorem ps_hFewFracs:PSpec Try.prog id_ref06_FewFracs F_hFewFracs:=pspec_of (mkTE_ok (PTl_ok (l:=[(id_ref05_Few,F_gFew)]) (PTl_cons ps_gFew PTl_nil)) (ETl_ok (l:=[]) ETl_nil)) mixed Try.func9 nm_hFewFracs tr_hFewFracs fun ds r h => by
  obtain ⟨⟨x0,x1,x2⟩,hds,hr⟩:=FF_inv h
  clear h
  subst hds
  obtain ⟨hc,rfl⟩:=onlyIf_inv hr
  exact ⟨Nat.le_of_ble_eq_true rfl,w_hFewFracs _ (mkTE_F rfl rfl) x0 x1 x2 hc⟩
theorem tr_hFew:trFunc Try.prog 106000 [] Try.f8 = some { mf_ref06_Few with body:=erase mf_ref06_Few.body }:=by kernel_rfl
theorem nm_hFew : (Try.f8.name == "runtime.NumGoroutine") = false := by kernel_rfl
theorem ps_hFew:PSpec Try.prog id_ref06_Few F_hFew:=pspec_of (mkTE_ok (PTl_ok (l:=[(id_ref06_FewFracs,F_hFewFracs),(id_ref05_Few,F_gFew)]) (PTl_cons ps_hFewFracs (PTl_cons ps_gFew PTl_nil))) (ETl_ok (l:=[]) ETl_nil)) mixed Try.func8 nm_hFew tr_hFew fun ds r h => by
  obtain ⟨⟨x0,x1,x2⟩,hds,hr⟩:=FF_inv h
  clear h
  subst hds
  obtain ⟨hc,rfl⟩:=onlyIf_inv hr
  exact ⟨Nat.le_of_ble_eq_true rfl,w_hFew _ (mkTE_F rfl rfl) (mkTE_F rfl rfl) x0 x1 x2 hc⟩
theorem tr_hSame:trFunc Try.prog 112000 [] Try.f14 = some { mf_ref06_Same with body:=erase mf_ref06_Same.body }:=by kernel_rfl
theorem nm_hSame : (Try.f14.name == "runtime.NumGoroutine") = false := by kernel_rfl
theorem ps_hSame:PSpec Try.prog id_ref06_Same F_hSame:=pspec_of (mkTE_ok (PTl_ok (l:=[(id_ref05_Same,F_gSame)]) (PTl_cons ps_gSame PTl_nil)) (ETl_ok (l:=[]) ETl_nil)) mixed Try.func14 nm_hSame tr_hSame fun ds r h => by
  obtain ⟨⟨x0,x1⟩,hds,hr⟩:=FF_inv h
  clear h
  subst hds
  obtain ⟨hc,rfl⟩:=onlyIf_inv hr
  exact ⟨Nat.le_of_ble_eq_true rfl,w_hSame _ (mkTE_F rfl rfl) x0 x1 hc⟩
theorem tr_wnum:trFunc Try.prog 122000 [] Try.f24 = some { mf_law06_number with body:=erase mf_law06_number.body }:=by kernel_rfl
theorem nm_wnum : (Try.f24.name == "runtime.NumGoroutine") = false := by kernel_rfl
theorem ps_wnum:PSpec Try.prog id_law06_number F_wnum:=pspec_of (mkTE_ok (PTl_ok (l:=[(id_ref05_Of,F_gOf)]) (PTl_cons ps_gOf PTl_nil)) (ETl_ok (l:=[]) ETl_nil)) mixed Try.func24 nm_wnum tr_wnum fun ds r h => by
  obtain ⟨x0,hds,hr⟩:=FF_inv h
  clear h
  subst hds
  obtain ⟨hc,rfl⟩:=onlyIf_inv hr
  exact ⟨Nat.le_of_ble_eq_true rfl,w_wnum _ (mkTE_F rfl rfl) x0 hc⟩
theorem tr_wrow:trFunc Try.prog 123000 [] Try.f25 = some { mf_law06_row with body:=erase mf_law06_row.body }:=by kernel_rfl
theorem nm_wrow : (Try.f25.name == "runtime.NumGoroutine") = false := by kernel_rfl
theorem ps_wrow:PSpec Try.prog id_law06_row F_wrow:=pspec_of (mkTE_ok (PTl_ok (l:=[(id_law06_number,F_wnum)]) (PTl_cons ps_wnum PTl_nil)) (ETl_ok (l:=[]) ETl_nil)) mixed Try.func25 nm_wrow tr_wrow fun ds r h => by
  obtain ⟨x0,hds,hr⟩:=FF_inv h
  clear h
  subst hds
  obtain ⟨hc,rfl⟩:=onlyIf_inv hr
  exact ⟨Nat.le_of_ble_eq_true rfl,w_wrow _ (mkTE_F rfl rfl) x0 hc⟩
theorem tr_whom:trFunc Try.prog 114000 [] Try.f16 = some { mf_law06_homogeneous with body:=erase mf_law06_homogeneous.body }:=by kernel_rfl
theorem nm_whom : (Try.f16.name == "runtime.NumGoroutine") = false := by kernel_rfl
theorem ps_whom:PSpec Try.prog id_law06_homogeneous F_whom:=pspec_of (mkTE_ok (PTl_ok (l:=[(id_law06_number,F_wnum)]) (PTl_cons ps_wnum PTl_nil)) (ETl_ok (l:=[]) ETl_nil)) mixed Try.func16 nm_whom tr_whom fun ds r h => by
  obtain ⟨x0,hds,hr⟩:=FF_inv h
  clear h
  subst hds
  obtain ⟨hc,rfl⟩:=onlyIf_inv hr
  exact ⟨Nat.le_of_ble_eq_true rfl,w_whom _ (mkTE_F rfl rfl) x0 hc⟩
theorem tr_wtimes:trFunc Try.prog 117000 [] Try.f19 = some { mf_law06_times with body:=erase mf_law06_times.body }:=by kernel_rfl
theorem nm_wtimes : (Try.f19.name == "runtime.NumGoroutine") = false := by kernel_rfl
theorem ps_wtimes:PSpec Try.prog id_law06_times F_wtimes:=pspec_of (mkTE_ok (PTl_ok (l:=[(id_frac_Mul,F_fMul)]) (PTl_cons ps_fMul PTl_nil)) (ETl_ok (l:=[]) ETl_nil)) mixed Try.func19 nm_wtimes tr_wtimes fun ds r h => by
  obtain ⟨⟨x0,x1⟩,hds,hr⟩:=FF_inv h
  clear h
  subst hds
  obtain ⟨hc,rfl⟩:=onlyIf_inv hr
  exact ⟨Nat.le_of_ble_eq_true rfl,w_wtimes _ (mkTE_F rfl rfl) x0 x1 hc⟩
theorem tr_wsmall:trFunc Try.prog 105000 [] Try.f7 = some { mf_law06_small with body:=erase mf_law06_small.body }:=by kernel_rfl
theorem nm_wsmall : (Try.f7.name == "runtime.NumGoroutine") = false := by kernel_rfl
theorem ps_wsmall:PSpec Try.prog id_law06_small F_wsmall:=pspec_of (mkTE_ok (PTl_ok (l:=[(id_law06_row,F_wrow),(id_law06_number,F_wnum),(id_linear_Solve,F_linSolve),(id_linear_Kernel,F_linKern),(id_linear_Rank,F_linRank),(id_linear_Check,F_linCheck),(id_linear_Right,F_linRight),(id_ref05_Of,F_gOf),(id_ref06_Same,F_hSame)]) (PTl_cons ps_wrow (PTl_cons ps_wnum (PTl_cons ps_linSolve (PTl_cons ps_linKern (PTl_cons ps_linRank (PTl_cons ps_linCheck (PTl_cons ps_linRight (PTl_cons ps_gOf (PTl_cons ps_hSame PTl_nil)))))))))) (ETl_ok (l:=[]) ETl_nil)) mixed Try.func7 nm_wsmall tr_wsmall fun ds r h => by
  obtain ⟨_,hds,hr⟩:=FF_inv h
  clear h
  subst hds
  obtain rfl:=Option.some.inj hr
  exact ⟨Nat.le_of_ble_eq_true rfl,w_wsmall _ (mkTE_F rfl rfl) (mkTE_F rfl rfl) (mkTE_F rfl rfl) (mkTE_F rfl rfl) (mkTE_F rfl rfl) (mkTE_F rfl rfl) (mkTE_F rfl rfl) (mkTE_F rfl rfl) (mkTE_F rfl rfl) ⟩
theorem tr_wRank:trFunc Try.prog 104000 [109,119] Try.f6 = some { mf_law06_LinearRank with body:=erase mf_law06_LinearRank.body }:=by kernel_rfl
theorem nm_wRank : (Try.f6.name == "runtime.NumGoroutine") = false := by kernel_rfl
theorem ps_wRank:PSpec Try.prog id_law06_LinearRank F_wRank:=pspec_of (mkTE_ok (PTl_ok (l:=[(id_law06_small,F_wsmall),(id_ref06_Few,F_hFew),(id_linear_Right,F_linRight),(id_linear_Rank,F_linRank),(id_linear_Solve,F_linSolve),(id_linear_Kernel,F_linKern),(id_law06_homogeneous,F_whom),(id_law06_number,F_wnum),(id_law06_times,F_wtimes)]) (PTl_cons ps_wsmall (PTl_cons ps_hFew (PTl_cons ps_linRight (PTl_cons ps_linRank (PTl_cons ps_linSolve (PTl_cons ps_linKern (PTl_cons ps_whom (PTl_cons ps_wnum (PTl_cons ps_wtimes PTl_nil)))))))))) (ETl_ok (l:=[]) ETl_nil)) mixed Try.func6 nm_wRank tr_wRank fun ds r h => by
  obtain ⟨⟨x0,x1,x2⟩,hds,hr⟩:=FF_inv h
  clear h
  subst hds
  obtain ⟨hc,rfl⟩:=onlyIf_inv hr
  exact ⟨Nat.le_of_ble_eq_true rfl,w_wRank _ (mkTE_F rfl rfl) (mkTE_F rfl rfl) (mkTE_F rfl rfl) (mkTE_F rfl rfl) (mkTE_F rfl rfl) (mkTE_F rfl rfl) (mkTE_F rfl rfl) (mkTE_F rfl rfl) (mkTE_F rfl rfl) x0 x1 x2 hc⟩
end Go.Mini
namespace Go.Mini
def sumQ:Nat → (Nat → Rat) → Rat
  | 0,_ => 0
  | n + 1,f => sumQ n f + f n
theorem sumQ_congr {n:Nat} {f g:Nat → Rat} (h:∀ k,k < n → f k = g k):sumQ n f = sumQ n g:=by
  induction n with
  | zero => rfl
  | succ n ih => rw [sumQ,sumQ,ih fun k hk => h k (by omega),h n (by omega)]
theorem sumQ_add (n:Nat) (f g:Nat → Rat):sumQ n (fun k => f k + g k) = sumQ n f + sumQ n g:=by
  induction n with
  | zero => simp [sumQ,Rat.add_zero]
  | succ n ih => rw [sumQ,sumQ,sumQ,ih]; grind
theorem sumQ_mul (n:Nat) (c:Rat) (f:Nat → Rat):sumQ n (fun k => c * f k) = c * sumQ n f:=by
  induction n with
  | zero => simp [sumQ,Rat.mul_zero]
  | succ n ih => rw [sumQ,sumQ,ih]; grind
theorem sumQ_zero {n:Nat} {f:Nat → Rat} (h:∀ k,k < n → f k = 0):sumQ n f = 0:=by
  induction n with
  | zero => rfl
  | succ n ih => rw [sumQ,ih fun k hk => h k (by omega),h n (by omega)]; exact Rat.add_zero 0
/-- A sum with one element alone. -/
theorem sumQ_one {n:Nat} {f:Nat → Rat} {j:Nat} (hj:j < n) (h:∀ k,k < n → k ≠ j → f k = 0):sumQ n f = f j:=by
  induction n with
  | zero => omega
  | succ n ih =>
    rw [sumQ]
    by_cases hn:j = n
    · subst hn
      rw [sumQ_zero fun k hk => h k (by omega) (by omega)]; grind
    · rw [ih (by omega) fun k hk => h k (by omega),h n (by omega) (by omega)]; grind
theorem sumQ_comm (n m:Nat) (f:Nat → Nat → Rat):sumQ n (fun i => sumQ m (fun j => f i j)) = sumQ m (fun j => sumQ n (fun i => f i j)):=by
  induction n with
  | zero => rw [sumQ,sumQ_zero]; intro k hk; rfl
  | succ n ih =>
    rw [sumQ,ih,← sumQ_add]
    rfl
/-- Fewer conditions than unknowns: not all of them are 0. -/
theorem under:∀ (m r:Nat),m < r → ∀ (F:Nat → Nat → Rat),∃ y:Nat → Rat,(∃ j,j < r ∧ y j ≠ 0) ∧ ∀ i,i < m → sumQ r (fun j => y j * F i j) = 0:=by
  intro m
  induction m with
  | zero =>
    intro r hr F
    exact ⟨fun _ => 1,⟨0,hr,by decide⟩,fun i hi => by omega⟩
  | succ m ih =>
    intro r hr F
    obtain ⟨r,rfl⟩:∃ r',r = r' + 1:=⟨r - 1,by omega⟩
    by_cases hz:∀ i,i < m + 1 → F i r = 0
    · refine ⟨fun j => if j = r then 1 else 0,⟨r,by omega,by simp⟩,fun i hi => ?_⟩
      rw [sumQ_one (j:=r) (by omega) fun k _ hk => by simp [hk,Rat.zero_mul]]
      simp [hz i hi]
    · have ⟨i0,hi0,hne⟩:∃ i0,i0 < m + 1 ∧ F i0 r ≠ 0:=by
        apply Classical.byContradiction
        intro h
        exact hz fun i hi => Classical.byContradiction fun hne => h ⟨i,hi,hne⟩
      obtain ⟨y,⟨j,hj,hyj⟩,hy⟩:=ih r (by omega) (fun i j => F (if i = i0 then m else i) j - F (if i = i0 then m else i) r / F i0 r * F i0 j)
      refine ⟨fun j => if j = r then -(sumQ r (fun j => y j * F i0 j)) / F i0 r else y j,⟨j,by omega,by simp [show j ≠ r by omega]; exact hyj⟩,fun i hi => ?_⟩
      have e1:∀ G:Nat → Rat,sumQ r (fun j => (if j = r then -(sumQ r (fun j => y j * F i0 j)) / F i0 r else y j) * G j) = sumQ r (fun j => y j * G j):=fun G => sumQ_congr fun k hk => by simp [show k ≠ r by omega]
      rw [sumQ,e1]
      simp only [if_true]
      by_cases hi':i = i0
      · subst hi'
        generalize sumQ r (fun j => y j * F i j) = s
        grind
      · have key:∀ i',i' ≠ i0 → (∃ q,q < m ∧ (if q = i0 then m else q) = i') → sumQ r (fun j => y j * F i' j) + -(sumQ r (fun j => y j * F i0 j)) / F i0 r * F i' r = 0:=by
          rintro i' hn ⟨q,hq,rfl⟩
          have h1:=hy q hq
          generalize (if q = i0 then m else q) = i' at *
          have e2:sumQ r (fun j => y j * (F i' j - F i' r / F i0 r * F i0 j)) = sumQ r (fun j => y j * F i' j) - F i' r / F i0 r * sumQ r (fun j => y j * F i0 j):=by
            have e3:(fun j => y j * (F i' j - F i' r / F i0 r * F i0 j)) = fun j => y j * F i' j + (-(F i' r / F i0 r)) * (y j * F i0 j):=by funext j; grind
            rw [e3,sumQ_add,sumQ_mul]; grind
          rw [e2] at h1
          generalize sumQ r (fun j => y j * F i' j) = s at *
          generalize sumQ r (fun j => y j * F i0 j) = t at *
          grind
        refine key i hi' ?_
        by_cases him:i = m
        · exact ⟨i0,by omega,by simp [him]⟩
        · exact ⟨i,by omega,by simp [hi']⟩
/-! ### Systems -/
abbrev Mat:=Nat → Nat → Rat
def dotQ (N:Nat) (a y:Nat → Rat):Rat:=sumQ (N + 1) fun k => a k * y k
/-- y is orthogonal to all rows. -/
def Ann (N:Nat) (A:Mat) (y:Nat → Rat):Prop:=∀ i,i < N → dotQ N (A i) y = 0
def swapQ (A:Mat) (r s:Nat):Mat:=fun i => if i = s then A r else if i = r then A s else A i
def pivQ (A:Mat) (r c s:Nat):Mat:=fun i k => if i = r then swapQ A r s r k / swapQ A r s r c else swapQ A r s i k - swapQ A r s i c * (swapQ A r s r k / swapQ A r s r c)
theorem swapQ_r (A:Mat) (r s:Nat):swapQ A r s r = A s:=by
  unfold swapQ
  by_cases h:r = s
  · simp [h]
  · simp [h]
theorem ann_swap {N r s:Nat} {A:Mat} {y:Nat → Rat} (hr:r < N) (hs:s < N):Ann N (swapQ A r s) y ↔ Ann N A y:=by
  unfold Ann swapQ
  constructor
  · intro h i hi
    by_cases h1:i = r
    · have:=h s hs; simp at this; rw [h1]; exact this
    · by_cases h2:i = s
      · have:=h r hr
        rw [h2]
        by_cases h3:r = s
        · omega
        · simp [h3] at this; exact this
      · have:=h i hi; simp [h1,h2] at this; exact this
  · intro h i hi
    by_cases h2:i = s
    · simp [h2]; exact h r hr
    · by_cases h1:i = r
      · have:=h s hs
        rw [if_neg h2,if_pos h1]; exact this
      · simp [h1,h2]; exact h i hi
theorem dot_lin (N:Nat) (a b y:Nat → Rat) (x:Rat):dotQ N (fun k => a k - x * b k) y = dotQ N a y - x * dotQ N b y:=by
  unfold dotQ
  have:(fun k => (a k - x * b k) * y k) = fun k => a k * y k + (-x) * (b k * y k):=by funext k; grind
  rw [this,sumQ_add,sumQ_mul]; grind
theorem dot_div (N:Nat) (a y:Nat → Rat) (x:Rat):dotQ N (fun k => a k / x) y = dotQ N a y / x:=by
  unfold dotQ
  have:(fun k => (a k / x) * y k) = fun k => (1 / x) * (a k * y k):=by funext k; grind
  rw [this,sumQ_mul]; grind
theorem dot_smul (N:Nat) (a y:Nat → Rat) (x:Rat):dotQ N (fun k => a k * x) y = dotQ N a y * x:=by
  unfold dotQ
  have:(fun k => (a k * x) * y k) = fun k => x * (a k * y k):=by funext k; grind
  rw [this,sumQ_mul]; grind
theorem dot_add (N:Nat) (a b y:Nat → Rat):dotQ N (fun k => a k + b k) y = dotQ N a y + dotQ N b y:=by
  unfold dotQ
  have:(fun k => (a k + b k) * y k) = fun k => a k * y k + b k * y k:=by funext k; grind
  rw [this,sumQ_add]
theorem ann_piv {N r s c:Nat} {A:Mat} {y:Nat → Rat} (hr:r < N) (hs:s < N) (hne:A s c ≠ 0):Ann N (pivQ A r c s) y ↔ Ann N A y:=by
  rw [← ann_swap (A:=A) hr hs]
  have hne':swapQ A r s r c ≠ 0:=by rw [swapQ_r]; exact hne
  generalize hS:swapQ A r s = S at *
  have d1:∀ i,i ≠ r → dotQ N (pivQ A r c s i) y = dotQ N (S i) y - S i c * (dotQ N (S r) y / S r c):=by
    intro i hi
    have:pivQ A r c s i = fun k => S i k - S i c * (S r k / S r c):=by funext k; unfold pivQ; rw [hS,if_neg hi]
    rw [this,dot_lin N (S i) (fun k => S r k / S r c) y (S i c),dot_div]
  have d2:dotQ N (pivQ A r c s r) y = dotQ N (S r) y / S r c:=by
    have:pivQ A r c s r = fun k => S r k / S r c:=by funext k; unfold pivQ; rw [hS,if_pos rfl]
    rw [this,dot_div]
  unfold Ann
  constructor
  · intro h
    have h0:dotQ N (S r) y = 0:=by
      have:=h r hr
      rw [d2] at this
      generalize dotQ N (S r) y = d at *
      grind
    intro i hi
    by_cases hir:i = r
    · rw [hir]; exact h0
    · have:=h i hi
      rw [d1 i hir,h0] at this
      generalize dotQ N (S i) y = d at *
      grind
  · intro h i hi
    have h0:=h r hr
    by_cases hir:i = r
    · rw [hir,d2,h0]; grind
    · rw [d1 i hir,h0,h i hi]; grind
/-- In the course of an elimination: p pivots, in the columns pv; nothing ahead of column c in the rows behind them. -/
structure Red (N:Nat) (Q:Mat) (p c:Nat) (pv:Nat → Nat):Prop where
  pc:p ≤ c
  lt:∀ j,j < p → pv j < c
  unit:∀ j,j < p → ∀ i,i < N → Q i (pv j) = if i = j then 1 else 0
  zero:∀ i,p ≤ i → i < N → ∀ k,k < c → Q i k = 0
theorem Red.free {N p c:Nat} {Q:Mat} {pv:Nat → Nat} (h:Red N Q p c pv) (hz:∀ i,p ≤ i → i < N → Q i c = 0):Red N Q p (c + 1) pv :=
  ⟨by have:=h.pc; omega,fun j hj => by have:=h.lt j hj; omega,h.unit,fun i hi hN k hk => by
    by_cases hkc:k = c
    · rw [hkc]; exact hz i hi hN
    · exact h.zero i hi hN k (by omega)⟩
theorem Red.piv {N p c s:Nat} {Q:Mat} {pv:Nat → Nat} (h:Red N Q p c pv) (hp:p < N) (hs:p ≤ s) (hsN:s < N) (hne:Q s c ≠ 0):Red N (pivQ Q p c s) (p + 1) (c + 1) (fun j => if j = p then c else pv j):=by
  have hS:∀ i,i < N → ∃ i',i' < N ∧ swapQ Q p s i = Q i' ∧ (i < p → i' = i) ∧ (p ≤ i → p ≤ i'):=by
    intro i hi
    unfold swapQ
    by_cases h1:i = s
    · exact ⟨p,hp,by rw [if_pos h1],by omega,by omega⟩
    · by_cases h2:i = p
      · exact ⟨s,hsN,by rw [if_neg h1,if_pos h2],by omega,by omega⟩
      · exact ⟨i,hi,by rw [if_neg h1,if_neg h2],by omega,by omega⟩
  have hSr:swapQ Q p s p c ≠ 0:=by rw [swapQ_r]; exact hne
  have hz:∀ i,p ≤ i → i < N → ∀ k,k < c → swapQ Q p s i k = 0:=by
    intro i hi hN k hk
    obtain ⟨i',h1,h2,-,h4⟩:=hS i hN
    rw [h2]
    exact h.zero i' (h4 hi) h1 k hk
  refine ⟨by have:=h.pc; omega,fun j hj => ?_,fun j hj i hi => ?_,fun i hi hN k hk => ?_⟩
  · show (if j = p then c else pv j) < c + 1
    split
    · omega
    · have:=h.lt j (by omega); omega
  · unfold pivQ
    by_cases hjp:j = p
    · simp only [hjp,if_true]
      by_cases hip:i = p
      · rw [if_pos hip,if_pos hip]; grind
      · rw [if_neg hip,if_neg hip]; grind
    · simp only [hjp,if_false]
      have hj':j < p:=by omega
      have e1:swapQ Q p s p (pv j) = 0:=hz p (Nat.le_refl _) hp _ (h.lt j hj')
      rw [e1]
      by_cases hip:i = p
      · rw [if_pos hip,if_neg (by omega)]; grind
      · rw [if_neg hip]
        obtain ⟨i',h1,h2,h3,h4⟩:=hS i hi
        rw [h2,h.unit j hj' i' h1]
        rcases Nat.lt_or_ge i p with hlt | hge
        · rw [h3 hlt]; grind
        · rw [if_neg (by have:=h4 hge; omega),if_neg (by omega)]; grind
  · unfold pivQ
    rw [if_neg (by omega)]
    by_cases hkc:k = c
    · subst hkc; grind
    · rw [hz i (by omega) hN k (by omega),hz p (Nat.le_refl _) hp k (by omega)]; grind
theorem red_start (N:Nat) (Q:Mat) (pv:Nat → Nat):Red N Q 0 0 pv:=⟨Nat.le_refl _,fun j hj => by omega,fun j hj => by omega,fun i hi hN k hk => by omega⟩
end Go.Mini
