/- A part of the proof: MiniKRef04, MiniRf1, MiniRf2, MiniRf3. -/
import Derived.Test.YtjcpopjafedmpaaGreatM04
import Derived.Test.YtjcpopjafedmpaaGreatM06
set_option linter.unusedSimpArgs false
set_option linter.unusedVariables false
open Nat renaming reduceEqDiff → yA, reduceAdd → yB, reduceSub → yC, reduceMul → yD, reduceLeDiff → yE, reduceLT → yF, reduceBEq → yG
open Bool renaming false_eq_true → yH
open Int renaming reduceEq → yI
open List renaming length_map → yJ, getElem?_map → yK, getElem?_eq_getElem → yL
open List.cons renaming injEq → yM
namespace Go.Mini
open Go
def mf_ref04_Of:MFunc :=
 { n:=28,np:=1,res:=[.cell 2 2 true],body :=
 (.seq (.ops [
 ⟨some 2,none,.alloc 144002 [(.dat (.int .i64 0)),.nil]⟩])
 (.seq (.seq (.ops [
 ⟨some 6,none,.mv (.t 0)⟩,⟨some 7,none,.bin .eql (.t 6) (.c (.dat (.int .i64 0)))⟩])
 (.cond (.t 7)
 (.seq (.ops [
 ⟨some 8,none,.build [(.dat (.int .i64 0)),.nil] []⟩,⟨none,none,.store 2 (.t 2) (.t 8)⟩])
 .ret)
 .skip))
 (.seq (.ops [
 ⟨some 3,none,.mv (.c (.dat (.int .i64 1)))⟩])
 (.seq (.seq (.ops [
 ⟨some 9,none,.mv (.t 0)⟩,⟨some 10,none,.bin .lss (.t 9) (.c (.dat (.int .i64 0)))⟩])
 (.cond (.t 10)
 (.ops [
 ⟨some 3,none,.mv (.c (.dat (.int .i64 (-1))))⟩])
 .skip))
 (.seq (.ops [
 ⟨some 4,none,.mv (.c .nil)⟩])
 (.seq (.block 0
 (.ghost (.adopt 4 144022 1) (.loop
 (.seq (.seq (.ops [
 ⟨some 11,none,.mv (.t 0)⟩,⟨some 12,none,.bin .neq (.t 11) (.c (.dat (.int .i64 0)))⟩])
 (.cond (.t 12)
 .skip
 (.exit 0)))
 (.block 1
 (.seq (.ops [
 ⟨some 13,none,.mv (.t 0)⟩,⟨some 14,none,.bin .rem (.t 13) (.c (.dat (.int .i64 1048576)))⟩,⟨some 5,none,.mv (.t 14)⟩])
 (.seq (.seq (.ops [
 ⟨some 15,none,.mv (.t 5)⟩,⟨some 16,none,.bin .lss (.t 15) (.c (.dat (.int .i64 0)))⟩])
 (.cond (.t 16)
 (.ops [
 ⟨some 17,none,.mv (.t 5)⟩,⟨some 18,none,.un .neg (.t 17)⟩,⟨some 5,none,.mv (.t 18)⟩])
 .skip))
 (.seq (.ops [
 ⟨some 19,none,.mv (.t 4)⟩,⟨some 20,none,.mv (.t 5)⟩,⟨some 21,none,.bsl 144021 false [(.dat (.int .i64 0))] 1 1 [(0,1,(.t 20))]⟩,⟨some 22,none,.app 144022 [(.dat (.int .i64 0))] 8 (.t 19) (.t 21)⟩,⟨some 4,none,.mv (.t 22)⟩])
 (.ops [
 ⟨some 23,none,.mv (.t 0)⟩,⟨some 24,none,.bin .quo (.t 23) (.c (.dat (.int .i64 1048576)))⟩,⟨some 0,none,.mv (.t 24)⟩])))))))))
 (.seq (.ghost (.freeze 4) (.ops [
 ⟨some 25,none,.mv (.t 3)⟩,⟨some 26,none,.mv (.t 4)⟩,⟨some 27,none,.call id_ref04_made [(.t 25),(.t 26)]⟩,⟨none,none,.store 2 (.t 2) (.t 27)⟩]))
 .ret))))))) }
def mf_ref04_Right:MFunc :=
 { n:=60,np:=1,res:=[.t 2],body :=
 (.seq (.ops [
 ⟨some 1,none,.box 162001 (.t 0)⟩,⟨some 2,none,.mv (.c (.dat (.bool false)))⟩])
 (.seq (.seq (.ops [
 ⟨some 3,none,.mv (.c (.dat (.int .i64 0)))⟩])
 (.block 0
 (.loop
 (.seq (.seq (.ops [
 ⟨some 5,none,.mv (.t 3)⟩,⟨some 6,none,.fad 1 (.t 1)⟩,⟨some 7,none,.load 1 false (.t 6)⟩,⟨some 8,none,.len (.t 7)⟩,⟨some 9,none,.bin .lss (.t 5) (.t 8)⟩])
 (.cond (.t 9)
 .skip
 (.exit 0)))
 (.seq (.block 1
 (.seq (.ops [
 ⟨some 12,none,.fad 1 (.t 1)⟩,⟨some 13,none,.load 1 false (.t 12)⟩,⟨some 14,none,.mv (.t 3)⟩,⟨some 15,none,.iad 1 (.t 13) (.t 14)⟩,⟨some 16,none,.load 1 false (.t 15)⟩,⟨some 17,none,.bin .lss (.t 16) (.c (.dat (.int .i64 0)))⟩,⟨some 18,none,.mv (.t 17)⟩,⟨some 19,some (18,false),.fad 1 (.t 1)⟩,⟨some 20,some (18,false),.load 1 false (.t 19)⟩,⟨some 21,some (18,false),.mv (.t 3)⟩,⟨some 22,some (18,false),.iad 1 (.t 20) (.t 21)⟩,⟨some 23,some (18,false),.load 1 false (.t 22)⟩,⟨some 24,some (18,false),.bin .geq (.t 23) (.c (.dat (.int .i64 1048576)))⟩,⟨some 25,none,.pick (.t 18) (.c (.dat (.bool true))) (.t 24)⟩])
 (.cond (.t 25)
 (.seq (.ops [
 ⟨some 2,none,.mv (.c (.dat (.bool false)))⟩])
 .ret)
 .skip)))
 (.ops [
 ⟨some 10,none,.mv (.t 3)⟩,⟨some 11,none,.bin .add (.t 10) (.c (.dat (.int .i64 1)))⟩,⟨some 3,none,.mv (.t 11)⟩]))))))
 (.seq (.ops [
 ⟨some 26,none,.fad 1 (.t 1)⟩,⟨some 27,none,.load 1 false (.t 26)⟩,⟨some 28,none,.len (.t 27)⟩,⟨some 4,none,.mv (.t 28)⟩])
 (.seq (.seq (.ops [
 ⟨some 29,none,.fad 0 (.t 1)⟩,⟨some 30,none,.load 1 false (.t 29)⟩,⟨some 31,none,.bin .lss (.t 30) (.c (.dat (.int .i64 (-1))))⟩,⟨some 32,none,.mv (.t 31)⟩,⟨some 33,some (32,false),.fad 0 (.t 1)⟩,⟨some 34,some (32,false),.load 1 false (.t 33)⟩,⟨some 35,some (32,false),.bin .gtr (.t 34) (.c (.dat (.int .i64 1)))⟩,⟨some 36,none,.pick (.t 32) (.c (.dat (.bool true))) (.t 35)⟩,⟨some 37,none,.mv (.t 36)⟩,⟨some 38,some (37,false),.mv (.t 4)⟩,⟨some 39,some (37,false),.bin .gtr (.t 38) (.c (.dat (.int .i64 60)))⟩,⟨some 40,none,.pick (.t 37) (.c (.dat (.bool true))) (.t 39)⟩,⟨some 41,none,.mv (.t 40)⟩,⟨some 42,some (41,false),.mv (.t 4)⟩,⟨some 43,some (41,false),.bin .eql (.t 42) (.c (.dat (.int .i64 0)))⟩,⟨some 44,some (41,false),.fad 0 (.t 1)⟩,⟨some 45,some (41,false),.load 1 false (.t 44)⟩,⟨some 46,some (41,false),.bin .eql (.t 45) (.c (.dat (.int .i64 0)))⟩,⟨some 47,some (41,false),.beq true (.t 43) (.t 46)⟩,⟨some 48,none,.pick (.t 41) (.c (.dat (.bool true))) (.t 47)⟩])
 (.cond (.t 48)
 (.seq (.ops [
 ⟨some 2,none,.mv (.c (.dat (.bool false)))⟩])
 .ret)
 .skip))
 (.seq (.ops [
 ⟨some 49,none,.mv (.t 4)⟩,⟨some 50,none,.bin .eql (.t 49) (.c (.dat (.int .i64 0)))⟩,⟨some 51,none,.mv (.t 50)⟩,⟨some 52,some (51,false),.fad 1 (.t 1)⟩,⟨some 53,some (51,false),.load 1 false (.t 52)⟩,⟨some 54,some (51,false),.mv (.t 4)⟩,⟨some 55,some (51,false),.bin .sub (.t 54) (.c (.dat (.int .i64 1)))⟩,⟨some 56,some (51,false),.iad 1 (.t 53) (.t 55)⟩,⟨some 57,some (51,false),.load 1 false (.t 56)⟩,⟨some 58,some (51,false),.bin .neq (.t 57) (.c (.dat (.int .i64 0)))⟩,⟨some 59,none,.pick (.t 51) (.c (.dat (.bool true))) (.t 58)⟩,⟨some 2,none,.mv (.t 59)⟩])
 .ret))))) }
def mf_ref04_Neg:MFunc :=
 { n:=13,np:=1,res:=[.cell 2 2 true],body :=
 (.seq (.ops [
 ⟨some 1,none,.box 163001 (.t 0)⟩,⟨some 2,none,.alloc 163002 [(.dat (.int .i64 0)),.nil]⟩])
 (.seq (.seq (.ops [
 ⟨some 3,none,.load 2 true (.t 1)⟩,⟨some 4,none,.call id_ref04_Right [(.t 3)]⟩,⟨some 5,none,.un .not (.t 4)⟩])
 (.cond (.t 5)
 (.seq (.ops [
 ⟨some 6,none,.build [(.dat (.int .i64 0)),.nil] []⟩,⟨none,none,.store 2 (.t 2) (.t 6)⟩])
 .ret)
 .skip))
 (.seq (.ops [
 ⟨some 7,none,.fad 0 (.t 1)⟩,⟨some 8,none,.load 1 false (.t 7)⟩,⟨some 9,none,.un .neg (.t 8)⟩,⟨some 10,none,.fad 1 (.t 1)⟩,⟨some 11,none,.load 1 false (.t 10)⟩,⟨some 12,none,.call id_ref04_made [(.t 9),(.t 11)]⟩,⟨none,none,.store 2 (.t 2) (.t 12)⟩])
 .ret))) }
def mf_ref04_Gcd:MFunc :=
 { n:=36,np:=2,res:=[.cell 4 2 true,.t 5],body :=
 (.seq (.ops [
 ⟨some 2,none,.box 164002 (.t 0)⟩,⟨some 3,none,.box 164003 (.t 1)⟩,⟨some 4,none,.alloc 164004 [(.dat (.int .i64 0)),.nil]⟩,⟨some 5,none,.mv (.c (.dat (.int .i64 0)))⟩])
 (.seq (.seq (.ops [
 ⟨some 10,none,.load 2 true (.t 2)⟩,⟨some 11,none,.call id_ref04_Right [(.t 10)]⟩,⟨some 12,none,.un .not (.t 11)⟩,⟨some 13,none,.mv (.t 12)⟩,⟨some 14,some (13,false),.load 2 true (.t 3)⟩,⟨some 15,some (13,false),.call id_ref04_Right [(.t 14)]⟩,⟨some 16,some (13,false),.un .not (.t 15)⟩,⟨some 17,none,.pick (.t 13) (.c (.dat (.bool true))) (.t 16)⟩])
 (.cond (.t 17)
 (.seq (.ops [
 ⟨some 18,none,.build [(.dat (.int .i64 0)),.nil] []⟩,⟨none,none,.store 2 (.t 4) (.t 18)⟩,⟨some 5,none,.mv (.c (.dat (.int .i64 1)))⟩])
 .ret)
 .skip))
 (.seq (.ops [
 ⟨some 19,none,.fad 1 (.t 2)⟩,⟨some 20,none,.load 1 false (.t 19)⟩,⟨some 6,none,.mv (.t 20)⟩])
 (.seq (.ops [
 ⟨some 21,none,.fad 1 (.t 3)⟩,⟨some 22,none,.load 1 false (.t 21)⟩,⟨some 7,none,.mv (.t 22)⟩])
 (.seq (.block 0
 (.loop
 (.seq (.seq (.ops [
 ⟨some 23,none,.mv (.t 7)⟩,⟨some 24,none,.len (.t 23)⟩,⟨some 25,none,.bin .gtr (.t 24) (.c (.dat (.int .i64 0)))⟩])
 (.cond (.t 25)
 .skip
 (.exit 0)))
 (.block 1
 (.seq (.ops [
 ⟨some 27,none,.mv (.t 6)⟩,⟨some 28,none,.mv (.t 7)⟩,⟨some 29,none,.call id_ref04_over [(.t 27),(.t 28)]⟩,⟨some 26,none,.mv (.t 29)⟩,⟨some 30,none,.ext 0 (.t 26)⟩,⟨some 31,none,.ext 1 (.t 26)⟩,⟨some 8,none,.mv (.t 30)⟩,⟨some 9,none,.mv (.t 31)⟩])
 (.seq (.ops [
 ⟨some 32,none,.mv (.t 7)⟩,⟨some 6,none,.mv (.t 32)⟩])
 (.ops [
 ⟨some 33,none,.mv (.t 9)⟩,⟨some 7,none,.mv (.t 33)⟩])))))))
 (.seq (.ops [
 ⟨some 34,none,.mv (.t 6)⟩,⟨some 35,none,.call id_ref04_made [(.c (.dat (.int .i64 1))),(.t 34)]⟩,⟨none,none,.store 2 (.t 4) (.t 35)⟩,⟨some 5,none,.mv (.c (.dat (.int .i64 0)))⟩])
 .ret)))))) }
def mf_ref04_Div:MFunc :=
 { n:=65,np:=2,res:=[.cell 4 2 true,.cell 5 2 true,.t 6],body :=
 (.seq (.ops [
 ⟨some 2,none,.box 165002 (.t 0)⟩,⟨some 3,none,.box 165003 (.t 1)⟩,⟨some 4,none,.alloc 165004 [(.dat (.int .i64 0)),.nil]⟩,⟨some 5,none,.alloc 165005 [(.dat (.int .i64 0)),.nil]⟩,⟨some 6,none,.mv (.c (.dat (.int .i64 0)))⟩])
 (.seq (.seq (.ops [
 ⟨some 9,none,.load 2 true (.t 2)⟩,⟨some 10,none,.call id_ref04_Right [(.t 9)]⟩,⟨some 11,none,.un .not (.t 10)⟩,⟨some 12,none,.mv (.t 11)⟩,⟨some 13,some (12,false),.load 2 true (.t 3)⟩,⟨some 14,some (12,false),.call id_ref04_Right [(.t 13)]⟩,⟨some 15,some (12,false),.un .not (.t 14)⟩,⟨some 16,none,.pick (.t 12) (.c (.dat (.bool true))) (.t 15)⟩])
 (.cond (.t 16)
 (.seq (.ops [
 ⟨some 17,none,.build [(.dat (.int .i64 0)),.nil] []⟩,⟨some 18,none,.build [(.dat (.int .i64 0)),.nil] []⟩,⟨none,none,.store 2 (.t 4) (.t 17)⟩,⟨none,none,.store 2 (.t 5) (.t 18)⟩,⟨some 6,none,.mv (.c (.dat (.int .i64 1)))⟩])
 .ret)
 .skip))
 (.seq (.seq (.ops [
 ⟨some 19,none,.fad 0 (.t 3)⟩,⟨some 20,none,.load 1 false (.t 19)⟩,⟨some 21,none,.bin .eql (.t 20) (.c (.dat (.int .i64 0)))⟩])
 (.cond (.t 21)
 (.seq (.ops [
 ⟨some 22,none,.build [(.dat (.int .i64 0)),.nil] []⟩,⟨some 23,none,.build [(.dat (.int .i64 0)),.nil] []⟩,⟨none,none,.store 2 (.t 4) (.t 22)⟩,⟨none,none,.store 2 (.t 5) (.t 23)⟩,⟨some 6,none,.mv (.c (.dat (.int .i64 15)))⟩])
 .ret)
 .skip))
 (.seq (.ops [
 ⟨some 25,none,.fad 1 (.t 2)⟩,⟨some 26,none,.load 1 false (.t 25)⟩,⟨some 27,none,.fad 1 (.t 3)⟩,⟨some 28,none,.load 1 false (.t 27)⟩,⟨some 29,none,.call id_ref04_over [(.t 26),(.t 28)]⟩,⟨some 24,none,.mv (.t 29)⟩,⟨some 30,none,.ext 0 (.t 24)⟩,⟨some 31,none,.ext 1 (.t 24)⟩,⟨some 7,none,.mv (.t 30)⟩,⟨some 8,none,.mv (.t 31)⟩])
 (.seq (.seq (.ops [
 ⟨some 32,none,.fad 0 (.t 2)⟩,⟨some 33,none,.load 1 false (.t 32)⟩,⟨some 34,none,.fad 0 (.t 3)⟩,⟨some 35,none,.load 1 false (.t 34)⟩,⟨some 36,none,.bin .mul (.t 33) (.t 35)⟩,⟨some 37,none,.bin .geq (.t 36) (.c (.dat (.int .i64 0)))⟩,⟨some 38,none,.mv (.t 37)⟩,⟨some 39,some (38,false),.mv (.t 8)⟩,⟨some 40,some (38,false),.len (.t 39)⟩,⟨some 41,some (38,false),.bin .eql (.t 40) (.c (.dat (.int .i64 0)))⟩,⟨some 42,none,.pick (.t 38) (.c (.dat (.bool true))) (.t 41)⟩])
 (.cond (.t 42)
 (.seq (.opsD [
 ⟨some 43,none,.fad 0 (.t 2)⟩,⟨some 44,none,.load 1 false (.t 43)⟩,⟨some 45,none,.fad 0 (.t 3)⟩,⟨some 46,none,.load 1 false (.t 45)⟩,⟨some 47,none,.bin .mul (.t 44) (.t 46)⟩,⟨some 48,none,.mv (.t 7)⟩,⟨some 49,none,.call id_ref04_made [(.t 47),(.t 48)]⟩,⟨some 50,none,.fad 0 (.t 2)⟩,⟨some 51,none,.load 1 false (.t 50)⟩,⟨some 52,none,.mv (.t 8)⟩,⟨some 53,none,.call id_ref04_made [(.t 51),(.t 52)]⟩,⟨none,none,.store 2 (.t 4) (.t 49)⟩,⟨none,none,.store 2 (.t 5) (.t 53)⟩,⟨some 6,none,.mv (.c (.dat (.int .i64 0)))⟩] [[],[],[],[],[],[],[],[],[],[],[],[],[],[]])
 .ret)
 .skip))
 (.seq (.opsD [
 ⟨some 54,none,.mv (.t 7)⟩,⟨some 55,none,.bsl 165055 false [(.dat (.int .i64 0))] 1 1 [(0,1,(.c (.dat (.int .i64 1))))]⟩,⟨some 56,none,.call id_ref04_plus [(.t 54),(.t 55)]⟩,⟨some 57,none,.call id_ref04_made [(.c (.dat (.int .i64 (-1)))),(.t 56)]⟩,⟨some 58,none,.fad 0 (.t 3)⟩,⟨some 59,none,.load 1 false (.t 58)⟩,⟨some 60,none,.fad 1 (.t 3)⟩,⟨some 61,none,.load 1 false (.t 60)⟩,⟨some 62,none,.mv (.t 8)⟩,⟨some 63,none,.call id_ref04_minus [(.t 61),(.t 62)]⟩,⟨some 64,none,.call id_ref04_made [(.t 59),(.t 63)]⟩,⟨none,none,.store 2 (.t 4) (.t 57)⟩,⟨none,none,.store 2 (.t 5) (.t 64)⟩,⟨some 6,none,.mv (.c (.dat (.int .i64 0)))⟩] [[],[],[],[],[],[],[],[],[],[],[],[],[],[]])
 .ret)))))) }
def mf_ref04_made:MFunc :=
 { n:=15,np:=2,res:=[.cell 4 2 true],body :=
 (.seq (.ops [
 ⟨some 4,none,.alloc 166004 [(.dat (.int .i64 0)),.nil]⟩])
 (.seq (.ops [
 ⟨some 6,none,.mv (.t 1)⟩,⟨some 7,none,.call id_ref04_trim [(.t 6)]⟩,⟨some 5,none,.mv (.t 7)⟩])
 (.seq (.seq (.ops [
 ⟨some 8,none,.mv (.t 5)⟩,⟨some 9,none,.len (.t 8)⟩,⟨some 10,none,.bin .eql (.t 9) (.c (.dat (.int .i64 0)))⟩])
 (.cond (.t 10)
 (.seq (.ops [
 ⟨some 11,none,.build [(.dat (.int .i64 0)),.nil] []⟩,⟨none,none,.store 2 (.t 4) (.t 11)⟩])
 .ret)
 .skip))
 (.seq (.ops [
 ⟨some 12,none,.mv (.t 0)⟩,⟨some 13,none,.mv (.t 5)⟩,⟨some 14,none,.build [(.dat (.int .i64 0)),.nil] [(0,1,(.t 12)),(1,1,(.t 13))]⟩,⟨none,none,.store 2 (.t 4) (.t 14)⟩])
 .ret)))) }
def mf_ref04_over:MFunc :=
 { n:=60,np:=2,res:=[.t 4,.t 5],body :=
 (.seq (.ops [
 ⟨some 4,none,.mv (.c .nil)⟩,⟨some 5,none,.mv (.c .nil)⟩])
 (.seq (.ops [
 ⟨some 12,none,.mv (.t 0)⟩,⟨some 13,none,.len (.t 12)⟩,⟨some 14,none,.mksl 180014 [(.dat (.int .i64 0))] 8 (.t 13) (.t 13)⟩,⟨some 6,none,.mv (.t 14)⟩])
 (.seq (.ops [
 ⟨some 7,none,.mv (.c .nil)⟩])
 (.seq (.seq (.ops [
 ⟨some 15,none,.mv (.t 0)⟩,⟨some 16,none,.len (.t 15)⟩,⟨some 17,none,.bin .sub (.t 16) (.c (.dat (.int .i64 1)))⟩,⟨some 8,none,.mv (.t 17)⟩])
 (.block 0
 (.loop
 (.seq (.seq (.ops [
 ⟨some 18,none,.mv (.t 8)⟩,⟨some 19,none,.bin .geq (.t 18) (.c (.dat (.int .i64 0)))⟩])
 (.cond (.t 19)
 .skip
 (.exit 0)))
 (.seq (.block 1
 (.seq (.ops [
 ⟨some 22,none,.mv (.t 0)⟩,⟨some 23,none,.mv (.t 8)⟩,⟨some 24,none,.iad 1 (.t 22) (.t 23)⟩,⟨some 25,none,.load 1 false (.t 24)⟩,⟨some 26,none,.bsl 180026 true [(.dat (.int .i64 0))] 1 1 [(0,1,(.t 25))]⟩,⟨some 27,none,.mv (.t 7)⟩,⟨some 28,none,.app 180028 [(.dat (.int .i64 0))] 8 (.t 26) (.t 27)⟩,⟨some 29,none,.call id_ref04_trim [(.t 28)]⟩,⟨some 7,none,.mv (.t 29)⟩])
 (.seq (.ops [
 ⟨some 9,none,.mv (.c (.dat (.int .i64 0)))⟩])
 (.seq (.ops [
 ⟨some 10,none,.mv (.c (.dat (.int .i64 1048576)))⟩])
 (.seq (.block 2
 (.loop
 (.seq (.seq (.ops [
 ⟨some 30,none,.mv (.t 10)⟩,⟨some 31,none,.mv (.t 9)⟩,⟨some 32,none,.bin .sub (.t 30) (.t 31)⟩,⟨some 33,none,.bin .gtr (.t 32) (.c (.dat (.int .i64 1)))⟩])
 (.cond (.t 33)
 .skip
 (.exit 2)))
 (.block 3
 (.seq (.ops [
 ⟨some 34,none,.mv (.t 9)⟩,⟨some 35,none,.mv (.t 10)⟩,⟨some 36,none,.bin .add (.t 34) (.t 35)⟩,⟨some 37,none,.bin .quo (.t 36) (.c (.dat (.int .i64 2)))⟩,⟨some 11,none,.mv (.t 37)⟩])
 (.seq (.ops [
 ⟨some 38,none,.mv (.t 7)⟩,⟨some 39,none,.mv (.t 1)⟩,⟨some 40,none,.mv (.t 11)⟩,⟨some 41,none,.bsl 180041 false [(.dat (.int .i64 0))] 1 1 [(0,1,(.t 40))]⟩,⟨some 42,none,.call id_ref04_times [(.t 39),(.t 41)]⟩,⟨some 43,none,.call id_ref04_less [(.t 38),(.t 42)]⟩])
 (.cond (.t 43)
 (.ops [
 ⟨some 44,none,.mv (.t 11)⟩,⟨some 10,none,.mv (.t 44)⟩])
 (.ops [
 ⟨some 45,none,.mv (.t 11)⟩,⟨some 9,none,.mv (.t 45)⟩]))))))))
 (.seq (.ops [
 ⟨some 46,none,.mv (.t 6)⟩,⟨some 47,none,.mv (.t 8)⟩,⟨some 48,none,.mv (.t 9)⟩,⟨some 49,none,.iad 1 (.t 46) (.t 47)⟩,⟨none,none,.store 1 (.t 49) (.t 48)⟩])
 (.ops [
 ⟨some 50,none,.mv (.t 7)⟩,⟨some 51,none,.mv (.t 1)⟩,⟨some 52,none,.mv (.t 9)⟩,⟨some 53,none,.bsl 180053 false [(.dat (.int .i64 0))] 1 1 [(0,1,(.t 52))]⟩,⟨some 54,none,.call id_ref04_trim [(.t 53)]⟩,⟨some 55,none,.call id_ref04_times [(.t 51),(.t 54)]⟩,⟨some 56,none,.call id_ref04_minus [(.t 50),(.t 55)]⟩,⟨some 7,none,.mv (.t 56)⟩])))))))
 (.ops [
 ⟨some 20,none,.mv (.t 8)⟩,⟨some 21,none,.bin .sub (.t 20) (.c (.dat (.int .i64 1)))⟩,⟨some 8,none,.mv (.t 21)⟩]))))))
 (.seq (.ops [
 ⟨some 57,none,.mv (.t 6)⟩,⟨some 58,none,.call id_ref04_trim [(.t 57)]⟩,⟨some 59,none,.mv (.t 7)⟩,⟨some 4,none,.mv (.t 58)⟩,⟨some 5,none,.mv (.t 59)⟩])
 .ret))))) }
def mf_ref04_plus:MFunc :=
 { n:=43,np:=2,res:=[.t 4],body :=
 (.seq (.ops [
 ⟨some 4,none,.mv (.c .nil)⟩])
 (.seq (.ops [
 ⟨some 5,none,.mv (.c .nil)⟩])
 (.seq (.ops [
 ⟨some 6,none,.mv (.c (.dat (.int .i64 0)))⟩])
 (.seq (.seq (.ops [
 ⟨some 7,none,.mv (.c (.dat (.int .i64 0)))⟩])
 (.block 0
 (.ghost (.adopt 5 181038 1) (.loop
 (.seq (.seq (.ops [
 ⟨some 9,none,.mv (.t 7)⟩,⟨some 10,none,.mv (.t 0)⟩,⟨some 11,none,.len (.t 10)⟩,⟨some 12,none,.bin .lss (.t 9) (.t 11)⟩,⟨some 13,none,.mv (.t 12)⟩,⟨some 14,some (13,false),.mv (.t 7)⟩,⟨some 15,some (13,false),.mv (.t 1)⟩,⟨some 16,some (13,false),.len (.t 15)⟩,⟨some 17,some (13,false),.bin .lss (.t 14) (.t 16)⟩,⟨some 18,none,.pick (.t 13) (.c (.dat (.bool true))) (.t 17)⟩,⟨some 19,none,.mv (.t 18)⟩,⟨some 20,some (19,false),.mv (.t 6)⟩,⟨some 21,some (19,false),.bin .gtr (.t 20) (.c (.dat (.int .i64 0)))⟩,⟨some 22,none,.pick (.t 19) (.c (.dat (.bool true))) (.t 21)⟩])
 (.cond (.t 22)
 .skip
 (.exit 0)))
 (.seq (.block 1
 (.seq (.ops [
 ⟨some 25,none,.mv (.t 0)⟩,⟨some 26,none,.mv (.t 7)⟩,⟨some 27,none,.call id_ref04_digit [(.t 25),(.t 26)]⟩,⟨some 28,none,.mv (.t 1)⟩,⟨some 29,none,.mv (.t 7)⟩,⟨some 30,none,.call id_ref04_digit [(.t 28),(.t 29)]⟩,⟨some 31,none,.bin .add (.t 27) (.t 30)⟩,⟨some 32,none,.mv (.t 6)⟩,⟨some 33,none,.bin .add (.t 31) (.t 32)⟩,⟨some 8,none,.mv (.t 33)⟩])
 (.seq (.ops [
 ⟨some 34,none,.mv (.t 5)⟩,⟨some 35,none,.mv (.t 8)⟩,⟨some 36,none,.bin .rem (.t 35) (.c (.dat (.int .i64 1048576)))⟩,⟨some 37,none,.bsl 181037 false [(.dat (.int .i64 0))] 1 1 [(0,1,(.t 36))]⟩,⟨some 38,none,.app 181038 [(.dat (.int .i64 0))] 8 (.t 34) (.t 37)⟩,⟨some 5,none,.mv (.t 38)⟩])
 (.ops [
 ⟨some 39,none,.mv (.t 8)⟩,⟨some 40,none,.bin .quo (.t 39) (.c (.dat (.int .i64 1048576)))⟩,⟨some 6,none,.mv (.t 40)⟩]))))
 (.ops [
 ⟨some 23,none,.mv (.t 7)⟩,⟨some 24,none,.bin .add (.t 23) (.c (.dat (.int .i64 1)))⟩,⟨some 7,none,.mv (.t 24)⟩])))))))
 (.seq (.ops [
 ⟨some 41,none,.mv (.t 5)⟩,⟨some 42,none,.call id_ref04_trim [(.t 41)]⟩,⟨some 4,none,.mv (.t 42)⟩])
 .ret))))) }
def mf_ref04_minus:MFunc :=
 { n:=35,np:=2,res:=[.t 4],body :=
 (.seq (.ops [
 ⟨some 4,none,.mv (.c .nil)⟩])
 (.seq (.ops [
 ⟨some 5,none,.mv (.c .nil)⟩])
 (.seq (.ops [
 ⟨some 6,none,.mv (.c (.dat (.int .i64 0)))⟩])
 (.seq (.seq (.ops [
 ⟨some 7,none,.mv (.c (.dat (.int .i64 0)))⟩])
 (.block 0
 (.ghost (.adopt 5 182032 1) (.loop
 (.seq (.seq (.ops [
 ⟨some 9,none,.mv (.t 7)⟩,⟨some 10,none,.mv (.t 0)⟩,⟨some 11,none,.len (.t 10)⟩,⟨some 12,none,.bin .lss (.t 9) (.t 11)⟩])
 (.cond (.t 12)
 .skip
 (.exit 0)))
 (.seq (.block 1
 (.seq (.opsD [
 ⟨some 15,none,.mv (.t 0)⟩,⟨some 16,none,.mv (.t 7)⟩,⟨some 17,none,.iad 1 (.t 15) (.t 16)⟩,⟨some 18,none,.load 1 false (.t 17)⟩,⟨some 19,none,.mv (.t 1)⟩,⟨some 20,none,.mv (.t 7)⟩,⟨some 21,none,.call id_ref04_digit [(.t 19),(.t 20)]⟩,⟨some 22,none,.bin .sub (.t 18) (.t 21)⟩,⟨some 23,none,.mv (.t 6)⟩,⟨some 24,none,.bin .sub (.t 22) (.t 23)⟩,⟨some 8,none,.mv (.t 24)⟩] [[],[],[],[],[],[],[],[],[],[],[]])
 (.seq (.ops [
 ⟨some 6,none,.mv (.c (.dat (.int .i64 0)))⟩])
 (.seq (.seq (.ops [
 ⟨some 25,none,.mv (.t 8)⟩,⟨some 26,none,.bin .lss (.t 25) (.c (.dat (.int .i64 0)))⟩])
 (.cond (.t 26)
 (.seq (.ops [
 ⟨some 27,none,.mv (.t 8)⟩,⟨some 28,none,.bin .add (.t 27) (.c (.dat (.int .i64 1048576)))⟩,⟨some 8,none,.mv (.t 28)⟩])
 (.ops [
 ⟨some 6,none,.mv (.c (.dat (.int .i64 1)))⟩]))
 .skip))
 (.ops [
 ⟨some 29,none,.mv (.t 5)⟩,⟨some 30,none,.mv (.t 8)⟩,⟨some 31,none,.bsl 182031 false [(.dat (.int .i64 0))] 1 1 [(0,1,(.t 30))]⟩,⟨some 32,none,.app 182032 [(.dat (.int .i64 0))] 8 (.t 29) (.t 31)⟩,⟨some 5,none,.mv (.t 32)⟩])))))
 (.ops [
 ⟨some 13,none,.mv (.t 7)⟩,⟨some 14,none,.bin .add (.t 13) (.c (.dat (.int .i64 1)))⟩,⟨some 7,none,.mv (.t 14)⟩])))))))
 (.seq (.ops [
 ⟨some 33,none,.mv (.t 5)⟩,⟨some 34,none,.call id_ref04_trim [(.t 33)]⟩,⟨some 4,none,.mv (.t 34)⟩])
 .ret))))) }
def mf_ref04_trim:MFunc :=
 { n:=23,np:=1,res:=[.t 2],body :=
 (.seq (.ops [
 ⟨some 2,none,.mv (.c .nil)⟩])
 (.seq (.ops [
 ⟨some 4,none,.mv (.t 0)⟩,⟨some 5,none,.len (.t 4)⟩,⟨some 3,none,.mv (.t 5)⟩])
 (.seq (.block 0
 (.loop
 (.seq (.seq (.ops [
 ⟨some 6,none,.mv (.t 3)⟩,⟨some 7,none,.bin .gtr (.t 6) (.c (.dat (.int .i64 0)))⟩,⟨some 8,none,.mv (.t 7)⟩,⟨some 9,some (8,true),.mv (.t 0)⟩,⟨some 10,some (8,true),.mv (.t 3)⟩,⟨some 11,some (8,true),.bin .sub (.t 10) (.c (.dat (.int .i64 1)))⟩,⟨some 12,some (8,true),.iad 1 (.t 9) (.t 11)⟩,⟨some 13,some (8,true),.load 1 false (.t 12)⟩,⟨some 14,some (8,true),.bin .eql (.t 13) (.c (.dat (.int .i64 0)))⟩,⟨some 15,none,.pick (.t 8) (.t 14) (.c (.dat (.bool false)))⟩])
 (.cond (.t 15)
 .skip
 (.exit 0)))
 (.block 1
 (.ops [
 ⟨some 16,none,.mv (.t 3)⟩,⟨some 17,none,.bin .sub (.t 16) (.c (.dat (.int .i64 1)))⟩,⟨some 3,none,.mv (.t 17)⟩])))))
 (.seq (.ops [
 ⟨some 18,none,.bsl 183018 true [] 1 0 []⟩,⟨some 19,none,.mv (.t 0)⟩,⟨some 20,none,.mv (.t 3)⟩,⟨some 21,none,.slc 1 (.t 19) none (some (.t 20)) none⟩,⟨some 22,none,.app 183022 [(.dat (.int .i64 0))] 8 (.t 18) (.t 21)⟩,⟨some 2,none,.mv (.t 22)⟩])
 .ret)))) }
def mf_ref04_less:MFunc :=
 { n:=30,np:=2,res:=[.t 4],body :=
 (.seq (.ops [
 ⟨some 4,none,.mv (.c (.dat (.bool false)))⟩])
 (.seq (.seq (.ops [
 ⟨some 6,none,.mv (.t 0)⟩,⟨some 7,none,.len (.t 6)⟩,⟨some 8,none,.mv (.t 1)⟩,⟨some 9,none,.len (.t 8)⟩,⟨some 10,none,.mm true (.t 7) (.t 9)⟩,⟨some 11,none,.bin .sub (.t 10) (.c (.dat (.int .i64 1)))⟩,⟨some 5,none,.mv (.t 11)⟩])
 (.block 0
 (.loop
 (.seq (.seq (.ops [
 ⟨some 12,none,.mv (.t 5)⟩,⟨some 13,none,.bin .geq (.t 12) (.c (.dat (.int .i64 0)))⟩])
 (.cond (.t 13)
 .skip
 (.exit 0)))
 (.seq (.block 1
 (.seq (.ops [
 ⟨some 16,none,.mv (.t 0)⟩,⟨some 17,none,.mv (.t 5)⟩,⟨some 18,none,.call id_ref04_digit [(.t 16),(.t 17)]⟩,⟨some 19,none,.mv (.t 1)⟩,⟨some 20,none,.mv (.t 5)⟩,⟨some 21,none,.call id_ref04_digit [(.t 19),(.t 20)]⟩,⟨some 22,none,.bin .neq (.t 18) (.t 21)⟩])
 (.cond (.t 22)
 (.seq (.ops [
 ⟨some 23,none,.mv (.t 0)⟩,⟨some 24,none,.mv (.t 5)⟩,⟨some 25,none,.call id_ref04_digit [(.t 23),(.t 24)]⟩,⟨some 26,none,.mv (.t 1)⟩,⟨some 27,none,.mv (.t 5)⟩,⟨some 28,none,.call id_ref04_digit [(.t 26),(.t 27)]⟩,⟨some 29,none,.bin .lss (.t 25) (.t 28)⟩,⟨some 4,none,.mv (.t 29)⟩])
 .ret)
 .skip)))
 (.ops [
 ⟨some 14,none,.mv (.t 5)⟩,⟨some 15,none,.bin .sub (.t 14) (.c (.dat (.int .i64 1)))⟩,⟨some 5,none,.mv (.t 15)⟩]))))))
 (.seq (.ops [
 ⟨some 4,none,.mv (.c (.dat (.bool false)))⟩])
 .ret))) }
def mf_ref04_times:MFunc :=
 { n:=60,np:=2,res:=[.t 4],body :=
 (.seq (.ops [
 ⟨some 4,none,.mv (.c .nil)⟩])
 (.seq (.ops [
 ⟨some 10,none,.mv (.t 0)⟩,⟨some 11,none,.len (.t 10)⟩,⟨some 12,none,.mv (.t 1)⟩,⟨some 13,none,.len (.t 12)⟩,⟨some 14,none,.bin .add (.t 11) (.t 13)⟩,⟨some 15,none,.mksl 186015 [(.dat (.int .i64 0))] 8 (.t 14) (.t 14)⟩,⟨some 5,none,.mv (.t 15)⟩])
 (.seq (.seq (.ops [
 ⟨some 6,none,.mv (.c (.dat (.int .i64 0)))⟩])
 (.block 0
 (.loop
 (.seq (.seq (.ops [
 ⟨some 16,none,.mv (.t 6)⟩,⟨some 17,none,.mv (.t 0)⟩,⟨some 18,none,.len (.t 17)⟩,⟨some 19,none,.bin .lss (.t 16) (.t 18)⟩])
 (.cond (.t 19)
 .skip
 (.exit 0)))
 (.seq (.block 1
 (.seq (.ops [
 ⟨some 7,none,.mv (.c (.dat (.int .i64 0)))⟩])
 (.seq (.ops [
 ⟨some 8,none,.mv (.c (.dat (.int .i64 0)))⟩])
 (.block 2
 (.loop
 (.seq (.seq (.ops [
 ⟨some 22,none,.mv (.t 8)⟩,⟨some 23,none,.mv (.t 1)⟩,⟨some 24,none,.len (.t 23)⟩,⟨some 25,none,.bin .lss (.t 22) (.t 24)⟩,⟨some 26,none,.mv (.t 25)⟩,⟨some 27,some (26,false),.mv (.t 7)⟩,⟨some 28,some (26,false),.bin .gtr (.t 27) (.c (.dat (.int .i64 0)))⟩,⟨some 29,none,.pick (.t 26) (.c (.dat (.bool true))) (.t 28)⟩])
 (.cond (.t 29)
 .skip
 (.exit 2)))
 (.seq (.block 3
 (.seq (.opsD [
 ⟨some 32,none,.mv (.t 5)⟩,⟨some 33,none,.mv (.t 6)⟩,⟨some 34,none,.mv (.t 8)⟩,⟨some 35,none,.bin .add (.t 33) (.t 34)⟩,⟨some 36,none,.iad 1 (.t 32) (.t 35)⟩,⟨some 37,none,.load 1 false (.t 36)⟩,⟨some 38,none,.mv (.t 0)⟩,⟨some 39,none,.mv (.t 6)⟩,⟨some 40,none,.iad 1 (.t 38) (.t 39)⟩,⟨some 41,none,.load 1 false (.t 40)⟩,⟨some 42,none,.mv (.t 1)⟩,⟨some 43,none,.mv (.t 8)⟩,⟨some 44,none,.call id_ref04_digit [(.t 42),(.t 43)]⟩,⟨some 45,none,.bin .mul (.t 41) (.t 44)⟩,⟨some 46,none,.bin .add (.t 37) (.t 45)⟩,⟨some 47,none,.mv (.t 7)⟩,⟨some 48,none,.bin .add (.t 46) (.t 47)⟩,⟨some 9,none,.mv (.t 48)⟩] [[],[],[],[],[],[],[],[],[],[],[],[],[],[],[],[],[],[]])
 (.seq (.ops [
 ⟨some 49,none,.mv (.t 5)⟩,⟨some 50,none,.mv (.t 6)⟩,⟨some 51,none,.mv (.t 8)⟩,⟨some 52,none,.bin .add (.t 50) (.t 51)⟩,⟨some 53,none,.mv (.t 9)⟩,⟨some 54,none,.bin .rem (.t 53) (.c (.dat (.int .i64 1048576)))⟩,⟨some 55,none,.iad 1 (.t 49) (.t 52)⟩,⟨none,none,.store 1 (.t 55) (.t 54)⟩])
 (.ops [
 ⟨some 56,none,.mv (.t 9)⟩,⟨some 57,none,.bin .quo (.t 56) (.c (.dat (.int .i64 1048576)))⟩,⟨some 7,none,.mv (.t 57)⟩]))))
 (.ops [
 ⟨some 30,none,.mv (.t 8)⟩,⟨some 31,none,.bin .add (.t 30) (.c (.dat (.int .i64 1)))⟩,⟨some 8,none,.mv (.t 31)⟩]))))))))
 (.ops [
 ⟨some 20,none,.mv (.t 6)⟩,⟨some 21,none,.bin .add (.t 20) (.c (.dat (.int .i64 1)))⟩,⟨some 6,none,.mv (.t 21)⟩]))))))
 (.seq (.ops [
 ⟨some 58,none,.mv (.t 5)⟩,⟨some 59,none,.call id_ref04_trim [(.t 58)]⟩,⟨some 4,none,.mv (.t 59)⟩])
 .ret)))) }
def mf_ref04_digit:MFunc :=
 { n:=13,np:=2,res:=[.t 4],body :=
 (.seq (.ops [
 ⟨some 4,none,.mv (.c (.dat (.int .i64 0)))⟩])
 (.seq (.seq (.ops [
 ⟨some 5,none,.mv (.t 1)⟩,⟨some 6,none,.mv (.t 0)⟩,⟨some 7,none,.len (.t 6)⟩,⟨some 8,none,.bin .lss (.t 5) (.t 7)⟩])
 (.cond (.t 8)
 (.seq (.ops [
 ⟨some 9,none,.mv (.t 0)⟩,⟨some 10,none,.mv (.t 1)⟩,⟨some 11,none,.iad 1 (.t 9) (.t 10)⟩,⟨some 12,none,.load 1 false (.t 11)⟩,⟨some 4,none,.mv (.t 12)⟩])
 .ret)
 .skip))
 (.seq (.ops [
 ⟨some 4,none,.mv (.c (.dat (.int .i64 0)))⟩])
 .ret))) }
def mf_ref04_Mul:MFunc :=
 { n:=29,np:=2,res:=[.cell 4 2 true,.t 5],body :=
 (.seq (.ops [
 ⟨some 2,none,.box 202002 (.t 0)⟩,⟨some 3,none,.box 202003 (.t 1)⟩,⟨some 4,none,.alloc 202004 [(.dat (.int .i64 0)),.nil]⟩,⟨some 5,none,.mv (.c (.dat (.int .i64 0)))⟩])
 (.seq (.seq (.ops [
 ⟨some 6,none,.load 2 true (.t 2)⟩,⟨some 7,none,.call id_ref04_Right [(.t 6)]⟩,⟨some 8,none,.un .not (.t 7)⟩,⟨some 9,none,.mv (.t 8)⟩,⟨some 10,some (9,false),.load 2 true (.t 3)⟩,⟨some 11,some (9,false),.call id_ref04_Right [(.t 10)]⟩,⟨some 12,some (9,false),.un .not (.t 11)⟩,⟨some 13,none,.pick (.t 9) (.c (.dat (.bool true))) (.t 12)⟩])
 (.cond (.t 13)
 (.seq (.ops [
 ⟨some 14,none,.build [(.dat (.int .i64 0)),.nil] []⟩,⟨none,none,.store 2 (.t 4) (.t 14)⟩,⟨some 5,none,.mv (.c (.dat (.int .i64 1)))⟩])
 .ret)
 .skip))
 (.seq (.opsD [
 ⟨some 15,none,.fad 0 (.t 2)⟩,⟨some 16,none,.load 1 false (.t 15)⟩,⟨some 17,none,.fad 0 (.t 3)⟩,⟨some 18,none,.load 1 false (.t 17)⟩,⟨some 19,none,.bin .mul (.t 16) (.t 18)⟩,⟨some 20,none,.fad 1 (.t 2)⟩,⟨some 21,none,.load 1 false (.t 20)⟩,⟨some 22,none,.fad 1 (.t 3)⟩,⟨some 23,none,.load 1 false (.t 22)⟩,⟨some 24,none,.call id_ref04_times [(.t 21),(.t 23)]⟩,⟨some 25,none,.call id_ref04_made [(.t 19),(.t 24)]⟩,⟨some 26,none,.call id_ref04_kept [(.t 25)]⟩,⟨some 27,none,.ext 0 (.t 26)⟩,⟨some 28,none,.ext 1 (.t 26)⟩,⟨none,none,.store 2 (.t 4) (.t 27)⟩,⟨some 5,none,.mv (.t 28)⟩] [[],[],[],[],[],[],[],[],[],[],[],[],[],[],[],[]])
 .ret))) }
def mf_ref04_Sub:MFunc :=
 { n:=21,np:=2,res:=[.cell 4 2 true,.t 5],body :=
 (.seq (.ops [
 ⟨some 2,none,.box 203002 (.t 0)⟩,⟨some 3,none,.box 203003 (.t 1)⟩,⟨some 4,none,.alloc 203004 [(.dat (.int .i64 0)),.nil]⟩,⟨some 5,none,.mv (.c (.dat (.int .i64 0)))⟩])
 (.seq (.seq (.ops [
 ⟨some 8,none,.load 2 true (.t 3)⟩,⟨some 9,none,.call id_ref04_Right [(.t 8)]⟩,⟨some 10,none,.un .not (.t 9)⟩])
 (.cond (.t 10)
 (.seq (.ops [
 ⟨some 11,none,.build [(.dat (.int .i64 0)),.nil] []⟩,⟨none,none,.store 2 (.t 4) (.t 11)⟩,⟨some 5,none,.mv (.c (.dat (.int .i64 1)))⟩])
 .ret)
 .skip))
 (.seq (.opsD [
 ⟨some 13,none,.load 2 true (.t 2)⟩,⟨some 14,none,.load 2 true (.t 3)⟩,⟨some 15,none,.call id_ref04_Neg [(.t 14)]⟩,⟨some 16,none,.call id_ref04_Add [(.t 13),(.t 15)]⟩,⟨some 12,none,.mv (.t 16)⟩,⟨some 17,none,.ext 0 (.t 12)⟩,⟨some 18,none,.ext 1 (.t 12)⟩,⟨some 6,none,.alloc 203006 [(.dat (.int .i64 0)),.nil]⟩,⟨none,none,.store 2 (.t 6) (.t 17)⟩,⟨some 7,none,.mv (.t 18)⟩] [[],[],[],[],[],[],[],[0,1],[],[]])
 (.seq (.ops [
 ⟨some 19,none,.load 2 true (.t 6)⟩,⟨some 20,none,.mv (.t 7)⟩,⟨none,none,.store 2 (.t 4) (.t 19)⟩,⟨some 5,none,.mv (.t 20)⟩])
 .ret)))) }
def mf_ref04_Compare:MFunc :=
 { n:=37,np:=2,res:=[.t 4],body :=
 (.seq (.ops [
 ⟨some 2,none,.box 205002 (.t 0)⟩,⟨some 3,none,.box 205003 (.t 1)⟩,⟨some 4,none,.mv (.c (.dat (.int .i64 0)))⟩])
 (.seq (.seq (.ops [
 ⟨some 5,none,.load 2 true (.t 2)⟩,⟨some 6,none,.call id_ref04_Right [(.t 5)]⟩,⟨some 7,none,.un .not (.t 6)⟩,⟨some 8,none,.mv (.t 7)⟩,⟨some 9,some (8,false),.load 2 true (.t 3)⟩,⟨some 10,some (8,false),.call id_ref04_Right [(.t 9)]⟩,⟨some 11,some (8,false),.un .not (.t 10)⟩,⟨some 12,none,.pick (.t 8) (.c (.dat (.bool true))) (.t 11)⟩,⟨some 13,none,.mv (.t 12)⟩,⟨some 14,some (13,false),.load 2 true (.t 2)⟩,⟨some 15,some (13,false),.load 2 true (.t 3)⟩,⟨some 16,some (13,false),.call id_ref04_Same [(.t 14),(.t 15)]⟩,⟨some 17,none,.pick (.t 13) (.c (.dat (.bool true))) (.t 16)⟩])
 (.cond (.t 17)
 (.seq (.ops [
 ⟨some 4,none,.mv (.c (.dat (.int .i64 0)))⟩])
 .ret)
 .skip))
 (.seq (.seq (.ops [
 ⟨some 18,none,.fad 0 (.t 2)⟩,⟨some 19,none,.load 1 false (.t 18)⟩,⟨some 20,none,.fad 0 (.t 3)⟩,⟨some 21,none,.load 1 false (.t 20)⟩,⟨some 22,none,.bin .neq (.t 19) (.t 21)⟩])
 (.cond (.t 22)
 (.seq (.seq (.ops [
 ⟨some 23,none,.fad 0 (.t 2)⟩,⟨some 24,none,.load 1 false (.t 23)⟩,⟨some 25,none,.fad 0 (.t 3)⟩,⟨some 26,none,.load 1 false (.t 25)⟩,⟨some 27,none,.bin .lss (.t 24) (.t 26)⟩])
 (.cond (.t 27)
 (.seq (.ops [
 ⟨some 4,none,.mv (.c (.dat (.int .i64 (-1))))⟩])
 .ret)
 .skip))
 (.seq (.ops [
 ⟨some 4,none,.mv (.c (.dat (.int .i64 1)))⟩])
 .ret))
 .skip))
 (.seq (.seq (.opsD [
 ⟨some 28,none,.fad 1 (.t 2)⟩,⟨some 29,none,.load 1 false (.t 28)⟩,⟨some 30,none,.fad 1 (.t 3)⟩,⟨some 31,none,.load 1 false (.t 30)⟩,⟨some 32,none,.call id_ref04_less [(.t 29),(.t 31)]⟩,⟨some 33,none,.fad 0 (.t 2)⟩,⟨some 34,none,.load 1 false (.t 33)⟩,⟨some 35,none,.bin .gtr (.t 34) (.c (.dat (.int .i64 0)))⟩,⟨some 36,none,.beq false (.t 32) (.t 35)⟩] [[],[],[],[],[],[],[],[],[]])
 (.cond (.t 36)
 (.seq (.ops [
 ⟨some 4,none,.mv (.c (.dat (.int .i64 (-1))))⟩])
 .ret)
 .skip))
 (.seq (.ops [
 ⟨some 4,none,.mv (.c (.dat (.int .i64 1)))⟩])
 .ret))))) }
def mf_ref04_Add:MFunc :=
 { n:=71,np:=2,res:=[.cell 4 2 true,.t 5],body :=
 (.seq (.ops [
 ⟨some 2,none,.box 206002 (.t 0)⟩,⟨some 3,none,.box 206003 (.t 1)⟩,⟨some 4,none,.alloc 206004 [(.dat (.int .i64 0)),.nil]⟩,⟨some 5,none,.mv (.c (.dat (.int .i64 0)))⟩])
 (.seq (.seq (.ops [
 ⟨some 6,none,.load 2 true (.t 2)⟩,⟨some 7,none,.call id_ref04_Right [(.t 6)]⟩,⟨some 8,none,.un .not (.t 7)⟩,⟨some 9,none,.mv (.t 8)⟩,⟨some 10,some (9,false),.load 2 true (.t 3)⟩,⟨some 11,some (9,false),.call id_ref04_Right [(.t 10)]⟩,⟨some 12,some (9,false),.un .not (.t 11)⟩,⟨some 13,none,.pick (.t 9) (.c (.dat (.bool true))) (.t 12)⟩])
 (.cond (.t 13)
 (.seq (.ops [
 ⟨some 14,none,.build [(.dat (.int .i64 0)),.nil] []⟩,⟨none,none,.store 2 (.t 4) (.t 14)⟩,⟨some 5,none,.mv (.c (.dat (.int .i64 1)))⟩])
 .ret)
 .skip))
 (.seq (.seq (.ops [
 ⟨some 15,none,.fad 0 (.t 2)⟩,⟨some 16,none,.load 1 false (.t 15)⟩,⟨some 17,none,.bin .eql (.t 16) (.c (.dat (.int .i64 0)))⟩,⟨some 18,none,.mv (.t 17)⟩,⟨some 19,some (18,false),.fad 0 (.t 3)⟩,⟨some 20,some (18,false),.load 1 false (.t 19)⟩,⟨some 21,some (18,false),.bin .eql (.t 20) (.c (.dat (.int .i64 0)))⟩,⟨some 22,none,.pick (.t 18) (.c (.dat (.bool true))) (.t 21)⟩,⟨some 23,none,.mv (.t 22)⟩,⟨some 24,some (23,false),.fad 0 (.t 2)⟩,⟨some 25,some (23,false),.load 1 false (.t 24)⟩,⟨some 26,some (23,false),.fad 0 (.t 3)⟩,⟨some 27,some (23,false),.load 1 false (.t 26)⟩,⟨some 28,some (23,false),.bin .eql (.t 25) (.t 27)⟩,⟨some 29,none,.pick (.t 23) (.c (.dat (.bool true))) (.t 28)⟩])
 (.cond (.t 29)
 (.seq (.opsD [
 ⟨some 30,none,.fad 0 (.t 2)⟩,⟨some 31,none,.load 1 false (.t 30)⟩,⟨some 32,none,.fad 0 (.t 3)⟩,⟨some 33,none,.load 1 false (.t 32)⟩,⟨some 34,none,.bin .or (.t 31) (.t 33)⟩,⟨some 35,none,.fad 1 (.t 2)⟩,⟨some 36,none,.load 1 false (.t 35)⟩,⟨some 37,none,.fad 1 (.t 3)⟩,⟨some 38,none,.load 1 false (.t 37)⟩,⟨some 39,none,.call id_ref04_plus [(.t 36),(.t 38)]⟩,⟨some 40,none,.call id_ref04_made [(.t 34),(.t 39)]⟩,⟨some 41,none,.call id_ref04_kept [(.t 40)]⟩,⟨some 42,none,.ext 0 (.t 41)⟩,⟨some 43,none,.ext 1 (.t 41)⟩,⟨none,none,.store 2 (.t 4) (.t 42)⟩,⟨some 5,none,.mv (.t 43)⟩] [[],[],[],[],[],[],[],[],[],[],[],[],[],[],[],[]])
 .ret)
 .skip))
 (.seq (.seq (.ops [
 ⟨some 44,none,.fad 1 (.t 2)⟩,⟨some 45,none,.load 1 false (.t 44)⟩,⟨some 46,none,.fad 1 (.t 3)⟩,⟨some 47,none,.load 1 false (.t 46)⟩,⟨some 48,none,.call id_ref04_less [(.t 45),(.t 47)]⟩])
 (.cond (.t 48)
 (.seq (.opsD [
 ⟨some 49,none,.fad 0 (.t 3)⟩,⟨some 50,none,.load 1 false (.t 49)⟩,⟨some 51,none,.fad 1 (.t 3)⟩,⟨some 52,none,.load 1 false (.t 51)⟩,⟨some 53,none,.fad 1 (.t 2)⟩,⟨some 54,none,.load 1 false (.t 53)⟩,⟨some 55,none,.call id_ref04_minus [(.t 52),(.t 54)]⟩,⟨some 56,none,.call id_ref04_made [(.t 50),(.t 55)]⟩,⟨some 57,none,.call id_ref04_kept [(.t 56)]⟩,⟨some 58,none,.ext 0 (.t 57)⟩,⟨some 59,none,.ext 1 (.t 57)⟩,⟨none,none,.store 2 (.t 4) (.t 58)⟩,⟨some 5,none,.mv (.t 59)⟩] [[],[],[],[],[],[],[],[],[],[],[],[],[]])
 .ret)
 .skip))
 (.seq (.opsD [
 ⟨some 60,none,.fad 0 (.t 2)⟩,⟨some 61,none,.load 1 false (.t 60)⟩,⟨some 62,none,.fad 1 (.t 2)⟩,⟨some 63,none,.load 1 false (.t 62)⟩,⟨some 64,none,.fad 1 (.t 3)⟩,⟨some 65,none,.load 1 false (.t 64)⟩,⟨some 66,none,.call id_ref04_minus [(.t 63),(.t 65)]⟩,⟨some 67,none,.call id_ref04_made [(.t 61),(.t 66)]⟩,⟨some 68,none,.call id_ref04_kept [(.t 67)]⟩,⟨some 69,none,.ext 0 (.t 68)⟩,⟨some 70,none,.ext 1 (.t 68)⟩,⟨none,none,.store 2 (.t 4) (.t 69)⟩,⟨some 5,none,.mv (.t 70)⟩] [[],[],[],[],[],[],[],[],[],[],[],[],[]])
 .ret))))) }
def mf_ref04_kept:MFunc :=
 { n:=10,np:=1,res:=[.cell 2 2 true,.t 3],body :=
 (.seq (.ops [
 ⟨some 1,none,.box 209001 (.t 0)⟩,⟨some 2,none,.alloc 209002 [(.dat (.int .i64 0)),.nil]⟩,⟨some 3,none,.mv (.c (.dat (.int .i64 0)))⟩])
 (.seq (.seq (.ops [
 ⟨some 4,none,.fad 1 (.t 1)⟩,⟨some 5,none,.load 1 false (.t 4)⟩,⟨some 6,none,.len (.t 5)⟩,⟨some 7,none,.bin .gtr (.t 6) (.c (.dat (.int .i64 60)))⟩])
 (.cond (.t 7)
 (.seq (.ops [
 ⟨some 8,none,.build [(.dat (.int .i64 0)),.nil] []⟩,⟨none,none,.store 2 (.t 2) (.t 8)⟩,⟨some 3,none,.mv (.c (.dat (.int .i64 6)))⟩])
 .ret)
 .skip))
 (.seq (.ops [
 ⟨some 9,none,.load 2 true (.t 1)⟩,⟨none,none,.store 2 (.t 2) (.t 9)⟩,⟨some 3,none,.mv (.c (.dat (.int .i64 0)))⟩])
 .ret))) }
def mf_ref04_Same:MFunc :=
 { n:=38,np:=2,res:=[.t 4],body :=
 (.seq (.ops [
 ⟨some 2,none,.box 210002 (.t 0)⟩,⟨some 3,none,.box 210003 (.t 1)⟩,⟨some 4,none,.mv (.c (.dat (.bool false)))⟩])
 (.seq (.seq (.ops [
 ⟨some 6,none,.fad 0 (.t 2)⟩,⟨some 7,none,.load 1 false (.t 6)⟩,⟨some 8,none,.fad 0 (.t 3)⟩,⟨some 9,none,.load 1 false (.t 8)⟩,⟨some 10,none,.bin .neq (.t 7) (.t 9)⟩,⟨some 11,none,.mv (.t 10)⟩,⟨some 12,some (11,false),.fad 1 (.t 2)⟩,⟨some 13,some (11,false),.load 1 false (.t 12)⟩,⟨some 14,some (11,false),.len (.t 13)⟩,⟨some 15,some (11,false),.fad 1 (.t 3)⟩,⟨some 16,some (11,false),.load 1 false (.t 15)⟩,⟨some 17,some (11,false),.len (.t 16)⟩,⟨some 18,some (11,false),.bin .neq (.t 14) (.t 17)⟩,⟨some 19,none,.pick (.t 11) (.c (.dat (.bool true))) (.t 18)⟩])
 (.cond (.t 19)
 (.seq (.ops [
 ⟨some 4,none,.mv (.c (.dat (.bool false)))⟩])
 .ret)
 .skip))
 (.seq (.seq (.ops [
 ⟨some 5,none,.mv (.c (.dat (.int .i64 0)))⟩])
 (.block 0
 (.loop
 (.seq (.seq (.ops [
 ⟨some 20,none,.mv (.t 5)⟩,⟨some 21,none,.fad 1 (.t 2)⟩,⟨some 22,none,.load 1 false (.t 21)⟩,⟨some 23,none,.len (.t 22)⟩,⟨some 24,none,.bin .lss (.t 20) (.t 23)⟩])
 (.cond (.t 24)
 .skip
 (.exit 0)))
 (.seq (.block 1
 (.seq (.opsD [
 ⟨some 27,none,.fad 1 (.t 2)⟩,⟨some 28,none,.load 1 false (.t 27)⟩,⟨some 29,none,.mv (.t 5)⟩,⟨some 30,none,.iad 1 (.t 28) (.t 29)⟩,⟨some 31,none,.load 1 false (.t 30)⟩,⟨some 32,none,.fad 1 (.t 3)⟩,⟨some 33,none,.load 1 false (.t 32)⟩,⟨some 34,none,.mv (.t 5)⟩,⟨some 35,none,.iad 1 (.t 33) (.t 34)⟩,⟨some 36,none,.load 1 false (.t 35)⟩,⟨some 37,none,.bin .neq (.t 31) (.t 36)⟩] [[],[],[],[],[],[],[],[],[],[],[]])
 (.cond (.t 37)
 (.seq (.ops [
 ⟨some 4,none,.mv (.c (.dat (.bool false)))⟩])
 .ret)
 .skip)))
 (.ops [
 ⟨some 25,none,.mv (.t 5)⟩,⟨some 26,none,.bin .add (.t 25) (.c (.dat (.int .i64 1)))⟩,⟨some 5,none,.mv (.t 26)⟩]))))))
 (.seq (.ops [
 ⟨some 4,none,.mv (.c (.dat (.bool true)))⟩])
 .ret)))) }
end Go.Mini
namespace Go.Mini
open Go
set_option maxRecDepth 10000
set_option maxHeartbeats 2000000
theorem lent_ints (l:List Int):lent (.own 1 (l.map i64L))=some (.own 1 (l.map i64L)):=by
 refine if_pos ?_
 rw[List.all_eq_true]
 intro e he
 obtain⟨d,-,rfl⟩:=List.mem_map.1 he
 simp [i64L,scalar]
theorem toD_emp_ref (n k g sz off len:Nat):toD n emp (.ref k g sz off len)=none:=by cases n<;>rfl
noncomputable def F_rtrim:List Data→Option PRes:=FF (α:=List Int) (fun (l:List Int)=>([.sl (l.map i64L)]:List Data)) (fun (l:List Int)=>onlyIf (l.length≤1000000) (.own 1 ((trimL l).map i64L)))
theorem F_rtrim_inj:∀ a b:List Int,(fun (l:List Int)=>([.sl (l.map i64L)]:List Data)) a=(fun (l:List Int)=>([.sl (l.map i64L)]:List Data)) b→a=b:=by
  intro l1 l2 h
  exact map_inj i64L_inj _ _ (by simpa using h)
@[go_sem] theorem F_rtrim_eq (l:List Int) (hc:l.length≤1000000):F_rtrim [.sl (l.map i64L)]=some (.own 1 ((trimL l).map i64L)):=(FF_eq F_rtrim_inj l).trans (onlyIf_pos hc _)
theorem w_rtrim (T:Tab)  (l:List Int) (hc:l.length≤1000000) :
  wp T mf_ref04_trim.body (endS mf_ref04_trim.res (.own 1 ((trimL l).map i64L))) ⟨initTm [.dat (.sl (l.map i64L))],emp⟩:=by
 refine wp_start ?_
 simp only[mf_ref04_trim]
 have hev:((l.map i64L).all fun e=>e.length==1)=true:=by simp [i64L]
 simp only[go_sem,reduceIte,yA,yB,yC,yD,yE,yH,reduceCtorEq,yF,yG,yI,yJ]
 repeat' (first|refine qqA ?_ ?_|refine qqB ?_ ?_|refine qqC ?_ ?_|refine qqD ?_ ?_|refine qqE ?_ ?_|refine qqF ?_ ?_)<;>intro h<;>simp only[h,go_sem,reduceIte,yA,yB,yC,yD,yE,yH,reduceCtorEq,yF,yG,yI,yJ]
 refine wp_loop_keep [0] [] (fun (n:Nat) tm mem=>n≤l.length∧trimL l=trimL (l.take n)∧tm 3 = .dat (.int .i64 n)∧mem 183018=none) (fun n=>n) l.length (by refine⟨Nat.le_refl _,by simp,by simp [go_sem],rfl⟩) ?_
 intro vs ms hvs hms
 simp only[go_sem,reduceIte,yA,yB,yC,yD,yE,yH,reduceCtorEq,yF,yG,yI,yJ] at hvs hms
 subst hvs hms
 rintro n tm mem hk-⟨hn,ht,h3,hm18⟩
 simp only[go_sem,reduceIte,yA,yB,yC,yD,yE,yH,reduceCtorEq,yF,yG,yI,yM] at hk
 have h0:=hk
 have hap:∀ o:List Int,o.length≤l.length→appC 183018 0 1 0 8 o.length ((o.map i64L).flatten.map .dat) (some (0,[]))=some (.ref 183018 1 1 0 o.length,some (183018,1,rowE i64L o)):=by
  intro o ho
  have:=app_rows i64L_len i64L_one 183018 0 8 [] o (by simp;omega) (by simp;omega)
  simpa [rowE] using this
 have hown:∀ (o:List Int) (m:Mem),m 183018=some (1,rowE i64L o)→ownD 1 m (.ref 183018 1 1 0 o.length)=some (o.map i64L):=by
  intro o m hm
  have:=ownD_row hm (Nat.le_refl _)
  rwa [List.take_of_length_le (Nat.le_refl _)] at this
 have hev2:∀ o:List Int,((o.map i64L).all fun e=>e.length==1)=true:=fun o=>by simp [i64L]
 rcases n with _ | n
 ·have h1:=hap [] (by simp)
  have ho:=hown []
  simp only[List.map_nil,List.flatten_nil,List.length_nil] at h1 ho
  simp only[go_sem,reduceIte,yA,yB,yC,yD,yE,yH,reduceCtorEq,yF,yG,yI,h0,h3,hm18,hev,h1,Int.natCast_zero,Int.cast_ofNat_Int,show ¬ ((0:Int)>0) by omega,decide_false,yJ,show (0:Int).toNat=0 from rfl,show (0:Int)≤0 by omega,Nat.zero_le,List.take_zero,List.map_nil,List.length_nil]
  repeat' (first|refine qqA ?_ ?_|refine qqB ?_ ?_|refine qqC ?_ ?_|refine qqD ?_ ?_|refine qqE ?_ ?_|refine qqF ?_ ?_)<;>intro h<;>simp only[h,go_sem,reduceIte,yA,yB,yC,yD,yE,yH,reduceCtorEq,yF,yG,yI,h0,h3,hm18,hev,h1,Int.natCast_zero,Int.cast_ofNat_Int,show ¬ ((0:Int)>0) by omega,decide_false,yJ,show (0:Int).toNat=0 from rfl,show (0:Int)≤0 by omega,Nat.zero_le,List.take_zero,List.map_nil,List.length_nil]
  rw[ho _ (by simp [updM]),ht]
  simp [trimL]
 ·have hw:IntKind.i64.wrap (((n+1:Nat):Int)-1)=(n:Int):=by rw[wrap64 _ (by omega) (by omega)];omega
  have hx:l[n]?=some l[n]:=yL (by omega)
  have hpos:((n+1:Nat):Int)>0:=by omega
  have hle:n+1≤l.length:=hn
  by_cases hz:l[n]=0
  ·simp only[go_sem,reduceIte,yA,yB,yC,yD,yE,yH,reduceCtorEq,yF,yG,yI,h0,h3,hw,hx,hz,hpos,yJ,yK,decide_true,i64L,beq_self_eq_true,yM]
   repeat' (first|refine qqA ?_ ?_|refine qqB ?_ ?_|refine qqC ?_ ?_|refine qqD ?_ ?_|refine qqE ?_ ?_|refine qqF ?_ ?_)<;>intro h<;>simp only[h,go_sem,reduceIte,yA,yB,yC,yD,yE,yH,reduceCtorEq,yF,yG,yI,h0,h3,hw,hx,hz,hpos,yJ,yK,decide_true,i64L,beq_self_eq_true,yM]
   exact⟨n,by omega,by omega,by rw[ht,trim_take l n (by omega) hz],rfl,hm18⟩
  ·have hzf:(l[n]==0)=false:=by simpa using hz
   have h1:=hap (l.take (n+1)) (by rw[List.length_take];omega)
   rw[List.length_take,Nat.min_eq_left hle,List.map_take] at h1
   have hl2:(List.take (n+1) (l.map i64L)).length=n+1:=by rw[List.length_take,yJ];omega
   have hev3:=hev2 (l.take (n+1))
   rw[List.map_take] at hev3
   simp only[go_sem,reduceIte,yA,yB,yC,yD,yE,yH,reduceCtorEq,yF,yG,yI,h0,h3,hm18,hw,hx,hzf,hpos,hev,hev3,hle,h1,hl2,i64L,yJ,yK,decide_true,yM,show (0:Int)≤((n+1:Nat):Int) by omega,Int.toNat_natCast,Nat.zero_le]
   repeat' (first|refine qqA ?_ ?_|refine qqB ?_ ?_|refine qqC ?_ ?_|refine qqD ?_ ?_|refine qqE ?_ ?_|refine qqF ?_ ?_)<;>intro h<;>simp only[h,go_sem,reduceIte,yA,yB,yC,yD,yE,yH,reduceCtorEq,yF,yG,yI,h0,h3,hm18,hw,hx,hzf,hpos,hev,hev3,hle,h1,hl2,i64L,yJ,yK,decide_true,yM,show (0:Int)≤((n+1:Nat):Int) by omega,Int.toNat_natCast,Nat.zero_le]
   have ho:=hown (l.take (n+1)) _ (show updM (updM mem 183018 0 []) 183018 1 (rowE i64L (List.take (n+1) l)) 183018=_ by simp [updM])
   rw[List.length_take,Nat.min_eq_left hle] at ho
   rw[ho,ht,trim_stop l n (by omega) hz]
noncomputable def F_rdigit:List Data→Option PRes:=FF (α:=(List Int) × Nat) (fun (l,i)=>([.sl (l.map i64L),.int .i64 i]:List Data)) (fun (l,i)=>onlyIf (l.length≤1000000) (.same (.int .i64 (l.getD i 0))))
theorem F_rdigit_inj:∀ a b:(List Int) × Nat,(fun (l,i)=>([.sl (l.map i64L),.int .i64 i]:List Data)) a=(fun (l,i)=>([.sl (l.map i64L),.int .i64 i]:List Data)) b→a=b:=by
  rintro⟨l1,i1⟩ ⟨l2,i2⟩ h
  simp only[yM,Data.sl.injEq,Data.int.injEq] at h;exact Prod.ext (map_inj i64L_inj _ _ h.1) (by have:=h.2.1.2;dsimp only;omega)
@[go_sem] theorem F_rdigit_eq (l:List Int) (i:Nat) (hc:l.length≤1000000):F_rdigit [.sl (l.map i64L),.int .i64 i]=some (.same (.int .i64 (l.getD i 0))):=(FF_eq F_rdigit_inj (l,i)).trans (onlyIf_pos hc _)
theorem w_rdigit (T:Tab)  (l:List Int) (i:Nat) (hc:l.length≤1000000) :
  wp T mf_ref04_digit.body (endS mf_ref04_digit.res (.same (.int .i64 (l.getD i 0)))) ⟨initTm [.dat (.sl (l.map i64L)),.dat (.int .i64 i)],emp⟩:=by
 refine wp_start ?_
 simp only[mf_ref04_digit]
 rcases Nat.lt_or_ge i l.length with hlt | hge
 ·have hx:=yL hlt
  have hd:decide ((i:Int)<(l.length:Int))=true:=decide_eq_true (by omega)
  have hg:l.getD i 0=l[i]:=by rw[List.getD_eq_getElem?_getD,hx];rfl
  rw[hg]
  simp only[go_sem,reduceIte,yA,yB,yC,yD,yE,yH,reduceCtorEq,yF,yG,yI,hx,hd,i64L,yJ,yK]
  repeat' (first|refine qqA ?_ ?_|refine qqB ?_ ?_|refine qqC ?_ ?_|refine qqD ?_ ?_|refine qqE ?_ ?_|refine qqF ?_ ?_)<;>intro h<;>simp only[h,go_sem,reduceIte,yA,yB,yC,yD,yE,yH,reduceCtorEq,yF,yG,yI,hx,hd,i64L,yJ,yK]
 ·have hd:decide ((i:Int)<(l.length:Int))=false:=decide_eq_false (by omega)
  have hg:l.getD i 0=0:=by rw[List.getD_eq_getElem?_getD,List.getElem?_eq_none hge];rfl
  rw[hg]
  simp only[go_sem,reduceIte,yA,yB,yC,yD,yE,yH,reduceCtorEq,yF,yG,yI,hd,yJ]
  repeat' (first|refine qqA ?_ ?_|refine qqB ?_ ?_|refine qqC ?_ ?_|refine qqD ?_ ?_|refine qqE ?_ ?_|refine qqF ?_ ?_)<;>intro h<;>simp only[h,go_sem,reduceIte,yA,yB,yC,yD,yE,yH,reduceCtorEq,yF,yG,yI,hd,yJ]
theorem dg_get (n i:Nat):(dg n).getD i 0=((n / 1048576^i % 1048576:Nat):Int):=by
 induction i generalizing n with
 | zero =>
  rcases Nat.eq_zero_or_pos n with h | h
  ·subst h;rfl
  ·rw[dg_pos h,Nat.pow_zero,Nat.div_one];rfl
 | succ i ih =>
  rcases Nat.eq_zero_or_pos n with h | h
  ·subst h;rw[Nat.zero_div];rfl
  ·rw[dg_pos h]
   show (dg (n / 1048576)).getD i 0=_
   rw[ih,Nat.div_div_eq_div_mul,←Nat.pow_succ']
theorem div_step (n i:Nat):n / 1048576^i=n / 1048576^i % 1048576+1048576*(n / 1048576^(i+1)):=by
 rw[Nat.pow_succ,←Nat.div_div_eq_div_mul]
 omega
theorem div_big {n k:Nat} (h:(dg n).length≤k):n / 1048576^k=0:=Nat.div_eq_of_lt (dg_len.1 h)
noncomputable def F_rless:List Data→Option PRes:=FF (α:=Nat × Nat) (fun (x,y)=>([digs x,digs y]:List Data)) (fun (x,y)=>onlyIf ((dg x).length≤100000∧(dg y).length≤100000) (.same (.bool (decide (x<y)))))
theorem F_rless_inj:∀ a b:Nat × Nat,(fun (x,y)=>([digs x,digs y]:List Data)) a=(fun (x,y)=>([digs x,digs y]:List Data)) b→a=b:=by
  rintro⟨x1,y1⟩ ⟨x2,y2⟩ h
  simp only[yM,digs,Data.sl.injEq] at h;exact Prod.ext (dg_inj (map_inj i64L_inj _ _ h.1)) (dg_inj (map_inj i64L_inj _ _ h.2.1))
@[go_sem] theorem F_rless_eq (x:Nat) (y:Nat) (hc:(dg x).length≤100000∧(dg y).length≤100000):F_rless [digs x,digs y]=some (.same (.bool (decide (x<y)))):=(FF_eq F_rless_inj (x,y)).trans (onlyIf_pos hc _)
theorem w_rless (T:Tab) (h_rdigit:T id_ref04_digit=mkE F_rdigit) (x:Nat) (y:Nat) (hc:(dg x).length≤100000∧(dg y).length≤100000) :
  wp T mf_ref04_less.body (endS mf_ref04_less.res (.same (.bool (decide (x<y))))) ⟨initTm [.dat (digs x),.dat (digs y)],emp⟩:=by
 refine wp_start ?_
 simp only[mf_ref04_less]
 obtain⟨hx,hy⟩:=hc
 have hM:∃ M:Nat,M=max (dg x).length (dg y).length:=⟨_,rfl⟩
 obtain⟨M,hM⟩:=hM
 have hmx:(if ((dg y).length:Int)>((dg x).length:Int) then ((dg y).length:Int) else ((dg x).length:Int))=(M:Int):=by split<;>omega
 have hw0:IntKind.i64.wrap ((M:Int)-1)=(M:Int)-1:=wrap64 _ (by omega) (by omega)
 have hlx:(dg x).length≤1000000:=by omega
 have hly:(dg y).length≤1000000:=by omega
 simp only[go_sem,reduceIte,yA,yB,yC,yD,yE,yH,reduceCtorEq,yF,yG,yI,h_rdigit,digs,yJ,hmx,hw0]
 refine wp_loop_keep [0,1] [] (fun (i:Nat) tm mem=>i≤M∧x / 1048576^i=y / 1048576^i∧tm 5 = .dat (.int .i64 ((i:Int)-1))) (fun i=>i) M (by refine⟨Nat.le_refl _,?_,rfl⟩;rw[div_big (by omega),div_big (by omega)]) ?_
 intro vs ms hvs hms
 simp only[go_sem,reduceIte,yA,yB,yC,yD,yE,yH,reduceCtorEq,yF,yG,yI,h_rdigit,digs] at hvs hms
 subst hvs hms
 rintro i tm mem hk-⟨hi,he,h5⟩
 simp only[go_sem,reduceIte,yA,yB,yC,yD,yE,yH,reduceCtorEq,yF,yG,yI,h_rdigit,yM] at hk
 obtain⟨h0,h1⟩:=hk
 rcases i with _ | i
 ·have hxy:x=y:=by simpa using he
  have hlt:decide (x<y)=false:=decide_eq_false (by omega)
  rw[hlt]
  simp only[go_sem,reduceIte,yA,yB,yC,yD,yE,yH,reduceCtorEq,yF,yG,yI,h_rdigit,h0,h1,h5,Int.natCast_zero,Int.cast_ofNat_Int,show ¬ ((0:Int)-1≥0) by omega,decide_false]
  repeat' (first|refine qqA ?_ ?_|refine qqB ?_ ?_|refine qqC ?_ ?_|refine qqD ?_ ?_|refine qqE ?_ ?_|refine qqF ?_ ?_)<;>intro h<;>simp only[h,go_sem,reduceIte,yA,yB,yC,yD,yE,yH,reduceCtorEq,yF,yG,yI,h_rdigit,h0,h1,h5,Int.natCast_zero,Int.cast_ofNat_Int,show ¬ ((0:Int)-1≥0) by omega,decide_false]
 ·have hw:((i+1:Nat):Int)-1=(i:Int):=by omega
  have hge:decide ((i:Int)≥0)=true:=decide_eq_true (by omega)
  have e1:=div_step x i
  have e2:=div_step y i
  rw[he] at e1
  have hw2:IntKind.i64.wrap ((i:Int)-1)=(i:Int)-1:=wrap64 _ (by omega) (by omega)
  have g1:=dg_get x i
  have g2:=dg_get y i
  have b1:=Nat.mod_lt (x / 1048576^i) (show 0<1048576 by omega)
  have b2:=Nat.mod_lt (y / 1048576^i) (show 0<1048576 by omega)
  have hl1:x / 1048576^i<y / 1048576^i→x<y:=fun h=>Nat.lt_of_div_lt_div h
  have hl2:y / 1048576^i<x / 1048576^i→y<x:=fun h=>Nat.lt_of_div_lt_div h
  generalize hX:x / 1048576^i=X at *
  generalize hY:y / 1048576^i=Y at *
  generalize y / 1048576^(i+1)=Z at *
  generalize X % 1048576=a at *
  generalize Y % 1048576=b at *
  rcases Nat.lt_trichotomy a b with h | h | h
  ·have hne:((a:Int)==(b:Int))=false:=by simp;omega
   have hab:decide ((a:Int)<(b:Int))=decide (x<y):=by rw[decide_eq_true (show (a:Int)<(b:Int) by omega),decide_eq_true (hl1 (by omega))]
   simp only[go_sem,reduceIte,yA,yB,yC,yD,yE,yH,reduceCtorEq,yF,yG,yI,h_rdigit,h0,h1,h5,hw,hge,g1,g2,hlx,hly,hne,hab]
   repeat' (first|refine qqA ?_ ?_|refine qqB ?_ ?_|refine qqC ?_ ?_|refine qqD ?_ ?_|refine qqE ?_ ?_|refine qqF ?_ ?_)<;>intro h<;>simp only[h,go_sem,reduceIte,yA,yB,yC,yD,yE,yH,reduceCtorEq,yF,yG,yI,h_rdigit,h0,h1,h5,hw,hge,g1,g2,hlx,hly,hne,hab]
  ·subst h
   simp only[go_sem,reduceIte,yA,yB,yC,yD,yE,yH,reduceCtorEq,yF,yG,yI,h_rdigit,h0,h1,h5,hw,hge,g1,g2,hlx,hly,hw2,beq_self_eq_true]
   repeat' (first|refine qqA ?_ ?_|refine qqB ?_ ?_|refine qqC ?_ ?_|refine qqD ?_ ?_|refine qqE ?_ ?_|refine qqF ?_ ?_)<;>intro h<;>simp only[h,go_sem,reduceIte,yA,yB,yC,yD,yE,yH,reduceCtorEq,yF,yG,yI,h_rdigit,h0,h1,h5,hw,hge,g1,g2,hlx,hly,hw2,beq_self_eq_true]
   exact⟨i,by omega,by omega,by rw[hX,hY];omega,rfl⟩
  ·have hne:((a:Int)==(b:Int))=false:=by simp;omega
   have hab:decide ((a:Int)<(b:Int))=decide (x<y):=by rw[decide_eq_false (show ¬ (a:Int)<(b:Int) by omega),decide_eq_false (by have:=hl2 (by omega);omega)]
   simp only[go_sem,reduceIte,yA,yB,yC,yD,yE,yH,reduceCtorEq,yF,yG,yI,h_rdigit,h0,h1,h5,hw,hge,g1,g2,hlx,hly,hne,hab]
   repeat' (first|refine qqA ?_ ?_|refine qqB ?_ ?_|refine qqC ?_ ?_|refine qqD ?_ ?_|refine qqE ?_ ?_|refine qqF ?_ ?_)<;>intro h<;>simp only[h,go_sem,reduceIte,yA,yB,yC,yD,yE,yH,reduceCtorEq,yF,yG,yI,h_rdigit,h0,h1,h5,hw,hge,g1,g2,hlx,hly,hne,hab]
/-! ### plus -/
theorem isD_snoc {o:List Int} {d:Int} (h:isD o) (h0:0≤d) (h1:d<1048576):isD (o++[d]):=isD_append.2 ⟨h,isD_cons.2 ⟨⟨h0,h1⟩,by intro d hd;cases hd⟩⟩
theorem vl_snoc (o:List Int) (d:Int):vl (o++[d])=vl o+1048576^o.length*d:=by rw[vl_append];simp [vl]
theorem nat_trim {o:List Int} {n:Nat} (h:isD o) (hv:vl o=n):trimL o=dg n:=by rw[trimL_dg h,hv];rfl
noncomputable def F_rplus:List Data→Option PRes:=FF (α:=Nat × Nat) (fun (x,y)=>([digs x,digs y]:List Data)) (fun (x,y)=>onlyIf ((dg x).length≤10000∧(dg y).length≤10000) (.same (digs (x+y))))
theorem F_rplus_inj:∀ a b:Nat × Nat,(fun (x,y)=>([digs x,digs y]:List Data)) a=(fun (x,y)=>([digs x,digs y]:List Data)) b→a=b:=by
  rintro⟨x1,y1⟩ ⟨x2,y2⟩ h
  simp only[yM,digs,Data.sl.injEq] at h;exact Prod.ext (dg_inj (map_inj i64L_inj _ _ h.1)) (dg_inj (map_inj i64L_inj _ _ h.2.1))
@[go_sem] theorem F_rplus_eq (x:Nat) (y:Nat) (hc:(dg x).length≤10000∧(dg y).length≤10000):F_rplus [digs x,digs y]=some (.same (digs (x+y))):=(FF_eq F_rplus_inj (x,y)).trans (onlyIf_pos hc _)
theorem w_rplus (T:Tab) (h_rdigit:T id_ref04_digit=mkE F_rdigit) (h_rtrim:T id_ref04_trim=mkE F_rtrim) (x:Nat) (y:Nat) (hc:(dg x).length≤10000∧(dg y).length≤10000) :
  wp T mf_ref04_plus.body (endS mf_ref04_plus.res (.same (digs (x+y)))) ⟨initTm [.dat (digs x),.dat (digs y)],emp⟩:=by
 refine wp_start ?_
 simp only[mf_ref04_plus]
 obtain⟨hx,hy⟩:=hc
 have hM:∃ M:Nat,M=max (dg x).length (dg y).length:=⟨_,rfl⟩
 obtain⟨M,hM⟩:=hM
 have hlx:(dg x).length≤1000000:=by omega
 have hly:(dg y).length≤1000000:=by omega
 simp only[go_sem,reduceIte,yA,yB,yC,yD,yE,yH,reduceCtorEq,yF,yG,yI,h_rdigit,h_rtrim,digs,yJ]
 refine wp_loop_keep [0,1] [] (fun ((i,c,g,o):Nat × Nat × Nat × List Int) tm mem=>i≤M+1∧c≤1∧(i=M+1→c=0)∧o.length=i∧isD o∧vl o+1048576^i*((x / 1048576^i+y / 1048576^i+c:Nat):Int)=((x+y:Nat):Int)∧tm 6 = .dat (.int .i64 c)∧tm 7 = .dat (.int .i64 i)∧tm 5 = .ref 181038 g 1 0 i∧mem 181038=some (g,rowE i64L o)) (fun (i,_)=>M+1-i) (0,0,0,[]) (by refine⟨by omega,by omega,by simp,rfl,by simp [isD],by simp [vl],rfl,rfl,rfl,rfl⟩) ?_
 intro vs ms hvs hms
 simp only[go_sem,reduceIte,yA,yB,yC,yD,yE,yH,reduceCtorEq,yF,yG,yI,h_rdigit,h_rtrim,digs] at hvs hms
 subst hvs hms
 rintro⟨i,c,g,o⟩ tm mem hk-⟨hi,hc1,hce,ho,hdo,hv,h6,h7,h5,hm⟩
 simp only[go_sem,reduceIte,yA,yB,yC,yD,yE,yH,reduceCtorEq,yF,yG,yI,h_rdigit,h_rtrim,yM] at hk
 obtain⟨h0,h1⟩:=hk
 have hp:vl o+1048576^i*((x / 1048576^i+y / 1048576^i+c:Nat):Int)=((x+y:Nat):Int):=hv
 by_cases hgo:i<(dg x).length∨i<(dg y).length∨0<c
 ·have e1:=div_step x i
  have e2:=div_step y i
  have g1:=dg_get x i
  have g2:=dg_get y i
  have b1:=Nat.mod_lt (x / 1048576^i) (show 0<1048576 by omega)
  have b2:=Nat.mod_lt (y / 1048576^i) (show 0<1048576 by omega)
  have hlast:M≤i→x / 1048576^i=0∧y / 1048576^i=0:=fun h=>⟨div_big (by omega),div_big (by omega)⟩
  have hps:(1048576:Int)^(i+1)=1048576^i*1048576:=Int.pow_succ _ _
  generalize hX:x / 1048576^i=X at *
  generalize hY:y / 1048576^i=Y at *
  generalize hX':x / 1048576^(i+1)=X' at *
  generalize hY':y / 1048576^(i+1)=Y' at *
  generalize ha:X % 1048576=a at *
  generalize hb:Y % 1048576=b at *
  have w1:IntKind.i64.wrap ((a:Int)+(b:Int))=((a+b:Nat):Int):=by rw[wrap64 _ (by omega) (by omega)];omega
  have w2:IntKind.i64.wrap (((a+b:Nat):Int)+(c:Int))=((a+b+c:Nat):Int):=by rw[wrap64 _ (by omega) (by omega)];omega
  have q1:((a+b+c:Nat):Int).tmod 1048576=(((a+b+c) % 1048576:Nat):Int):=by rw[Int.tmod_eq_emod_of_nonneg (by omega)];omega
  have q2:IntKind.i64.wrap (((a+b+c:Nat):Int).tdiv 1048576)=(((a+b+c) / 1048576:Nat):Int):=by rw[Int.tdiv_eq_ediv_of_nonneg (by omega),wrap64 _ (by omega) (by omega)];omega
  have w3:IntKind.i64.wrap ((i:Int)+1)=((i+1:Nat):Int):=by rw[wrap64 _ (by omega) (by omega)];omega
  have hap:=app_row i64L_len i64L_one 181038 g 8 o (((a+b+c) % 1048576:Nat):Int) (cs:=[.dat (.int .i64 (((a+b+c) % 1048576:Nat):Int))]) rfl (by omega) (by omega)
  rw[ho] at hap
  have hiM:i≤M:=by
   rcases Nat.lt_or_ge M i with h | h
   ·have:=hce (by omega);omega
   ·exact h
  have hfin:∃ i':Nat × Nat × Nat × List Int,M+1-i'.1<M+1-i∧i'.1≤M+1∧i'.2.1≤1∧(i'.1=M+1→i'.2.1=0)∧i'.2.2.2.length=i'.1∧isD i'.2.2.2∧vl i'.2.2.2+1048576^i'.1*((x / 1048576^i'.1+y / 1048576^i'.1+i'.2.1:Nat):Int)=((x+y:Nat):Int)∧MV.dat (Data.int .i64 (((a+b+c) / 1048576:Nat):Int))=MV.dat (Data.int .i64 (i'.2.1:Int))∧MV.dat (Data.int .i64 ((i+1:Nat):Int))=MV.dat (Data.int .i64 (i'.1:Int))∧MV.ref 181038 (g+1) 1 0 (i+1)=MV.ref 181038 i'.2.2.1 1 0 i'.1∧some (g+1,rowE i64L (o++[(((a+b+c) % 1048576:Nat):Int)]))=some (i'.2.2.1,rowE i64L i'.2.2.2):=by
   refine⟨(i+1,(a+b+c) / 1048576,g+1,o++[(((a+b+c) % 1048576:Nat):Int)]),by dsimp only;omega,by dsimp only;omega,by dsimp only;omega,?_,by simp [ho],isD_snoc hdo (by omega) (by omega),?_,rfl,rfl,rfl,rfl⟩
   ·intro h
    dsimp only at h ⊢
    have:=hlast (by omega)
    omega
   ·dsimp only
    rw[hX',hY',vl_snoc,ho,hps,←hp]
    have e3:((X+Y+c:Nat):Int)=1048576*((X'+Y'+(a+b+c) / 1048576:Nat):Int)+(((a+b+c) % 1048576:Nat):Int):=by omega
    rw[e3,Int.mul_add,Int.mul_assoc]
    omega
  by_cases h1':i<(dg x).length
  ·have d1:decide ((i:Int)<((dg x).length:Int))=true:=decide_eq_true (by omega)
   simp only[go_sem,reduceIte,yA,yB,yC,yD,yE,yH,reduceCtorEq,yF,yG,yI,h_rdigit,h_rtrim,h0,h1,h5,h6,h7,hm,g1,g2,hlx,hly,d1,w1,w2,q1,q2,w3,hap,yJ]
   repeat' (first|refine qqA ?_ ?_|refine qqB ?_ ?_|refine qqC ?_ ?_|refine qqD ?_ ?_|refine qqE ?_ ?_|refine qqF ?_ ?_)<;>intro h<;>simp only[h,go_sem,reduceIte,yA,yB,yC,yD,yE,yH,reduceCtorEq,yF,yG,yI,h_rdigit,h_rtrim,h0,h1,h5,h6,h7,hm,g1,g2,hlx,hly,d1,w1,w2,q1,q2,w3,hap,yJ]
   exact hfin
  ·have d1:decide ((i:Int)<((dg x).length:Int))=false:=decide_eq_false (by omega)
   by_cases h2':i<(dg y).length
   ·have d2:decide ((i:Int)<((dg y).length:Int))=true:=decide_eq_true (by omega)
    simp only[go_sem,reduceIte,yA,yB,yC,yD,yE,yH,reduceCtorEq,yF,yG,yI,h_rdigit,h_rtrim,h0,h1,h5,h6,h7,hm,g1,g2,hlx,hly,d1,d2,w1,w2,q1,q2,w3,hap,yJ]
    repeat' (first|refine qqA ?_ ?_|refine qqB ?_ ?_|refine qqC ?_ ?_|refine qqD ?_ ?_|refine qqE ?_ ?_|refine qqF ?_ ?_)<;>intro h<;>simp only[h,go_sem,reduceIte,yA,yB,yC,yD,yE,yH,reduceCtorEq,yF,yG,yI,h_rdigit,h_rtrim,h0,h1,h5,h6,h7,hm,g1,g2,hlx,hly,d1,d2,w1,w2,q1,q2,w3,hap,yJ]
    exact hfin
   ·have d2:decide ((i:Int)<((dg y).length:Int))=false:=decide_eq_false (by omega)
    have d3:decide ((c:Int)>0)=true:=decide_eq_true (by omega)
    simp only[go_sem,reduceIte,yA,yB,yC,yD,yE,yH,reduceCtorEq,yF,yG,yI,h_rdigit,h_rtrim,h0,h1,h5,h6,h7,hm,g1,g2,hlx,hly,d1,d2,d3,w1,w2,q1,q2,w3,hap,yJ]
    repeat' (first|refine qqA ?_ ?_|refine qqB ?_ ?_|refine qqC ?_ ?_|refine qqD ?_ ?_|refine qqE ?_ ?_|refine qqF ?_ ?_)<;>intro h<;>simp only[h,go_sem,reduceIte,yA,yB,yC,yD,yE,yH,reduceCtorEq,yF,yG,yI,h_rdigit,h_rtrim,h0,h1,h5,h6,h7,hm,g1,g2,hlx,hly,d1,d2,d3,w1,w2,q1,q2,w3,hap,yJ]
    exact hfin
 ·have d1:decide ((i:Int)<((dg x).length:Int))=false:=decide_eq_false (by omega)
  have d2:decide ((i:Int)<((dg y).length:Int))=false:=decide_eq_false (by omega)
  have d3:decide ((c:Int)>0)=false:=decide_eq_false (by omega)
  rw[div_big (n:=x) (by omega),div_big (n:=y) (by omega),show c=0 by omega] at hp
  have hT:=F_rtrim_eq o (by omega)
  rw[nat_trim (n:=x+y) hdo (by simpa using hp)] at hT
  have hL:=lent_ints (dg (x+y))
  have hD:=toD_row (n:=5) i64L_len hm
  rw[ho] at hD
  simp only[go_sem,reduceIte,yA,yB,yC,yD,yE,yH,reduceCtorEq,yF,yG,yI,h_rdigit,h_rtrim,h0,h1,h5,h6,h7,hm,d1,d2,d3,hT,hL,hD,toD_emp_ref,Option.bind_none,yJ]
  repeat' (first|refine qqA ?_ ?_|refine qqB ?_ ?_|refine qqC ?_ ?_|refine qqD ?_ ?_|refine qqE ?_ ?_|refine qqF ?_ ?_)<;>intro h<;>simp only[h,go_sem,reduceIte,yA,yB,yC,yD,yE,yH,reduceCtorEq,yF,yG,yI,h_rdigit,h_rtrim,h0,h1,h5,h6,h7,hm,d1,d2,d3,hT,hL,hD,toD_emp_ref,Option.bind_none,yJ]
/-! ### minus -/
noncomputable def F_rminus:List Data→Option PRes:=FF (α:=Nat × Nat) (fun (x,y)=>([digs x,digs y]:List Data)) (fun (x,y)=>onlyIf ((dg x).length≤10000∧(dg y).length≤10000∧y≤x) (.same (digs (x-y))))
theorem F_rminus_inj:∀ a b:Nat × Nat,(fun (x,y)=>([digs x,digs y]:List Data)) a=(fun (x,y)=>([digs x,digs y]:List Data)) b→a=b:=by
  rintro⟨x1,y1⟩ ⟨x2,y2⟩ h
  simp only[yM,digs,Data.sl.injEq] at h;exact Prod.ext (dg_inj (map_inj i64L_inj _ _ h.1)) (dg_inj (map_inj i64L_inj _ _ h.2.1))
@[go_sem] theorem F_rminus_eq (x:Nat) (y:Nat) (hc:(dg x).length≤10000∧(dg y).length≤10000∧y≤x):F_rminus [digs x,digs y]=some (.same (digs (x-y))):=(FF_eq F_rminus_inj (x,y)).trans (onlyIf_pos hc _)
theorem w_rminus (T:Tab) (h_rdigit:T id_ref04_digit=mkE F_rdigit) (h_rtrim:T id_ref04_trim=mkE F_rtrim) (x:Nat) (y:Nat) (hc:(dg x).length≤10000∧(dg y).length≤10000∧y≤x) :
  wp T mf_ref04_minus.body (endS mf_ref04_minus.res (.same (digs (x-y)))) ⟨initTm [.dat (digs x),.dat (digs y)],emp⟩:=by
 refine wp_start ?_
 simp only[mf_ref04_minus]
 obtain⟨hx,hy,hxy⟩:=hc
 have hlx:(dg x).length≤1000000:=by omega
 have hly:(dg y).length≤1000000:=by omega
 have hyx:(dg y).length≤(dg x).length:=by rw[dg_len];exact Nat.lt_of_le_of_lt hxy (dg_len.1 (Nat.le_refl _))
 simp only[go_sem,reduceIte,yA,yB,yC,yD,yE,yH,reduceCtorEq,yF,yG,yI,h_rdigit,h_rtrim,digs,yJ]
 refine wp_loop_keep [0,1] [] (fun ((i,c,g,o):Nat × Nat × Nat × List Int) tm mem=>i≤(dg x).length∧c≤1∧y / 1048576^i+c≤x / 1048576^i∧o.length=i∧isD o∧vl o+1048576^i*((x / 1048576^i-(y / 1048576^i+c):Nat):Int)=((x-y:Nat):Int)∧tm 6 = .dat (.int .i64 c)∧tm 7 = .dat (.int .i64 i)∧tm 5 = .ref 182032 g 1 0 i∧mem 182032=some (g,rowE i64L o)) (fun (i,_)=>(dg x).length-i) (0,0,0,[]) (by refine⟨by omega,by omega,by simpa using hxy,rfl,by simp [isD],by simp [vl],rfl,rfl,rfl,rfl⟩) ?_
 intro vs ms hvs hms
 simp only[go_sem,reduceIte,yA,yB,yC,yD,yE,yH,reduceCtorEq,yF,yG,yI,h_rdigit,h_rtrim,digs] at hvs hms
 subst hvs hms
 rintro⟨i,c,g,o⟩ tm mem hk-⟨hi,hc1,hle,ho,hdo,hv,h6,h7,h5,hm⟩
 simp only[go_sem,reduceIte,yA,yB,yC,yD,yE,yH,reduceCtorEq,yF,yG,yI,h_rdigit,h_rtrim,yM] at hk
 obtain⟨h0,h1⟩:=hk
 have hp:vl o+1048576^i*((x / 1048576^i-(y / 1048576^i+c):Nat):Int)=((x-y:Nat):Int):=hv
 have hle':y / 1048576^i+c≤x / 1048576^i:=hle
 by_cases hgo:i<(dg x).length
 ·have d1:decide ((i:Int)<((dg x).length:Int))=true:=decide_eq_true (by omega)
  have e1:=div_step x i
  have e2:=div_step y i
  have g1:=dg_get x i
  rw[List.getD_eq_getElem?_getD,yL hgo] at g1
  have gx:(dg x)[i]?=some ((x / 1048576^i % 1048576:Nat):Int):=by rw[yL hgo];exact congrArg some g1
  have g2:=dg_get y i
  have b1:=Nat.mod_lt (x / 1048576^i) (show 0<1048576 by omega)
  have b2:=Nat.mod_lt (y / 1048576^i) (show 0<1048576 by omega)
  have hps:(1048576:Int)^(i+1)=1048576^i*1048576:=Int.pow_succ _ _
  clear g1 hle hv
  generalize hX:x / 1048576^i=X at *
  generalize hY:y / 1048576^i=Y at *
  generalize hX':x / 1048576^(i+1)=X' at *
  generalize hY':y / 1048576^(i+1)=Y' at *
  generalize ha:X % 1048576=a at *
  generalize hb:Y % 1048576=b at *
  have w1:IntKind.i64.wrap ((a:Int)-(b:Int))=(a:Int)-(b:Int):=wrap64 _ (by omega) (by omega)
  have w2:IntKind.i64.wrap ((a:Int)-(b:Int)-(c:Int))=(a:Int)-(b:Int)-(c:Int):=wrap64 _ (by omega) (by omega)
  have w3:IntKind.i64.wrap ((i:Int)+1)=((i+1:Nat):Int):=by rw[wrap64 _ (by omega) (by omega)];omega
  have w4:IntKind.i64.wrap ((a:Int)-(b:Int)-(c:Int)+1048576)=(a:Int)-(b:Int)-(c:Int)+1048576:=wrap64 _ (by omega) (by omega)
  have hap:=fun d:Int=>app_row i64L_len i64L_one 182032 g 8 o d (cs:=[.dat (.int .i64 d)]) rfl (by omega) (by omega)
  rw[ho] at hap
  rcases hneg:decide ((a:Int)-(b:Int)-(c:Int)<0)
  ·have hn:=of_decide_eq_false hneg
   simp only[go_sem,reduceIte,yA,yB,yC,yD,yE,yH,reduceCtorEq,yF,yG,yI,h_rdigit,h_rtrim,h0,h1,h5,h6,h7,hm,gx,g2,hly,d1,w1,w2,w3,hap,hneg,i64L,yJ,yK]
   repeat' (first|refine qqA ?_ ?_|refine qqB ?_ ?_|refine qqC ?_ ?_|refine qqD ?_ ?_|refine qqE ?_ ?_|refine qqF ?_ ?_)<;>intro h<;>simp only[h,go_sem,reduceIte,yA,yB,yC,yD,yE,yH,reduceCtorEq,yF,yG,yI,h_rdigit,h_rtrim,h0,h1,h5,h6,h7,hm,gx,g2,hly,d1,w1,w2,w3,hap,hneg,i64L,yJ,yK]
   refine⟨(i+1,0,g+1,o++[(a:Int)-(b:Int)-(c:Int)]),by dsimp only;omega,by dsimp only;omega,by dsimp only;omega,by dsimp only;rw[hX',hY'];omega,by simp [ho],isD_snoc hdo (by omega) (by omega),?_,rfl,rfl,rfl,rfl⟩
   dsimp only
   rw[hX',hY',vl_snoc,ho,hps,←hp]
   have e3:((X-(Y+c):Nat):Int)=1048576*((X'-(Y'+0):Nat):Int)+((a:Int)-b-c):=by omega
   rw[e3,Int.mul_add,Int.mul_assoc]
   omega
  ·have hn:=of_decide_eq_true hneg
   simp only[go_sem,reduceIte,yA,yB,yC,yD,yE,yH,reduceCtorEq,yF,yG,yI,h_rdigit,h_rtrim,h0,h1,h5,h6,h7,hm,gx,g2,hly,d1,w1,w2,w3,w4,hap,hneg,i64L,yJ,yK]
   repeat' (first|refine qqA ?_ ?_|refine qqB ?_ ?_|refine qqC ?_ ?_|refine qqD ?_ ?_|refine qqE ?_ ?_|refine qqF ?_ ?_)<;>intro h<;>simp only[h,go_sem,reduceIte,yA,yB,yC,yD,yE,yH,reduceCtorEq,yF,yG,yI,h_rdigit,h_rtrim,h0,h1,h5,h6,h7,hm,gx,g2,hly,d1,w1,w2,w3,w4,hap,hneg,i64L,yJ,yK]
   refine⟨(i+1,1,g+1,o++[(a:Int)-(b:Int)-(c:Int)+1048576]),by dsimp only;omega,by dsimp only;omega,by dsimp only;omega,by dsimp only;rw[hX',hY'];omega,by simp [ho],isD_snoc hdo (by omega) (by omega),?_,rfl,rfl,rfl,rfl⟩
   dsimp only
   rw[hX',hY',vl_snoc,ho,hps,←hp]
   have e3:((X-(Y+c):Nat):Int)=1048576*((X'-(Y'+1):Nat):Int)+((a:Int)-b-c+1048576):=by omega
   have e4:∀ p D E:Int,vl o+p*D+p*1048576*E=vl o+p*(1048576*E+D):=fun p D E=>by rw[Int.mul_add p (1048576*E) D,←Int.mul_assoc];omega
   rw[e3]
   exact e4 _ _ _
 ·have d1:decide ((i:Int)<((dg x).length:Int))=false:=decide_eq_false (by omega)
  rw[div_big (n:=x) (by omega),div_big (n:=y) (by omega),Nat.zero_sub,Int.natCast_zero,Int.mul_zero,Int.add_zero] at hp
  have hT:=F_rtrim_eq o (by omega)
  rw[nat_trim (n:=x-y) hdo hp] at hT
  have hL:=lent_ints (dg (x-y))
  have hD:=toD_row (n:=5) i64L_len hm
  rw[ho] at hD
  simp only[go_sem,reduceIte,yA,yB,yC,yD,yE,yH,reduceCtorEq,yF,yG,yI,h_rdigit,h_rtrim,h0,h1,h5,h6,h7,hm,d1,hT,hL,hD,toD_emp_ref,Option.bind_none,yJ]
  repeat' (first|refine qqA ?_ ?_|refine qqB ?_ ?_|refine qqC ?_ ?_|refine qqD ?_ ?_|refine qqE ?_ ?_|refine qqF ?_ ?_)<;>intro h<;>simp only[h,go_sem,reduceIte,yA,yB,yC,yD,yE,yH,reduceCtorEq,yF,yG,yI,h_rdigit,h_rtrim,h0,h1,h5,h6,h7,hm,d1,hT,hL,hD,toD_emp_ref,Option.bind_none,yJ]
end Go.Mini
namespace Go.Mini
open Go
set_option maxRecDepth 10000
set_option maxHeartbeats 4000000
theorem getD_at {b:List Int} {k:Nat} (h:k<b.length):b.getD k 0=b[k]:=by rw[List.getD_eq_getElem?_getD,yL h];rfl
theorem getD_out {b:List Int} {k:Nat} (h:b.length≤k):b.getD k 0=0:=by rw[List.getD_eq_getElem?_getD,List.getElem?_eq_none h];rfl
noncomputable def F_rtimes:List Data→Option PRes:=FF (α:=Nat × Nat) (fun (x,y)=>([digs x,digs y]:List Data)) (fun (x,y)=>onlyIf ((dg x).length≤10000∧(dg y).length≤10000) (.same (digs (x*y))))
theorem F_rtimes_inj:∀ a b:Nat × Nat,(fun (x,y)=>([digs x,digs y]:List Data)) a=(fun (x,y)=>([digs x,digs y]:List Data)) b→a=b:=by
  rintro⟨x1,y1⟩ ⟨x2,y2⟩ h
  simp only[yM,digs,Data.sl.injEq] at h;exact Prod.ext (dg_inj (map_inj i64L_inj _ _ h.1)) (dg_inj (map_inj i64L_inj _ _ h.2.1))
@[go_sem] theorem F_rtimes_eq (x:Nat) (y:Nat) (hc:(dg x).length≤10000∧(dg y).length≤10000):F_rtimes [digs x,digs y]=some (.same (digs (x*y))):=(FF_eq F_rtimes_inj (x,y)).trans (onlyIf_pos hc _)
theorem w_rtimes (T:Tab) (h_rdigit:T id_ref04_digit=mkE F_rdigit) (h_rtrim:T id_ref04_trim=mkE F_rtrim) (x:Nat) (y:Nat) (hc:(dg x).length≤10000∧(dg y).length≤10000) :
  wp T mf_ref04_times.body (endS mf_ref04_times.res (.same (digs (x*y)))) ⟨initTm [.dat (digs x),.dat (digs y)],emp⟩:=by
 refine wp_start ?_
 simp only[mf_ref04_times]
 obtain⟨hx,hy⟩:=hc
 have hdx:=isD_dg x
 have hdy:=isD_dg y
 have hvx:=vl_dg x
 have hvy:=vl_dg y
 generalize ha:dg x=a at *
 generalize hb:dg y=b at *
 have hw1:IntKind.i64.wrap ((a.length:Int)+(b.length:Int))=((a.length+b.length:Nat):Int):=by rw[wrap64 _ (by omega) (by omega)];rfl
 have hb1:8*(a.length+b.length)≤140737488355328:=by omega
 have hb2:a.length+b.length≤maxLen:=maxLen_big _ (by omega)
 have hbl:b.length≤1000000:=by omega
 simp only[go_sem,reduceIte,yA,yB,yC,yD,yE,yH,reduceCtorEq,yF,yG,yI,h_rdigit,h_rtrim,digs,ha,hb,hw1,hb1,hb2,row_zero,yJ]
 refine wp_loop_keep [0,1,5] [] (fun ((i,o):Nat × List Int) tm mem=>i≤a.length∧o.length=a.length+b.length∧isD o∧o.drop (i+b.length)=List.replicate (o.length-(i+b.length)) 0∧vl o=vl (a.take i)*y∧tm 6 = .dat (.int .i64 (i:Nat))∧mem 186015=some (0,rowE i64L o))
  (fun (i,_)=>a.length-i) (0,List.replicate (a.length+b.length) 0) (by
   have hz:∀ n,vl (List.replicate n 0)=0:=by
    intro n
    induction n with
    | zero=>rfl
    | succ n ih=>rw[List.replicate_succ,vl_cons,ih];rfl
   refine⟨Nat.zero_le _,by simp,fun d hd=>by rw[List.mem_replicate] at hd;omega,by simp,by rw[hz];simp [vl],?_,?_⟩<;>rfl) ?_
 intro vs ms hvs hms
 simp only[go_sem,reduceIte,yA,yB,yC,yD,yE,yH,reduceCtorEq,yF,yG,yI,h_rdigit,h_rtrim,digs,ha,hb,hw1,yJ] at hvs hms
 subst hvs hms
 rintro⟨i,o⟩ tm mem hk-⟨hi,ho,hdo,hzr,hvi,h6,hm⟩
 simp only[go_sem,reduceIte,yA,yB,yC,yD,yE,yH,reduceCtorEq,yF,yG,yI,h_rdigit,h_rtrim,yM] at hk
 obtain⟨h0,h1,h5⟩:=hk
 rcases Decidable.em (i<a.length) with hlt | hge
 ·have hga:a[i]?=some a[i]:=yL hlt
  have hai:=isD_at hdx i hlt
  have hts:=vl_take_succ a i hlt
  generalize a[i]=xi at *
  have hdec:decide ((i:Int)<(a.length:Int))=true:=decide_eq_true (by omega)
  have hwi:IntKind.i64.wrap ((i:Int)+1)=((i+1:Nat):Int):=by rw[wrap64 _ (by omega) (by omega)];rfl
  simp only[go_sem,reduceIte,yA,yB,yC,yD,yE,yH,reduceCtorEq,yF,yG,yI,h_rdigit,h_rtrim,h0,h1,h5,h6,hga,hdec,i64L,yJ,yK,yM]
  refine wp_loop_keep [0,1,5,6] [] (fun ((k,c,o):Nat × Int × List Int) tm mem=>k≤b.length+1∧(k=b.length+1→c=0)∧o.length=a.length+b.length∧isD o∧o.drop (i+max k b.length)=List.replicate (o.length-(i+max k b.length)) 0∧0≤c∧c<1048576∧vl o+1048576^(i+k)*c=vl (a.take i)*y+1048576^i*(xi*vl (b.take k)) ∧
    tm 8 = .dat (.int .i64 (k:Nat))∧tm 7 = .dat (.int .i64 c)∧mem 186015=some (0,rowE i64L o))
   (fun (k,_)=>b.length+1-k) (0,0,o) (by refine⟨Nat.zero_le _,by simp,ho,hdo,by rw[Nat.zero_max];exact hzr,by omega,by omega,by simp [vl,hvi],?_,?_,hm⟩<;>rfl) ?_
  intro vs ms hvs hms
  simp only[go_sem,reduceIte,yA,yB,yC,yD,yE,yH,reduceCtorEq,yF,yG,yI,h_rdigit,h_rtrim,h0,h1,h5,h6,i64L,yJ] at hvs hms
  subst hvs hms
  rintro⟨k,c,o⟩ tm mem hk-⟨hki,hkc,ho,hdo,hzr,hc0,hc1,hvi,h8,h7,hm⟩
  simp only[go_sem,reduceIte,yA,yB,yC,yD,yE,yH,reduceCtorEq,yF,yG,yI,h_rdigit,h_rtrim,yM] at hk
  obtain⟨h0,h1,h5,h6⟩:=hk
  have hw2:IntKind.i64.wrap ((k:Int)+1)=((k+1:Nat):Int):=by rw[wrap64 _ (by omega) (by omega)];rfl
  have hw3:IntKind.i64.wrap ((i:Int)+(k:Int))=((i+k:Nat):Int):=by rw[wrap64 _ (by omega) (by omega)];rfl
  by_cases hgo:k<b.length∨c>0
  ·have hkb:k≤b.length:=by
    rcases Nat.lt_or_ge b.length k with h | h
    ·have:=hkc (by omega);omega
    ·exact h
   have hjo:i+k<o.length:=by omega
   have hoj:=isD_at hdo (i+k) hjo
   have hbk:0≤b.getD k 0∧b.getD k 0<1048576:=by
    rcases Nat.lt_or_ge k b.length with h | h
    ·rw[getD_at h];exact isD_at hdy k h
    ·rw[getD_out h];omega
   have hbt:vl (b.take (k+1))=vl (b.take k)+1048576^k*b.getD k 0:=by
    rcases Nat.lt_or_ge k b.length with h | h
    ·rw[getD_at h];exact vl_take_succ b k h
    ·rw[getD_out h,List.take_of_length_le (by omega),List.take_of_length_le (by omega)];simp
   have hmax:k<b.length∨(k=b.length∧o[i+k]=0):=by
    rcases Nat.lt_or_ge k b.length with h | h
    ·exact .inl h
    ·refine .inr ⟨by omega,zeros_at hzr (by omega) hjo⟩
   have hdg:=F_rdigit_eq b k hbl
   generalize b.getD k 0=bk at *
   obtain⟨m1,m2,m3,m4⟩:=digit_mul hoj hai hbk ⟨hc0,hc1⟩
   have hw4:IntKind.i64.wrap (xi*bk)=xi*bk:=wrap64 _ (by omega) (by omega)
   have hw5:IntKind.i64.wrap (o[i+k]+xi*bk)=o[i+k]+xi*bk:=wrap64 _ (by omega) (by omega)
   have hw6:IntKind.i64.wrap (o[i+k]+xi*bk+c)=o[i+k]+xi*bk+c:=wrap64 _ (by omega) (by omega)
   have hq1:(o[i+k]+xi*bk+c).tmod 1048576=(o[i+k]+xi*bk+c) % 1048576:=Int.tmod_eq_emod_of_nonneg (by omega)
   have hq2:IntKind.i64.wrap ((o[i+k]+xi*bk+c).tdiv 1048576)=(o[i+k]+xi*bk+c) / 1048576:=by rw[Int.tdiv_eq_ediv_of_nonneg (by omega)];exact wrap64 _ (by omega) (by omega)
   have hio':i+k+1≤(rowE i64L o).length:=by rw[row_len];omega
   have hget:=row_get o (i+k) hjo
   have hfold:=fun d=>row_fold o (i+k) d hjo
   have hjl:i+k<a.length+b.length:=by omega
   have hfin:∃ i':Nat × Int × List Int,b.length+1-i'.1<b.length+1-k∧i'.1≤b.length+1∧(i'.1=b.length+1→i'.2.1=0)∧i'.2.2.length=a.length+b.length∧isD i'.2.2∧i'.2.2.drop (i+max i'.1 b.length)=List.replicate (i'.2.2.length-(i+max i'.1 b.length)) 0∧0≤i'.2.1∧i'.2.1<1048576∧vl i'.2.2+1048576^(i+i'.1)*i'.2.1=vl (a.take i)*y+1048576^i*(xi*vl (b.take i'.1)) ∧
     MV.dat (Data.int .i64 ((k+1:Nat):Int))=MV.dat (Data.int .i64 (i'.1:Nat))∧MV.dat (Data.int .i64 ((o[i+k]+xi*bk+c) / 1048576))=MV.dat (Data.int .i64 i'.2.1)∧some (0,rowE i64L (o.set (i+k) ((o[i+k]+xi*bk+c) % 1048576)))=some (0,rowE i64L i'.2.2):=by
    refine⟨(k+1,(o[i+k]+xi*bk+c) / 1048576,o.set (i+k) ((o[i+k]+xi*bk+c) % 1048576)),by dsimp only;omega,by dsimp only;omega,?_,by simp [ho],isD_set hdo _ (by omega),?_,m3,m4,?_,rfl,rfl,rfl⟩
    ·intro h
     dsimp only at h ⊢
     rcases hmax with h2 | ⟨h2,h3⟩
     ·omega
     ·have hbk0:bk=0:=by
       have e:=hdg
       rw[F_rdigit_eq b k hbl,getD_out (by omega)] at e
       simpa using e.symm
      rw[h3,hbk0,Int.mul_zero]
      omega
    ·dsimp only
     rcases hmax with h2 | ⟨h2,h3⟩
     ·rw[Nat.max_eq_right (by omega)] at hzr
      rw[Nat.max_eq_right (by omega),List.drop_set_of_lt (by omega),List.length_set,hzr]
     ·rw[Nat.max_eq_right (by omega),←h2] at hzr
      rw[Nat.max_eq_left (by omega)]
      exact zeros_next hzr hjo
    ·dsimp only
     rw[vl_set _ _ _ hjo,hbt,←Nat.add_assoc,Int.pow_succ,mul_step _ _ _ _ _ _ _ hvi]
     rw[Int.mul_add (xi),Int.mul_add (1048576^i),Int.pow_add]
     have:(1048576:Int)^i*(xi*(1048576^k*bk))=1048576^i*1048576^k*(xi*bk):=by
      rw[←Int.mul_assoc (xi),Int.mul_comm (xi) (1048576^k),Int.mul_assoc (1048576^k),←Int.mul_assoc]
     omega
   by_cases hkb':k<b.length
   ·have d1:decide ((k:Int)<(b.length:Int))=true:=decide_eq_true (by omega)
    simp only[go_sem,reduceIte,yA,yB,yC,yD,yE,yH,reduceCtorEq,yF,yG,yI,h_rdigit,h_rtrim,h0,h1,h5,h6,h7,h8,hm,hga,hdg,d1,hw2,hw3,hw4,hw5,hw6,hq1,hq2,hjl,hio',hget,hfold,i64L,Nat.mul_one,yJ,yK,yM]
    repeat' (first|refine qqA ?_ ?_|refine qqB ?_ ?_|refine qqC ?_ ?_|refine qqD ?_ ?_|refine qqE ?_ ?_|refine qqF ?_ ?_)<;>intro h<;>simp only[h,go_sem,reduceIte,yA,yB,yC,yD,yE,yH,reduceCtorEq,yF,yG,yI,h_rdigit,h_rtrim,h0,h1,h5,h6,h7,h8,hm,hga,hdg,d1,hw2,hw3,hw4,hw5,hw6,hq1,hq2,hjl,hio',hget,hfold,i64L,Nat.mul_one,yJ,yK,yM]
    exact hfin
   ·have d1:decide ((k:Int)<(b.length:Int))=false:=decide_eq_false (by omega)
    have d2:decide (c>0)=true:=decide_eq_true (by omega)
    simp only[go_sem,reduceIte,yA,yB,yC,yD,yE,yH,reduceCtorEq,yF,yG,yI,h_rdigit,h_rtrim,h0,h1,h5,h6,h7,h8,hm,hga,hdg,d1,d2,hw2,hw3,hw4,hw5,hw6,hq1,hq2,hjl,hio',hget,hfold,i64L,Nat.mul_one,yJ,yK,yM]
    repeat' (first|refine qqA ?_ ?_|refine qqB ?_ ?_|refine qqC ?_ ?_|refine qqD ?_ ?_|refine qqE ?_ ?_|refine qqF ?_ ?_)<;>intro h<;>simp only[h,go_sem,reduceIte,yA,yB,yC,yD,yE,yH,reduceCtorEq,yF,yG,yI,h_rdigit,h_rtrim,h0,h1,h5,h6,h7,h8,hm,hga,hdg,d1,d2,hw2,hw3,hw4,hw5,hw6,hq1,hq2,hjl,hio',hget,hfold,i64L,Nat.mul_one,yJ,yK,yM]
    exact hfin
  ·have d1:decide ((k:Int)<(b.length:Int))=false:=decide_eq_false (by omega)
   have d2:decide (c>0)=false:=decide_eq_false (by omega)
   have hc00:c=0:=by omega
   rw[hc00,Int.mul_zero,Int.add_zero,show b.take k=b from List.take_of_length_le (by omega),hvy] at hvi
   simp only[go_sem,reduceIte,yA,yB,yC,yD,yE,yH,reduceCtorEq,yF,yG,yI,h_rdigit,h_rtrim,h0,h1,h5,h6,h7,h8,hm,d1,d2,hwi,yJ]
   repeat' (first|refine qqA ?_ ?_|refine qqB ?_ ?_|refine qqC ?_ ?_|refine qqD ?_ ?_|refine qqE ?_ ?_|refine qqF ?_ ?_)<;>intro h<;>simp only[h,go_sem,reduceIte,yA,yB,yC,yD,yE,yH,reduceCtorEq,yF,yG,yI,h_rdigit,h_rtrim,h0,h1,h5,h6,h7,h8,hm,d1,d2,hwi,yJ]
   refine⟨(i+1,o),by dsimp only;omega,by dsimp only;omega,ho,hdo,?_,?_,rfl,rfl⟩
   ·dsimp only
    have h3:=congrArg (List.drop (i+1+b.length-(i+max k b.length))) hzr
    rw[List.drop_drop,List.drop_replicate] at h3
    rw[show i+max k b.length+(i+1+b.length-(i+max k b.length))=i+1+b.length by omega] at h3
    rw[h3]
    congr 1
    omega
   ·dsimp only
    rw[hvi,hts,Int.add_mul,Int.mul_assoc]
 ·obtain rfl:i=a.length:=by omega
  have hdec:decide ((a.length:Int)<(a.length:Int))=false:=decide_eq_false (by omega)
  rw[List.take_of_length_le (Nat.le_refl _),hvx] at hvi
  have hT:=F_rtrim_eq o (by omega)
  rw[nat_trim (n:=x*y) hdo (by rw[hvi];rfl)] at hT
  have hL:=lent_ints (dg (x*y))
  have hD:=toD_row (n:=5) i64L_len hm
  rw[ho] at hD
  simp only[go_sem,reduceIte,yA,yB,yC,yD,yE,yH,reduceCtorEq,yF,yG,yI,h_rdigit,h_rtrim,h0,h1,h5,h6,hm,hdec,hT,hL,hD,toD_emp_ref,Option.bind_none,digs,yJ]
  repeat' (first|refine qqA ?_ ?_|refine qqB ?_ ?_|refine qqC ?_ ?_|refine qqD ?_ ?_|refine qqE ?_ ?_|refine qqF ?_ ?_)<;>intro h<;>simp only[h,go_sem,reduceIte,yA,yB,yC,yD,yE,yH,reduceCtorEq,yF,yG,yI,h_rdigit,h_rtrim,h0,h1,h5,h6,hm,hdec,hT,hL,hD,toD_emp_ref,Option.bind_none,digs,yJ]
/-- A part of a piece of code. -/
def MCode.sub2:MCode→List Nat→MCode
 | .seq a _,0::p=>a.sub2 p
 | .seq _ b,_::p=>b.sub2 p
 | .cond _ a _,0::p=>a.sub2 p
 | .cond _ _ b,_::p=>b.sub2 p
 | .block _ c,_::p=>c.sub2 p
 | .ghost _ c,_::p=>c.sub2 p
 | .loop c,_::p=>c.sub2 p
 | c,_=>c
theorem small_dg {n:Nat} (h:0<n) (h1:n<1048576):[(n:Int)]=dg n:=(dg_one h h1).symm
theorem trim_one {n:Nat} (h1:n<1048576):trimL [(n:Int)]=dg n:=nat_trim (by intro d hd;have:=List.mem_singleton.1 hd;omega) (by simp [vl])
theorem cons_trim {d:Int} {r:Nat} (h0:0≤d) (h1:d<1048576):trimL (d::dg r)=dg (d.toNat+1048576*r):=nat_trim (isD_cons.2 ⟨⟨h0,h1⟩,isD_dg r⟩) (by rw[vl_cons,vl_dg];omega)
theorem dg_mul_len {n m k:Nat} (h:n<m*1048576) (hm:(dg m).length≤k):(dg n).length≤k+1:=by
 rw[dg_len] at *
 rw[Nat.pow_succ]
 exact Nat.lt_of_lt_of_le h (Nat.mul_le_mul_right _ (Nat.le_of_lt hm))
theorem over_L1 (T:Tab) (h_rtimes:T id_ref04_times=mkE F_rtimes) (h_rless:T id_ref04_less=mkE F_rless) {K:MExit→St→Prop} {kk:List Todo} (y R:Nat) (hy:(dg y).length≤1000) (hR:(dg R).length≤1001) (hy0:0<y) (hRy:R<y*1048576) (v0 v6 v8:MV) (tm:Nat→MV) (m:Mem)
  (e0:tm 0=v0) (e1:tm 1 = .dat (.sl ((dg y).map i64L))) (e6:tm 6=v6) (e7:tm 7 = .dat (.sl ((dg R).map i64L))) (e8:tm 8=v8) (e9:tm 9 = .dat (.int .i64 0)) (e10:tm 10 = .dat (.int .i64 1048576))
  (hK:∀ tm',tm' 0=v0→tm' 1 = .dat (.sl ((dg y).map i64L))→tm' 6=v6→tm' 7 = .dat (.sl ((dg R).map i64L))→tm' 8=v8→tm' 9 = .dat (.int .i64 ((R / y:Nat):Int))→kont T K kk (.exit 2) ⟨tm',m⟩) :
  wp T (mf_ref04_over.body.sub2 [1,1,1,0,1,0,0,1,0,0,1,1,1,0,0]) (kont T K kk) ⟨tm,m⟩:=by
 simp only[mf_ref04_over,MCode.sub2]
 refine wp_loop_keep [0,1,6,7,8] [] (fun ((lo,hi):Nat × Nat) tm' m'=>lo<hi∧hi≤1048576∧lo*y≤R∧R<hi*y∧tm' 9 = .dat (.int .i64 lo)∧tm' 10 = .dat (.int .i64 hi)∧m'=m) (fun (lo,hi)=>hi-lo) (0,1048576) (by refine⟨by omega,by omega,by omega,by rw[Nat.mul_comm];exact hRy,e9,e10,rfl⟩) ?_
 intro vs ms hvs hms
 simp only[go_sem,reduceIte,yA,yB,yC,yD,yE,yH,reduceCtorEq,yF,yG,yI,e0,e1,e6,e7,e8] at hvs hms
 subst hvs hms
 clear e0 e1 e6 e7 e8 e9 e10
 rintro⟨lo,hi⟩ tm m' hk hm ⟨hlh,hh,hlo,hhi,h9,h10,rfl⟩
 simp only[go_sem,reduceIte,yA,yB,yC,yD,yE,yH,reduceCtorEq,yF,yG,yI,yM] at hk hm
 obtain⟨h0,h1,h6,h7,h8⟩:=hk
 have w1:IntKind.i64.wrap ((hi:Int)-(lo:Int))=(hi:Int)-(lo:Int):=wrap64 _ (by omega) (by omega)
 by_cases hgo:hi-lo>1
 ·have d1:decide ((hi:Int)-(lo:Int)>1)=true:=decide_eq_true (by omega)
  have w2:IntKind.i64.wrap ((lo:Int)+(hi:Int))=((lo+hi:Nat):Int):=by rw[wrap64 _ (by omega) (by omega)];omega
  have w3:IntKind.i64.wrap (((lo+hi:Nat):Int).tdiv 2)=(((lo+hi) / 2:Nat):Int):=by rw[Int.tdiv_eq_ediv_of_nonneg (by omega),wrap64 _ (by omega) (by omega)];omega
  obtain⟨mid,hmid⟩:∃ mid:Nat,mid=(lo+hi) / 2:=⟨_,rfl⟩
  rw[←hmid] at w3
  have hT:=F_rtimes_eq y mid ⟨by omega,by rw[←small_dg (n:=mid) (by omega) (by omega)];simp⟩
  simp only[digs] at hT
  rw[←small_dg (n:=mid) (by omega) (by omega)] at hT
  simp only[List.map_cons,List.map_nil,i64L] at hT
  have hml:(dg (y*mid)).length≤1001:=dg_mul_len (Nat.mul_lt_mul_of_pos_left (show mid<1048576 by omega) hy0) hy
  have hL:=F_rless_eq R (y*mid) ⟨by omega,by omega⟩
  simp only[digs] at hL
  rcases hd:decide (R<y*mid)
  ·have hn:=of_decide_eq_false hd
   rw[hd] at hL
   simp only[go_sem,reduceIte,yA,yB,yC,yD,yE,yH,reduceCtorEq,yF,yG,yI,h_rtimes,h_rless,h0,h1,h6,h7,h8,h9,h10,w1,w2,w3,d1,hT,hL]
   repeat' (first|refine qqA ?_ ?_|refine qqB ?_ ?_|refine qqC ?_ ?_|refine qqD ?_ ?_|refine qqE ?_ ?_|refine qqF ?_ ?_)<;>intro h<;>simp only[h,go_sem,reduceIte,yA,yB,yC,yD,yE,yH,reduceCtorEq,yF,yG,yI,h_rtimes,h_rless,h0,h1,h6,h7,h8,h9,h10,w1,w2,w3,d1,hT,hL]
   exact⟨(mid,hi),by dsimp only;omega,by dsimp only;omega,hh,by dsimp only;rw[Nat.mul_comm];omega,hhi,rfl,rfl⟩
  ·have hn:=of_decide_eq_true hd
   rw[hd] at hL
   simp only[go_sem,reduceIte,yA,yB,yC,yD,yE,yH,reduceCtorEq,yF,yG,yI,h_rtimes,h_rless,h0,h1,h6,h7,h8,h9,h10,w1,w2,w3,d1,hT,hL]
   repeat' (first|refine qqA ?_ ?_|refine qqB ?_ ?_|refine qqC ?_ ?_|refine qqD ?_ ?_|refine qqE ?_ ?_|refine qqF ?_ ?_)<;>intro h<;>simp only[h,go_sem,reduceIte,yA,yB,yC,yD,yE,yH,reduceCtorEq,yF,yG,yI,h_rtimes,h_rless,h0,h1,h6,h7,h8,h9,h10,w1,w2,w3,d1,hT,hL]
   exact⟨(lo,mid),by dsimp only;omega,by dsimp only;omega,by dsimp only;omega,hlo,by dsimp only;rw[Nat.mul_comm];omega,rfl,rfl⟩
 ·have d1:decide ((hi:Int)-(lo:Int)>1)=false:=decide_eq_false (by omega)
  have hq:R / y=lo:=by
   have h1:hi=lo+1:=by omega
   subst h1
   exact Nat.div_eq_of_lt_le hlo hhi
  simp only[go_sem,reduceIte,yA,yB,yC,yD,yE,yH,reduceCtorEq,yF,yG,yI,h0,h1,h6,h7,h8,h9,h10,w1,d1]
  repeat' (first|refine qqA ?_ ?_|refine qqB ?_ ?_|refine qqC ?_ ?_|refine qqD ?_ ?_|refine qqE ?_ ?_|refine qqF ?_ ?_)<;>intro h<;>simp only[h,go_sem,reduceIte,yA,yB,yC,yD,yE,yH,reduceCtorEq,yF,yG,yI,h0,h1,h6,h7,h8,h9,h10,w1,d1]
  refine hK _ ?_ ?_ ?_ ?_ ?_ ?_<;>simp only[upd_get,yA,if_false,h0,h1,h6,h7,h8,h9,hq]
noncomputable def F_rover:List Data→Option PRes:=FF (α:=Nat × Nat) (fun (x,y)=>([digs x,digs y]:List Data)) (fun (x,y)=>onlyIf ((dg x).length≤1000∧(dg y).length≤1000∧0<y) (.same (.tup [digs (x / y),digs (x % y)])))
theorem F_rover_inj:∀ a b:Nat × Nat,(fun (x,y)=>([digs x,digs y]:List Data)) a=(fun (x,y)=>([digs x,digs y]:List Data)) b→a=b:=by
  rintro⟨x1,y1⟩ ⟨x2,y2⟩ h
  simp only[yM,digs,Data.sl.injEq] at h;exact Prod.ext (dg_inj (map_inj i64L_inj _ _ h.1)) (dg_inj (map_inj i64L_inj _ _ h.2.1))
@[go_sem] theorem F_rover_eq (x:Nat) (y:Nat) (hc:(dg x).length≤1000∧(dg y).length≤1000∧0<y):F_rover [digs x,digs y]=some (.same (.tup [digs (x / y),digs (x % y)])):=(FF_eq F_rover_inj (x,y)).trans (onlyIf_pos hc _)
theorem w_rover (T:Tab) (h_rtrim:T id_ref04_trim=mkE F_rtrim) (h_rtimes:T id_ref04_times=mkE F_rtimes) (h_rless:T id_ref04_less=mkE F_rless) (h_rminus:T id_ref04_minus=mkE F_rminus) (x:Nat) (y:Nat) (hc:(dg x).length≤1000∧(dg y).length≤1000∧0<y) :
  wp T mf_ref04_over.body (endS mf_ref04_over.res (.same (.tup [digs (x / y),digs (x % y)]))) ⟨initTm [.dat (digs x),.dat (digs y)],emp⟩:=by
 refine wp_start ?_
 simp only[mf_ref04_over]
 obtain⟨hx,hy,hy0⟩:=hc
 have hdx:=isD_dg x
 have hvx:=vl_dg x
 generalize ha:dg x=a at *
 have hb1:8*a.length≤140737488355328:=by omega
 have hb2:a.length≤maxLen:=maxLen_big _ (by omega)
 have hw0:IntKind.i64.wrap ((a.length:Int)-1)=(a.length:Int)-1:=wrap64 _ (by omega) (by omega)
 simp only[go_sem,reduceIte,yA,yB,yC,yD,yE,yH,reduceCtorEq,yF,yG,yI,h_rtrim,h_rtimes,h_rless,h_rminus,digs,ha,hb1,hb2,row_zero,hw0,yJ]
 refine wp_loop_keep [0,1,6] [] (fun ((n,r,rv,o):Nat × Nat × MV × List Int) tm mem=>n≤a.length∧o.length=a.length∧isD o∧r<y∧vl (a.drop n)=y*vl (o.drop n)+r∧(rv = .nil∧r=0∨rv = .dat (digs r))∧tm 8 = .dat (.int .i64 ((n:Nat)-1))∧tm 7=rv∧mem 180014=some (0,rowE i64L o))
  (fun (n,_)=>n) (a.length,0,.nil,List.replicate a.length 0) (by
   refine⟨Nat.le_refl _,by simp,fun d hd=>by rw[List.mem_replicate] at hd;omega,hy0,by simp [vl],.inl ⟨rfl,rfl⟩,rfl,rfl,rfl⟩) ?_
 intro vs ms hvs hms
 simp only[go_sem,reduceIte,yA,yB,yC,yD,yE,yH,reduceCtorEq,yF,yG,yI,h_rtrim,h_rtimes,h_rless,h_rminus,digs,ha,yJ] at hvs hms
 subst hvs hms
 rintro⟨n,r,rv,o⟩ tm mem hk-⟨hn,ho,hdo,hr1,hv,hrv,h8,h7,hm⟩
 simp only[go_sem,reduceIte,yA,yB,yC,yD,yE,yH,reduceCtorEq,yF,yG,yI,h_rtrim,h_rtimes,h_rless,h_rminus,yM] at hk
 obtain⟨h0,h1,h6⟩:=hk
 rcases n with _ | n
 ·have hq:vl o=((x / y:Nat):Int)∧r=x % y:=by
   rw[List.drop_zero,List.drop_zero,hvx] at hv
   have e1:(x:Int) / (y:Int)=vl o:=by rw[hv,Int.add_comm,Int.add_mul_ediv_left _ _ (by omega),Int.ediv_eq_zero_of_lt (by omega) (by omega)];omega
   have e2:(x:Int) % (y:Int)=r:=by rw[hv,Int.add_comm,Int.add_mul_emod_self_left,Int.emod_eq_of_lt (by omega) (by omega)]
   refine⟨by rw[←e1];rfl,by omega⟩
  have hT:=F_rtrim_eq o (by omega)
  rw[nat_trim (n:=x / y) hdo hq.1] at hT
  have hL:=lent_ints (dg (x / y))
  have hD:=toD_row (n:=5) i64L_len hm
  rw[ho] at hD
  rcases hrv with ⟨rfl,hr0⟩ | rfl
  ·have hz:dg (x % y)=[]:=by rw[←hq.2,hr0];rfl
   simp only[go_sem,reduceIte,yA,yB,yC,yD,yE,yH,reduceCtorEq,yF,yG,yI,h_rtrim,h_rtimes,h_rless,h_rminus,h0,h1,h6,h7,h8,hm,hT,hL,hD,hz,toD_emp_ref,Option.bind_none,digs,Int.natCast_zero,Int.cast_ofNat_Int,show ¬ ((0:Int)-1≥0) by omega,decide_false,yJ,List.map_nil]
   repeat' (first|refine qqA ?_ ?_|refine qqB ?_ ?_|refine qqC ?_ ?_|refine qqD ?_ ?_|refine qqE ?_ ?_|refine qqF ?_ ?_)<;>intro h<;>simp only[h,go_sem,reduceIte,yA,yB,yC,yD,yE,yH,reduceCtorEq,yF,yG,yI,h_rtrim,h_rtimes,h_rless,h_rminus,h0,h1,h6,h7,h8,hm,hT,hL,hD,hz,toD_emp_ref,Option.bind_none,digs,Int.natCast_zero,Int.cast_ofNat_Int,show ¬ ((0:Int)-1≥0) by omega,decide_false,yJ,List.map_nil]
  ·simp only[go_sem,reduceIte,yA,yB,yC,yD,yE,yH,reduceCtorEq,yF,yG,yI,h_rtrim,h_rtimes,h_rless,h_rminus,h0,h1,h6,h7,h8,hm,hT,hL,hD,toD_emp_ref,Option.bind_none,digs,Int.natCast_zero,Int.cast_ofNat_Int,show ¬ ((0:Int)-1≥0) by omega,decide_false,yJ,List.map_nil,hq.2]
   repeat' (first|refine qqA ?_ ?_|refine qqB ?_ ?_|refine qqC ?_ ?_|refine qqD ?_ ?_|refine qqE ?_ ?_|refine qqF ?_ ?_)<;>intro h<;>simp only[h,go_sem,reduceIte,yA,yB,yC,yD,yE,yH,reduceCtorEq,yF,yG,yI,h_rtrim,h_rtimes,h_rless,h_rminus,h0,h1,h6,h7,h8,hm,hT,hL,hD,toD_emp_ref,Option.bind_none,digs,Int.natCast_zero,Int.cast_ofNat_Int,show ¬ ((0:Int)-1≥0) by omega,decide_false,yJ,List.map_nil,hq.2]
 ·have hga:a[n]?=some a[n]:=yL (by omega)
  have han:=isD_at hdx n (by omega)
  have hda:a.drop n=a[n]::a.drop (n+1):=List.drop_eq_getElem_cons (by omega)
  have hno:n<o.length:=by omega
  have hdo':∀ e:Int,(o.set n e).drop n=e::o.drop (n+1):=fun e=>by
   rw[List.drop_eq_getElem_cons (by simpa using hno),List.getElem_set_self,List.drop_set_of_lt (by omega)]
  generalize a[n]=d at *
  have hw:((n+1:Nat):Int)-1=(n:Int):=by omega
  have hge:decide ((n:Int)≥0)=true:=decide_eq_true (by omega)
  have hw4:IntKind.i64.wrap ((n:Int)-1)=(n:Int)-1:=wrap64 _ (by omega) (by omega)
  have hrl:(dg r).length≤1000:=by rw[dg_len] at *;omega
  obtain⟨R,hR⟩:∃ R:Nat,R=d.toNat+1048576*r:=⟨_,rfl⟩
  have hRlt:R<y*1048576:=by
   have:(r+1)*1048576≤y*1048576:=Nat.mul_le_mul_right _ hr1
   omega
  have hRl:=dg_mul_len hRlt hy
  have hct:=cons_trim (d:=d) (r:=r) han.1 han.2
  rw[←hR] at hct
  have hT:=F_rtrim_eq (d::dg r) (by rw[List.length_cons];omega)
  rw[hct] at hT
  simp only[List.map_cons,i64L] at hT
  have hL:=lent_ints (dg R)
  have happ:∀ G:Nat,appC 180026 G 1 1 8 (dg r).length (((dg r).map i64L).flatten.map .dat) (some (G,[.dat (.int .i64 d)]))=some (.ref 180026 (G+1) 1 0 (1+(dg r).length),some (180026,G+1,rowE i64L (d::dg r))):=fun G=>by
   have:=app_rows i64L_len i64L_one 180026 G 8 [d] (dg r) (by rw[List.length_singleton];omega) (by rw[List.length_singleton];omega)
   exact this
  have hDr:∀ (G:Nat) (m:Mem),m 180026=some (G,rowE i64L (d::dg r))→toD 6 m (.ref 180026 G 1 0 (1+(dg r).length))=some (.sl ((d::dg r).map i64L)):=fun G m hm=>by
   have:=toD_row (n:=5) i64L_len hm
   rw[List.length_cons,Nat.add_comm (dg r).length 1] at this
   exact this
  have hev:(((dg r).map i64L).all fun e=>e.length==1)=true:=even_i64 _
  have hDr':=hDr (nextO (mem 180026)+1) (updM (updM mem 180026 (nextO (mem 180026)) [MV.dat (.int .i64 d)]) 180026 (nextO (mem 180026)+1) (rowE i64L (d::dg r))) (by simp [updM])
  have hnl:n<a.length:=by omega
  obtain⟨lo,hlo⟩:∃ lo:Nat,lo=R / y:=⟨_,rfl⟩
  have hlob:lo<1048576:=by rw[hlo];exact Nat.div_lt_of_lt_mul hRlt
  have hdm:=Nat.div_add_mod R y
  have hml:=Nat.mod_lt R hy0
  rw[←hlo] at hdm
  have hmod:R-y*lo=R % y:=by omega
  have hmll:(dg (y*lo)).length≤1001:=dg_mul_len (Nat.mul_lt_mul_of_pos_left hlob hy0) hy
  have hT2:F_rtrim [.sl [[.int .i64 ((R / y:Nat):Int)]]]=some (.own 1 ((dg lo).map i64L)):=by
   have h:=F_rtrim_eq [((R / y:Nat):Int)] (by simp)
   rw[←hlo,trim_one hlob] at h
   rw[←hlo]
   exact h
  have hT3:=F_rtimes_eq y lo ⟨by omega,by have:(dg lo).length≤1:=dg_len.2 (by rw[Nat.pow_one];exact hlob);omega⟩
  simp only[digs] at hT3
  have hT4:=F_rminus_eq R (y*lo) ⟨by omega,by omega,by omega⟩
  rw[hmod] at hT4
  simp only[digs] at hT4
  have hio':n+1≤(rowE i64L o).length:=by rw[row_len];omega
  have hfold:=row_fold o n ((R / y:Nat):Int) hno
  have hfin:∃ i':Nat × Nat × MV × List Int,i'.1<n+1∧i'.1≤a.length∧i'.2.2.2.length=a.length∧isD i'.2.2.2∧i'.2.1<y∧vl (a.drop i'.1)=y*vl (i'.2.2.2.drop i'.1)+i'.2.1∧(i'.2.2.1 = .nil∧i'.2.1=0∨i'.2.2.1 = .dat (.sl ((dg i'.2.1).map i64L)))∧MV.dat (Data.int .i64 ((n:Int)-1))=MV.dat (Data.int .i64 ((i'.1:Int)-1))∧MV.dat (Data.sl ((dg (R % y)).map i64L))=i'.2.2.1∧some (0,rowE i64L (o.set n ((R / y:Nat):Int)))=some (0,rowE i64L i'.2.2.2):=by
   refine⟨(n,R % y,.dat (digs (R % y)),o.set n ((R / y:Nat):Int)),by dsimp only;omega,by dsimp only;omega,by simp [ho],isD_set hdo n (by omega),hml,?_,.inr rfl,rfl,rfl,rfl⟩
   dsimp only
   rw[hda,vl_cons,hv,hdo',vl_cons,←hlo]
   have e1:(R:Int)=d+1048576*r:=by omega
   have e2:(y:Int)*lo+(R % y:Nat)=R:=by exact_mod_cast hdm
   have e3:∀ v:Int,(y:Int)*(lo+1048576*v)=y*lo+1048576*(y*v):=fun v=>by rw[Int.mul_add,Int.mul_left_comm]
   rw[e3]
   omega
  have main:rv = .nil∧r=0∨rv = .dat (digs r):=hrv
  rcases main with ⟨rfl,hr0⟩ | rfl
  ·subst hr0
   have happ0:=happ
   simp only[dg_zero,List.map_nil,List.flatten_nil,List.length_nil] at happ0
   simp only[dg_zero,List.length_nil] at hDr'
   simp only[dg_zero,List.map_nil] at hT
   simp only[go_sem,reduceIte,yA,yB,yC,yD,yE,yH,reduceCtorEq,yF,yG,yI,h_rtrim,h_rtimes,h_rless,h_rminus,h0,h1,h6,h7,h8,hm,hga,hw,hge,happ0,hT,hL,hDr',toD_emp_ref,Option.bind_none,i64L,dg_zero,yJ,yK,List.map_nil]
   refine over_L1 T h_rtimes h_rless y R hy hRl hy0 hRlt (.dat (.sl (a.map i64L))) (.ref 180014 0 1 0 a.length) (.dat (.int .i64 n)) _ _ ?_ ?_ ?_ ?_ ?_ ?_ ?_ ?_
   ·exact h0
   ·exact h1
   ·exact h6
   ·rfl
   ·simp only[upd_get,yA,if_false,h8,hw]
   ·rfl
   ·rfl
   intro tm' k0 k1 k6 k7 k8 k9
   simp only[go_sem,reduceIte,yA,yB,yC,yD,yE,yH,reduceCtorEq,yF,yG,yI,h_rtrim,h_rtimes,h_rless,h_rminus,k0,k1,k6,k7,k8,k9,hm,hnl,hio',hfold,hT2,hT3,hT4,hw4,Nat.mul_one]
   repeat' (first|refine qqA ?_ ?_|refine qqB ?_ ?_|refine qqC ?_ ?_|refine qqD ?_ ?_|refine qqE ?_ ?_|refine qqF ?_ ?_)<;>intro h<;>simp only[h,go_sem,reduceIte,yA,yB,yC,yD,yE,yH,reduceCtorEq,yF,yG,yI,h_rtrim,h_rtimes,h_rless,h_rminus,k0,k1,k6,k7,k8,k9,hm,hnl,hio',hfold,hT2,hT3,hT4,hw4,Nat.mul_one]
   exact hfin
  ·simp only[go_sem,reduceIte,yA,yB,yC,yD,yE,yH,reduceCtorEq,yF,yG,yI,h_rtrim,h_rtimes,h_rless,h_rminus,h0,h1,h6,h7,h8,hm,hga,hw,hge,happ,hev,hT,hL,hDr',toD_emp_ref,Option.bind_none,digs,i64L,yJ,yK]
   refine over_L1 T h_rtimes h_rless y R hy hRl hy0 hRlt (.dat (.sl (a.map i64L))) (.ref 180014 0 1 0 a.length) (.dat (.int .i64 n)) _ _ ?_ ?_ ?_ ?_ ?_ ?_ ?_ ?_
   ·exact h0
   ·exact h1
   ·exact h6
   ·rfl
   ·simp only[upd_get,yA,if_false,h8,hw]
   ·rfl
   ·rfl
   intro tm' k0 k1 k6 k7 k8 k9
   simp only[go_sem,reduceIte,yA,yB,yC,yD,yE,yH,reduceCtorEq,yF,yG,yI,h_rtrim,h_rtimes,h_rless,h_rminus,k0,k1,k6,k7,k8,k9,hm,hnl,hio',hfold,hT2,hT3,hT4,hw4,Nat.mul_one]
   repeat' (first|refine qqA ?_ ?_|refine qqB ?_ ?_|refine qqC ?_ ?_|refine qqD ?_ ?_|refine qqE ?_ ?_|refine qqF ?_ ?_)<;>intro h<;>simp only[h,go_sem,reduceIte,yA,yB,yC,yD,yE,yH,reduceCtorEq,yF,yG,yI,h_rtrim,h_rtimes,h_rless,h_rminus,k0,k1,k6,k7,k8,k9,hm,hnl,hio',hfold,hT2,hT3,hT4,hw4,Nat.mul_one]
   exact hfin
end Go.Mini
namespace Go.Mini
open Go
set_option maxRecDepth 10000
set_option maxHeartbeats 4000000
noncomputable def F_rmade:List Data→Option PRes:=FF (α:=Int × (List Int)) (fun (s,l)=>([.int .i64 s,.sl (l.map i64L)]:List Data)) (fun (s,l)=>onlyIf (l.length≤1000000) (.same (.agg (bigL (signR s l)))))
theorem F_rmade_inj:∀ a b:Int × (List Int),(fun (s,l)=>([.int .i64 s,.sl (l.map i64L)]:List Data)) a=(fun (s,l)=>([.int .i64 s,.sl (l.map i64L)]:List Data)) b→a=b:=by
  rintro⟨s1,l1⟩ ⟨s2,l2⟩ h
  simp only[yM,Data.int.injEq,Data.sl.injEq] at h;exact Prod.ext h.1.2 (map_inj i64L_inj _ _ h.2.1)
@[go_sem] theorem F_rmade_eq (s:Int) (l:List Int) (hc:l.length≤1000000):F_rmade [.int .i64 s,.sl (l.map i64L)]=some (.same (.agg (bigL (signR s l)))):=(FF_eq F_rmade_inj (s,l)).trans (onlyIf_pos hc _)
theorem w_rmade (T:Tab) (h_rtrim:T id_ref04_trim=mkE F_rtrim) (s:Int) (l:List Int) (hc:l.length≤1000000) :
  wp T mf_ref04_made.body (endS mf_ref04_made.res (.same (.agg (bigL (signR s l))))) ⟨initTm [.dat (.int .i64 s),.dat (.sl (l.map i64L))],emp⟩:=by
 refine wp_start ?_
 simp only[mf_ref04_made]
 have hT:=F_rtrim_eq l hc
 have hL:=lent_ints (trimL l)
 simp only[go_sem,reduceIte,yA,yB,yC,yD,yE,yH,reduceCtorEq,yF,yG,yI,h_rtrim,hT,hL,yJ]
 repeat' (first|refine qqA ?_ ?_|refine qqB ?_ ?_|refine qqC ?_ ?_|refine qqD ?_ ?_|refine qqE ?_ ?_|refine qqF ?_ ?_)<;>intro h<;>simp only[h,go_sem,reduceIte,yA,yB,yC,yD,yE,yH,reduceCtorEq,yF,yG,yI,h_rtrim,hT,hL,yJ]
 all_goals simp only[signR,bigL,List.map_nil, *,reduceIte,Bool.not_true,Bool.not_false,Bool.or_true,Bool.true_or,Bool.or_false,Bool.false_or,Bool.and_true,Bool.true_and,Bool.and_false,Bool.false_and,yH,beq_self_eq_true,bne]
noncomputable def F_rRight:List Data→Option PRes:=FF (α:=Int × (List Int)) (fun (s,l)=>([.agg [.int .i64 s,.sl (l.map i64L)]]:List Data)) (fun (s,l)=>onlyIf (l.length≤1000000) (.same (.bool (rightR (s,l)))))
theorem F_rRight_inj:∀ a b:Int × (List Int),(fun (s,l)=>([.agg [.int .i64 s,.sl (l.map i64L)]]:List Data)) a=(fun (s,l)=>([.agg [.int .i64 s,.sl (l.map i64L)]]:List Data)) b→a=b:=by
  rintro⟨s1,l1⟩ ⟨s2,l2⟩ h
  simp only[yM,Data.agg.injEq,Data.int.injEq,Data.sl.injEq] at h;exact Prod.ext h.1.1.2 (map_inj i64L_inj _ _ h.1.2.1)
@[go_sem] theorem F_rRight_eq (s:Int) (l:List Int) (hc:l.length≤1000000):F_rRight [.agg [.int .i64 s,.sl (l.map i64L)]]=some (.same (.bool (rightR (s,l)))):=(FF_eq F_rRight_inj (s,l)).trans (onlyIf_pos hc _)
theorem w_rRight (T:Tab)  (s:Int) (l:List Int) (hc:l.length≤1000000) :
  wp T mf_ref04_Right.body (endS mf_ref04_Right.res (.same (.bool (rightR (s,l))))) ⟨initTm [.dat (.agg [.int .i64 s,.sl (l.map i64L)])],emp⟩:=by
 refine wp_start ?_
 simp only[mf_ref04_Right]
 simp only[go_sem,reduceIte,yA,yB,yC,yD,yE,yH,reduceCtorEq,yF,yG,yI,yJ]
 refine wp_loop_keep [1] [162001] (fun (i:Nat) tm mem=>i≤l.length∧l.all digB=(l.drop i).all digB∧tm 3 = .dat (.int .i64 i)) (fun i=>l.length-i) 0 (by refine⟨by omega,by simp,rfl⟩) ?_
 intro vs ms hvs hms
 simp only[go_sem,reduceIte,yA,yB,yC,yD,yE,yH,reduceCtorEq,yF,yG,yI,yJ] at hvs hms
 subst hvs hms
 rintro i tm mem hk hm ⟨hi,hf,h3⟩
 simp only[go_sem,reduceIte,yA,yB,yC,yD,yE,yH,reduceCtorEq,yF,yG,yI,yM] at hk hm
 have h1:=hk
 rcases Decidable.em (i<l.length) with hlt | hge
 ·have hd:l.drop i=l[i]::l.drop (i+1):=List.drop_eq_getElem_cons hlt
  have hx:l[i]?=some l[i]:=yL hlt
  generalize l[i]=x at *
  have d1:decide ((i:Int)<(l.length:Int))=true:=decide_eq_true (by omega)
  have hfin:∀ b,digB x=true→b=(l.drop (i+1)).all digB→l.all digB=b:=by
   intro b h1 h2
   rw[hf,hd,List.all_cons,h1,h2,Bool.true_and]
  have hbad:¬ digB x=true→rightR (s,l)=false:=by
   intro h1
   rw[Bool.not_eq_true] at h1
   unfold rightR
   rw[hf,hd,List.all_cons,h1]
   rfl
  have w3:IntKind.i64.wrap ((i:Int)+1)=((i+1:Nat):Int):=by rw[wrap64 _ (by omega) (by omega)];omega
  simp only[go_sem,reduceIte,yA,yB,yC,yD,yE,yH,reduceCtorEq,yF,yG,yI,h1,h3,hm,hx,d1,w3,i64L,yJ,yK,yM]
  repeat' (first|refine qqA ?_ ?_|refine qqB ?_ ?_|refine qqC ?_ ?_|refine qqD ?_ ?_|refine qqE ?_ ?_|refine qqF ?_ ?_)<;>intro h<;>simp only[h,go_sem,reduceIte,yA,yB,yC,yD,yE,yH,reduceCtorEq,yF,yG,yI,h1,h3,hm,hx,d1,w3,i64L,yJ,yK,yM]
  ·rw[hbad fun h=>by have:=(digB_iff x).1 h;(simp only[Option.some.injEq,Data.bool.injEq,Data.int.injEq,true_and,decide_eq_true_eq,decide_eq_false_iff_not,yH,beq_iff_eq,beq_eq_false_iff_ne,ne_eq] at*<;> omega)]
  ·exact⟨i+1,by omega,by omega,hfin _ ((digB_iff x).2 (by (simp only[Option.some.injEq,Data.bool.injEq,Data.int.injEq,true_and,decide_eq_true_eq,decide_eq_false_iff_not,yH,beq_iff_eq,beq_eq_false_iff_ne,ne_eq] at*<;> omega))) rfl,rfl⟩
  ·rw[hbad fun h=>by have:=(digB_iff x).1 h;(simp only[Option.some.injEq,Data.bool.injEq,Data.int.injEq,true_and,decide_eq_true_eq,decide_eq_false_iff_not,yH,beq_iff_eq,beq_eq_false_iff_ne,ne_eq] at*<;> omega)]
 ·have he:l.drop i=[]:=List.drop_eq_nil_of_le (by omega)
  rw[he] at hf
  have hall:l.all digB=true:=by rw[hf];rfl
  have d1:decide ((i:Int)<(l.length:Int))=false:=decide_eq_false (by omega)
  rcases List.eq_nil_or_concat l with rfl | ⟨r,x,rfl⟩
  ·have d2:decide ((i:Int)<0)=false:=d1
   simp only[go_sem,reduceIte,yA,yB,yC,yD,yE,yH,reduceCtorEq,yF,yG,yI,h1,h3,hm,d2,List.length_nil,Int.natCast_zero,Int.cast_ofNat_Int,beq_self_eq_true,List.map_nil,bne]
   repeat' (first|refine qqA ?_ ?_|refine qqB ?_ ?_|refine qqC ?_ ?_|refine qqD ?_ ?_|refine qqE ?_ ?_|refine qqF ?_ ?_)<;>intro h<;>simp only[h,go_sem,reduceIte,yA,yB,yC,yD,yE,yH,reduceCtorEq,yF,yG,yI,h1,h3,hm,d2,List.length_nil,Int.natCast_zero,Int.cast_ofNat_Int,beq_self_eq_true,List.map_nil,bne]
   all_goals (refine congrArg (fun b=>some (Data.bool b)) ?_;unfold rightR;simp;try simp only[decide_eq_true_eq,decide_eq_false_iff_not,beq_iff_eq,beq_eq_false_iff_ne,Bool.not_eq_true',Bool.not_eq_false',beq_eq_false_iff_ne,ne_eq] at *;omega)
  ·rw[List.concat_eq_append] at *
   have hne:(((r++[x]).length:Int)==0)=false:=by simp;omega
   have hw:IntKind.i64.wrap (((r++[x]).length:Int)-1)=(r.length:Int):=by
    have hl2:(r++[x]).length=r.length+1:=by simp
    rw[wrap64 _ (by omega) (by omega)];omega
   have hg:((r++[x]).map i64L)[r.length]?=some [.int .i64 x]:=by simp [i64L]
   have hr:rightR (s,r++[x])=((s==1||s == -1)&&decide (((r++[x]).length:Int)≤60)&&(x != 0)):=by
    unfold rightR
    rw[hall]
    simp only[List.getLast?_append,List.getLast?_singleton]
    simp
    have e1:decide (r.length≤59)=decide ((r.length:Int)+1≤60):=decide_eq_decide.2 (by omega)
    have e2:(some x != some (0:Int))=(x != 0):=by simp [bne]
    rw[e1,e2]
   rw[hr]
   simp only[go_sem,reduceIte,yA,yB,yC,yD,yE,yH,reduceCtorEq,yF,yG,yI,h1,h3,hm,d1,hne,hw,hg,yJ]
   repeat' (first|refine qqA ?_ ?_|refine qqB ?_ ?_|refine qqC ?_ ?_|refine qqD ?_ ?_|refine qqE ?_ ?_|refine qqF ?_ ?_)<;>intro h<;>simp only[h,go_sem,reduceIte,yA,yB,yC,yD,yE,yH,reduceCtorEq,yF,yG,yI,h1,h3,hm,d1,hne,hw,hg,yJ]
   all_goals (refine congrArg (fun b=>some (Data.bool b)) ?_;clear hf hall hr hg hw hk hm h1 h3 d1;rw[Bool.eq_iff_iff];simp only[Bool.and_eq_true,Bool.or_eq_true,decide_eq_true_eq,decide_eq_false_iff_not,beq_iff_eq,beq_eq_false_iff_ne,Bool.not_eq_true',Bool.not_eq_false',ne_eq,yH,false_iff,true_iff] at *;omega)
noncomputable def F_rNeg:List Data→Option PRes:=FF (α:=Int × (List Int)) (fun (s,l)=>([.agg [.int .i64 s,.sl (l.map i64L)]]:List Data)) (fun (s,l)=>onlyIf (l.length≤1000000) (.same (.agg (bigL (negR (s,l))))))
theorem F_rNeg_inj:∀ a b:Int × (List Int),(fun (s,l)=>([.agg [.int .i64 s,.sl (l.map i64L)]]:List Data)) a=(fun (s,l)=>([.agg [.int .i64 s,.sl (l.map i64L)]]:List Data)) b→a=b:=by
  rintro⟨s1,l1⟩ ⟨s2,l2⟩ h
  simp only[yM,Data.agg.injEq,Data.int.injEq,Data.sl.injEq] at h;exact Prod.ext h.1.1.2 (map_inj i64L_inj _ _ h.1.2.1)
@[go_sem] theorem F_rNeg_eq (s:Int) (l:List Int) (hc:l.length≤1000000):F_rNeg [.agg [.int .i64 s,.sl (l.map i64L)]]=some (.same (.agg (bigL (negR (s,l))))):=(FF_eq F_rNeg_inj (s,l)).trans (onlyIf_pos hc _)
theorem w_rNeg (T:Tab) (h_rRight:T id_ref04_Right=mkE F_rRight) (h_rmade:T id_ref04_made=mkE F_rmade) (s:Int) (l:List Int) (hc:l.length≤1000000) :
  wp T mf_ref04_Neg.body (endS mf_ref04_Neg.res (.same (.agg (bigL (negR (s,l)))))) ⟨initTm [.dat (.agg [.int .i64 s,.sl (l.map i64L)])],emp⟩:=by
 refine wp_start ?_
 simp only[mf_ref04_Neg]
 by_cases hr:rightR (s,l)=true
 ·obtain⟨z,hz,e⟩:=(rightR_iff _).1 hr
  have e1:negR (s,l)=encB (-z):=by unfold negR;rw[if_pos hr,e,valB_enc]
  cases e
  have hw:IntKind.i64.wrap (0-z.sign) = -z.sign:=by
   have:=Int.sign_trichotomy z
   rw[wrap64 _ (by omega) (by omega)];omega
  rw[e1]
  simp only[go_sem,reduceIte,yA,yB,yC,yD,yE,yH,reduceCtorEq,yF,yG,yI,h_rRight,h_rmade,hr,hc,hw,sign_neg_dg,bigL]
  repeat' (first|refine qqA ?_ ?_|refine qqB ?_ ?_|refine qqC ?_ ?_|refine qqD ?_ ?_|refine qqE ?_ ?_|refine qqF ?_ ?_)<;>intro h<;>simp only[h,go_sem,reduceIte,yA,yB,yC,yD,yE,yH,reduceCtorEq,yF,yG,yI,h_rRight,h_rmade,hr,hc,hw,sign_neg_dg,bigL]
 ·have hr:rightR (s,l)=false:=by simpa using hr
  have e1:negR (s,l)=(0,[]):=by unfold negR;rw[hr];rfl
  rw[e1]
  simp only[go_sem,reduceIte,yA,yB,yC,yD,yE,yH,reduceCtorEq,yF,yG,yI,h_rRight,h_rmade,hr,hc,bigL,List.map_nil]
  repeat' (first|refine qqA ?_ ?_|refine qqB ?_ ?_|refine qqC ?_ ?_|refine qqD ?_ ?_|refine qqE ?_ ?_|refine qqF ?_ ?_)<;>intro h<;>simp only[h,go_sem,reduceIte,yA,yB,yC,yD,yE,yH,reduceCtorEq,yF,yG,yI,h_rRight,h_rmade,hr,hc,bigL,List.map_nil]
theorem tmod_nat (n:Int):(n.tmod 1048576).natAbs=n.natAbs % 1048576:=by rw[Int.natAbs_tmod];rfl
theorem tdiv_nat (n:Int):(n.tdiv 1048576).natAbs=n.natAbs / 1048576:=by rw[Int.natAbs_tdiv];rfl
noncomputable def F_rOf:List Data→Option PRes:=FF (α:=Int) (fun (n:Int)=>([.int .i64 n]:List Data)) (fun (n:Int)=>onlyIf (i64R n) (.same (.agg (bigL (encB n)))))
theorem F_rOf_inj:∀ a b:Int,(fun (n:Int)=>([.int .i64 n]:List Data)) a=(fun (n:Int)=>([.int .i64 n]:List Data)) b→a=b:=by
  intro n1 n2 h
  simp only[yM,Data.int.injEq,Data.agg.injEq,Data.sl.injEq,Data.bool.injEq,Data.str.injEq,Data.ptr.injEq,Data.tup.injEq,Prod.mk.injEq,true_and,and_true] at h ⊢
  first | exact h | simpa [Prod.ext_iff,and_assoc] using h | grind
@[go_sem] theorem F_rOf_eq (n:Int) (hc:i64R n):F_rOf [.int .i64 n]=some (.same (.agg (bigL (encB n)))):=(FF_eq F_rOf_inj n).trans (onlyIf_pos hc _)
theorem w_rOf (T:Tab) (h_rmade:T id_ref04_made=mkE F_rmade) (n:Int) (hc:i64R n) :
  wp T mf_ref04_Of.body (endS mf_ref04_Of.res (.same (.agg (bigL (encB n))))) ⟨initTm [.dat (.int .i64 n)],emp⟩:=by
 refine wp_start ?_
 simp only[mf_ref04_Of]
 have hc':=hc
 unfold i64R at hc'
 obtain⟨hn1,hn2⟩:=hc'
 have hlen:(dg n.natAbs).length≤60:=dg_len.2 (lim_i64 hc)
 rcases Decidable.em (n=0) with rfl | hn0
 ·simp only[go_sem,reduceIte,yA,yB,yC,yD,yE,yH,reduceCtorEq,yF,yG,yI,h_rmade,bigL,beq_self_eq_true]
  repeat' (first|refine qqA ?_ ?_|refine qqB ?_ ?_|refine qqC ?_ ?_|refine qqD ?_ ?_|refine qqE ?_ ?_|refine qqF ?_ ?_)<;>intro h<;>simp only[h,go_sem,reduceIte,yA,yB,yC,yD,yE,yH,reduceCtorEq,yF,yG,yI,h_rmade,bigL,beq_self_eq_true]
  rfl
 have hne:(n==0)=false:=by simpa using hn0
 have hs:∀ s:Int,s=n.sign→signR s (dg n.natAbs)=encB n:=fun s h=>signR_enc rfl fun _=>h
 have hlen':(dg n.natAbs).length≤1000000:=by omega
 rcases Decidable.em (n<0) with hneg | hpos
 ·have hsn:=hs (-1) (Int.sign_eq_neg_one_of_neg hneg).symm
  simp only[go_sem,reduceIte,yA,yB,yC,yD,yE,yH,reduceCtorEq,yF,yG,yI,h_rmade,hne,hneg,decide_true]
  refine wp_loop_keep [2,3] [144002] (fun ((u,g,l):Int × Nat × List Int) tm mem=>u≤0∧n≤u∧dg n.natAbs=l++dg u.natAbs∧tm 0 = .dat (.int .i64 u)∧tm 4 = .ref 144022 g 1 0 l.length∧mem 144022=some (g,rowE i64L l)) (fun (u,_)=>u.natAbs) (n,0,[]) (by refine⟨by omega,by omega,rfl,rfl,rfl,rfl⟩) ?_
  intro vs ms hvs hms
  simp only[go_sem,reduceIte,yA,yB,yC,yD,yE,yH,reduceCtorEq,yF,yG,yI,h_rmade,hneg,decide_true] at hvs hms
  subst hvs hms
  rintro⟨u,g,l⟩ tm mem hk hm ⟨hu,hnu,hd,h0,h4,hm22⟩
  simp only[go_sem,reduceIte,yA,yB,yC,yD,yE,yH,reduceCtorEq,yF,yG,yI,h_rmade,yM] at hk hm
  obtain⟨h2,h3⟩:=hk
  rcases Decidable.em (u=0) with rfl | hu0
  ·rw[show (0:Int).natAbs=0 from rfl,dg_zero,List.append_nil] at hd
   rw[hd] at hsn hlen'
   simp only[go_sem,reduceIte,yA,yB,yC,yD,yE,yH,reduceCtorEq,yF,yG,yI,h_rmade,h0,h2,h3,h4,hm,hm22,hsn,hlen',wpFr2_row i64L_len,List.take_length,bigL,yJ,beq_self_eq_true]
   repeat' (first|refine qqA ?_ ?_|refine qqB ?_ ?_|refine qqC ?_ ?_|refine qqD ?_ ?_|refine qqE ?_ ?_|refine qqF ?_ ?_)<;>intro h<;>simp only[h,go_sem,reduceIte,yA,yB,yC,yD,yE,yH,reduceCtorEq,yF,yG,yI,h_rmade,h0,h2,h3,h4,hm,hm22,hsn,hlen',wpFr2_row i64L_len,List.take_length,bigL,yJ,beq_self_eq_true]
  ·have hul:l.length≤60:=by
    have:=congrArg List.length hd
    rw[List.length_append] at this
    omega
   have hun:(u==0)=false:=by simpa using hu0
   have hap:=fun d:Int=>app_row i64L_len i64L_one 144022 g 8 l d (cs:=[.dat (.int .i64 d)]) rfl (by omega) (by omega)
   have e1:=tmod_nat u
   have e2:=tdiv_nat u
   have e3:u.tmod 1048576≤0:=by have:=Int.tmod_nonneg (a:=-u) 1048576 (by omega);rw[Int.neg_tmod] at this;omega
   have e4:u.tdiv 1048576≤0∧u≤u.tdiv 1048576:=by
    have:=Int.tdiv_nonneg (a:=-u) (b:=1048576) (by omega) (by omega);rw[Int.neg_tdiv] at this;omega
   have hw1:IntKind.i64.wrap (u.tdiv 1048576)=u.tdiv 1048576:=wrap64 _ (by omega) (by omega)
   have hw2:IntKind.i64.wrap (0-u.tmod 1048576) = -(u.tmod 1048576):=by rw[wrap64 _ (by omega) (by omega)];omega
   have hdu:=dg_pos (n:=u.natAbs) (by omega)
   have hfin:∀ d:Int,d=((u.natAbs % 1048576:Nat):Int)→∃ i':Int × Nat × List Int,i'.1.natAbs<u.natAbs∧i'.1≤0∧n≤i'.1∧dg n.natAbs=i'.2.2++dg i'.1.natAbs∧MV.dat (.int .i64 (u.tdiv 1048576))=MV.dat (.int .i64 i'.1)∧MV.ref 144022 (g+1) 1 0 (l.length+1)=MV.ref 144022 i'.2.1 1 0 i'.2.2.length∧some (g+1,rowE i64L (l++[d]))=some (i'.2.1,rowE i64L i'.2.2):=by
    intro d hdd
    refine⟨(u.tdiv 1048576,g+1,l++[d]),by dsimp only;omega,by dsimp only;omega,by dsimp only;omega,?_,rfl,by simp,rfl⟩
    dsimp only
    rw[hd,hdu,hdd,e2,List.append_assoc]
    rfl
   by_cases hz:u.tmod 1048576<0
   ·simp only[go_sem,reduceIte,yA,yB,yC,yD,yE,yH,reduceCtorEq,yF,yG,yI,h_rmade,h0,h2,h3,h4,hm,hm22,hun,hap,hw1,hw2,hz,decide_true,yJ,yM]
    repeat' (first|refine qqA ?_ ?_|refine qqB ?_ ?_|refine qqC ?_ ?_|refine qqD ?_ ?_|refine qqE ?_ ?_|refine qqF ?_ ?_)<;>intro h<;>simp only[h,go_sem,reduceIte,yA,yB,yC,yD,yE,yH,reduceCtorEq,yF,yG,yI,h_rmade,h0,h2,h3,h4,hm,hm22,hun,hap,hw1,hw2,hz,decide_true,yJ,yM]
    exact hfin _ (by omega)
   ·simp only[go_sem,reduceIte,yA,yB,yC,yD,yE,yH,reduceCtorEq,yF,yG,yI,h_rmade,h0,h2,h3,h4,hm,hm22,hun,hap,hw1,hw2,hz,decide_false,yJ,yM]
    repeat' (first|refine qqA ?_ ?_|refine qqB ?_ ?_|refine qqC ?_ ?_|refine qqD ?_ ?_|refine qqE ?_ ?_|refine qqF ?_ ?_)<;>intro h<;>simp only[h,go_sem,reduceIte,yA,yB,yC,yD,yE,yH,reduceCtorEq,yF,yG,yI,h_rmade,h0,h2,h3,h4,hm,hm22,hun,hap,hw1,hw2,hz,decide_false,yJ,yM]
    exact hfin _ (by omega)
 ·have hsn:=hs 1 (Int.sign_eq_one_of_pos (by omega)).symm
  simp only[go_sem,reduceIte,yA,yB,yC,yD,yE,yH,reduceCtorEq,yF,yG,yI,h_rmade,hne,hpos,decide_false]
  refine wp_loop_keep [2,3] [144002] (fun ((u,g,l):Int × Nat × List Int) tm mem=>0≤u∧u≤n∧dg n.natAbs=l++dg u.natAbs∧tm 0 = .dat (.int .i64 u)∧tm 4 = .ref 144022 g 1 0 l.length∧mem 144022=some (g,rowE i64L l)) (fun (u,_)=>u.natAbs) (n,0,[]) (by refine⟨by omega,by omega,rfl,rfl,rfl,rfl⟩) ?_
  intro vs ms hvs hms
  simp only[go_sem,reduceIte,yA,yB,yC,yD,yE,yH,reduceCtorEq,yF,yG,yI,h_rmade,hpos,decide_false] at hvs hms
  subst hvs hms
  rintro⟨u,g,l⟩ tm mem hk hm ⟨hu,hnu,hd,h0,h4,hm22⟩
  simp only[go_sem,reduceIte,yA,yB,yC,yD,yE,yH,reduceCtorEq,yF,yG,yI,h_rmade,yM] at hk hm
  obtain⟨h2,h3⟩:=hk
  rcases Decidable.em (u=0) with rfl | hu0
  ·rw[show (0:Int).natAbs=0 from rfl,dg_zero,List.append_nil] at hd
   rw[hd] at hsn hlen'
   simp only[go_sem,reduceIte,yA,yB,yC,yD,yE,yH,reduceCtorEq,yF,yG,yI,h_rmade,h0,h2,h3,h4,hm,hm22,hsn,hlen',wpFr2_row i64L_len,List.take_length,bigL,yJ,beq_self_eq_true]
   repeat' (first|refine qqA ?_ ?_|refine qqB ?_ ?_|refine qqC ?_ ?_|refine qqD ?_ ?_|refine qqE ?_ ?_|refine qqF ?_ ?_)<;>intro h<;>simp only[h,go_sem,reduceIte,yA,yB,yC,yD,yE,yH,reduceCtorEq,yF,yG,yI,h_rmade,h0,h2,h3,h4,hm,hm22,hsn,hlen',wpFr2_row i64L_len,List.take_length,bigL,yJ,beq_self_eq_true]
  ·have hul:l.length≤60:=by
    have:=congrArg List.length hd
    rw[List.length_append] at this
    omega
   have hun:(u==0)=false:=by simpa using hu0
   have hap:=fun d:Int=>app_row i64L_len i64L_one 144022 g 8 l d (cs:=[.dat (.int .i64 d)]) rfl (by omega) (by omega)
   have e1:=tmod_nat u
   have e2:=tdiv_nat u
   have e3:=Int.tmod_nonneg (a:=u) 1048576 (by omega)
   have e4:=Int.tdiv_nonneg (a:=u) (b:=1048576) (by omega) (by omega)
   have hw1:IntKind.i64.wrap (u.tdiv 1048576)=u.tdiv 1048576:=wrap64 _ (by omega) (by omega)
   have hdu:=dg_pos (n:=u.natAbs) (by omega)
   have hz:decide (u.tmod 1048576<0)=false:=decide_eq_false (by omega)
   simp only[go_sem,reduceIte,yA,yB,yC,yD,yE,yH,reduceCtorEq,yF,yG,yI,h_rmade,h0,h2,h3,h4,hm,hm22,hun,hap,hw1,hz,yJ,yM]
   repeat' (first|refine qqA ?_ ?_|refine qqB ?_ ?_|refine qqC ?_ ?_|refine qqD ?_ ?_|refine qqE ?_ ?_|refine qqF ?_ ?_)<;>intro h<;>simp only[h,go_sem,reduceIte,yA,yB,yC,yD,yE,yH,reduceCtorEq,yF,yG,yI,h_rmade,h0,h2,h3,h4,hm,hm22,hun,hap,hw1,hz,yJ,yM]
   refine⟨(u.tdiv 1048576,g+1,l++[u.tmod 1048576]),by dsimp only;omega,by dsimp only;omega,by dsimp only;omega,?_,rfl,by simp,by first | rfl | simp [go_sem]⟩
   dsimp only
   rw[hd,hdu,e2,List.append_assoc,show u.tmod 1048576=((u.natAbs % 1048576:Nat):Int) by omega]
   rfl
end Go.Mini
