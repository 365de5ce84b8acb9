/- A part of the proof. -/
import Derived.Test.YtdbkjjoedjfmpaaM04
import Derived.Test.YtdbkjjoedjfmpaaM06
set_option linter.unusedSimpArgs false
set_option linter.unusedVariables false
open Prod renaming ext → YV
open Bool renaming false_eq_true → YW
open List renaming findIdx?_eq_some_iff_getElem → YX, getElem?_eq_getElem → YY, getElem_mem → YZ, length_map → Y0, getElem?_map → Y3, take_length → Y4, map_nil → Y7, length_nil → Y8, length_take → Zg, map_take → Zm, getD_eq_getElem?_getD → Zw
open Nat renaming zero_le → Y1, le_refl → Y6, min_eq_left → Zj, lt_or_ge → Zr, eq_zero_or_pos → Zy, div_div_eq_div_mul → Zz, mod_lt → ZA, lt_of_div_lt_div → ZB
open Decidable renaming em → Y2
open Option renaming bind_none → Y5
open Int renaming natCast_zero → Y9, cast_ofNat_Int → Zd, pow_succ → ZC, mul_add → ZD, mul_assoc → ZE
namespace Go.Mini
open Go
def mf_linear_Right:MFunc :=
 { n:=22,np:=2,res:=[.t 4],body :=
 (.seq (.ops [
 Zk 3 108003 1,Zb 4 false])
 (.seq (.seq (.ops [
 Zl 6 1 3,Zc 7 .lss 6 0,Zv 8 7,⟨some 9,some (8,false),.load 1 false (.t 3)⟩,⟨some 10,some (8,false),.bin .gtr (.t 9) (.c (ZI 40))⟩,Zp 11 8 10,Zv 12 11,⟨some 13,some (12,false),.mv (.t 0)⟩,⟨some 14,some (12,false),.len (.t 13)⟩,⟨some 15,some (12,false),.load 1 false (.t 3)⟩,⟨some 16,some (12,false),.bin .neq (.t 14) (.t 15)⟩,Zp 17 12 16])
 (.cond (.t 17)
 (.seq (.ops [
 Zb 4 false])
 .ret)
 .skip))
 (.seq (.ops [
 ⟨some 5,none,.alloc 108005 [(.dat .nilf)]⟩,⟨none,none,.store 1 (.t 5) (.c (.clo az []))⟩])
 (.seq (.ops [
 Zv 18 0,⟨some 19,none,.mkfn bA [(.t 3),(.t 5)]⟩,⟨some 20,none,.call ej [(.t 18),(.t 19)]⟩,Zt 21 20,Zv 4 21])
 .ret)))) }
def mf_linear_Solve:MFunc :=
 { n:=48,np:=2,res:=[.t 4,.t 5],body :=
 (.seq (.ops [
 Ze 4,Zi 5 0])
 (.seq (.seq (.ops [
 Zv 11 0,Zv 12 1,⟨some 13,none,.call jY [(.t 11),(.t 12)]⟩,Zt 14 13])
 (.cond (.t 14)
 (.seq (.ops [
 Ze 4,Zi 5 1])
 .ret)
 .skip))
 (.seq (.ops [
 Zv 16 0,Zv 17 1,⟨some 18,none,.call gh [(.t 16),(.t 17),(.c (.dat (.bool true)))]⟩,Zv 15 18,Zx 19 0 15,Zx 20 1 15,Zv 6 19,Zv 7 20])
 (.seq (.block 0
 (.seq (.ops [
 Zv 22 6,Zh 23 22,Zf 24 2 23,Zl 25 1 24,Zv 21 25])
 (.cond (.t 21)
 (.seq (.ops [
 Ze 4,Zi 5 6])
 .ret)
 (.seq (.ops [
 Zv 27 7,Zn 28 27,Zc 29 .gtr 28 0,Zv 26 29])
 (.cond (.t 26)
 (.seq (.ops [
 Ze 4,Zi 5 17])
 .ret)
 .skip)))))
 (.seq (.ops [
 Ze 8])
 (.seq (.seq (.ops [
 Zv 30 6,Zh 31 30,Zf 32 0 31,Zl 33 1 32,Zn 34 33,Zi 35 0])
 (.block 1
 (.ghost (.adopt 8 109045 4) (.loop
 (.seq (.ops [
 Zo 36 .lss 35 34])
 (.seq (.cond (.t 36)
 .skip
 (.exit 1))
 (.seq (.block 2
 (.seq (.ops [
 Za 37 1 33 35,Zl 38 1 37,Zv 10 38])
 (.ops [
 Zv 39 8,Zv 40 10,Zv 41 1,Za 42 4 40 41,Zu 43 4 42,⟨some 44,none,.bsl 109044 false [(ZI 0),.nil,(ZI 0),.nil] 4 1 [(0,4,(.t 43))]⟩,⟨some 45,none,.app 109045 [(ZI 0),.nil,(ZI 0),.nil] 64 (.t 39) (.t 44)⟩,Zv 8 45])))
 (.ops [
 Zc 46 .add 35 1,Zv 35 46]))))))))
 (.seq (.ops [
 Zv 47 8,Zv 4 47,Zi 5 0])
 .ret))))))) }
def mf_linear_Right_1:MFunc :=
 { n:=6,np:=1,res:=[.t 2],body :=
 (.seq (.ops [
 Zk 1 125001 0,Zb 2 false])
 (.seq (.ops [
 Zu 3 4 1,⟨some 4,none,.call bb [(.t 3)]⟩,Zt 5 4,Zv 2 5])
 .ret)) }
def mf_linear_Right_2:MFunc :=
 { n:=22,np:=3,res:=[.t 4],body :=
 (.seq (.ops [
 Zk 3 127003 0,Zb 4 false])
 (.seq (.ops [
 Zf 5 0 3,Zl 6 1 5,Zn 7 6,Zl 8 1 1,Zo 9 .neq 7 8,Zv 10 9,⟨some 11,some (10,false),.load 1 false (.t 2)⟩,⟨some 12,some (10,false),.fad 1 (.t 3)⟩,⟨some 13,some (10,false),.load 4 true (.t 12)⟩,⟨some 14,some (10,false),.callv (.t 11) [(.t 13)]⟩,Zp 15 10 14,Zv 16 15,⟨some 17,some (16,false),.fad 0 (.t 3)⟩,⟨some 18,some (16,false),.load 1 false (.t 17)⟩,⟨some 19,some (16,false),.load 1 false (.t 2)⟩,⟨some 20,some (16,false),.call dT [(.t 18),(.t 19)]⟩,Zp 21 16 20,Zv 4 21])
 .ret)) }
def mf_linear_eliminated:MFunc :=
 { n:=65,np:=3,res:=[.t 6,.t 7],body :=
 (.seq (.ops [
 ⟨some 6,none,.mv (.c (.dat .nilp))⟩,Ze 7])
 (.seq (.ops [
 Zv 13 1,⟨some 14,none,.build [.nil,(ZI 0),(.dat (.bool false))] [(1,1,(.t 13))]⟩,Zk 15 129015 14,Zv 8 15])
 (.seq (.seq (.ops [
 Zv 16 0,Zn 17 16,Zi 18 0])
 (.block 0
 (.loop
 (.seq (.ops [
 Zo 19 .lss 18 17])
 (.seq (.cond (.t 19)
 .skip
 (.exit 0))
 (.seq (.block 1
 (.seq (.ops [
 Za 20 5 16 18,Zu 21 5 20,⟨some 10,none,.alloc 129010 [.nil,(ZI 0),.nil,(ZI 0),.nil]⟩,Zs 5 10 21])
 (.opsD [
 Zv 22 8,Zv 23 8,Zh 24 23,Zf 25 0 24,Zl 26 1 25,Zf 27 0 10,Zl 28 1 27,⟨some 29,none,.callo 129029 4 eK [(.t 28)]⟩,Zf 30 1 10,Zu 31 4 30,⟨some 32,none,.bsl 129032 false [(ZI 0),.nil,(ZI 0),.nil] 4 1 [(0,4,(.t 31))]⟩,⟨some 33,none,.app 129033 [(ZI 0),.nil,(ZI 0),.nil] 64 (.t 29) (.t 32)⟩,⟨some 34,none,.bsl 129034 true [.nil] 1 1 [(0,1,(.t 33))]⟩,⟨some 35,none,.app 129035 [.nil] 24 (.t 26) (.t 34)⟩,Zh 36 22,Zf 37 0 36,Zs 1 37 35] [[],[],[],[],[],[],[],[4],[],[7],[],[4],[4],[],[],[],[]])))
 (.ghost (.move) (.ops [
 Zc 38 .add 18 1,Zv 18 38]))))))))
 (.seq (.ops [
 Ze 11])
 (.seq (.seq (.ops [
 Zi 12 0])
 (.block 2
 (.ghost (.adopt 11 129061 1) (.loop
 (.seq (.seq (.ops [
 Zv 39 12,Zv 40 1,Zo 41 .lss 39 40,Zv 42 41,⟨some 43,some (42,true),.mv (.t 8)⟩,⟨some 44,some (42,true),.nchk (.t 43)⟩,⟨some 45,some (42,true),.fad 2 (.t 44)⟩,⟨some 46,some (42,true),.load 1 false (.t 45)⟩,⟨some 47,some (42,true),.un .not (.t 46)⟩,Zq 48 42 47])
 (.cond (.t 48)
 .skip
 (.exit 2)))
 (.seq (.block 3
 (.seq (.ops [
 Zv 51 8,Zv 52 12,Zv 53 11,Zn 54 53,Zo 55 .sub 52 54,Zv 56 12,⟨some 57,none,.call fC [(.t 51),(.t 55),(.t 56)]⟩])
 (.cond (.t 57)
 (.seq (.ops [
 Zv 58 11,Zv 59 12,⟨some 60,none,.bsl 129060 false [(ZI 0)] 1 1 [(0,1,(.t 59))]⟩,⟨some 61,none,.app 129061 [(ZI 0)] 8 (.t 58) (.t 60)⟩,Zv 11 61])
 (.seq (.ops [
 Zv 62 2])
 (.cond (.t 62)
 (.exit 2)
 .skip)))
 .skip)))
 (.ops [
 Zv 49 12,Zc 50 .add 49 1,Zv 12 50])))))))
 (.seq (.ops [
 Zv 63 8,Zv 64 11,Zv 6 63,Zv 7 64])
 .ret)))))) }
def mf_linear_matrix_pivot:MFunc :=
 { n:=172,np:=3,res:=[.t 6],body :=
 (.seq (.ops [
 Zb 6 false])
 (.seq (.ops [
 Zv 15 1,Zv 7 15])
 (.seq (.block 0
 (.loop
 (.seq (.seq (.ops [
 Zv 16 7,Zv 17 0,Zh 18 17,Zf 19 1 18,Zl 20 1 19,Zo 21 .lss 16 20,Zv 22 21,⟨some 23,some (22,true),.mv (.t 0)⟩,⟨some 24,some (22,true),.nchk (.t 23)⟩,⟨some 25,some (22,true),.fad 0 (.t 24)⟩,⟨some 26,some (22,true),.load 1 false (.t 25)⟩,⟨some 27,some (22,true),.mv (.t 7)⟩,⟨some 28,some (22,true),.iad 1 (.t 26) (.t 27)⟩,⟨some 29,some (22,true),.load 1 false (.t 28)⟩,⟨some 30,some (22,true),.mv (.t 2)⟩,⟨some 31,some (22,true),.iad 4 (.t 29) (.t 30)⟩,⟨some 32,some (22,true),.load 4 true (.t 31)⟩,⟨some 33,some (22,true),.call gf [(.t 32)]⟩,Zq 34 22 33])
 (.cond (.t 34)
 .skip
 (.exit 0)))
 (.block 1
 (.ops [
 Zv 35 7,Zc 36 .add 35 1,Zv 7 36])))))
 (.seq (.seq (.ops [
 Zv 37 7,Zv 38 0,Zh 39 38,Zf 40 1 39,Zl 41 1 40,Zo 42 .eql 37 41])
 (.cond (.t 42)
 (.seq (.ops [
 Zb 6 true])
 .ret)
 .skip))
 (.seq (.opsD [
 Zv 43 0,Zh 44 43,Zf 45 0 44,Zl 46 1 45,Zv 47 1,Zv 48 0,Zh 49 48,Zf 50 0 49,Zl 51 1 50,Zv 52 7,Zv 53 0,Zh 54 53,Zf 55 0 54,Zl 56 1 55,Zv 57 7,Za 58 1 56 57,Zl 59 1 58,Zv 60 0,Zh 61 60,Zf 62 0 61,Zl 63 1 62,Zv 64 1,Za 65 1 63 64,Zl 66 1 65,Za 67 1 46 47,Zs 1 67 59,Za 68 1 51 52,Zs 1 68 66] [[],[],[],[],[],[],[],[],[],[],[],[],[],[],[],[],[],[],[],[],[],[],[],[],[],[],[],[]])
 (.seq (.ops [
 Zv 69 0,Zh 70 69,Zf 71 0 70,Zl 72 1 71,Zv 73 1,Za 74 1 72 73,Zl 75 1 74,Zv 76 2,Za 77 4 75 76,Zu 78 4 77,⟨some 8,none,.alloc 148008 [(ZI 0),.nil,(ZI 0),.nil]⟩,Zs 4 8 78])
 (.seq (.seq (.ops [
 Zv 79 0,Zh 80 79,Zf 81 0 80,Zl 82 1 81,Zv 83 1,Za 84 1 82 83,Zl 85 1 84,Zn 86 85,Zi 87 0])
 (.block 2
 (.loop
 (.seq (.ops [
 Zo 88 .lss 87 86])
 (.seq (.cond (.t 88)
 .skip
 (.exit 2))
 (.seq (.block 3
 (.seq (.ops [
 Zv 89 87,Za 90 4 85 87,Zu 91 4 90,⟨some 10,none,.alloc 148010 [(ZI 0),.nil,(ZI 0),.nil]⟩,Zv 9 89,Zs 4 10 91])
 (.opsD [
 Zv 92 0,Zh 93 92,Zf 94 0 93,Zl 95 1 94,Zv 96 1,Za 97 1 95 96,Zl 98 1 97,Zv 99 9,Zv 100 0,Zu 101 4 10,Zu 102 4 8,⟨some 103,none,.call gB [(.t 101),(.t 102)]⟩,Zx 104 0 103,Zx 105 1 103,⟨some 106,none,.callm 2 bW [(.t 100),(.t 104),(.t 105)]⟩,Za 107 4 98 99,Zs 4 107 106] [[],[],[],[],[],[],[],[],[],[],[],[],[],[],[3,6],[],[]])))
 (.ops [
 Zc 108 .add 87 1,Zv 87 108])))))))
 (.seq (.seq (.ops [
 Zv 109 0,Zh 110 109,Zf 111 0 110,Zl 112 1 111,Zn 113 112,Zi 114 0])
 (.block 4
 (.loop
 (.seq (.ops [
 Zo 115 .lss 114 113])
 (.seq (.cond (.t 115)
 .skip
 (.exit 4))
 (.seq (.block 5
 (.seq (.ops [
 Zv 116 114,Za 117 1 112 114,Zl 118 1 117,Zv 11 116,Zv 12 118])
 (.seq (.ops [
 Zv 119 12,Zv 120 2,Za 121 4 119 120,Zu 122 4 121,⟨some 13,none,.alloc 148013 [(ZI 0),.nil,(ZI 0),.nil]⟩,Zs 4 13 122])
 (.seq (.seq (.ops [
 Zv 123 11,Zv 124 1,Zo 125 .eql 123 124,Zv 126 125,⟨some 127,some (126,false),.load 4 true (.t 13)⟩,⟨some 128,some (126,false),.call gf [(.t 127)]⟩,Zp 129 126 128])
 (.cond (.t 129)
 (.exit 5)
 .skip))
 (.seq (.ops [
 Zi 14 0])
 (.block 6
 (.loop
 (.seq (.seq (.ops [
 Zv 130 14,Zv 131 12,Zn 132 131,Zo 133 .lss 130 132,Zv 134 133,⟨some 135,some (134,true),.mv (.t 0)⟩,⟨some 136,some (134,true),.nchk (.t 135)⟩,⟨some 137,some (134,true),.fad 2 (.t 136)⟩,⟨some 138,some (134,true),.load 1 false (.t 137)⟩,⟨some 139,some (134,true),.un .not (.t 138)⟩,Zq 140 134 139])
 (.cond (.t 140)
 .skip
 (.exit 6)))
 (.seq (.block 7
 (.opsD [
 Zv 143 12,Zv 144 14,Zv 145 0,Zv 146 12,Zv 147 14,Za 148 4 146 147,Zu 149 4 148,Zv 150 0,Zu 151 4 13,Zv 152 0,Zh 153 152,Zf 154 0 153,Zl 155 1 154,Zv 156 1,Za 157 1 155 156,Zl 158 1 157,Zv 159 14,Za 160 4 158 159,Zu 161 4 160,⟨some 162,none,.call cY [(.t 151),(.t 161)]⟩,Zx 163 0 162,Zx 164 1 162,⟨some 165,none,.callm 2 bW [(.t 150),(.t 163),(.t 164)]⟩,⟨some 166,none,.call dm [(.t 149),(.t 165)]⟩,Zx 167 0 166,Zx 168 1 166,⟨some 169,none,.callm 2 bW [(.t 145),(.t 167),(.t 168)]⟩,Za 170 4 143 144,Zs 4 170 169] [[],[],[],[],[],[],[],[],[],[],[],[],[],[],[],[],[],[],[],[],[],[],[6],[],[],[],[],[],[]]))
 (.ops [
 Zv 141 14,Zc 142 .add 141 1,Zv 14 142]))))))))))
 (.ops [
 Zc 171 .add 114 1,Zv 114 171])))))))
 (.seq (.ops [
 Zb 6 false])
 .ret))))))))) }
def mf_linear_zero:MFunc :=
 { n:=7,np:=1,res:=[.t 2],body :=
 (.seq (.ops [
 Zk 1 167001 0,Zb 2 false])
 (.seq (.ops [
 Zf 3 0 1,Zf 4 0 3,Zl 5 1 4,Zc 6 .eql 5 0,Zv 2 6])
 .ret)) }
def mf_linear_matrix_note:MFunc :=
 { n:=19,np:=3,res:=[.cell 6 4 true],body :=
 (.seq (.ops [
 Zk 4 168004 1,⟨some 6,none,.alloc 168006 [(ZI 0),.nil,(ZI 0),.nil]⟩])
 (.seq (.ops [
 Zv 7 0,Zv 8 0,Zh 9 8,Zf 10 2 9,Zl 11 1 10,Zv 12 11,⟨some 13,some (12,false),.mv (.t 2)⟩,⟨some 14,some (12,false),.bin .neq (.t 13) (.c (ZI 0))⟩,Zp 15 12 14,Zh 16 7,Zf 17 2 16,Zs 1 17 15])
 (.seq (.ops [
 Zu 18 4 4,Zs 4 6 18])
 .ret))) }
def mf_clear_Solve:MFunc :=
 { n:=92,np:=2,res:=[.cell 4 3 true,.t 5],body :=
 (.seq (.ops [
 ⟨some 4,none,.alloc 217004 [.nil,.nil,.nil]⟩,Zi 5 0])
 (.seq (.seq (.ops [
 Zv 15 0,Zv 16 1,⟨some 17,none,.call kZ [(.t 15),(.t 16)]⟩,Zt 18 17])
 (.cond (.t 18)
 (.seq (.ops [
 ⟨some 19,none,.build [.nil,.nil,.nil] []⟩,Zs 3 4 19,Zi 5 1])
 .ret)
 .skip))
 (.seq (.ops [
 Zv 20 0,Zv 21 1,⟨some 22,none,.call lO [(.t 20),(.t 21)]⟩,Zv 6 22])
 (.seq (.ops [
 ⟨some 7,none,.alloc 217007 [.nil,.nil,.nil]⟩])
 (.seq (.block 0
 (.loop
 (.block 1
 (.seq (.ops [
 Zv 24 6,⟨some 25,none,.call iT [(.t 24)]⟩,Zv 23 25,Zx 26 0 23,Zx 27 1 23,⟨some 8,none,.alloc 217008 [.nil]⟩,Zs 1 8 26,Zv 9 27])
 (.seq (.seq (.ops [
 Zv 28 9,Zt 29 28])
 (.cond (.t 29)
 (.seq (.ops [
 ⟨some 30,none,.build [.nil,.nil,.nil] []⟩,Zs 3 4 30,Zi 5 6])
 .ret)
 .skip))
 (.seq (.ops [
 Ze 10])
 (.seq (.seq (.ops [
 Zv 31 6,Zn 32 31,Zi 33 0])
 (.block 2
 (.ghost (.adopt 10 217057 1) (.loop
 (.seq (.ops [
 Zo 34 .lss 33 32])
 (.seq (.cond (.t 34)
 .skip
 (.exit 2))
 (.seq (.block 3
 (.seq (.ops [
 Zv 35 33,Za 36 1 31 33,Zl 37 1 36,⟨some 11,none,.alloc 217011 [(ZI 0)]⟩,Zs 1 11 35,Zv 12 37])
 (.seq (.seq (.opsD [
 Zl 38 1 8,Zl 39 1 11,Za 40 4 38 39,Zu 41 4 40,Zv 42 12,Zv 43 12,Zh 44 43,Zf 45 22 44,Zl 46 1 45,Zh 47 42,Zf 48 11 47,⟨some 49,none,.iada 11 1 (.t 48) (.t 46)⟩,Zl 50 1 49,⟨some 51,none,.call bp [(.t 50)]⟩,⟨some 52,none,.call bD [(.t 41),(.t 51)]⟩,Zc 53 .geq 52 0] [[],[],[],[],[],[],[],[],[],[],[],[],[],[],[],[]])
 (.cond (.t 53)
 (.exit 3)
 .skip))
 (.seq (.ops [
 Zv 54 10,Zl 55 1 11,⟨some 56,none,.bsl 217056 false [(ZI 0)] 1 1 [(0,1,(.t 55))]⟩,⟨some 57,none,.app 217057 [(ZI 0)] 8 (.t 54) (.t 56)⟩,Zv 10 57])
 (.ops [
 Zv 58 12,Zv 59 12,Zh 60 59,Zf 61 11 60,⟨some 62,none,.slca 11 1 (.t 61) (some (.c (ZI 1))) none none⟩,⟨some 63,none,.mkfn fb [(.t 8),(.t 11)]⟩,⟨some 64,none,.call bX [(.t 62),(.t 63)]⟩,Zh 65 58,Zf 66 22 65,Zs 1 66 64])))))
 (.ops [
 Zc 67 .add 33 1,Zv 33 67]))))))))
 (.seq (.seq (.ops [
 Zv 68 10,Zn 69 68,Zc 70 .eql 69 0])
 (.cond (.t 70)
 (.seq (.ops [
 Zl 71 1 8,Zf 72 0 7,Zs 1 72 71])
 (.exit 0))
 .skip))
 (.ghost (.freeze 10) (.ops [
 Zf 73 2 7,Zl 74 1 73,Zv 75 10,⟨some 76,none,.bsl 217076 false [.nil] 1 1 [(0,1,(.t 75))]⟩,⟨some 77,none,.app 217077 [.nil] 24 (.t 74) (.t 76)⟩,Zf 78 2 7,Zs 1 78 77]))))))))))
 (.seq (.ghost (.many) (.ops [
 Zv 80 1,Zf 81 0 7,Zl 82 1 81,⟨some 83,none,.call iX [(.t 80),(.t 82)]⟩,Zv 79 83,Zx 84 0 79,Zx 85 1 79,Zv 13 84,Zv 14 85]))
 (.seq (.seq (.ops [
 Zv 86 14,Zt 87 86])
 (.cond (.t 87)
 (.seq (.ops [
 ⟨some 88,none,.build [.nil,.nil,.nil] []⟩,Zs 3 4 88,Zi 5 6])
 .ret)
 .skip))
 (.seq (.ops [
 Zv 89 13,Zf 90 1 7,Zs 1 90 89])
 (.seq (.ops [
 Zu 91 3 7,Zs 3 4 91,Zi 5 0])
 .ret))))))))) }
def mf_clear_right:MFunc :=
 { n:=32,np:=2,res:=[.t 4],body :=
 (.seq (.ops [
 Zb 4 false])
 (.seq (.ops [
 Zv 9 0,Zn 10 9,⟨some 5,none,.alloc 227005 [(ZI 0)]⟩,Zs 1 5 10])
 (.seq (.ops [
 ⟨some 6,none,.alloc 227006 [(.dat .nilf)]⟩,⟨none,none,.store 1 (.t 6) (.c (.clo bn []))⟩])
 (.seq (.ops [
 ⟨some 11,none,.mkfn fa [(.t 6)]⟩,Zv 7 11])
 (.seq (.ops [
 ⟨some 12,none,.mkfn fe [(.t 6),(.t 5)]⟩,Zv 8 12])
 (.seq (.ops [
 Zl 13 1 5,Zc 14 .leq 13 60,Zv 15 14,⟨some 16,some (15,true),.mv (.t 1)⟩,⟨some 17,some (15,true),.len (.t 16)⟩,⟨some 18,some (15,true),.bin .leq (.t 17) (.c (ZI 2000))⟩,Zq 19 15 18,Zv 20 19,⟨some 21,some (20,true),.mv (.t 0)⟩,⟨some 22,some (20,true),.mv (.t 7)⟩,⟨some 23,some (20,true),.call cA [(.t 21),(.t 22)]⟩,⟨some 24,some (20,true),.un .not (.t 23)⟩,Zq 25 20 24,Zv 26 25,⟨some 27,some (26,true),.mv (.t 1)⟩,⟨some 28,some (26,true),.mv (.t 8)⟩,⟨some 29,some (26,true),.call cp [(.t 27),(.t 28)]⟩,⟨some 30,some (26,true),.un .not (.t 29)⟩,Zq 31 26 30,Zv 4 31])
 .ret)))))) }
def mf_clear_open:MFunc :=
 { n:=73,np:=2,res:=[.t 4],body :=
 (.seq (.ops [
 Ze 4])
 (.seq (.ops [
 Ze 5])
 (.seq (.seq (.ops [
 Zv 12 0,Zn 13 12,Zi 14 0])
 (.block 0
 (.ghost (.adopt 5 228023 1) (.loop
 (.seq (.ops [
 Zo 15 .lss 14 13])
 (.seq (.cond (.t 15)
 .skip
 (.exit 0))
 (.seq (.block 1
 (.seq (.ops [
 Za 16 1 12 14,Zl 17 1 16,Zv 7 17])
 (.ops [
 Zv 18 5,Zv 19 7,⟨some 20,none,.build [(ZI 0),.nil,.nil,.nil,.nil,.nil,.nil,.nil,.nil,.nil,.nil,(ZI 0),(ZI 0),(ZI 0),(ZI 0),(ZI 0),(ZI 0),(ZI 0),(ZI 0),(ZI 0),(ZI 0),(ZI 0),(ZI 0),(.dat (.bool false))] [(0,1,(.t 19)),(22,1,(.c (ZI 10)))]⟩,Zk 21 228021 20,⟨some 22,none,.bsl 228022 true [(.dat .nilp)] 1 1 [(0,1,(.t 21))]⟩,⟨some 23,none,.app 228023 [(.dat .nilp)] 8 (.t 18) (.t 22)⟩,Zv 5 23])))
 (.ghost (.many) (.ops [
 Zc 24 .add 14 1,Zv 14 24])))))))))
 (.seq (.seq (.ops [
 Zv 25 1,Zn 26 25,Zi 27 0])
 (.block 2
 (.loop
 (.seq (.ops [
 Zo 28 .lss 27 26])
 (.seq (.cond (.t 28)
 .skip
 (.exit 2))
 (.seq (.block 3
 (.seq (.ops [
 Za 29 4 25 27,Zu 30 4 29,⟨some 9,none,.alloc 228009 [(ZI 0),(ZI 0),(ZI 0),(ZI 0)]⟩,Zs 4 9 30])
 (.seq (.ops [
 Zv 31 5,Zf 32 0 9,Zl 33 1 32,Za 34 1 31 33,Zl 35 1 34,Zv 10 35])
 (.seq (.opsD [
 Zv 36 10,Zf 37 2 9,Zl 38 1 37,Zv 39 10,Zf 40 2 9,Zl 41 1 40,Zh 42 39,Zf 43 1 42,⟨some 44,none,.iada 10 1 (.t 43) (.t 41)⟩,Zl 45 1 44,Zu 46 4 9,⟨some 47,none,.bsl 228047 false [(ZI 0),(ZI 0),(ZI 0),(ZI 0)] 4 1 [(0,4,(.t 46))]⟩,⟨some 48,none,.app 228048 [(ZI 0),(ZI 0),(ZI 0),(ZI 0)] 32 (.t 45) (.t 47)⟩,Zh 49 36,Zf 50 1 49,⟨some 51,none,.iada 10 1 (.t 50) (.t 38)⟩,Zs 1 51 48] [[],[],[],[],[],[],[],[],[],[],[],[],[2],[],[],[],[]])
 (.seq (.ghost (.many) (.ops [
 Zf 52 2 9,Zl 53 1 52,Zc 54 .add 53 1,Zv 11 54]))
 (.block 4
 (.loop
 (.seq (.seq (.ops [
 Zv 55 11,Zc 56 .leq 55 10])
 (.cond (.t 56)
 .skip
 (.exit 4)))
 (.seq (.block 5
 (.opsD [
 Zv 59 10,Zv 60 11,Zh 61 59,Zf 62 11 61,⟨some 63,none,.iada 11 1 (.t 62) (.t 60)⟩,Zl 64 1 63,Zf 65 3 9,Zl 66 1 65,Zo 67 .add 64 66,Zh 68 59,Zf 69 11 68,⟨some 70,none,.iada 11 1 (.t 69) (.t 60)⟩,Zs 1 70 67] [[],[],[],[],[],[],[],[],[],[],[],[],[]]))
 (.ops [
 Zv 57 11,Zc 58 .add 57 1,Zv 11 58]))))))))))
 (.ops [
 Zc 71 .add 27 1,Zv 27 71])))))))
 (.seq (.ghost (.many) (.ops [
 Zv 72 5,Zv 4 72]))
 .ret))))) }
def mf_clear_round:MFunc :=
 { n:=72,np:=1,res:=[.t 2,.t 3],body :=
 (.seq (.ops [
 Ze 2,Zb 3 false])
 (.seq (.seq (.ops [
 Zv 11 0,Zn 12 11,Zi 13 0])
 (.block 0
 (.loop
 (.seq (.ops [
 Zo 14 .lss 13 12])
 (.seq (.cond (.t 14)
 .skip
 (.exit 0))
 (.seq (.block 1
 (.seq (.ops [
 Za 15 1 11 13,Zl 16 1 15,Zv 5 16])
 (.ops [
 Zv 17 5,Zh 18 17,Zf 19 23 18,⟨none,none,.store 1 (.t 19) (.c (.dat (.bool false)))⟩])))
 (.ops [
 Zc 20 .add 13 1,Zv 13 20])))))))
 (.block 2
 (.loop
 (.block 3
 (.seq (.ops [
 Zv 22 0,⟨some 23,none,.call lD [(.t 22)]⟩,Zv 21 23,Zx 24 0 21,Zx 25 1 21,Zv 6 24,Zv 7 25])
 (.seq (.seq (.ops [
 Zv 26 7,Zt 27 26])
 (.cond (.t 27)
 (.seq (.ops [
 Ze 2,Zb 3 false])
 .ret)
 .skip))
 (.seq (.ops [
 Zb 8 false])
 (.seq (.seq (.ops [
 Zv 28 0,Zn 29 28,Zi 30 0])
 (.block 4
 (.loop
 (.seq (.ops [
 Zo 31 .lss 30 29])
 (.seq (.cond (.t 31)
 .skip
 (.exit 4))
 (.seq (.block 5
 (.seq (.ops [
 Zv 32 30,Za 33 1 28 30,Zl 34 1 33,Zv 9 32,Zv 10 34])
 (.seq (.opsD [
 Zv 35 10,Zh 36 35,Zf 37 22 36,Zl 38 1 37,Zc 39 .lss 38 10,Zv 40 39,⟨some 41,some (40,true),.mv (.t 10)⟩,⟨some 42,some (40,true),.nchk (.t 41)⟩,⟨some 43,some (40,true),.fad 23 (.t 42)⟩,⟨some 44,some (40,true),.load 1 false (.t 43)⟩,⟨some 45,some (40,true),.un .not (.t 44)⟩,Zq 46 40 45,Zv 47 46,⟨some 48,some (47,true),.mv (.t 6)⟩,⟨some 49,some (47,true),.mv (.t 9)⟩,⟨some 50,some (47,true),.iad 4 (.t 48) (.t 49)⟩,⟨some 51,some (47,true),.load 4 true (.t 50)⟩,⟨some 52,some (47,true),.mv (.t 10)⟩,⟨some 53,some (47,true),.mv (.t 10)⟩,⟨some 54,some (47,true),.nchk (.t 53)⟩,⟨some 55,some (47,true),.fad 22 (.t 54)⟩,⟨some 56,some (47,true),.load 1 false (.t 55)⟩,⟨some 57,some (47,true),.nchk (.t 52)⟩,⟨some 58,some (47,true),.fad 11 (.t 57)⟩,⟨some 59,some (47,true),.iada 11 1 (.t 58) (.t 56)⟩,⟨some 60,some (47,true),.load 1 false (.t 59)⟩,⟨some 61,some (47,true),.call bp [(.t 60)]⟩,⟨some 62,some (47,true),.call bD [(.t 51),(.t 61)]⟩,⟨some 63,some (47,true),.bin .gtr (.t 62) (.c (ZI 0))⟩,Zq 64 47 63] [[],[],[],[],[],[],[],[],[],[],[],[],[],[],[],[],[],[],[],[],[],[],[],[],[],[],[],[],[],[]])
 (.cond (.t 64)
 (.ops [
 Zv 65 10,Zh 66 65,Zf 67 23 66,⟨none,none,.store 1 (.t 67) (.c (.dat (.bool true)))⟩,Zb 8 true])
 .skip))))
 (.ops [
 Zc 68 .add 30 1,Zv 30 68])))))))
 (.seq (.ops [
 Zv 69 8,Zt 70 69])
 (.cond (.t 70)
 (.seq (.ops [
 Zv 71 6,Zv 2 71,Zb 3 true])
 .ret)
 .skip))))))))))) }
def mf_clear_whole:MFunc :=
 { n:=11,np:=1,res:=[.cell 2 4 true],body :=
 (.seq (.ops [
 ⟨some 2,none,.alloc 230002 [(ZI 0),.nil,(ZI 0),.nil]⟩])
 (.seq (.ops [
 Zv 6 0,⟨some 7,none,.call eQ [(.t 6),(.c (ZI 1))]⟩,Zv 5 7,Zx 8 0 5,Zx 9 1 5,⟨some 3,none,.alloc 230003 [(ZI 0),.nil,(ZI 0),.nil]⟩,Zs 4 3 8,Zv 4 9])
 (.seq (.ops [
 Zu 10 4 3,Zs 4 2 10])
 .ret))) }
def mf_clear_Solve_1:MFunc :=
 { n:=13,np:=3,res:=[.t 4],body :=
 (.seq (.ops [
 Zb 4 false])
 (.seq (.opsD [
 Zl 5 1 1,Zl 6 1 2,Za 7 4 5 6,Zu 8 4 7,Zv 9 0,⟨some 10,none,.call bp [(.t 9)]⟩,⟨some 11,none,.call bD [(.t 8),(.t 10)]⟩,Zc 12 .lss 11 0,Zv 4 12] [[],[],[],[],[],[],[],[],[]])
 .ret)) }
def mf_clear_payments:MFunc :=
 { n:=96,np:=2,res:=[.t 4,.t 5],body :=
 (.seq (.ops [
 Ze 4,Zb 5 false])
 (.seq (.ops [
 Zv 17 1,Zn 18 17,⟨some 19,none,.mksl 233019 [.nil] 24 (.t 18) (.t 18)⟩,Zv 6 19])
 (.seq (.ops [
 Zv 20 1,Zn 21 20,⟨some 22,none,.mksl 233022 [.nil] 24 (.t 21) (.t 21)⟩,Zv 7 22])
 (.seq (.seq (.ops [
 Zv 23 0,Zn 24 23,Zi 25 0])
 (.block 0
 (.loop
 (.seq (.ops [
 Zo 26 .lss 25 24])
 (.seq (.cond (.t 26)
 .skip
 (.exit 0))
 (.seq (.block 1
 (.seq (.ops [
 Zv 27 25,Za 28 4 23 25,Zu 29 4 28,⟨some 9,none,.alloc 233009 [(ZI 0),(ZI 0),(ZI 0),(ZI 0)]⟩,Zv 8 27,Zs 4 9 29])
 (.opsD [
 Zv 30 6,Zf 31 0 9,Zl 32 1 31,Zv 33 7,Zf 34 0 9,Zl 35 1 34,Zv 36 6,Zf 37 0 9,Zl 38 1 37,Za 39 1 36 38,Zl 40 1 39,Zu 41 4 9,⟨some 42,none,.bsl 233042 false [(ZI 0),(ZI 0),(ZI 0),(ZI 0)] 4 1 [(0,4,(.t 41))]⟩,⟨some 43,none,.app 233043 [(ZI 0),(ZI 0),(ZI 0),(ZI 0)] 32 (.t 40) (.t 42)⟩,Zv 44 7,Zf 45 0 9,Zl 46 1 45,Za 47 1 44 46,Zl 48 1 47,Zv 49 8,⟨some 50,none,.bsl 233050 false [(ZI 0)] 1 1 [(0,1,(.t 49))]⟩,⟨some 51,none,.app 233051 [(ZI 0)] 8 (.t 48) (.t 50)⟩,Za 52 1 30 32,Zs 1 52 43,Za 53 1 33 35,Zs 1 53 51] [[],[],[],[],[],[],[],[],[],[],[],[],[],[2,5],[],[],[13],[],[13],[],[],[2,5],[],[5],[],[]])))
 (.ghost (.many) (.ops [
 Zc 54 .add 25 1,Zv 25 54]))))))))
 (.seq (.ghost (.many) (.ops [
 Zv 55 0,Zn 56 55,⟨some 57,none,.mksl 233057 [(ZI 0),.nil,(ZI 0),.nil] 64 (.t 56) (.t 56)⟩,Zv 10 57]))
 (.seq (.seq (.ops [
 Zv 58 6,Zn 59 58,Zi 60 0])
 (.block 2
 (.loop
 (.seq (.ops [
 Zo 61 .lss 60 59])
 (.seq (.cond (.t 61)
 .skip
 (.exit 2))
 (.seq (.block 3
 (.seq (.ops [
 Zv 62 60,Za 63 1 58 60,Zl 64 1 63,Zv 11 62,Zv 12 64])
 (.seq (.ops [
 Zv 66 1,Zv 67 11,Za 68 4 66 67,Zu 69 4 68,Zv 70 12,⟨some 71,none,.call lM [(.t 69),(.t 70)]⟩,Zv 65 71,Zx 72 0 65,Zx 73 1 65,Zv 13 72,Zv 14 73])
 (.seq (.seq (.ops [
 Zv 74 14,Zc 75 .neq 74 0])
 (.cond (.t 75)
 (.seq (.ops [
 Ze 4,Zb 5 false])
 .ret)
 .skip))
 (.seq (.ops [
 Zv 76 7,Zv 77 11,Za 78 1 76 77,Zl 79 1 78,Zn 80 79,Zi 81 0])
 (.block 4
 (.loop
 (.seq (.ops [
 Zo 82 .lss 81 80])
 (.seq (.cond (.t 82)
 .skip
 (.exit 4))
 (.seq (.block 5
 (.seq (.ops [
 Zv 83 81,Za 84 1 79 81,Zl 85 1 84,Zv 15 83,Zv 16 85])
 (.ops [
 Zv 86 10,Zv 87 16,Zv 88 13,Zv 89 15,Za 90 4 88 89,Zu 91 4 90,Za 92 4 86 87,Zs 4 92 91])))
 (.ops [
 Zc 93 .add 81 1,Zv 81 93])))))))))))
 (.ops [
 Zc 94 .add 60 1,Zv 60 94])))))))
 (.seq (.ghost (.freeze 10) (.ops [
 Zv 95 10,Zv 4 95,Zb 5 true]))
 .ret))))))) }
def mf_clear_Fits_1:MFunc :=
 { n:=12,np:=1,res:=[.t 2],body :=
 (.seq (.ops [
 Zk 1 234001 0,Zb 2 false])
 (.seq (.ops [
 Zu 3 4 1,⟨some 4,none,.call bb [(.t 3)]⟩,Zt 5 4,Zv 6 5,⟨some 7,some (6,false),.fad 0 (.t 1)⟩,⟨some 8,some (6,false),.fad 0 (.t 7)⟩,⟨some 9,some (6,false),.load 1 false (.t 8)⟩,⟨some 10,some (6,false),.bin .lss (.t 9) (.c (ZI 0))⟩,Zp 11 6 10,Zv 2 11])
 .ret)) }
def mf_clear_right_1:MFunc :=
 { n:=15,np:=3,res:=[.t 6],body :=
 (.seq (.ops [
 Zb 6 false])
 (.seq (.ops [
 Zv 7 0,Zv 8 1,Zo 9 .geq 7 8,Zv 10 9,⟨some 11,some (10,true),.mv (.t 0)⟩,⟨some 12,some (10,true),.mv (.t 2)⟩,⟨some 13,some (10,true),.bin .leq (.t 11) (.t 12)⟩,Zq 14 10 13,Zv 6 14])
 .ret)) }
def mf_clear_right_2:MFunc :=
 { n:=8,np:=2,res:=[.t 3],body :=
 (.seq (.ops [
 Zb 3 false])
 (.seq (.ops [
 Zl 4 1 1,Zv 5 0,⟨some 6,none,.callv (.t 4) [(.t 5),(.c (ZI 0)),(.c (ZI 1000000000000000))]⟩,Zt 7 6,Zv 3 7])
 .ret)) }
def mf_clear_right_3:MFunc :=
 { n:=35,np:=3,res:=[.t 4],body :=
 (.seq (.ops [
 Zk 3 245003 0,Zb 4 false])
 (.seq (.ops [
 Zl 5 1 1,Zf 6 0 3,Zl 7 1 6,Zl 8 1 2,Zc 9 .sub 8 1,⟨some 10,none,.callv (.t 5) [(.t 7),(.c (ZI 0)),(.t 9)]⟩,Zt 11 10,Zv 12 11,⟨some 13,some (12,false),.load 1 false (.t 1)⟩,⟨some 14,some (12,false),.fad 1 (.t 3)⟩,⟨some 15,some (12,false),.load 1 false (.t 14)⟩,⟨some 16,some (12,false),.load 1 false (.t 2)⟩,⟨some 17,some (12,false),.bin .sub (.t 16) (.c (ZI 1))⟩,⟨some 18,some (12,false),.callv (.t 13) [(.t 15),(.c (.dat (.int .i64 (-1)))),(.t 17)]⟩,⟨some 19,some (12,false),.un .not (.t 18)⟩,Zp 20 12 19,Zv 21 20,⟨some 22,some (21,false),.load 1 false (.t 1)⟩,⟨some 23,some (21,false),.fad 2 (.t 3)⟩,⟨some 24,some (21,false),.load 1 false (.t 23)⟩,⟨some 25,some (21,false),.callv (.t 22) [(.t 24),(.c (ZI 0)),(.c (ZI 9))]⟩,⟨some 26,some (21,false),.un .not (.t 25)⟩,Zp 27 21 26,Zv 28 27,⟨some 29,some (28,false),.load 1 false (.t 1)⟩,⟨some 30,some (28,false),.fad 3 (.t 3)⟩,⟨some 31,some (28,false),.load 1 false (.t 30)⟩,⟨some 32,some (28,false),.callv (.t 29) [(.t 31),(.c (ZI 0)),(.c (ZI 1000000000000000))]⟩,⟨some 33,some (28,false),.un .not (.t 32)⟩,Zp 34 28 33,Zv 4 34])
 .ret)) }
def mf_clear_list:MFunc :=
 { n:=159,np:=1,res:=[.t 2,.t 3],body :=
 (.seq (.ops [
 Ze 2,Zb 3 false])
 (.seq (.ops [
 Zv 26 0,Zn 27 26,Zv 4 27])
 (.seq (.ops [
 Zv 28 4,⟨some 29,none,.mksl 248029 [(ZI 0)] 8 (.t 28) (.t 28)⟩,Zv 5 29])
 (.seq (.ops [
 Ze 6])
 (.seq (.ops [
 Ze 7])
 (.seq (.seq (.ops [
 Zv 30 0,Zn 31 30,Zi 32 0])
 (.block 0
 (.ghost (.adopt 6 248094 1) (.ghost (.adopt 7 248098 1) (.loop
 (.seq (.ops [
 Zo 33 .lss 32 31])
 (.seq (.cond (.t 33)
 .skip
 (.exit 0))
 (.seq (.block 1
 (.seq (.ops [
 Zv 34 32,Za 35 1 30 32,Zl 36 1 35,Zv 8 34,Zv 9 36])
 (.seq (.opsD [
 Zv 37 5,Zv 38 8,Za 39 1 37 38,Zl 40 1 39,Zv 41 9,Zh 42 41,Zf 43 0 42,Zl 44 1 43,Zo 45 .add 40 44,Za 46 1 37 38,Zs 1 46 45] [[],[],[],[],[],[],[],[],[],[],[]])
 (.seq (.seq (.ops [
 Zv 47 9,Zh 48 47,Zf 49 22 48,Zl 50 1 49,Zi 51 0])
 (.block 2
 (.loop
 (.seq (.ops [
 Zo 52 .lss 51 50])
 (.seq (.cond (.t 52)
 .skip
 (.exit 2))
 (.seq (.block 3
 (.seq (.ops [
 Zv 53 51,Zv 10 53])
 (.seq (.ops [
 Zv 54 9,Zv 55 10,Zh 56 54,Zf 57 1 56,⟨some 58,none,.iada 10 1 (.t 57) (.t 55)⟩,Zl 59 1 58,Zn 60 59,Zi 61 0])
 (.block 4
 (.loop
 (.seq (.ops [
 Zo 62 .lss 61 60])
 (.seq (.cond (.t 62)
 .skip
 (.exit 4))
 (.seq (.block 5
 (.seq (.ops [
 Za 63 4 59 61,Zu 64 4 63,⟨some 12,none,.alloc 248012 [(ZI 0),(ZI 0),(ZI 0),(ZI 0)]⟩,Zs 4 12 64])
 (.seq (.ops [
 Zf 65 1 12,Zl 66 1 65,Zc 67 .geq 66 0])
 (.cond (.t 67)
 (.opsD [
 Zv 68 5,Zf 69 1 12,Zl 70 1 69,Za 71 1 68 70,Zl 72 1 71,Zf 73 3 12,Zl 74 1 73,Zo 75 .add 72 74,Za 76 1 68 70,Zs 1 76 75] [[],[],[],[],[],[],[],[],[],[]])
 .skip))))
 (.ops [
 Zc 77 .add 61 1,Zv 61 77])))))))))
 (.ops [
 Zc 78 .add 51 1,Zv 51 78])))))))
 (.seq (.ops [
 Zv 79 9,Zh 80 79,Zf 81 23 80,Zl 82 1 81])
 (.cond (.t 82)
 (.seq (.ops [
 Zv 84 9,Zv 85 4,⟨some 86,none,.call dV [(.t 84),(.t 85)]⟩,Zv 83 86,Zx 87 0 83,Zx 88 1 83,Zv 13 87,Zv 14 88])
 (.seq (.seq (.ops [
 Zv 89 14,Zt 90 89])
 (.cond (.t 90)
 (.seq (.ops [
 Ze 2,Zb 3 false])
 .ret)
 .skip))
 (.ops [
 Zv 91 6,Zv 92 8,⟨some 93,none,.bsl 248093 false [(ZI 0)] 1 1 [(0,1,(.t 92))]⟩,⟨some 94,none,.app 248094 [(ZI 0)] 8 (.t 91) (.t 93)⟩,Zv 95 7,Zv 96 13,⟨some 97,none,.bsl 248097 false [.nil] 1 1 [(0,1,(.t 96))]⟩,⟨some 98,none,.app 248098 [.nil] 24 (.t 95) (.t 97)⟩,Zv 6 94,Zv 7 98])))
 .skip))))))
 (.ops [
 Zc 99 .add 32 1,Zv 32 99])))))))))
 (.seq (.ghost (.freeze 5) (.ghost (.freeze 6) (.ghost (.freeze 7) (.ops [
 Zv 101 0,Zv 102 5,Zv 103 6,Zv 104 7,⟨some 105,none,.call kC [(.t 101),(.t 102),(.t 103),(.t 104)]⟩,Zv 100 105,Zx 106 0 100,Zx 107 1 100,Zv 15 106,Zv 16 107]))))
 (.seq (.seq (.ops [
 Zv 108 16,Zt 109 108])
 (.cond (.t 109)
 (.seq (.ops [
 Ze 2,Zb 3 false])
 .ret)
 .skip))
 (.seq (.ops [
 Ze 17])
 (.seq (.seq (.ops [
 Zv 110 5,Zn 111 110,Zi 112 0])
 (.block 6
 (.ghost (.adopt 17 248156 4) (.loop
 (.seq (.ops [
 Zo 113 .lss 112 111])
 (.seq (.cond (.t 113)
 .skip
 (.exit 6))
 (.seq (.block 7
 (.seq (.ops [
 Zv 114 112,Za 115 1 110 112,Zl 116 1 115,Zv 18 114,Zv 19 116])
 (.seq (.ops [
 Zv 117 19,⟨some 118,none,.call bp [(.t 117)]⟩,⟨some 20,none,.alloc 248020 [(ZI 0),.nil,(ZI 0),.nil]⟩,Zs 4 20 118])
 (.seq (.seq (.ops [
 Zv 119 6,Zn 120 119,Zi 121 0])
 (.block 8
 (.loop
 (.seq (.ops [
 Zo 122 .lss 121 120])
 (.seq (.cond (.t 122)
 .skip
 (.exit 8))
 (.seq (.block 9
 (.seq (.ops [
 Zv 123 121,Zv 21 123])
 (.seq (.opsD [
 Zv 125 7,Zv 126 21,Za 127 1 125 126,Zl 128 1 127,Zv 129 18,Za 130 4 128 129,Zu 131 4 130,Zv 132 15,Zv 133 21,Za 134 4 132 133,Zu 135 4 134,⟨some 136,none,.call cY [(.t 131),(.t 135)]⟩,Zv 124 136,Zx 137 0 124,Zx 138 1 124,⟨some 22,none,.alloc 248022 [(ZI 0),.nil,(ZI 0),.nil]⟩,Zs 4 22 137,Zv 23 138] [[],[],[],[],[],[],[],[],[],[],[],[],[],[],[],[3,6,10],[],[]])
 (.seq (.ops [
 Zu 140 4 20,Zu 141 4 22,⟨some 142,none,.call fy [(.t 140),(.t 141)]⟩,Zv 139 142,Zx 143 0 139,Zx 144 1 139,⟨some 24,none,.alloc 248024 [(ZI 0),.nil,(ZI 0),.nil]⟩,Zs 4 24 143,Zv 25 144])
 (.seq (.seq (.ops [
 Zv 145 23,Zc 146 .neq 145 0,Zv 147 146,⟨some 148,some (147,false),.mv (.t 25)⟩,⟨some 149,some (147,false),.bin .neq (.t 148) (.c (ZI 0))⟩,Zp 150 147 149])
 (.cond (.t 150)
 (.seq (.ops [
 Ze 2,Zb 3 false])
 .ret)
 .skip))
 (.ops [
 Zu 151 4 24,Zs 4 20 151]))))))
 (.ops [
 Zc 152 .add 121 1,Zv 121 152])))))))
 (.ops [
 Zv 153 17,Zu 154 4 20,⟨some 155,none,.bsl 248155 false [(ZI 0),.nil,(ZI 0),.nil] 4 1 [(0,4,(.t 154))]⟩,⟨some 156,none,.app 248156 [(ZI 0),.nil,(ZI 0),.nil] 64 (.t 153) (.t 155)⟩,Zv 17 156])))))
 (.ops [
 Zc 157 .add 112 1,Zv 112 157]))))))))
 (.seq (.ghost (.freeze 17) (.ops [
 Zv 158 17,Zv 2 158,Zb 3 true]))
 .ret))))))))))) }
def mf_clear_debtor_shares:MFunc :=
 { n:=88,np:=2,res:=[.t 4,.t 5],body :=
 (.seq (.ops [
 Ze 4,Zb 5 false])
 (.seq (.ops [
 ⟨some 14,none,.call bp [(.c (ZI 0))]⟩,⟨some 15,none,.bsl 255015 false [(ZI 0),.nil,(ZI 0),.nil] 4 1 [(0,4,(.t 14))]⟩,Zv 16 1,⟨some 17,none,.callo 255017 4 fU [(.t 15),(.t 16)]⟩,Zv 6 17])
 (.seq (.ops [
 Zb 7 true])
 (.seq (.seq (.opsD [
 Zv 18 0,Zv 19 0,Zh 20 19,Zf 21 22 20,Zl 22 1 21,Zh 23 18,Zf 24 1 23,⟨some 25,none,.iada 10 1 (.t 24) (.t 22)⟩,Zl 26 1 25,Zn 27 26,Zi 28 0] [[],[],[],[],[],[],[],[],[],[],[]])
 (.block 0
 (.loop
 (.seq (.ops [
 Zo 29 .lss 28 27])
 (.seq (.cond (.t 29)
 .skip
 (.exit 0))
 (.seq (.block 1
 (.seq (.ops [
 Za 30 4 26 28,Zu 31 4 30,⟨some 9,none,.alloc 255009 [(ZI 0),(ZI 0),(ZI 0),(ZI 0)]⟩,Zs 4 9 31])
 (.seq (.seq (.ops [
 Zf 32 1 9,Zl 33 1 32,Zc 34 .lss 33 0])
 (.cond (.t 34)
 (.exit 1)
 .skip))
 (.seq (.opsD [
 Zf 36 3 9,Zl 37 1 36,Zv 38 0,Zv 39 0,Zh 40 39,Zf 41 22 40,Zl 42 1 41,Zc 43 .add 42 1,Zh 44 38,Zf 45 11 44,⟨some 46,none,.iada 11 1 (.t 45) (.t 43)⟩,Zl 47 1 46,Zv 48 0,Zv 49 0,Zh 50 49,Zf 51 22 50,Zl 52 1 51,Zh 53 48,Zf 54 11 53,⟨some 55,none,.iada 11 1 (.t 54) (.t 52)⟩,Zl 56 1 55,Zo 57 .sub 47 56,⟨some 58,none,.call eQ [(.t 37),(.t 57)]⟩,Zv 35 58,Zx 59 0 35,Zx 60 1 35,⟨some 10,none,.alloc 255010 [(ZI 0),.nil,(ZI 0),.nil]⟩,Zs 4 10 59,Zv 11 60] [[],[],[],[],[],[],[],[],[],[],[],[],[],[],[],[],[],[],[],[],[],[],[],[],[],[],[1,6,11,16,20],[],[]])
 (.seq (.opsD [
 Zv 62 6,Zf 63 1 9,Zl 64 1 63,Za 65 4 62 64,Zu 66 4 65,Zu 67 4 10,⟨some 68,none,.call fy [(.t 66),(.t 67)]⟩,Zv 61 68,Zx 69 0 61,Zx 70 1 61,⟨some 12,none,.alloc 255012 [(ZI 0),.nil,(ZI 0),.nil]⟩,Zs 4 12 69,Zv 13 70] [[],[],[],[],[],[],[],[],[],[],[2,4,5],[],[]])
 (.seq (.ops [
 Zv 71 7,Zv 72 71,⟨some 73,some (72,true),.mv (.t 11)⟩,⟨some 74,some (72,true),.bin .eql (.t 73) (.c (ZI 0))⟩,Zq 75 72 74,Zv 76 75,⟨some 77,some (76,true),.mv (.t 13)⟩,⟨some 78,some (76,true),.bin .eql (.t 77) (.c (ZI 0))⟩,Zq 79 76 78,Zv 7 79])
 (.ops [
 Zv 80 6,Zf 81 1 9,Zl 82 1 81,Zu 83 4 12,Za 84 4 80 82,Zs 4 84 83])))))))
 (.ops [
 Zc 85 .add 28 1,Zv 28 85])))))))
 (.seq (.ghost (.freeze 6) (.ops [
 Zv 86 6,Zv 87 7,Zv 4 86,Zv 5 87]))
 .ret))))) }
def mf_clear_solve:MFunc :=
 { n:=94,np:=4,res:=[.t 8,.t 9],body :=
 (.seq (.ops [
 Ze 8,Zb 9 false])
 (.seq (.ops [
 Ze 10])
 (.seq (.seq (.ops [
 Zv 20 2,Zn 21 20,Zi 22 0])
 (.block 0
 (.ghost (.adopt 10 256082 5) (.loop
 (.seq (.ops [
 Zo 23 .lss 22 21])
 (.seq (.cond (.t 23)
 .skip
 (.exit 0))
 (.seq (.block 1
 (.seq (.ops [
 Zv 24 22,Za 25 1 20 22,Zl 26 1 25,Zv 11 24,Zv 12 26])
 (.seq (.opsD [
 Zv 27 1,Zv 28 12,Za 29 1 27 28,Zl 30 1 29,Zv 31 0,Zv 32 12,Za 33 1 31 32,Zl 34 1 33,Zv 35 0,Zv 36 12,Za 37 1 35 36,Zl 38 1 37,Zh 39 38,Zf 40 22 39,Zl 41 1 40,Zh 42 34,Zf 43 11 42,⟨some 44,none,.iada 11 1 (.t 43) (.t 41)⟩,Zl 45 1 44,Zo 46 .sub 30 45,⟨some 47,none,.call bp [(.t 46)]⟩,⟨some 48,none,.build [.nil,(ZI 0),.nil,(ZI 0),.nil] [(1,4,(.t 47))]⟩,⟨some 13,none,.alloc 256013 [.nil,(ZI 0),.nil,(ZI 0),.nil]⟩,Zs 5 13 48] [[],[],[],[],[],[],[],[],[],[],[],[],[],[],[],[],[],[],[],[],[],[],[3,7,11,14,18],[]])
 (.seq (.seq (.ghost (.adoptC (.t 13) 0 256076 4) (.ops [
 Zv 49 2,Zn 50 49,Zi 51 0]))
 (.block 2
 (.loop
 (.seq (.ops [
 Zo 52 .lss 51 50])
 (.seq (.cond (.t 52)
 .skip
 (.exit 2))
 (.seq (.block 3
 (.seq (.ops [
 Zv 53 51,Zv 14 53])
 (.seq (.ops [
 Zi 15 0])
 (.seq (.seq (.ops [
 Zv 54 14,Zv 55 11,Zo 56 .eql 54 55])
 (.cond (.t 56)
 (.ops [
 Zi 15 1])
 .skip))
 (.seq (.opsD [
 Zv 58 15,⟨some 59,none,.call bp [(.t 58)]⟩,Zv 60 3,Zv 61 14,Za 62 1 60 61,Zl 63 1 62,Zv 64 12,Za 65 4 63 64,Zu 66 4 65,⟨some 67,none,.call dm [(.t 59),(.t 66)]⟩,Zv 57 67,Zx 68 0 57,Zx 69 1 57,⟨some 16,none,.alloc 256016 [(ZI 0),.nil,(ZI 0),.nil]⟩,Zs 4 16 68,Zv 17 69] [[],[],[],[],[],[],[],[],[],[],[],[],[],[5,8],[],[]])
 (.seq (.seq (.ops [
 Zv 70 17,Zc 71 .neq 70 0])
 (.cond (.t 71)
 (.seq (.ops [
 Ze 8,Zb 9 false])
 .ret)
 .skip))
 (.ops [
 Zf 72 0 13,Zl 73 1 72,Zu 74 4 16,⟨some 75,none,.bsl 256075 false [(ZI 0),.nil,(ZI 0),.nil] 4 1 [(0,4,(.t 74))]⟩,⟨some 76,none,.app 256076 [(ZI 0),.nil,(ZI 0),.nil] 64 (.t 73) (.t 75)⟩,Zf 77 0 13,Zs 1 77 76])))))))
 (.ops [
 Zc 78 .add 51 1,Zv 51 78])))))))
 (.ghost (.freezeC (.t 13) 0) (.ops [
 Zv 79 10,Zu 80 5 13,⟨some 81,none,.bsl 256081 false [.nil,(ZI 0),.nil,(ZI 0),.nil] 5 1 [(0,5,(.t 80))]⟩,⟨some 82,none,.app 256082 [.nil,(ZI 0),.nil,(ZI 0),.nil] 88 (.t 79) (.t 81)⟩,Zv 10 82]))))))
 (.ops [
 Zc 83 .add 22 1,Zv 22 83]))))))))
 (.seq (.ghost (.freeze 10) (.ops [
 Zv 85 10,Zv 86 2,Zn 87 86,⟨some 88,none,.call j0 [(.t 85),(.t 87)]⟩,Zv 84 88,Zx 89 0 84,Zx 90 1 84,Zv 18 89,Zv 19 90]))
 (.seq (.ops [
 Zv 91 18,Zv 92 19,Zc 93 .eql 92 0,Zv 8 91,Zv 9 93])
 .ret))))) }
set_option maxRecDepth 10000
set_option maxHeartbeats 2000000
abbrev cG:=List aU × aU
def ft (r:cG):List Data:=.sl (r.1.map ad)::ad r.2
theorem cH (f:aU):(ad f).length=4:=rfl
theorem AQ (r:cG):(ft r).length=5:=rfl
theorem lY (f:aU):((ad f).map MV.dat).all MV.one=true:=rfl
theorem eX:∀ a b:aU,ad a=ad b→a=b:=by
 rintro⟨⟨s,l⟩,⟨s2,l2⟩⟩ ⟨⟨t,m⟩,⟨t2,m2⟩⟩ h;simp only[ad,List.cons.injEq,Data.int.injEq,Data.sl.injEq,true_and,and_true] at h;obtain⟨rfl,h1,rfl,h2⟩:=h;rw[af ai _ _ h1,af ai _ _ h2]
theorem nY:∀ a b:cG,ft a=ft b→a=b:=by
 rintro⟨a,b⟩ ⟨c,d⟩ h;simp only[ft,List.cons.injEq,Data.sl.injEq] at h;rw[af eX _ _ h.1,eX _ _ h.2]
def okF (f:aU):Prop:=f.1.2.length≤1000000∧f.2.2.length≤1000000
def okL (l:List aU):Prop:=l.length≤1000000∧∀ f∈l,okF f
def oR (r:cG):Prop:=okL r.1∧okF r.2
def ip (rs:List cG):Prop:=rs.length≤1000000∧∀ r∈rs,oR r
noncomputable def qe:List Data→Option PRes:=FF (α:=Int × (List Int) × Int × (List Int)) (fun (s,l,s2,l2)=>([.agg [.int .i64 s,.sl (l.map aa),.int .i64 s2,.sl (l2.map aa)]]:List Data)) (fun (s,l,s2,l2)=>aG (l.length≤1000000∧l2.length≤1000000) (.same (.bool (!bf ((s,l),(s2,l2))))))
theorem yj:∀ a b:Int × (List Int) × Int × (List Int),(fun (s,l,s2,l2)=>([.agg [.int .i64 s,.sl (l.map aa),.int .i64 s2,.sl (l2.map aa)]]:List Data)) a=(fun (s,l,s2,l2)=>([.agg [.int .i64 s,.sl (l.map aa),.int .i64 s2,.sl (l2.map aa)]]:List Data)) b→a=b:=by
  rintro⟨s1,l1,s21,l21⟩ ⟨s2,l2,s22,l22⟩ h;simp only[List.cons.injEq,Data.agg.injEq,Data.int.injEq,Data.sl.injEq] at h;exact YV h.1.1.2 (YV (af ai _ _ h.1.2.1) (YV h.1.2.2.1.2 (af ai _ _ h.1.2.2.2.1)))
@[go_sem] theorem Nf (s:Int) (l:List Int) (s2:Int) (l2:List Int) (hc:l.length≤1000000∧l2.length≤1000000):qe [.agg [.int .i64 s,.sl (l.map aa),.int .i64 s2,.sl (l2.map aa)]]=some (.same (.bool (!bf ((s,l),(s2,l2))))):=(aV yj (s,l,s2,l2)).trans (an hc _)
theorem Id (T:Tab) (aZ:T bb=mkE ii) (s:Int) (l:List Int) (s2:Int) (l2:List Int) (hc:l.length≤1000000∧l2.length≤1000000) :
  wp T mf_linear_Right_1.body (bG mf_linear_Right_1.res (.same (.bool (!bf ((s,l),(s2,l2)))))) ⟨ax [.dat (.agg [.int .i64 s,.sl (l.map aa),.int .i64 s2,.sl (l2.map aa)])],emp⟩:=by
 refine ap ?_;simp only[mf_linear_Right_1];obtain⟨hl1,hl2⟩:=hc;refine qI ?_
 repeat' (intro h<;>simp only[h,go_sem,go_sem_proc,YW,aZ,hl1,hl2]<;>try refine qS ?_ ?_)
noncomputable def uj:List Data→Option PRes:=FF (α:=Int × (List Int) × Int × (List Int)) (fun (s,l,s2,l2)=>([.agg [.int .i64 s,.sl (l.map aa),.int .i64 s2,.sl (l2.map aa)]]:List Data)) (fun (s,l,s2,l2)=>aG (l.length≤1000000∧l2.length≤1000000) (.same (.bool (!bf ((s,l),(s2,l2))||decide (s<0)))))
theorem ye:∀ a b:Int × (List Int) × Int × (List Int),(fun (s,l,s2,l2)=>([.agg [.int .i64 s,.sl (l.map aa),.int .i64 s2,.sl (l2.map aa)]]:List Data)) a=(fun (s,l,s2,l2)=>([.agg [.int .i64 s,.sl (l.map aa),.int .i64 s2,.sl (l2.map aa)]]:List Data)) b→a=b:=by
  rintro⟨s1,l1,s21,l21⟩ ⟨s2,l2,s22,l22⟩ h;simp only[List.cons.injEq,Data.agg.injEq,Data.int.injEq,Data.sl.injEq] at h;exact YV h.1.1.2 (YV (af ai _ _ h.1.2.1) (YV h.1.2.2.1.2 (af ai _ _ h.1.2.2.2.1)))
@[go_sem] theorem M5 (s:Int) (l:List Int) (s2:Int) (l2:List Int) (hc:l.length≤1000000∧l2.length≤1000000):uj [.agg [.int .i64 s,.sl (l.map aa),.int .i64 s2,.sl (l2.map aa)]]=some (.same (.bool (!bf ((s,l),(s2,l2))||decide (s<0)))):=(aV ye (s,l,s2,l2)).trans (an hc _)
theorem I0 (T:Tab) (aZ:T bb=mkE ii) (s:Int) (l:List Int) (s2:Int) (l2:List Int) (hc:l.length≤1000000∧l2.length≤1000000) :
  wp T mf_clear_Fits_1.body (bG mf_clear_Fits_1.res (.same (.bool (!bf ((s,l),(s2,l2))||decide (s<0))))) ⟨ax [.dat (.agg [.int .i64 s,.sl (l.map aa),.int .i64 s2,.sl (l2.map aa)])],emp⟩:=by
 refine ap ?_;simp only[mf_clear_Fits_1];obtain⟨hl1,hl2⟩:=hc;rcases hr:bf ((s,l),(s2,l2))
 ·refine qI ?_
  repeat' (intro h<;>simp only[h,go_sem,go_sem_proc,YW,aZ,hl1,hl2,hr]<;>try refine qS ?_ ?_)
 ·refine qI ?_
  repeat' (intro h<;>simp only[h,go_sem,go_sem_proc,YW,aZ,hl1,hl2,hr]<;>try refine qS ?_ ?_)
def mn {α:Type} (p:α→Bool) (l:List α):Int:=match l.findIdx? p with
 | some i=>i
 | none => -1
theorem li {α:Type} {p:α→Bool} {l:List α} {i:Nat} (h:∀ x∈l.take i,p x=false) {x:α} (hx:l[i]?=some x) (hp:p x=true):mn p l=i:=by
 unfold mn
 have:l.findIdx? p=some i:=by
  rw[YX];obtain⟨hlt,rfl⟩:=List.getElem?_eq_some_iff.1 hx;refine⟨hlt,hp,fun j hj=>?_⟩
  have:=h l[j] (List.mem_iff_getElem?.2 ⟨j,by rw[List.getElem?_take_of_lt hj];exact YY _⟩);rw[this];decide
 rw[this]
theorem jq {α:Type} {p:α→Bool} {l:List α} (h:∀ x∈l,p x=false):mn p l = -1:=by
 unfold mn;rw[List.findIdx?_eq_none_iff.2 h]
theorem pI {α:Type} (p:α→Bool) (l:List α):decide (mn p l≥0)=l.any p:=by
 unfold mn
 cases h:l.findIdx? p with
 | none =>
  have:=List.findIdx?_eq_none_iff.1 h;have h2:l.any p=false:=by rw[List.any_eq_false];intro x hx;simp [this x hx]
  rw[h2];rfl
 | some i =>
  rw[YX] at h;obtain⟨h1,h2,-⟩:=h;have h3:l.any p=true:=List.any_eq_true.2 ⟨_,YZ h1,h2⟩;rw[h3];exact decide_eq_true (by simp)
def Cq (f:aU):Bool:=!bf f
def pdF (f:FuncId):aU→Bool:=if f=bP then fun x => !bf x||decide (x.1.1<0) else Cq
@[go_sem] theorem wd:pdF az=Cq:=by
 unfold pdF;rw[if_neg (by decide)]
@[go_sem] theorem uH:pdF bP=fun x => !bf x||decide (x.1.1<0):=by
 unfold pdF;rw[if_pos rfl]
theorem eO {α:Type} {p:α→Bool} {l:List α} {i:Nat} (h:∀ x∈l.take i,p x=false) {x:α} (hx:l[i]?=some x) (hp:p x=false):∀ y∈l.take (i+1),p y=false:=by
 intro y hy;rw[List.take_add_one,hx] at hy;simp only[Option.toList_some,List.mem_append,List.mem_singleton] at hy;rcases hy with hy | rfl
 ·exact h y hy
 ·exact hp
noncomputable def uM:List Data→Option PRes:=FF (α:=(List aU) × FuncId) (fun (l,f)=>([.sl (l.map ad),.fn f []]:List Data)) (fun (l,f)=>aG (okL l∧(f=az∨f=bP)) (.same (.int .i64 (mn (pdF f) l))))
theorem xM:∀ a b:(List aU) × FuncId,(fun (l,f)=>([.sl (l.map ad),.fn f []]:List Data)) a=(fun (l,f)=>([.sl (l.map ad),.fn f []]:List Data)) b→a=b:=by
  rintro⟨l1,f1⟩ ⟨l2,f2⟩ h;simp only[List.cons.injEq,Data.sl.injEq,Data.fn.injEq] at h;exact YV (af eX _ _ h.1) h.2.1.1
@[go_sem] theorem M6 (l:List aU) (f:FuncId) (hc:okL l∧(f=az∨f=bP)):uM [.sl (l.map ad),.fn f []]=some (.same (.int .i64 (mn (pdF f) l))):=(aV xM (l,f)).trans (an hc _)
theorem H1 (T:Tab) (dH:T az=mkE qe) (fv:T bP=mkE uj) (l:List aU) (f:FuncId) (hc:okL l∧(f=az∨f=bP)) :
  wp T mf_slices_IndexFunc_Frac.body (bG mf_slices_IndexFunc_Frac.res (.same (.int .i64 (mn (pdF f) l)))) ⟨ax [.dat (.sl (l.map ad)),.dat (.fn f [])],emp⟩:=by
 refine ap ?_;simp only[mf_slices_IndexFunc_Frac];obtain⟨⟨hl,hok⟩,hf⟩:=hc;simp only[go_sem,go_sem_proc,YW,dH,fv,Y0];refine ae [0,1,7] [] (fun (i:Nat) tm mem=>i≤l.length∧(∀ x∈l.take i,pdF f x=false)∧tm 8 = .dat (.int .i64 i)) (fun i=>l.length-i) 0 (by refine⟨Y1 _,?_,rfl⟩;simp) ?_;intro vs ms hvs hms;simp only[go_sem,go_sem_proc,YW,dH,fv,Y0] at hvs hms;subst hvs hms;rintro i tm mem hk hm ⟨hi,hall,h8⟩;simp only[go_sem,go_sem_proc,YW,dH,fv,List.cons.injEq] at hk hm;obtain⟨h0,h1,h7⟩:=hk;rcases Y2 (i<l.length) with hlt | hge
 ·have hx:=YY hlt
  obtain⟨hx1,hx2⟩:=hok _ (YZ hlt);have hat:=fun h=>li (p:=pdF f) hall hx h
  have hnx:=fun h=>eO (p:=pdF f) hall hx h
  generalize l[i]=x at *;have hlt':decide ((i:Int)<(l.length:Int))=true:=decide_eq_true (by omega);have hw:IntKind.i64.wrap ((i:Int)+1)=((i+1:Nat):Int):=by rw[aj _ (by omega) (by omega)];omega
  obtain⟨⟨x1,x2⟩,⟨x3,x4⟩⟩:=x;dsimp only at hx1 hx2;rcases hb:pdF f ((x1,x2),(x3,x4))
  ·rcases hf with rfl | rfl
   all_goals have hr:=hb
   all_goals simp only[wd,uH,Cq] at hr
   ·simp only[go_sem,go_sem_proc,YW,dH,fv,h0,h1,h7,h8,hx,hlt',hw,hx1,hx2,hr,Y0,Y3,ad]
    repeat' (first|refine qS ?_ ?_|fail)<;>intro h<;>simp only[h,go_sem,go_sem_proc,YW,dH,fv,h0,h1,h7,h8,hx,hlt',hw,hx1,hx2,hr,Y0,Y3,ad]
    exact⟨i+1,by omega,by omega,hnx hb,rfl⟩
   ·simp only[go_sem,go_sem_proc,YW,dH,fv,h0,h1,h7,h8,hx,hlt',hw,hx1,hx2,hr,Y0,Y3,ad]
    repeat' (first|refine qS ?_ ?_|fail)<;>intro h<;>simp only[h,go_sem,go_sem_proc,YW,dH,fv,h0,h1,h7,h8,hx,hlt',hw,hx1,hx2,hr,Y0,Y3,ad]
    exact⟨i+1,by omega,by omega,hnx hb,rfl⟩
  ·rw[hat hb]
   rcases hf with rfl | rfl
   all_goals have hr:=hb
   all_goals simp only[wd,uH,Cq] at hr
   ·simp only[go_sem,go_sem_proc,YW,dH,fv,h0,h1,h7,h8,hx,hlt',hw,hx1,hx2,hr,Y0,Y3,ad]
    repeat' (first|refine qS ?_ ?_|fail)<;>intro h<;>simp only[h,go_sem,go_sem_proc,YW,dH,fv,h0,h1,h7,h8,hx,hlt',hw,hx1,hx2,hr,Y0,Y3,ad]
   ·simp only[go_sem,go_sem_proc,YW,dH,fv,h0,h1,h7,h8,hx,hlt',hw,hx1,hx2,hr,Y0,Y3,ad]
    repeat' (first|refine qS ?_ ?_|fail)<;>intro h<;>simp only[h,go_sem,go_sem_proc,YW,dH,fv,h0,h1,h7,h8,hx,hlt',hw,hx1,hx2,hr,Y0,Y3,ad]
 ·have hlt':decide ((i:Int)<(l.length:Int))=false:=decide_eq_false (by omega)
  have hil:i=l.length:=by omega
  subst hil;rw[Y4] at hall;rw[jq hall];simp only[go_sem,go_sem_proc,YW,dH,fv,h0,h1,h7,h8,hlt',Y0]
  repeat' (first|refine qS ?_ ?_|fail)<;>intro h<;>simp only[h,go_sem,go_sem_proc,YW,dH,fv,h0,h1,h7,h8,hlt',Y0]
noncomputable def ri:List Data→Option PRes:=FF (α:=(List aU) × FuncId) (fun (l,f)=>([.sl (l.map ad),.fn f []]:List Data)) (fun (l,f)=>aG (okL l∧(f=az∨f=bP)) (.same (.bool (l.any (pdF f)))))
theorem vu:∀ a b:(List aU) × FuncId,(fun (l,f)=>([.sl (l.map ad),.fn f []]:List Data)) a=(fun (l,f)=>([.sl (l.map ad),.fn f []]:List Data)) b→a=b:=by
  rintro⟨l1,f1⟩ ⟨l2,f2⟩ h;simp only[List.cons.injEq,Data.sl.injEq,Data.fn.injEq] at h;exact YV (af eX _ _ h.1) h.2.1.1
@[go_sem] theorem K1 (l:List aU) (f:FuncId) (hc:okL l∧(f=az∨f=bP)):ri [.sl (l.map ad),.fn f []]=some (.same (.bool (l.any (pdF f)))):=(aV vu (l,f)).trans (an hc _)
theorem Fw (T:Tab) (HG:T eS=mkE uM) (l:List aU) (f:FuncId) (hc:okL l∧(f=az∨f=bP)) :
  wp T mf_slices_ContainsFunc_Frac.body (bG mf_slices_ContainsFunc_Frac.res (.same (.bool (l.any (pdF f))))) ⟨ax [.dat (.sl (l.map ad)),.dat (.fn f [])],emp⟩:=by
 refine ap ?_;simp only[mf_slices_ContainsFunc_Frac];rw[←pI];refine qI ?_
 repeat' (intro h<;>simp only[h,go_sem,go_sem_proc,YW,HG,hc]<;>try refine qS ?_ ?_)
def fB (n:Int) (r:cG):Bool:=!(((r.1.length:Int)==n)&&(bf r.2 && !(r.1.any Cq)))
noncomputable def pw:List Data→Option PRes:=FF (α:=(List aU) × Int × (List Int) × Int × (List Int) × Int) (fun (a,s,l,s2,l2,n)=>([.agg [.sl (a.map ad),.int .i64 s,.sl (l.map aa),.int .i64 s2,.sl (l2.map aa)],.ptr [.int .i64 n],.ptr [.fn az []]]:List Data)) (fun (a,s,l,s2,l2,n)=>aG (okL a∧l.length≤1000000∧l2.length≤1000000) (.same (.bool (fB n (a,((s,l),(s2,l2)))))))
theorem sS:∀ a b:(List aU) × Int × (List Int) × Int × (List Int) × Int,(fun (a,s,l,s2,l2,n)=>([.agg [.sl (a.map ad),.int .i64 s,.sl (l.map aa),.int .i64 s2,.sl (l2.map aa)],.ptr [.int .i64 n],.ptr [.fn az []]]:List Data)) a=(fun (a,s,l,s2,l2,n)=>([.agg [.sl (a.map ad),.int .i64 s,.sl (l.map aa),.int .i64 s2,.sl (l2.map aa)],.ptr [.int .i64 n],.ptr [.fn az []]]:List Data)) b→a=b:=by
  rintro⟨a1,s1,l1,s21,l21,n1⟩ ⟨a2,s2,l2,s22,l22,n2⟩ h;simp only[List.cons.injEq,Data.agg.injEq,Data.int.injEq,Data.sl.injEq,Data.ptr.injEq] at h;exact YV (af eX _ _ h.1.1) (YV h.1.2.1.2 (YV (af ai _ _ h.1.2.2.1) (YV h.1.2.2.2.1.2 (YV (af ai _ _ h.1.2.2.2.2.1) h.2.1.1.2))))
@[go_sem] theorem KI (a:List aU) (s:Int) (l:List Int) (s2:Int) (l2:List Int) (n:Int) (hc:okL a∧l.length≤1000000∧l2.length≤1000000):pw [.agg [.sl (a.map ad),.int .i64 s,.sl (l.map aa),.int .i64 s2,.sl (l2.map aa)],.ptr [.int .i64 n],.ptr [.fn az []]]=some (.same (.bool (fB n (a,((s,l),(s2,l2)))))):=(aV sS (a,s,l,s2,l2,n)).trans (an hc _)
theorem B9 (T:Tab) (dH:T az=mkE qe) (rN:T dT=mkE ri) (a:List aU) (s:Int) (l:List Int) (s2:Int) (l2:List Int) (n:Int) (hc:okL a∧l.length≤1000000∧l2.length≤1000000) :
  wp T mf_linear_Right_2.body (bG mf_linear_Right_2.res (.same (.bool (fB n (a,((s,l),(s2,l2))))))) ⟨ax [.dat (.agg [.sl (a.map ad),.int .i64 s,.sl (l.map aa),.int .i64 s2,.sl (l2.map aa)]),.dat (.ptr [.int .i64 n]),.dat (.ptr [.fn az []])],emp⟩:=by
 refine ap ?_;simp only[mf_linear_Right_2];obtain⟨ha,hl1,hl2⟩:=hc;unfold fB;rcases h1:((a.length:Int)==n)
 ·refine qI ?_
  repeat' (intro h<;>simp only[h,go_sem,go_sem_proc,YW,dH,rN,ha,hl1,hl2,h1,Y0]<;>try refine qS ?_ ?_)
 ·rcases h2:bf ((s,l),(s2,l2))
  ·refine qI ?_
   repeat' (intro h<;>simp only[h,go_sem,go_sem_proc,YW,dH,rN,ha,hl1,hl2,h1,h2,Y0]<;>try refine qS ?_ ?_)
  ·refine qI ?_
   repeat' (intro h<;>simp only[h,go_sem,go_sem_proc,YW,dH,rN,ha,hl1,hl2,h1,h2,Y0,show (az=az)=True from by simp,true_or,Bool.not_not]<;>try refine qS ?_ ?_)
noncomputable def yr:List Data→Option PRes:=FF (α:=(List cG) × Int) (fun (rs,n)=>([.sl (rs.map ft),.fn bA [.ptr [.int .i64 n],.ptr [.fn az []]]]:List Data)) (fun (rs,n)=>aG (ip rs) (.same (.int .i64 (mn (fB n) rs))))
theorem Bz:∀ a b:(List cG) × Int,(fun (rs,n)=>([.sl (rs.map ft),.fn bA [.ptr [.int .i64 n],.ptr [.fn az []]]]:List Data)) a=(fun (rs,n)=>([.sl (rs.map ft),.fn bA [.ptr [.int .i64 n],.ptr [.fn az []]]]:List Data)) b→a=b:=by
  rintro⟨rs1,n1⟩ ⟨rs2,n2⟩ h;simp only[List.cons.injEq,Data.sl.injEq,Data.fn.injEq,Data.ptr.injEq,Data.int.injEq] at h;exact YV (af nY _ _ h.1) h.2.1.2.1.1.2
@[go_sem] theorem Oz (rs:List cG) (n:Int) (hc:ip rs):yr [.sl (rs.map ft),.fn bA [.ptr [.int .i64 n],.ptr [.fn az []]]]=some (.same (.int .i64 (mn (fB n) rs))):=(aV Bz (rs,n)).trans (an hc _)
theorem KW (T:Tab) (fF:T bA=mkE pw) (rs:List cG) (n:Int) (hc:ip rs) :
  wp T mf_slices_IndexFunc_Row.body (bG mf_slices_IndexFunc_Row.res (.same (.int .i64 (mn (fB n) rs)))) ⟨ax [.dat (.sl (rs.map ft)),.dat (.fn bA [.ptr [.int .i64 n],.ptr [.fn az []]])],emp⟩:=by
 refine ap ?_;simp only[mf_slices_IndexFunc_Row];obtain⟨hl,hok⟩:=hc;simp only[go_sem,go_sem_proc,YW,fF,Y0];refine ae [0,1,7] [] (fun (i:Nat) tm mem=>i≤rs.length∧(∀ x∈rs.take i,fB n x=false)∧tm 8 = .dat (.int .i64 i)) (fun i=>rs.length-i) 0 (by refine⟨Y1 _,?_,rfl⟩;simp) ?_;intro vs ms hvs hms;simp only[go_sem,go_sem_proc,YW,fF,Y0] at hvs hms;subst hvs hms;rintro i tm mem hk hm ⟨hi,hall,h8⟩;simp only[go_sem,go_sem_proc,YW,fF,List.cons.injEq] at hk hm;obtain⟨h0,h1,h7⟩:=hk;rcases Y2 (i<rs.length) with hlt | hge
 ·have hx:=YY hlt
  obtain⟨hx0,hx1,hx2⟩:=hok _ (YZ hlt);have hat:=fun h=>li (p:=fB n) hall hx h
  have hnx:=fun h=>eO (p:=fB n) hall hx h
  generalize rs[i]=x at *;have hlt':decide ((i:Int)<(rs.length:Int))=true:=decide_eq_true (by omega);have hw:IntKind.i64.wrap ((i:Int)+1)=((i+1:Nat):Int):=by rw[aj _ (by omega) (by omega)];omega
  obtain⟨a,⟨x1,x2⟩,⟨x3,x4⟩⟩:=x;dsimp only at hx0 hx1 hx2;rcases hb:fB n (a,((x1,x2),(x3,x4)))
  ·simp only[go_sem,go_sem_proc,YW,fF,h0,h1,h7,h8,hx,hlt',hw,hx0,hx1,hx2,hb,Y0,Y3,ft,ad]
   repeat' (first|refine qS ?_ ?_|fail)<;>intro h<;>simp only[h,go_sem,go_sem_proc,YW,fF,h0,h1,h7,h8,hx,hlt',hw,hx0,hx1,hx2,hb,Y0,Y3,ft,ad]
   exact⟨i+1,by omega,by omega,hnx hb,rfl⟩
  ·rw[hat hb]
   simp only[go_sem,go_sem_proc,YW,fF,h0,h1,h7,h8,hx,hlt',hw,hx0,hx1,hx2,hb,Y0,Y3,ft,ad]
   repeat' (first|refine qS ?_ ?_|fail)<;>intro h<;>simp only[h,go_sem,go_sem_proc,YW,fF,h0,h1,h7,h8,hx,hlt',hw,hx0,hx1,hx2,hb,Y0,Y3,ft,ad]
 ·have hlt':decide ((i:Int)<(rs.length:Int))=false:=decide_eq_false (by omega)
  have hil:i=rs.length:=by omega
  subst hil;rw[Y4] at hall;rw[jq hall];simp only[go_sem,go_sem_proc,YW,fF,h0,h1,h7,h8,hlt',Y0]
  repeat' (first|refine qS ?_ ?_|fail)<;>intro h<;>simp only[h,go_sem,go_sem_proc,YW,fF,h0,h1,h7,h8,hlt',Y0]
noncomputable def uF:List Data→Option PRes:=FF (α:=(List cG) × Int) (fun (rs,n)=>([.sl (rs.map ft),.fn bA [.ptr [.int .i64 n],.ptr [.fn az []]]]:List Data)) (fun (rs,n)=>aG (ip rs) (.same (.bool (rs.any (fB n)))))
theorem yC:∀ a b:(List cG) × Int,(fun (rs,n)=>([.sl (rs.map ft),.fn bA [.ptr [.int .i64 n],.ptr [.fn az []]]]:List Data)) a=(fun (rs,n)=>([.sl (rs.map ft),.fn bA [.ptr [.int .i64 n],.ptr [.fn az []]]]:List Data)) b→a=b:=by
  rintro⟨rs1,n1⟩ ⟨rs2,n2⟩ h;simp only[List.cons.injEq,Data.sl.injEq,Data.fn.injEq,Data.ptr.injEq,Data.int.injEq] at h;exact YV (af nY _ _ h.1) h.2.1.2.1.1.2
@[go_sem] theorem Ns (rs:List cG) (n:Int) (hc:ip rs):uF [.sl (rs.map ft),.fn bA [.ptr [.int .i64 n],.ptr [.fn az []]]]=some (.same (.bool (rs.any (fB n)))):=(aV yC (rs,n)).trans (an hc _)
theorem JM (T:Tab) (K5:T fp=mkE yr) (rs:List cG) (n:Int) (hc:ip rs) :
  wp T mf_slices_ContainsFunc_Row.body (bG mf_slices_ContainsFunc_Row.res (.same (.bool (rs.any (fB n))))) ⟨ax [.dat (.sl (rs.map ft)),.dat (.fn bA [.ptr [.int .i64 n],.ptr [.fn az []]])],emp⟩:=by
 refine ap ?_;simp only[mf_slices_ContainsFunc_Row];rw[←pI];refine qI ?_
 repeat' (intro h<;>simp only[h,go_sem,go_sem_proc,YW,K5,hc]<;>try refine qS ?_ ?_)
def fk (rs:List cG) (n:Int):Bool:=!(decide (n<0))&&(!(decide (n>40))&&(((rs.length:Int)==n) && !(rs.any (fB n))))
noncomputable def po:List Data→Option PRes:=FF (α:=(List cG) × Int) (fun (rs,n)=>([.sl (rs.map ft),.int .i64 n]:List Data)) (fun (rs,n)=>aG (ip rs) (.same (.bool (fk rs n))))
theorem tu:∀ a b:(List cG) × Int,(fun (rs,n)=>([.sl (rs.map ft),.int .i64 n]:List Data)) a=(fun (rs,n)=>([.sl (rs.map ft),.int .i64 n]:List Data)) b→a=b:=by
  rintro⟨rs1,n1⟩ ⟨rs2,n2⟩ h;simp only[List.cons.injEq,Data.sl.injEq,Data.int.injEq] at h;exact YV (af nY _ _ h.1) h.2.1.2
@[go_sem] theorem KN (rs:List cG) (n:Int) (hc:ip rs):po [.sl (rs.map ft),.int .i64 n]=some (.same (.bool (fk rs n))):=(aV tu (rs,n)).trans (an hc _)
theorem Dg (T:Tab) (qk:T ej=mkE uF) (rs:List cG) (n:Int) (hc:ip rs) :
  wp T mf_linear_Right.body (bG mf_linear_Right.res (.same (.bool (fk rs n)))) ⟨ax [.dat (.sl (rs.map ft)),.dat (.int .i64 n)],emp⟩:=by
 refine ap ?_;simp only[mf_linear_Right];unfold fk;rcases h1:decide (n<0)
 ·rcases h2:decide (n>40)
  ·rcases h3:((rs.length:Int)==n)
   ·refine qI ?_
    repeat' (intro h<;>simp only[h,go_sem,go_sem_proc,YW,qk,hc,h1,h2,h3,Y0]<;>try refine qS ?_ ?_)
   ·refine qI ?_
    repeat' (intro h<;>simp only[h,go_sem,go_sem_proc,YW,qk,hc,h1,h2,h3,Y0,toD,oS,Y5,scalar]<;>try refine qS ?_ ?_)
  ·refine qI ?_
   repeat' (intro h<;>simp only[h,go_sem,go_sem_proc,YW,qk,hc,h1,h2,Y0]<;>try refine qS ?_ ?_)
 ·refine qI ?_
  repeat' (intro h<;>simp only[h,go_sem,go_sem_proc,YW,qk,hc,h1,Y0]<;>try refine qS ?_ ?_)
theorem IF {es:List (List Data)} (h:∀ x∈es,Fit (.int .i64) x):∃ l:List Int,es=l.map aa:=by
 obtain⟨l,e,-⟩:=tN (e:=aa) (good:=fun _=>True) fun x hx=>by
  have:=h x hx;simp only[Fit] at this;obtain⟨n,rfl,-⟩:=this;exact⟨n,rfl,trivial⟩
 exact⟨l,e⟩
theorem KF {n:Int} (h:(Lit.int .u8 n).wf=true):∃ m:Nat,n=m∧m<256:=by
 have:0≤n∧n≤255:=by simpa [Lit.wf,IntKind.min,IntKind.max,IntKind.signed,IntKind.bits] using h
 exact⟨n.toNat,by omega,by omega⟩
def mf_ref04_Of:MFunc :=
 { n:=28,np:=1,res:=[.cell 2 2 true],body :=
 (.seq (.ops [
 ⟨some 2,none,.alloc 144002 [(ZI 0),.nil]⟩])
 (.seq (.seq (.ops [
 Zv 6 0,Zc 7 .eql 6 0])
 (.cond (.t 7)
 (.seq (.ops [
 ⟨some 8,none,.build [(ZI 0),.nil] []⟩,Zs 2 2 8])
 .ret)
 .skip))
 (.seq (.ops [
 Zi 3 1])
 (.seq (.seq (.ops [
 Zv 9 0,Zc 10 .lss 9 0])
 (.cond (.t 10)
 (.ops [
 ⟨some 3,none,.mv (.c (.dat (.int .i64 (-1))))⟩])
 .skip))
 (.seq (.ops [
 Ze 4])
 (.seq (.block 0
 (.ghost (.adopt 4 144022 1) (.loop
 (.seq (.seq (.ops [
 Zv 11 0,Zc 12 .neq 11 0])
 (.cond (.t 12)
 .skip
 (.exit 0)))
 (.block 1
 (.seq (.ops [
 Zv 13 0,Zc 14 .rem 13 1048576,Zv 5 14])
 (.seq (.seq (.ops [
 Zv 15 5,Zc 16 .lss 15 0])
 (.cond (.t 16)
 (.ops [
 Zv 17 5,⟨some 18,none,.un .neg (.t 17)⟩,Zv 5 18])
 .skip))
 (.seq (.ops [
 Zv 19 4,Zv 20 5,⟨some 21,none,.bsl 144021 false [(ZI 0)] 1 1 [(0,1,(.t 20))]⟩,⟨some 22,none,.app 144022 [(ZI 0)] 8 (.t 19) (.t 21)⟩,Zv 4 22])
 (.ops [
 Zv 23 0,Zc 24 .quo 23 1048576,Zv 0 24])))))))))
 (.seq (.ghost (.freeze 4) (.ops [
 Zv 25 3,Zv 26 4,⟨some 27,none,.call cC [(.t 25),(.t 26)]⟩,Zs 2 2 27]))
 .ret))))))) }
def mf_ref04_Right:MFunc :=
 { n:=60,np:=1,res:=[.t 2],body :=
 (.seq (.ops [
 Zk 1 162001 0,Zb 2 false])
 (.seq (.seq (.ops [
 Zi 3 0])
 (.block 0
 (.loop
 (.seq (.seq (.ops [
 Zv 5 3,Zf 6 1 1,Zl 7 1 6,Zn 8 7,Zo 9 .lss 5 8])
 (.cond (.t 9)
 .skip
 (.exit 0)))
 (.seq (.block 1
 (.seq (.ops [
 Zf 12 1 1,Zl 13 1 12,Zv 14 3,Za 15 1 13 14,Zl 16 1 15,Zc 17 .lss 16 0,Zv 18 17,⟨some 19,some (18,false),.fad 1 (.t 1)⟩,⟨some 20,some (18,false),.load 1 false (.t 19)⟩,⟨some 21,some (18,false),.mv (.t 3)⟩,⟨some 22,some (18,false),.iad 1 (.t 20) (.t 21)⟩,⟨some 23,some (18,false),.load 1 false (.t 22)⟩,⟨some 24,some (18,false),.bin .geq (.t 23) (.c (ZI 1048576))⟩,Zp 25 18 24])
 (.cond (.t 25)
 (.seq (.ops [
 Zb 2 false])
 .ret)
 .skip)))
 (.ops [
 Zv 10 3,Zc 11 .add 10 1,Zv 3 11]))))))
 (.seq (.ops [
 Zf 26 1 1,Zl 27 1 26,Zn 28 27,Zv 4 28])
 (.seq (.seq (.ops [
 Zf 29 0 1,Zl 30 1 29,⟨some 31,none,.bin .lss (.t 30) (.c (.dat (.int .i64 (-1))))⟩,Zv 32 31,⟨some 33,some (32,false),.fad 0 (.t 1)⟩,⟨some 34,some (32,false),.load 1 false (.t 33)⟩,⟨some 35,some (32,false),.bin .gtr (.t 34) (.c (ZI 1))⟩,Zp 36 32 35,Zv 37 36,⟨some 38,some (37,false),.mv (.t 4)⟩,⟨some 39,some (37,false),.bin .gtr (.t 38) (.c (ZI 60))⟩,Zp 40 37 39,Zv 41 40,⟨some 42,some (41,false),.mv (.t 4)⟩,⟨some 43,some (41,false),.bin .eql (.t 42) (.c (ZI 0))⟩,⟨some 44,some (41,false),.fad 0 (.t 1)⟩,⟨some 45,some (41,false),.load 1 false (.t 44)⟩,⟨some 46,some (41,false),.bin .eql (.t 45) (.c (ZI 0))⟩,⟨some 47,some (41,false),.beq true (.t 43) (.t 46)⟩,Zp 48 41 47])
 (.cond (.t 48)
 (.seq (.ops [
 Zb 2 false])
 .ret)
 .skip))
 (.seq (.ops [
 Zv 49 4,Zc 50 .eql 49 0,Zv 51 50,⟨some 52,some (51,false),.fad 1 (.t 1)⟩,⟨some 53,some (51,false),.load 1 false (.t 52)⟩,⟨some 54,some (51,false),.mv (.t 4)⟩,⟨some 55,some (51,false),.bin .sub (.t 54) (.c (ZI 1))⟩,⟨some 56,some (51,false),.iad 1 (.t 53) (.t 55)⟩,⟨some 57,some (51,false),.load 1 false (.t 56)⟩,⟨some 58,some (51,false),.bin .neq (.t 57) (.c (ZI 0))⟩,Zp 59 51 58,Zv 2 59])
 .ret))))) }
def mf_ref04_Neg:MFunc :=
 { n:=13,np:=1,res:=[.cell 2 2 true],body :=
 (.seq (.ops [
 Zk 1 163001 0,⟨some 2,none,.alloc 163002 [(ZI 0),.nil]⟩])
 (.seq (.seq (.ops [
 Zu 3 2 1,⟨some 4,none,.call cn [(.t 3)]⟩,Zt 5 4])
 (.cond (.t 5)
 (.seq (.ops [
 ⟨some 6,none,.build [(ZI 0),.nil] []⟩,Zs 2 2 6])
 .ret)
 .skip))
 (.seq (.ops [
 Zf 7 0 1,Zl 8 1 7,⟨some 9,none,.un .neg (.t 8)⟩,Zf 10 1 1,Zl 11 1 10,⟨some 12,none,.call cC [(.t 9),(.t 11)]⟩,Zs 2 2 12])
 .ret))) }
def mf_ref04_Gcd:MFunc :=
 { n:=36,np:=2,res:=[.cell 4 2 true,.t 5],body :=
 (.seq (.ops [
 Zk 2 164002 0,Zk 3 164003 1,⟨some 4,none,.alloc 164004 [(ZI 0),.nil]⟩,Zi 5 0])
 (.seq (.seq (.ops [
 Zu 10 2 2,⟨some 11,none,.call cn [(.t 10)]⟩,Zt 12 11,Zv 13 12,⟨some 14,some (13,false),.load 2 true (.t 3)⟩,⟨some 15,some (13,false),.call cn [(.t 14)]⟩,⟨some 16,some (13,false),.un .not (.t 15)⟩,Zp 17 13 16])
 (.cond (.t 17)
 (.seq (.ops [
 ⟨some 18,none,.build [(ZI 0),.nil] []⟩,Zs 2 4 18,Zi 5 1])
 .ret)
 .skip))
 (.seq (.ops [
 Zf 19 1 2,Zl 20 1 19,Zv 6 20])
 (.seq (.ops [
 Zf 21 1 3,Zl 22 1 21,Zv 7 22])
 (.seq (.block 0
 (.loop
 (.seq (.seq (.ops [
 Zv 23 7,Zn 24 23,Zc 25 .gtr 24 0])
 (.cond (.t 25)
 .skip
 (.exit 0)))
 (.block 1
 (.seq (.ops [
 Zv 27 6,Zv 28 7,⟨some 29,none,.call ic [(.t 27),(.t 28)]⟩,Zv 26 29,Zx 30 0 26,Zx 31 1 26,Zv 8 30,Zv 9 31])
 (.seq (.ops [
 Zv 32 7,Zv 6 32])
 (.ops [
 Zv 33 9,Zv 7 33])))))))
 (.seq (.ops [
 Zv 34 6,⟨some 35,none,.call cC [(.c (ZI 1)),(.t 34)]⟩,Zs 2 4 35,Zi 5 0])
 .ret)))))) }
def mf_ref04_Div:MFunc :=
 { n:=65,np:=2,res:=[.cell 4 2 true,.cell 5 2 true,.t 6],body :=
 (.seq (.ops [
 Zk 2 165002 0,Zk 3 165003 1,⟨some 4,none,.alloc 165004 [(ZI 0),.nil]⟩,⟨some 5,none,.alloc 165005 [(ZI 0),.nil]⟩,Zi 6 0])
 (.seq (.seq (.ops [
 Zu 9 2 2,⟨some 10,none,.call cn [(.t 9)]⟩,Zt 11 10,Zv 12 11,⟨some 13,some (12,false),.load 2 true (.t 3)⟩,⟨some 14,some (12,false),.call cn [(.t 13)]⟩,⟨some 15,some (12,false),.un .not (.t 14)⟩,Zp 16 12 15])
 (.cond (.t 16)
 (.seq (.ops [
 ⟨some 17,none,.build [(ZI 0),.nil] []⟩,⟨some 18,none,.build [(ZI 0),.nil] []⟩,Zs 2 4 17,Zs 2 5 18,Zi 6 1])
 .ret)
 .skip))
 (.seq (.seq (.ops [
 Zf 19 0 3,Zl 20 1 19,Zc 21 .eql 20 0])
 (.cond (.t 21)
 (.seq (.ops [
 ⟨some 22,none,.build [(ZI 0),.nil] []⟩,⟨some 23,none,.build [(ZI 0),.nil] []⟩,Zs 2 4 22,Zs 2 5 23,Zi 6 15])
 .ret)
 .skip))
 (.seq (.ops [
 Zf 25 1 2,Zl 26 1 25,Zf 27 1 3,Zl 28 1 27,⟨some 29,none,.call ic [(.t 26),(.t 28)]⟩,Zv 24 29,Zx 30 0 24,Zx 31 1 24,Zv 7 30,Zv 8 31])
 (.seq (.seq (.ops [
 Zf 32 0 2,Zl 33 1 32,Zf 34 0 3,Zl 35 1 34,Zo 36 .mul 33 35,Zc 37 .geq 36 0,Zv 38 37,⟨some 39,some (38,false),.mv (.t 8)⟩,⟨some 40,some (38,false),.len (.t 39)⟩,⟨some 41,some (38,false),.bin .eql (.t 40) (.c (ZI 0))⟩,Zp 42 38 41])
 (.cond (.t 42)
 (.seq (.opsD [
 Zf 43 0 2,Zl 44 1 43,Zf 45 0 3,Zl 46 1 45,Zo 47 .mul 44 46,Zv 48 7,⟨some 49,none,.call cC [(.t 47),(.t 48)]⟩,Zf 50 0 2,Zl 51 1 50,Zv 52 8,⟨some 53,none,.call cC [(.t 51),(.t 52)]⟩,Zs 2 4 49,Zs 2 5 53,Zi 6 0] [[],[],[],[],[],[],[],[],[],[],[],[],[],[]])
 .ret)
 .skip))
 (.seq (.opsD [
 Zv 54 7,⟨some 55,none,.bsl 165055 false [(ZI 0)] 1 1 [(0,1,(.c (ZI 1)))]⟩,⟨some 56,none,.call lF [(.t 54),(.t 55)]⟩,⟨some 57,none,.call cC [(.c (.dat (.int .i64 (-1)))),(.t 56)]⟩,Zf 58 0 3,Zl 59 1 58,Zf 60 1 3,Zl 61 1 60,Zv 62 8,⟨some 63,none,.call gk [(.t 61),(.t 62)]⟩,⟨some 64,none,.call cC [(.t 59),(.t 63)]⟩,Zs 2 4 57,Zs 2 5 64,Zi 6 0] [[],[],[],[],[],[],[],[],[],[],[],[],[],[]])
 .ret)))))) }
def mf_ref04_made:MFunc :=
 { n:=15,np:=2,res:=[.cell 4 2 true],body :=
 (.seq (.ops [
 ⟨some 4,none,.alloc 166004 [(ZI 0),.nil]⟩])
 (.seq (.ops [
 Zv 6 1,⟨some 7,none,.call cq [(.t 6)]⟩,Zv 5 7])
 (.seq (.seq (.ops [
 Zv 8 5,Zn 9 8,Zc 10 .eql 9 0])
 (.cond (.t 10)
 (.seq (.ops [
 ⟨some 11,none,.build [(ZI 0),.nil] []⟩,Zs 2 4 11])
 .ret)
 .skip))
 (.seq (.ops [
 Zv 12 0,Zv 13 5,⟨some 14,none,.build [(ZI 0),.nil] [(0,1,(.t 12)),(1,1,(.t 13))]⟩,Zs 2 4 14])
 .ret)))) }
def mf_ref04_over:MFunc :=
 { n:=60,np:=2,res:=[.t 4,.t 5],body :=
 (.seq (.ops [
 Ze 4,Ze 5])
 (.seq (.ops [
 Zv 12 0,Zn 13 12,⟨some 14,none,.mksl 180014 [(ZI 0)] 8 (.t 13) (.t 13)⟩,Zv 6 14])
 (.seq (.ops [
 Ze 7])
 (.seq (.seq (.ops [
 Zv 15 0,Zn 16 15,Zc 17 .sub 16 1,Zv 8 17])
 (.block 0
 (.loop
 (.seq (.seq (.ops [
 Zv 18 8,Zc 19 .geq 18 0])
 (.cond (.t 19)
 .skip
 (.exit 0)))
 (.seq (.block 1
 (.seq (.ops [
 Zv 22 0,Zv 23 8,Za 24 1 22 23,Zl 25 1 24,⟨some 26,none,.bsl 180026 true [(ZI 0)] 1 1 [(0,1,(.t 25))]⟩,Zv 27 7,⟨some 28,none,.app 180028 [(ZI 0)] 8 (.t 26) (.t 27)⟩,⟨some 29,none,.call cq [(.t 28)]⟩,Zv 7 29])
 (.seq (.ops [
 Zi 9 0])
 (.seq (.ops [
 Zi 10 1048576])
 (.seq (.block 2
 (.loop
 (.seq (.seq (.ops [
 Zv 30 10,Zv 31 9,Zo 32 .sub 30 31,Zc 33 .gtr 32 1])
 (.cond (.t 33)
 .skip
 (.exit 2)))
 (.block 3
 (.seq (.ops [
 Zv 34 9,Zv 35 10,Zo 36 .add 34 35,Zc 37 .quo 36 2,Zv 11 37])
 (.seq (.ops [
 Zv 38 7,Zv 39 1,Zv 40 11,⟨some 41,none,.bsl 180041 false [(ZI 0)] 1 1 [(0,1,(.t 40))]⟩,⟨some 42,none,.call gj [(.t 39),(.t 41)]⟩,⟨some 43,none,.call jA [(.t 38),(.t 42)]⟩])
 (.cond (.t 43)
 (.ops [
 Zv 44 11,Zv 10 44])
 (.ops [
 Zv 45 11,Zv 9 45]))))))))
 (.seq (.ops [
 Zv 46 6,Zv 47 8,Zv 48 9,Za 49 1 46 47,Zs 1 49 48])
 (.ops [
 Zv 50 7,Zv 51 1,Zv 52 9,⟨some 53,none,.bsl 180053 false [(ZI 0)] 1 1 [(0,1,(.t 52))]⟩,⟨some 54,none,.call cq [(.t 53)]⟩,⟨some 55,none,.call gj [(.t 51),(.t 54)]⟩,⟨some 56,none,.call gk [(.t 50),(.t 55)]⟩,Zv 7 56])))))))
 (.ops [
 Zv 20 8,Zc 21 .sub 20 1,Zv 8 21]))))))
 (.seq (.ops [
 Zv 57 6,⟨some 58,none,.call cq [(.t 57)]⟩,Zv 59 7,Zv 4 58,Zv 5 59])
 .ret))))) }
def mf_ref04_plus:MFunc :=
 { n:=43,np:=2,res:=[.t 4],body :=
 (.seq (.ops [
 Ze 4])
 (.seq (.ops [
 Ze 5])
 (.seq (.ops [
 Zi 6 0])
 (.seq (.seq (.ops [
 Zi 7 0])
 (.block 0
 (.ghost (.adopt 5 181038 1) (.loop
 (.seq (.seq (.ops [
 Zv 9 7,Zv 10 0,Zn 11 10,Zo 12 .lss 9 11,Zv 13 12,⟨some 14,some (13,false),.mv (.t 7)⟩,⟨some 15,some (13,false),.mv (.t 1)⟩,⟨some 16,some (13,false),.len (.t 15)⟩,⟨some 17,some (13,false),.bin .lss (.t 14) (.t 16)⟩,Zp 18 13 17,Zv 19 18,⟨some 20,some (19,false),.mv (.t 6)⟩,⟨some 21,some (19,false),.bin .gtr (.t 20) (.c (ZI 0))⟩,Zp 22 19 21])
 (.cond (.t 22)
 .skip
 (.exit 0)))
 (.seq (.block 1
 (.seq (.ops [
 Zv 25 0,Zv 26 7,⟨some 27,none,.call bZ [(.t 25),(.t 26)]⟩,Zv 28 1,Zv 29 7,⟨some 30,none,.call bZ [(.t 28),(.t 29)]⟩,Zo 31 .add 27 30,Zv 32 6,Zo 33 .add 31 32,Zv 8 33])
 (.seq (.ops [
 Zv 34 5,Zv 35 8,Zc 36 .rem 35 1048576,⟨some 37,none,.bsl 181037 false [(ZI 0)] 1 1 [(0,1,(.t 36))]⟩,⟨some 38,none,.app 181038 [(ZI 0)] 8 (.t 34) (.t 37)⟩,Zv 5 38])
 (.ops [
 Zv 39 8,Zc 40 .quo 39 1048576,Zv 6 40]))))
 (.ops [
 Zv 23 7,Zc 24 .add 23 1,Zv 7 24])))))))
 (.seq (.ops [
 Zv 41 5,⟨some 42,none,.call cq [(.t 41)]⟩,Zv 4 42])
 .ret))))) }
def mf_ref04_minus:MFunc :=
 { n:=35,np:=2,res:=[.t 4],body :=
 (.seq (.ops [
 Ze 4])
 (.seq (.ops [
 Ze 5])
 (.seq (.ops [
 Zi 6 0])
 (.seq (.seq (.ops [
 Zi 7 0])
 (.block 0
 (.ghost (.adopt 5 182032 1) (.loop
 (.seq (.seq (.ops [
 Zv 9 7,Zv 10 0,Zn 11 10,Zo 12 .lss 9 11])
 (.cond (.t 12)
 .skip
 (.exit 0)))
 (.seq (.block 1
 (.seq (.opsD [
 Zv 15 0,Zv 16 7,Za 17 1 15 16,Zl 18 1 17,Zv 19 1,Zv 20 7,⟨some 21,none,.call bZ [(.t 19),(.t 20)]⟩,Zo 22 .sub 18 21,Zv 23 6,Zo 24 .sub 22 23,Zv 8 24] [[],[],[],[],[],[],[],[],[],[],[]])
 (.seq (.ops [
 Zi 6 0])
 (.seq (.seq (.ops [
 Zv 25 8,Zc 26 .lss 25 0])
 (.cond (.t 26)
 (.seq (.ops [
 Zv 27 8,Zc 28 .add 27 1048576,Zv 8 28])
 (.ops [
 Zi 6 1]))
 .skip))
 (.ops [
 Zv 29 5,Zv 30 8,⟨some 31,none,.bsl 182031 false [(ZI 0)] 1 1 [(0,1,(.t 30))]⟩,⟨some 32,none,.app 182032 [(ZI 0)] 8 (.t 29) (.t 31)⟩,Zv 5 32])))))
 (.ops [
 Zv 13 7,Zc 14 .add 13 1,Zv 7 14])))))))
 (.seq (.ops [
 Zv 33 5,⟨some 34,none,.call cq [(.t 33)]⟩,Zv 4 34])
 .ret))))) }
def mf_ref04_trim:MFunc :=
 { n:=23,np:=1,res:=[.t 2],body :=
 (.seq (.ops [
 Ze 2])
 (.seq (.ops [
 Zv 4 0,Zn 5 4,Zv 3 5])
 (.seq (.block 0
 (.loop
 (.seq (.seq (.ops [
 Zv 6 3,Zc 7 .gtr 6 0,Zv 8 7,⟨some 9,some (8,true),.mv (.t 0)⟩,⟨some 10,some (8,true),.mv (.t 3)⟩,⟨some 11,some (8,true),.bin .sub (.t 10) (.c (ZI 1))⟩,⟨some 12,some (8,true),.iad 1 (.t 9) (.t 11)⟩,⟨some 13,some (8,true),.load 1 false (.t 12)⟩,⟨some 14,some (8,true),.bin .eql (.t 13) (.c (ZI 0))⟩,Zq 15 8 14])
 (.cond (.t 15)
 .skip
 (.exit 0)))
 (.block 1
 (.ops [
 Zv 16 3,Zc 17 .sub 16 1,Zv 3 17])))))
 (.seq (.ops [
 ⟨some 18,none,.bsl 183018 true [] 1 0 []⟩,Zv 19 0,Zv 20 3,⟨some 21,none,.slc 1 (.t 19) none (some (.t 20)) none⟩,⟨some 22,none,.app 183022 [(ZI 0)] 8 (.t 18) (.t 21)⟩,Zv 2 22])
 .ret)))) }
def mf_ref04_less:MFunc :=
 { n:=30,np:=2,res:=[.t 4],body :=
 (.seq (.ops [
 Zb 4 false])
 (.seq (.seq (.ops [
 Zv 6 0,Zn 7 6,Zv 8 1,Zn 9 8,⟨some 10,none,.mm true (.t 7) (.t 9)⟩,Zc 11 .sub 10 1,Zv 5 11])
 (.block 0
 (.loop
 (.seq (.seq (.ops [
 Zv 12 5,Zc 13 .geq 12 0])
 (.cond (.t 13)
 .skip
 (.exit 0)))
 (.seq (.block 1
 (.seq (.ops [
 Zv 16 0,Zv 17 5,⟨some 18,none,.call bZ [(.t 16),(.t 17)]⟩,Zv 19 1,Zv 20 5,⟨some 21,none,.call bZ [(.t 19),(.t 20)]⟩,Zo 22 .neq 18 21])
 (.cond (.t 22)
 (.seq (.ops [
 Zv 23 0,Zv 24 5,⟨some 25,none,.call bZ [(.t 23),(.t 24)]⟩,Zv 26 1,Zv 27 5,⟨some 28,none,.call bZ [(.t 26),(.t 27)]⟩,Zo 29 .lss 25 28,Zv 4 29])
 .ret)
 .skip)))
 (.ops [
 Zv 14 5,Zc 15 .sub 14 1,Zv 5 15]))))))
 (.seq (.ops [
 Zb 4 false])
 .ret))) }
def mf_ref04_times:MFunc :=
 { n:=60,np:=2,res:=[.t 4],body :=
 (.seq (.ops [
 Ze 4])
 (.seq (.ops [
 Zv 10 0,Zn 11 10,Zv 12 1,Zn 13 12,Zo 14 .add 11 13,⟨some 15,none,.mksl 186015 [(ZI 0)] 8 (.t 14) (.t 14)⟩,Zv 5 15])
 (.seq (.seq (.ops [
 Zi 6 0])
 (.block 0
 (.loop
 (.seq (.seq (.ops [
 Zv 16 6,Zv 17 0,Zn 18 17,Zo 19 .lss 16 18])
 (.cond (.t 19)
 .skip
 (.exit 0)))
 (.seq (.block 1
 (.seq (.ops [
 Zi 7 0])
 (.seq (.ops [
 Zi 8 0])
 (.block 2
 (.loop
 (.seq (.seq (.ops [
 Zv 22 8,Zv 23 1,Zn 24 23,Zo 25 .lss 22 24,Zv 26 25,⟨some 27,some (26,false),.mv (.t 7)⟩,⟨some 28,some (26,false),.bin .gtr (.t 27) (.c (ZI 0))⟩,Zp 29 26 28])
 (.cond (.t 29)
 .skip
 (.exit 2)))
 (.seq (.block 3
 (.seq (.opsD [
 Zv 32 5,Zv 33 6,Zv 34 8,Zo 35 .add 33 34,Za 36 1 32 35,Zl 37 1 36,Zv 38 0,Zv 39 6,Za 40 1 38 39,Zl 41 1 40,Zv 42 1,Zv 43 8,⟨some 44,none,.call bZ [(.t 42),(.t 43)]⟩,Zo 45 .mul 41 44,Zo 46 .add 37 45,Zv 47 7,Zo 48 .add 46 47,Zv 9 48] [[],[],[],[],[],[],[],[],[],[],[],[],[],[],[],[],[],[]])
 (.seq (.ops [
 Zv 49 5,Zv 50 6,Zv 51 8,Zo 52 .add 50 51,Zv 53 9,Zc 54 .rem 53 1048576,Za 55 1 49 52,Zs 1 55 54])
 (.ops [
 Zv 56 9,Zc 57 .quo 56 1048576,Zv 7 57]))))
 (.ops [
 Zv 30 8,Zc 31 .add 30 1,Zv 8 31]))))))))
 (.ops [
 Zv 20 6,Zc 21 .add 20 1,Zv 6 21]))))))
 (.seq (.ops [
 Zv 58 5,⟨some 59,none,.call cq [(.t 58)]⟩,Zv 4 59])
 .ret)))) }
def mf_ref04_digit:MFunc :=
 { n:=13,np:=2,res:=[.t 4],body :=
 (.seq (.ops [
 Zi 4 0])
 (.seq (.seq (.ops [
 Zv 5 1,Zv 6 0,Zn 7 6,Zo 8 .lss 5 7])
 (.cond (.t 8)
 (.seq (.ops [
 Zv 9 0,Zv 10 1,Za 11 1 9 10,Zl 12 1 11,Zv 4 12])
 .ret)
 .skip))
 (.seq (.ops [
 Zi 4 0])
 .ret))) }
theorem kz (l:List Int):lent (.own 1 (l.map aa))=some (.own 1 (l.map aa)):=by
 refine if_pos ?_;rw[List.all_eq_true];intro e he;obtain⟨d,-,rfl⟩:=List.mem_map.1 he;simp [aa,scalar]
theorem dI (n k g sz off len:Nat):toD n emp (.ref k g sz off len)=none:=by cases n<;>rfl
noncomputable def lv:List Data→Option PRes:=FF (α:=List Int) (fun (l:List Int)=>([.sl (l.map aa)]:List Data)) (fun (l:List Int)=>aG (l.length≤1000000) (.own 1 ((cm l).map aa)))
theorem z8:∀ a b:List Int,(fun (l:List Int)=>([.sl (l.map aa)]:List Data)) a=(fun (l:List Int)=>([.sl (l.map aa)]:List Data)) b→a=b:=by
  intro l1 l2 h;exact af ai _ _ (by simpa using h)
@[go_sem] theorem ir (l:List Int) (hc:l.length≤1000000):lv [.sl (l.map aa)]=some (.own 1 ((cm l).map aa)):=(aV z8 l).trans (an hc _)
theorem LD (T:Tab)  (l:List Int) (hc:l.length≤1000000) :
  wp T mf_ref04_trim.body (bG mf_ref04_trim.res (.own 1 ((cm l).map aa))) ⟨ax [.dat (.sl (l.map aa))],emp⟩:=by
 refine ap ?_;simp only[mf_ref04_trim];have hev:((l.map aa).all fun e=>e.length==1)=true:=by simp [aa]
 refine qI ?_
 repeat' (intro h<;>simp only[h,go_sem,go_sem_proc,YW,Y0]<;>try refine qS ?_ ?_)
 refine ae [0] [] (fun (n:Nat) tm mem=>n≤l.length∧cm l=cm (l.take n)∧tm 3 = .dat (.int .i64 n)∧mem 183018=none) (fun n=>n) l.length (by refine⟨Y6 _,by simp,by simp [go_sem],rfl⟩) ?_;intro vs ms hvs hms;simp only[go_sem,go_sem_proc,YW,Y0] at hvs hms;subst hvs hms;rintro n tm mem hk-⟨hn,ht,h3,hm18⟩;simp only[go_sem,go_sem_proc,YW,List.cons.injEq] at hk;have h0:=hk
 have hap:∀ o:List Int,o.length≤l.length→lg 183018 0 1 0 8 o.length ((o.map aa).flatten.map .dat) (some (0,[]))=some (.ref 183018 1 1 0 o.length,some (183018,1,ay aa o)):=by
  intro o ho;have:=me bc fO 183018 0 8 [] o (by simp;omega) (by simp;omega)
  simpa [ay] using this
 have hown:∀ (o:List Int) (m:Mem),m 183018=some (1,ay aa o)→rJ 1 m (.ref 183018 1 1 0 o.length)=some (o.map aa):=by
  intro o m hm;have:=Bd hm (Y6 _)
  rwa [List.take_of_length_le (Y6 _)] at this
 have hev2:∀ o:List Int,((o.map aa).all fun e=>e.length==1)=true:=fun o=>by simp [aa]
 rcases n with _ | n
 ·have h1:=hap [] (by simp)
  have ho:=hown [];simp only[Y7,List.flatten_nil,Y8] at h1 ho;refine qI ?_
  repeat' (intro h<;>simp only[h,go_sem,go_sem_proc,YW,h0,h3,hm18,hev,h1,Y9,Zd,show ¬ ((0:Int)>0) by omega,decide_false,Y0,show (0:Int).toNat=0 from rfl,show (0:Int)≤0 by omega,Y1,List.take_zero,Y7,Y8]<;>try refine qS ?_ ?_)
  rw[ho _ (by simp [aA]),ht];simp [cm]
 ·have hw:IntKind.i64.wrap (((n+1:Nat):Int)-1)=(n:Int):=by rw[aj _ (by omega) (by omega)];omega
  have hx:l[n]?=some l[n]:=YY (by omega);have hpos:((n+1:Nat):Int)>0:=by omega
  have hle:n+1≤l.length:=hn
  by_cases hz:l[n]=0
  ·refine qI ?_
   repeat' (intro h<;>simp only[h,go_sem,go_sem_proc,YW,h0,h3,hw,hx,hz,hpos,Y0,Y3,decide_true,aa,beq_self_eq_true,List.cons.injEq]<;>try refine qS ?_ ?_)
   exact⟨n,by omega,by omega,by rw[ht,rc l n (by omega) hz],rfl,hm18⟩
  ·have hzf:(l[n]==0)=false:=by simpa using hz
   have h1:=hap (l.take (n+1)) (by rw[Zg];omega);rw[Zg,Zj hle,Zm] at h1;have hl2:(List.take (n+1) (l.map aa)).length=n+1:=by rw[Zg,Y0];omega
   have hev3:=hev2 (l.take (n+1));rw[Zm] at hev3;refine qI ?_
   repeat' (intro h<;>simp only[h,go_sem,go_sem_proc,YW,h0,h3,hm18,hw,hx,hzf,hpos,hev,hev3,hle,h1,hl2,aa,Y0,Y3,decide_true,List.cons.injEq,show (0:Int)≤((n+1:Nat):Int) by omega,Int.toNat_natCast,Y1]<;>try refine qS ?_ ?_)
   have ho:=hown (l.take (n+1)) _ (show aA (aA mem 183018 0 []) 183018 1 (ay aa (List.take (n+1) l)) 183018=_ by simp [aA])
   rw[Zg,Zj hle] at ho;rw[ho,ht,rf l n (by omega) hz]
noncomputable def l7:List Data→Option PRes:=FF (α:=(List Int) × Nat) (fun (l,i)=>([.sl (l.map aa),.int .i64 i]:List Data)) (fun (l,i)=>aG (l.length≤1000000) (.same (.int .i64 (l.getD i 0))))
theorem xI:∀ a b:(List Int) × Nat,(fun (l,i)=>([.sl (l.map aa),.int .i64 i]:List Data)) a=(fun (l,i)=>([.sl (l.map aa),.int .i64 i]:List Data)) b→a=b:=by
  rintro⟨l1,i1⟩ ⟨l2,i2⟩ h;simp only[List.cons.injEq,Data.sl.injEq,Data.int.injEq] at h;exact YV (af ai _ _ h.1) (by have:=h.2.1.2;dsimp only;omega)
@[go_sem] theorem sj (l:List Int) (i:Nat) (hc:l.length≤1000000):l7 [.sl (l.map aa),.int .i64 i]=some (.same (.int .i64 (l.getD i 0))):=(aV xI (l,i)).trans (an hc _)
theorem H2 (T:Tab)  (l:List Int) (i:Nat) (hc:l.length≤1000000) :
  wp T mf_ref04_digit.body (bG mf_ref04_digit.res (.same (.int .i64 (l.getD i 0)))) ⟨ax [.dat (.sl (l.map aa)),.dat (.int .i64 i)],emp⟩:=by
 refine ap ?_;simp only[mf_ref04_digit];rcases Zr i l.length with hlt | hge
 ·have hx:=YY hlt
  have hd:decide ((i:Int)<(l.length:Int))=true:=decide_eq_true (by omega);have hg:l.getD i 0=l[i]:=by rw[Zw,hx];rfl
  rw[hg];refine qI ?_
  repeat' (intro h<;>simp only[h,go_sem,go_sem_proc,YW,hx,hd,aa,Y0,Y3]<;>try refine qS ?_ ?_)
 ·have hd:decide ((i:Int)<(l.length:Int))=false:=decide_eq_false (by omega)
  have hg:l.getD i 0=0:=by rw[Zw,List.getElem?_eq_none hge];rfl
  rw[hg];refine qI ?_
  repeat' (intro h<;>simp only[h,go_sem,go_sem_proc,YW,hd,Y0]<;>try refine qS ?_ ?_)
theorem rO (n i:Nat):(dg n).getD i 0=((n / 1048576^i % 1048576:Nat):Int):=by
 induction i generalizing n with
 | zero =>
  rcases Zy n with h | h
  ·subst h;rfl
  ·rw[jV h,Nat.pow_zero,Nat.div_one];rfl
 | succ i ih =>
  rcases Zy n with h | h
  ·subst h;rw[Nat.zero_div];rfl
  ·rw[jV h]
   show (dg (n / 1048576)).getD i 0=_;rw[ih,Zz,←Nat.pow_succ']
theorem mC (n i:Nat):n / 1048576^i=n / 1048576^i % 1048576+1048576*(n / 1048576^(i+1)):=by
 rw[Nat.pow_succ,←Zz];omega
theorem lu {n k:Nat} (h:(dg n).length≤k):n / 1048576^k=0:=Nat.div_eq_of_lt (dg_len.1 h)
noncomputable def sP:List Data→Option PRes:=FF (α:=Nat × Nat) (fun (x,y)=>([digs x,digs y]:List Data)) (fun (x,y)=>aG ((dg x).length≤100000∧(dg y).length≤100000) (.same (.bool (decide (x<y)))))
theorem zV:∀ a b:Nat × Nat,(fun (x,y)=>([digs x,digs y]:List Data)) a=(fun (x,y)=>([digs x,digs y]:List Data)) b→a=b:=by
  rintro⟨x1,y1⟩ ⟨x2,y2⟩ h;simp only[List.cons.injEq,digs,Data.sl.injEq] at h;exact YV (eR (af ai _ _ h.1)) (eR (af ai _ _ h.2.1))
@[go_sem] theorem Cg (x:Nat) (y:Nat) (hc:(dg x).length≤100000∧(dg y).length≤100000):sP [digs x,digs y]=some (.same (.bool (decide (x<y)))):=(aV zV (x,y)).trans (an hc _)
theorem Mi (T:Tab) (aW:T bZ=mkE l7) (x:Nat) (y:Nat) (hc:(dg x).length≤100000∧(dg y).length≤100000) :
  wp T mf_ref04_less.body (bG mf_ref04_less.res (.same (.bool (decide (x<y))))) ⟨ax [.dat (digs x),.dat (digs y)],emp⟩:=by
 refine ap ?_;simp only[mf_ref04_less];obtain⟨hx,hy⟩:=hc;have hM:∃ M:Nat,M=max (dg x).length (dg y).length:=⟨_,rfl⟩;obtain⟨M,hM⟩:=hM;have hmx:(if ((dg y).length:Int)>((dg x).length:Int) then ((dg y).length:Int) else ((dg x).length:Int))=(M:Int):=by split<;>omega
 have hw0:IntKind.i64.wrap ((M:Int)-1)=(M:Int)-1:=aj _ (by omega) (by omega);have hlx:(dg x).length≤1000000:=by omega
 have hly:(dg y).length≤1000000:=by omega
 simp only[go_sem,go_sem_proc,YW,aW,digs,Y0,hmx,hw0];refine ae [0,1] [] (fun (i:Nat) tm mem=>i≤M∧x / 1048576^i=y / 1048576^i∧tm 5 = .dat (.int .i64 ((i:Int)-1))) (fun i=>i) M (by refine⟨Y6 _,?_,rfl⟩;rw[lu (by omega),lu (by omega)]) ?_
 intro vs ms hvs hms;simp only[go_sem,go_sem_proc,YW,aW,digs] at hvs hms;subst hvs hms;rintro i tm mem hk-⟨hi,he,h5⟩;simp only[go_sem,go_sem_proc,YW,aW,List.cons.injEq] at hk;obtain⟨h0,h1⟩:=hk;rcases i with _ | i
 ·have hxy:x=y:=by simpa using he
  have hlt:decide (x<y)=false:=decide_eq_false (by omega);rw[hlt];simp only[go_sem,go_sem_proc,YW,aW,h0,h1,h5,Y9,Zd,show ¬ ((0:Int)-1≥0) by omega,decide_false]
  repeat' (first|refine qS ?_ ?_|fail)<;>intro h<;>simp only[h,go_sem,go_sem_proc,YW,aW,h0,h1,h5,Y9,Zd,show ¬ ((0:Int)-1≥0) by omega,decide_false]
 ·have hw:((i+1:Nat):Int)-1=(i:Int):=by omega
  have hge:decide ((i:Int)≥0)=true:=decide_eq_true (by omega);have e1:=mC x i;have e2:=mC y i;rw[he] at e1;have hw2:IntKind.i64.wrap ((i:Int)-1)=(i:Int)-1:=aj _ (by omega) (by omega);have g1:=rO x i;have g2:=rO y i;have b1:=ZA (x / 1048576^i) (show 0<1048576 by omega);have b2:=ZA (y / 1048576^i) (show 0<1048576 by omega);have hl1:x / 1048576^i<y / 1048576^i→x<y:=fun h=>ZB h
  have hl2:y / 1048576^i<x / 1048576^i→y<x:=fun h=>ZB h
  generalize hX:x / 1048576^i=X at *;generalize hY:y / 1048576^i=Y at *;generalize y / 1048576^(i+1)=Z at *;generalize X % 1048576=a at *;generalize Y % 1048576=b at *;rcases Nat.lt_trichotomy a b with h | h | h
  ·have hne:((a:Int)==(b:Int))=false:=by simp;omega
   have hab:decide ((a:Int)<(b:Int))=decide (x<y):=by rw[decide_eq_true (show (a:Int)<(b:Int) by omega),decide_eq_true (hl1 (by omega))]
   simp only[go_sem,go_sem_proc,YW,aW,h0,h1,h5,hw,hge,g1,g2,hlx,hly,hne,hab]
   repeat' (first|refine qS ?_ ?_|fail)<;>intro h<;>simp only[h,go_sem,go_sem_proc,YW,aW,h0,h1,h5,hw,hge,g1,g2,hlx,hly,hne,hab]
  ·subst h
   simp only[go_sem,go_sem_proc,YW,aW,h0,h1,h5,hw,hge,g1,g2,hlx,hly,hw2,beq_self_eq_true]
   repeat' (first|refine qS ?_ ?_|fail)<;>intro h<;>simp only[h,go_sem,go_sem_proc,YW,aW,h0,h1,h5,hw,hge,g1,g2,hlx,hly,hw2,beq_self_eq_true]
   exact⟨i,by omega,by omega,by rw[hX,hY];omega,rfl⟩
  ·have hne:((a:Int)==(b:Int))=false:=by simp;omega
   have hab:decide ((a:Int)<(b:Int))=decide (x<y):=by rw[decide_eq_false (show ¬ (a:Int)<(b:Int) by omega),decide_eq_false (by have:=hl2 (by omega);omega)]
   simp only[go_sem,go_sem_proc,YW,aW,h0,h1,h5,hw,hge,g1,g2,hlx,hly,hne,hab]
   repeat' (first|refine qS ?_ ?_|fail)<;>intro h<;>simp only[h,go_sem,go_sem_proc,YW,aW,h0,h1,h5,hw,hge,g1,g2,hlx,hly,hne,hab]
theorem ub {o:List Int} {d:Int} (h:isD o) (h0:0≤d) (h1:d<1048576):isD (o++[d]):=isD_append.2 ⟨h,isD_cons.2 ⟨⟨h0,h1⟩,by intro d hd;cases hd⟩⟩
theorem za (o:List Int) (d:Int):vl (o++[d])=vl o+1048576^o.length*d:=by rw[jn];simp [vl]
theorem mo {o:List Int} {n:Nat} (h:isD o) (hv:vl o=n):cm o=dg n:=by rw[iP h,hv];rfl
noncomputable def yQ:List Data→Option PRes:=FF (α:=Nat × Nat) (fun (x,y)=>([digs x,digs y]:List Data)) (fun (x,y)=>aG ((dg x).length≤10000∧(dg y).length≤10000) (.same (digs (x+y))))
theorem Bb:∀ a b:Nat × Nat,(fun (x,y)=>([digs x,digs y]:List Data)) a=(fun (x,y)=>([digs x,digs y]:List Data)) b→a=b:=by
  rintro⟨x1,y1⟩ ⟨x2,y2⟩ h;simp only[List.cons.injEq,digs,Data.sl.injEq] at h;exact YV (eR (af ai _ _ h.1)) (eR (af ai _ _ h.2.1))
@[go_sem] theorem Dd (x:Nat) (y:Nat) (hc:(dg x).length≤10000∧(dg y).length≤10000):yQ [digs x,digs y]=some (.same (digs (x+y))):=(aV Bb (x,y)).trans (an hc _)
theorem Ld (T:Tab) (aW:T bZ=mkE l7) (be:T cq=mkE lv) (x:Nat) (y:Nat) (hc:(dg x).length≤10000∧(dg y).length≤10000) :
  wp T mf_ref04_plus.body (bG mf_ref04_plus.res (.same (digs (x+y)))) ⟨ax [.dat (digs x),.dat (digs y)],emp⟩:=by
 refine ap ?_;simp only[mf_ref04_plus];obtain⟨hx,hy⟩:=hc;have hM:∃ M:Nat,M=max (dg x).length (dg y).length:=⟨_,rfl⟩;obtain⟨M,hM⟩:=hM;have hlx:(dg x).length≤1000000:=by omega
 have hly:(dg y).length≤1000000:=by omega
 simp only[go_sem,go_sem_proc,YW,aW,be,digs,Y0];refine ae [0,1] [] (fun ((i,c,g,o):Nat × Nat × Nat × List Int) tm mem=>i≤M+1∧c≤1∧(i=M+1→c=0)∧o.length=i∧isD o∧vl o+1048576^i*((x / 1048576^i+y / 1048576^i+c:Nat):Int)=((x+y:Nat):Int)∧tm 6 = .dat (.int .i64 c)∧tm 7 = .dat (.int .i64 i)∧tm 5 = .ref 181038 g 1 0 i∧mem 181038=some (g,ay aa o)) (fun (i,_)=>M+1-i) (0,0,0,[]) (by refine⟨by omega,by omega,by simp,rfl,by simp [isD],by simp [vl],rfl,rfl,rfl,rfl⟩) ?_;intro vs ms hvs hms;simp only[go_sem,go_sem_proc,YW,aW,be,digs] at hvs hms;subst hvs hms;rintro⟨i,c,g,o⟩ tm mem hk-⟨hi,hc1,hce,ho,hdo,hv,h6,h7,h5,hm⟩;simp only[go_sem,go_sem_proc,YW,aW,be,List.cons.injEq] at hk;obtain⟨h0,h1⟩:=hk;have hp:vl o+1048576^i*((x / 1048576^i+y / 1048576^i+c:Nat):Int)=((x+y:Nat):Int):=hv
 by_cases hgo:i<(dg x).length∨i<(dg y).length∨0<c
 ·have e1:=mC x i
  have e2:=mC y i;have g1:=rO x i;have g2:=rO y i;have b1:=ZA (x / 1048576^i) (show 0<1048576 by omega);have b2:=ZA (y / 1048576^i) (show 0<1048576 by omega);have hlast:M≤i→x / 1048576^i=0∧y / 1048576^i=0:=fun h=>⟨lu (by omega),lu (by omega)⟩
  have hps:(1048576:Int)^(i+1)=1048576^i*1048576:=ZC _ _;generalize hX:x / 1048576^i=X at *;generalize hY:y / 1048576^i=Y at *;generalize hX':x / 1048576^(i+1)=X' at *;generalize hY':y / 1048576^(i+1)=Y' at *;generalize ha:X % 1048576=a at *;generalize hb:Y % 1048576=b at *;have w1:IntKind.i64.wrap ((a:Int)+(b:Int))=((a+b:Nat):Int):=by rw[aj _ (by omega) (by omega)];omega
  have w2:IntKind.i64.wrap (((a+b:Nat):Int)+(c:Int))=((a+b+c:Nat):Int):=by rw[aj _ (by omega) (by omega)];omega
  have q1:((a+b+c:Nat):Int).tmod 1048576=(((a+b+c) % 1048576:Nat):Int):=by rw[Int.tmod_eq_emod_of_nonneg (by omega)];omega
  have q2:IntKind.i64.wrap (((a+b+c:Nat):Int).tdiv 1048576)=(((a+b+c) / 1048576:Nat):Int):=by rw[Int.tdiv_eq_ediv_of_nonneg (by omega),aj _ (by omega) (by omega)];omega
  have w3:IntKind.i64.wrap ((i:Int)+1)=((i+1:Nat):Int):=by rw[aj _ (by omega) (by omega)];omega
  have hap:=dk bc fO 181038 g 8 o (((a+b+c) % 1048576:Nat):Int) (cs:=[.dat (.int .i64 (((a+b+c) % 1048576:Nat):Int))]) rfl (by omega) (by omega);rw[ho] at hap
  have hiM:i≤M:=by
   rcases Zr M i with h | h
   ·have:=hce (by omega);omega
   ·exact h
  have hfin:∃ i':Nat × Nat × Nat × List Int,M+1-i'.1<M+1-i∧i'.1≤M+1∧i'.2.1≤1∧(i'.1=M+1→i'.2.1=0)∧i'.2.2.2.length=i'.1∧isD i'.2.2.2∧vl i'.2.2.2+1048576^i'.1*((x / 1048576^i'.1+y / 1048576^i'.1+i'.2.1:Nat):Int)=((x+y:Nat):Int)∧MV.dat (Data.int .i64 (((a+b+c) / 1048576:Nat):Int))=MV.dat (Data.int .i64 (i'.2.1:Int))∧MV.dat (Data.int .i64 ((i+1:Nat):Int))=MV.dat (Data.int .i64 (i'.1:Int))∧MV.ref 181038 (g+1) 1 0 (i+1)=MV.ref 181038 i'.2.2.1 1 0 i'.1∧some (g+1,ay aa (o++[(((a+b+c) % 1048576:Nat):Int)]))=some (i'.2.2.1,ay aa i'.2.2.2):=by
   refine⟨(i+1,(a+b+c) / 1048576,g+1,o++[(((a+b+c) % 1048576:Nat):Int)]),by dsimp only;omega,by dsimp only;omega,by dsimp only;omega,?_,by simp [ho],ub hdo (by omega) (by omega),?_,rfl,rfl,rfl,rfl⟩
   ·intro h
    dsimp only at h ⊢;have:=hlast (by omega);omega
   ·dsimp only
    rw[hX',hY',za,ho,hps,←hp];have e3:((X+Y+c:Nat):Int)=1048576*((X'+Y'+(a+b+c) / 1048576:Nat):Int)+(((a+b+c) % 1048576:Nat):Int):=by omega
    rw[e3,ZD,ZE];omega
  by_cases h1':i<(dg x).length
  ·have d1:decide ((i:Int)<((dg x).length:Int))=true:=decide_eq_true (by omega)
   simp only[go_sem,go_sem_proc,YW,aW,be,h0,h1,h5,h6,h7,hm,g1,g2,hlx,hly,d1,w1,w2,q1,q2,w3,hap,Y0]
   repeat' (first|refine qS ?_ ?_|fail)<;>intro h<;>simp only[h,go_sem,go_sem_proc,YW,aW,be,h0,h1,h5,h6,h7,hm,g1,g2,hlx,hly,d1,w1,w2,q1,q2,w3,hap,Y0]
   exact hfin
  ·have d1:decide ((i:Int)<((dg x).length:Int))=false:=decide_eq_false (by omega)
   by_cases h2':i<(dg y).length
   ·have d2:decide ((i:Int)<((dg y).length:Int))=true:=decide_eq_true (by omega)
    simp only[go_sem,go_sem_proc,YW,aW,be,h0,h1,h5,h6,h7,hm,g1,g2,hlx,hly,d1,d2,w1,w2,q1,q2,w3,hap,Y0]
    repeat' (first|refine qS ?_ ?_|fail)<;>intro h<;>simp only[h,go_sem,go_sem_proc,YW,aW,be,h0,h1,h5,h6,h7,hm,g1,g2,hlx,hly,d1,d2,w1,w2,q1,q2,w3,hap,Y0]
    exact hfin
   ·have d2:decide ((i:Int)<((dg y).length:Int))=false:=decide_eq_false (by omega)
    have d3:decide ((c:Int)>0)=true:=decide_eq_true (by omega);simp only[go_sem,go_sem_proc,YW,aW,be,h0,h1,h5,h6,h7,hm,g1,g2,hlx,hly,d1,d2,d3,w1,w2,q1,q2,w3,hap,Y0]
    repeat' (first|refine qS ?_ ?_|fail)<;>intro h<;>simp only[h,go_sem,go_sem_proc,YW,aW,be,h0,h1,h5,h6,h7,hm,g1,g2,hlx,hly,d1,d2,d3,w1,w2,q1,q2,w3,hap,Y0]
    exact hfin
 ·have d1:decide ((i:Int)<((dg x).length:Int))=false:=decide_eq_false (by omega)
  have d2:decide ((i:Int)<((dg y).length:Int))=false:=decide_eq_false (by omega);have d3:decide ((c:Int)>0)=false:=decide_eq_false (by omega);rw[lu (n:=x) (by omega),lu (n:=y) (by omega),show c=0 by omega] at hp
  have hT:=ir o (by omega);rw[mo (n:=x+y) hdo (by simpa using hp)] at hT;have hL:=kz (dg (x+y));have hD:=eG (n:=5) bc hm;rw[ho] at hD;simp only[go_sem,go_sem_proc,YW,aW,be,h0,h1,h5,h6,h7,hm,d1,d2,d3,hT,hL,hD,dI,Y5,Y0]
  repeat' (first|refine qS ?_ ?_|fail)<;>intro h<;>simp only[h,go_sem,go_sem_proc,YW,aW,be,h0,h1,h5,h6,h7,hm,d1,d2,d3,hT,hL,hD,dI,Y5,Y0]
noncomputable def q0:List Data→Option PRes:=FF (α:=Nat × Nat) (fun (x,y)=>([digs x,digs y]:List Data)) (fun (x,y)=>aG ((dg x).length≤10000∧(dg y).length≤10000∧y≤x) (.same (digs (x-y))))
theorem xC:∀ a b:Nat × Nat,(fun (x,y)=>([digs x,digs y]:List Data)) a=(fun (x,y)=>([digs x,digs y]:List Data)) b→a=b:=by
  rintro⟨x1,y1⟩ ⟨x2,y2⟩ h;simp only[List.cons.injEq,digs,Data.sl.injEq] at h;exact YV (eR (af ai _ _ h.1)) (eR (af ai _ _ h.2.1))
@[go_sem] theorem sc (x:Nat) (y:Nat) (hc:(dg x).length≤10000∧(dg y).length≤10000∧y≤x):q0 [digs x,digs y]=some (.same (digs (x-y))):=(aV xC (x,y)).trans (an hc _)
theorem JD (T:Tab) (aW:T bZ=mkE l7) (be:T cq=mkE lv) (x:Nat) (y:Nat) (hc:(dg x).length≤10000∧(dg y).length≤10000∧y≤x) :
  wp T mf_ref04_minus.body (bG mf_ref04_minus.res (.same (digs (x-y)))) ⟨ax [.dat (digs x),.dat (digs y)],emp⟩:=by
 refine ap ?_;simp only[mf_ref04_minus];obtain⟨hx,hy,hxy⟩:=hc;have hlx:(dg x).length≤1000000:=by omega
 have hly:(dg y).length≤1000000:=by omega
 have hyx:(dg y).length≤(dg x).length:=by rw[dg_len];exact Nat.lt_of_le_of_lt hxy (dg_len.1 (Y6 _))
 simp only[go_sem,go_sem_proc,YW,aW,be,digs,Y0];refine ae [0,1] [] (fun ((i,c,g,o):Nat × Nat × Nat × List Int) tm mem=>i≤(dg x).length∧c≤1∧y / 1048576^i+c≤x / 1048576^i∧o.length=i∧isD o∧vl o+1048576^i*((x / 1048576^i-(y / 1048576^i+c):Nat):Int)=((x-y:Nat):Int)∧tm 6 = .dat (.int .i64 c)∧tm 7 = .dat (.int .i64 i)∧tm 5 = .ref 182032 g 1 0 i∧mem 182032=some (g,ay aa o)) (fun (i,_)=>(dg x).length-i) (0,0,0,[]) (by refine⟨by omega,by omega,by simpa using hxy,rfl,by simp [isD],by simp [vl],rfl,rfl,rfl,rfl⟩) ?_
 intro vs ms hvs hms;simp only[go_sem,go_sem_proc,YW,aW,be,digs] at hvs hms;subst hvs hms;rintro⟨i,c,g,o⟩ tm mem hk-⟨hi,hc1,hle,ho,hdo,hv,h6,h7,h5,hm⟩;simp only[go_sem,go_sem_proc,YW,aW,be,List.cons.injEq] at hk;obtain⟨h0,h1⟩:=hk;have hp:vl o+1048576^i*((x / 1048576^i-(y / 1048576^i+c):Nat):Int)=((x-y:Nat):Int):=hv;have hle':y / 1048576^i+c≤x / 1048576^i:=hle
 by_cases hgo:i<(dg x).length
 ·have d1:decide ((i:Int)<((dg x).length:Int))=true:=decide_eq_true (by omega)
  have e1:=mC x i;have e2:=mC y i;have g1:=rO x i;rw[Zw,YY hgo] at g1;have gx:(dg x)[i]?=some ((x / 1048576^i % 1048576:Nat):Int):=by rw[YY hgo];exact congrArg some g1
  have g2:=rO y i;have b1:=ZA (x / 1048576^i) (show 0<1048576 by omega);have b2:=ZA (y / 1048576^i) (show 0<1048576 by omega);have hps:(1048576:Int)^(i+1)=1048576^i*1048576:=ZC _ _;clear g1 hle hv;generalize hX:x / 1048576^i=X at *;generalize hY:y / 1048576^i=Y at *;generalize hX':x / 1048576^(i+1)=X' at *;generalize hY':y / 1048576^(i+1)=Y' at *;generalize ha:X % 1048576=a at *;generalize hb:Y % 1048576=b at *;have w1:IntKind.i64.wrap ((a:Int)-(b:Int))=(a:Int)-(b:Int):=aj _ (by omega) (by omega);have w2:IntKind.i64.wrap ((a:Int)-(b:Int)-(c:Int))=(a:Int)-(b:Int)-(c:Int):=aj _ (by omega) (by omega);have w3:IntKind.i64.wrap ((i:Int)+1)=((i+1:Nat):Int):=by rw[aj _ (by omega) (by omega)];omega
  have w4:IntKind.i64.wrap ((a:Int)-(b:Int)-(c:Int)+1048576)=(a:Int)-(b:Int)-(c:Int)+1048576:=aj _ (by omega) (by omega);have hap:=fun d:Int=>dk bc fO 182032 g 8 o d (cs:=[.dat (.int .i64 d)]) rfl (by omega) (by omega)
  rw[ho] at hap;rcases hneg:decide ((a:Int)-(b:Int)-(c:Int)<0)
  ·have hn:=of_decide_eq_false hneg
   refine qI ?_
   repeat' (intro h<;>simp only[h,go_sem,go_sem_proc,YW,aW,be,h0,h1,h5,h6,h7,hm,gx,g2,hly,d1,w1,w2,w3,hap,hneg,aa,Y0,Y3]<;>try refine qS ?_ ?_)
   refine⟨(i+1,0,g+1,o++[(a:Int)-(b:Int)-(c:Int)]),by dsimp only;omega,by dsimp only;omega,by dsimp only;omega,by dsimp only;rw[hX',hY'];omega,by simp [ho],ub hdo (by omega) (by omega),?_,rfl,rfl,rfl,rfl⟩
   dsimp only;rw[hX',hY',za,ho,hps,←hp];have e3:((X-(Y+c):Nat):Int)=1048576*((X'-(Y'+0):Nat):Int)+((a:Int)-b-c):=by omega
   rw[e3,ZD,ZE];omega
  ·have hn:=of_decide_eq_true hneg
   refine qI ?_
   repeat' (intro h<;>simp only[h,go_sem,go_sem_proc,YW,aW,be,h0,h1,h5,h6,h7,hm,gx,g2,hly,d1,w1,w2,w3,w4,hap,hneg,aa,Y0,Y3]<;>try refine qS ?_ ?_)
   refine⟨(i+1,1,g+1,o++[(a:Int)-(b:Int)-(c:Int)+1048576]),by dsimp only;omega,by dsimp only;omega,by dsimp only;omega,by dsimp only;rw[hX',hY'];omega,by simp [ho],ub hdo (by omega) (by omega),?_,rfl,rfl,rfl,rfl⟩
   dsimp only;rw[hX',hY',za,ho,hps,←hp];have e3:((X-(Y+c):Nat):Int)=1048576*((X'-(Y'+1):Nat):Int)+((a:Int)-b-c+1048576):=by omega
   have e4:∀ p D E:Int,vl o+p*D+p*1048576*E=vl o+p*(1048576*E+D):=fun p D E=>by rw[ZD p (1048576*E) D,←ZE];omega
   rw[e3];exact e4 _ _ _
 ·have d1:decide ((i:Int)<((dg x).length:Int))=false:=decide_eq_false (by omega)
  rw[lu (n:=x) (by omega),lu (n:=y) (by omega),Nat.zero_sub,Y9,Int.mul_zero,Int.add_zero] at hp;have hT:=ir o (by omega);rw[mo (n:=x-y) hdo hp] at hT;have hL:=kz (dg (x-y));have hD:=eG (n:=5) bc hm;rw[ho] at hD;refine qI ?_
  repeat' (intro h<;>simp only[h,go_sem,go_sem_proc,YW,aW,be,h0,h1,h5,h6,h7,hm,d1,hT,hL,hD,dI,Y5,Y0]<;>try refine qS ?_ ?_)
end Go.Mini
