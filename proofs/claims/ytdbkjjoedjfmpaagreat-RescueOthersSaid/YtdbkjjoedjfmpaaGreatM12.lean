/- A part of the proof. -/
import Derived.Test.YtdbkjjoedjfmpaaGreatM11
import Derived.Test.YtdbkjjoedjfmpaaGreatM04
set_option linter.unusedSimpArgs false
set_option linter.unusedVariables false
open List renaming getElem?_map → afb, append_inj → afc, length_map → afd, take → afe, drop → aff, drop_succ_cons → afg, drop_append_of_le_length → afh, take_append_of_le_length → afi, length_drop → afj, drop_append → afk, drop_eq_nil_of_le → afl, nil_append → afm, take_of_length_le → afn, getD_eq_getElem?_getD → afo, getElem?_eq_getElem → afp, getElem?_eq_none → afq, mem_of_getElem? → afx, take_length → afC, getElem_mem → afD, replicate → afI, map_replicate → afJ, length_replicate → afK, length_filter_le → afL, take_zero → afN, take_add_one → afO, take_append_drop → afP, range_succ → afR, map_append → afS, map_cons → afT, map_nil → afU, set_cons_zero → afV, length_range → afY, range → afZ, flatMap_append → af0, flatMap_cons → af1, flatMap_nil → af2, append_nil → af3, flatMap_def → af4, map_congr_left → af5, filter_append → af6, filter_cons_of_pos → af8, filter_cons_of_neg → af9, range_add → aga, append_assoc → agb, map → agc, filter_nil → agd
open Prod renaming ext_iff → afr, ext → afw
open Bool renaming false_eq_true → afs, false_and → aft, true_and → afu, eq_iff_iff → afv, not_true → afA, not_false → afB, and_true → afE, and_false → afF, not_eq_true' → afH
open Nat renaming zero_le → afy, mul_one → afM, reduceEqDiff → afW, le_trans → afX
open Decidable renaming em → afz
open Option renaming bind_none → afG
open Rat renaming add_zero → afQ
open Int renaming toNat_natCast → af7
namespace Go.Mini
open Go
set_option maxRecDepth 10000
def clM (l:List ClR):MV:=if l=[] then .nil else .dat (.sl (l.map clL))
theorem Mq {a b:List ClR} (h:clM a=clM b):a=b:=by
 unfold clM at h
 by_cases ha:a=[]<;>by_cases hb:b=[]
 ·rw[ha,hb]
 ·rw[if_pos ha,if_neg hb] at h;cases h
 ·rw[if_neg ha,if_pos hb] at h;cases h
 ·rw[if_neg ha,if_neg hb] at h
  exact af f6 _ _ (Data.sl.inj (MV.dat.inj h))
theorem Ev (l:List ClR):oU (clM l)=some l.length:=by
 unfold clM
 split
 ·rename_i h;rw[h];rfl
 ·simp [oU]
theorem En {l:List ClR} {n:Nat} {c:ClR} (h:l[n]?=some c):xU 4 n (clM l)=some (.dat (.ptr (clL c))):=by
 unfold clM
 split
 ·rename_i hl;rw[hl] at h;cases h
 ·simp only[xU,afb,h,Option.map_some]
  rw[if_pos (mL c)]
structure DebR where
 cash:Int
 cl:List (List ClR)
 us:List Int
 f:Int
 p:Bool
def dJ (x:DebR):List MV:=iC x.cash::(x.cl.map clM++(x.us.map iC++[iC x.f,bC x.p]))
def DebR.sf (x:DebR) (f:Int):DebR:=⟨x.cash,x.cl,x.us,f,x.p⟩
def DebR.sp (x:DebR) (p:Bool):DebR:=⟨x.cash,x.cl,x.us,x.f,p⟩
structure DebR.OK (x:DebR):Prop where
 cl:x.cl.length=10
 us:x.us.length=11
theorem jI {x:DebR} (h:x.OK):(dJ x).length=24:=by
 simp [dJ,h.cl,h.us]
theorem JR {x y:DebR} (hx:x.OK) (hy:y.OK) (h:dJ x=dJ y):x=y:=by
 unfold dJ at h;obtain⟨h1,h2⟩:=List.cons.inj h;obtain⟨h3,h4⟩:=afc h2 (by rw[afd,afd,hx.cl,hy.cl]);obtain⟨h5,h6⟩:=afc h4 (by rw[afd,afd,hx.us,hy.us]);obtain⟨h7,h8⟩:=List.cons.inj h6;obtain⟨h9,-⟩:=List.cons.inj h8;obtain⟨x1,x2,x3,x4,x5⟩:=x;obtain⟨y1,y2,y3,y4,y5⟩:=y;have e2:=af (fun a b h=>Mq h) _ _ h3;have e3:=HG h5;simp only[iC,bC,MV.dat.injEq,Data.int.injEq,Data.bool.injEq,true_and] at h1 h7 h9;dsimp only at *;rw[h1,e2,e3,h7,h9]
section
variable {x:DebR} (h:x.OK)
include h
omit h in
theorem JO:afe 1 (dJ x)=[iC x.cash]:=rfl
omit h in
theorem JL {k:Nat} {l:List ClR} (hk:x.cl[k]?=some l):afe 1 (aff (1+k) (dJ x))=[clM l]:=by
 have hlt:=(List.getElem?_eq_some_iff.1 hk).1;unfold dJ;rw[Nat.add_comm,afg,afh (by rw[afd];omega),afi (by rw[afj,afd];omega)];exact zV (f:=clM) hk
theorem uU {k:Nat} {z:Int} (hk:x.us[k]?=some z):afe 1 (aff (11+k) (dJ x))=[iC z]:=by
 have hlt:=(List.getElem?_eq_some_iff.1 hk).1;unfold dJ;rw[show 11+k=(10+k)+1 by omega,afg,afk,afl (by rw[afd,h.cl];omega),afd,h.cl,afm,show 10+k-10=k by omega,afh (by rw[afd];omega),afi (by rw[afj,afd];omega)]
 exact zV (f:=iC) hk
theorem AE:afe 1 (aff 22 (dJ x))=[iC x.f]:=by
 unfold dJ;rw[afg,afk,afl (by rw[afd,h.cl];omega),afd,h.cl,afm,afk,afl (by rw[afd,h.us];omega),afd,h.us]
 rfl
theorem Nv:afe 1 (aff 23 (dJ x))=[bC x.p]:=by
 unfold dJ;rw[afg,afk,afl (by rw[afd,h.cl];omega),afd,h.cl,afm,afk,afl (by rw[afd,h.us];omega),afd,h.us]
 rfl
theorem Kp (f:Int):afe 22 (dJ x)++[MV.dat (.int .i64 f)]++aff 23 (dJ x)=dJ (x.sf f):=by
 have e:dJ x=(iC x.cash::(x.cl.map clM++x.us.map iC))++[iC x.f,bC x.p]:=by simp [dJ]
 have l:(iC x.cash::(x.cl.map clM++x.us.map iC)).length=22:=by simp [h.cl,h.us]
 rw[e,afi (by omega),afn (by omega),afk,afl (by omega),l];simp [dJ,DebR.sf,iC]
theorem Bl (p:Bool):afe 23 (dJ x)++[MV.dat (.bool p)]++aff 24 (dJ x)=dJ (x.sp p):=by
 have e:dJ x=(iC x.cash::(x.cl.map clM++(x.us.map iC++[iC x.f])))++[bC x.p]:=by simp [dJ]
 have l:(iC x.cash::(x.cl.map clM++(x.us.map iC++[iC x.f]))).length=23:=by simp [h.cl,h.us]
 rw[e,afi (by omega),afn (by omega),afk,afl (by omega),l];simp [dJ,DebR.sp,bC]
end
structure DebA where
 cash:List Int
 cs:List ClR
 fl:List Int
 P:List Bool
 g:Nat
 gs:List Nat
def DebA.deb (a:DebA) (i:Nat):DebR:=⟨a.cash.getD i 0,fL 10 fun k=>aU a.cs i k,fL 11 fun k=>aM a.cs i (k:Nat),a.fl.getD i 10,a.P.getD i false⟩
theorem DebA.deb_ok (a:DebA) (i:Nat):(a.deb i).OK:=⟨bO _ _,bO _ _⟩
structure DebA.At (a:DebA) (m:Mem):Prop where
 can:a.cs=aE a.cash.length a.cs
 fl:a.fl.length=a.cash.length
 pl:a.P.length=a.cash.length
 gl:a.gs.length=a.cash.length
 row:m 228023=some (a.g,fL a.cash.length fun i => .ptr (228500+i) (a.gs.getD i 0) 0)
 blk:∀ i,i<a.cash.length→m (228500+i)=some (a.gs.getD i 0,dJ (a.deb i))
theorem ja {α:Type} {d:α} {n:Nat} {a b:List α} (ha:a.length=n) (hb:b.length=n) (h:∀ i,i<n→a.getD i d=b.getD i d):a=b:=by
 apply List.ext_getElem?;intro i;rcases Nat.lt_or_ge i n with hi | hi
 ·have:=h i hi
  rw[afo,afo,afp (by omega),afp (by omega)] at this;rw[afp (by omega),afp (by omega)];exact congrArg some this
 ·rw[afq (by omega),afq (by omega)]
theorem IF {α:Type} {n:Nat} {p q:Nat→α} (h:fL n p=fL n q):∀ i,i<n→p i=q i:=fun i hi=>by
 have h1:=cN p hi;rw[h,cN q hi] at h1;exact (Option.some.inj h1).symm
theorem DebA.uniq {a b:DebA} {m:Mem} (h:a.At m) (h':b.At m):a=b:=by
 obtain⟨a1,a2,a3,a4,a5,a6⟩:=a;obtain⟨b1,b2,b3,b4,b5,b6⟩:=b;obtain⟨c1,c2,c3,c4,c5,c6⟩:=h;obtain⟨d1,d2,d3,d4,d5,d6⟩:=h';dsimp only at *;rw[c5,Option.some.injEq,Prod.mk.injEq] at d5;obtain⟨rfl,hrow⟩:=d5
 have hn:a1.length=b1.length:=by
  have:=congrArg List.length hrow
  rwa [bO,bO] at this
 rw[←hn] at hrow d1 d2 d3 d4 d6
 have hg:a6=b6:=ja (d:=0) c4 d4 fun i hi=>by
  have:=IF hrow i hi;rw[MV.ptr.injEq] at this;exact this.2.1
 subst hg
 have hb:∀ i,i<a1.length→DebA.deb ⟨a1,a2,a3,a4,a5,a6⟩ i=DebA.deb ⟨b1,b2,b3,b4,a5,a6⟩ i:=fun i hi=>by
  have h1:=c6 i hi;rw[d6 i hi,Option.some.injEq,Prod.mk.injEq] at h1;exact (JR (DebA.deb_ok _ _) (DebA.deb_ok _ _) h1.2).symm
 simp only[DebA.deb,DebR.mk.injEq] at hb;have e1:a1=b1:=ja (d:=0) rfl hn.symm fun i hi=>(hb i hi).1
 subst e1
 have e2:a2=b2:=by
  rw[c1,d1];exact pR fun i hi k hk=>IF (hb i hi).2.1 k hk
 have e3:a3=b3:=ja (d:=10) c2 d2 fun i hi=>(hb i hi).2.2.2.1
 have e4:a4=b4:=ja (d:=false) c3 d3 fun i hi=>(hb i hi).2.2.2.2
 rw[e2,e3,e4]
theorem DebA.At.fr {a:DebA} {mem m:Mem} {n:Nat} (h:a.At mem) (hf:FrK n mem m) (hn:n≠228) (h5:a.cash.length≤5):a.At m :=
 ⟨h.can,h.fl,h.pl,h.gl,by rw[hf 228023 (by omega)];exact h.row,fun i hi=>by rw[hf (228500+i) (by omega)];exact h.blk i hi⟩
def mf_rescue_Least:MFunc :=
 { n:=107,np:=3,res:=[.cell 6 4 true,.t 7],body :=
 (.seq (.ops [
 ⟨some 6,none,.alloc 221006 [(ZI 0),.nil,(ZI 0),.nil]⟩,Zi 7 0])
 (.seq (.seq (.ops [
 Zv 18 0,Zv 19 1,⟨some 20,none,.call lC [(.t 18),(.t 19)]⟩,Zt 21 20,Zv 22 21,⟨some 23,some (22,false),.mv (.t 2)⟩,⟨some 24,some (22,false),.bin .lss (.t 23) (.c (ZI 0))⟩,Zp 25 22 24,Zv 26 25,⟨some 27,some (26,false),.mv (.t 2)⟩,⟨some 28,some (26,false),.mv (.t 0)⟩,⟨some 29,some (26,false),.len (.t 28)⟩,⟨some 30,some (26,false),.bin .geq (.t 27) (.t 29)⟩,Zp 31 26 30])
 (.cond (.t 31)
 (.seq (.ops [
 ⟨some 32,none,.build [(ZI 0),.nil,(ZI 0),.nil] []⟩,Zs 4 6 32,Zi 7 1])
 .ret)
 .skip))
 (.seq (.ops [
 Zv 33 0,⟨some 34,none,.callo 221034 1 bs [(.t 33)]⟩,Zv 8 34,Zi 9 0])
 (.seq (.ops [
 Ze 10])
 (.seq (.seq (.ops [
 Zv 35 1,Zn 36 35,Zi 37 0])
 (.block 0
 (.ghost (.adopt 10 221048 4) (.loop
 (.seq (.ops [
 Zo 38 .lss 37 36])
 (.seq (.cond (.t 38)
 .skip
 (.exit 0))
 (.seq (.block 1
 (.seq (.ops [
 Za 39 4 35 37,Zu 40 4 39,⟨some 12,none,.alloc 221012 [(ZI 0),(ZI 0),(ZI 0),(ZI 0)]⟩,Zs 4 12 40])
 (.seq (.seq (.ops [
 Zf 41 0 12,Zl 42 1 41,Zv 43 2,Zo 44 .neq 42 43])
 (.cond (.t 44)
 (.seq (.ops [
 Zv 45 10,Zu 46 4 12,⟨some 47,none,.bsl 221047 false [(ZI 0),(ZI 0),(ZI 0),(ZI 0)] 4 1 [(0,4,(.t 46))]⟩,⟨some 48,none,.app 221048 [(ZI 0),(ZI 0),(ZI 0),(ZI 0)] 32 (.t 45) (.t 47)⟩,Zv 10 48])
 (.exit 1))
 .skip))
 (.seq (.ops [
 Zv 49 9,Zf 50 3 12,Zl 51 1 50,Zo 52 .add 49 51,Zv 9 52])
 (.seq (.ops [
 Zf 53 1 12,Zl 54 1 53,Zc 55 .geq 54 0])
 (.cond (.t 55)
 (.opsD [
 Zv 56 8,Zf 57 1 12,Zl 58 1 57,Za 59 1 56 58,Zl 60 1 59,Zf 61 3 12,Zl 62 1 61,Zo 63 .add 60 62,Za 64 1 56 58,Zs 1 64 63] [[],[],[],[],[],[],[],[],[],[]])
 .skip))))))
 (.ops [
 Zc 65 .add 37 1,Zv 37 65]))))))))
 (.seq (.seq (.ops [
 Zv 66 8,⟨some 67,none,.call iW [(.t 66)]⟩,Zc 68 .gtr 67 1000000000000000])
 (.cond (.t 68)
 (.seq (.ops [
 ⟨some 69,none,.build [(ZI 0),.nil,(ZI 0),.nil] []⟩,Zs 4 6 69,Zi 7 6])
 .ret)
 .skip))
 (.seq (.ghost (.freeze 8) (.ghost (.freeze 10) (.ops [
 Zv 71 8,Zv 72 10,⟨some 73,none,.call fj [(.t 71),(.t 72)]⟩,Zv 70 73,Zx 74 0 70,Zx 75 1 70,⟨some 13,none,.alloc 221013 [.nil,.nil,.nil]⟩,Zs 3 13 74,Zv 14 75])))
 (.seq (.seq (.ops [
 Zv 76 14,Zc 77 .neq 76 0])
 (.cond (.t 77)
 (.seq (.ops [
 ⟨some 78,none,.build [(ZI 0),.nil,(ZI 0),.nil] []⟩,Zs 4 6 78,Zi 7 6])
 .ret)
 .skip))
 (.seq (.ops [
 Zv 80 9,⟨some 81,none,.call eQ [(.t 80),(.c (ZI 1))]⟩,Zv 79 81,Zx 82 0 79,Zx 83 1 79,⟨some 15,none,.alloc 221015 [(ZI 0),.nil,(ZI 0),.nil]⟩,Zs 4 15 82,Zv 16 83])
 (.seq (.opsD [
 Zu 85 4 15,Zf 86 0 13,Zl 87 1 86,Zv 88 2,Za 89 4 87 88,Zu 90 4 89,⟨some 91,none,.call dr [(.t 85),(.t 90)]⟩,Zv 84 91,Zx 92 0 84,Zx 93 1 84,⟨some 17,none,.alloc 221017 [(ZI 0),.nil,(ZI 0),.nil]⟩,Zs 4 17 92,Zv 14 93] [[],[],[],[],[],[],[],[],[],[],[0,2,5],[],[]])
 (.seq (.block 2
 (.seq (.ops [
 Zv 95 14,Zc 96 .neq 95 0,Zv 94 96])
 (.cond (.t 94)
 (.seq (.ops [
 ⟨some 97,none,.build [(ZI 0),.nil,(ZI 0),.nil] []⟩,Zs 4 6 97,Zi 7 6])
 .ret)
 (.seq (.ops [
 Zf 99 0 17,Zf 100 0 99,Zl 101 1 100,Zc 102 .lss 101 0,Zv 98 102])
 (.cond (.t 98)
 (.seq (.ops [
 ⟨some 103,none,.call eQ [(.c (ZI 0)),(.c (ZI 1))]⟩,Zx 104 0 103,Zx 105 1 103,Zs 4 6 104,Zv 7 105])
 .ret)
 .skip)))))
 (.seq (.ops [
 Zu 106 4 17,Zs 4 6 106,Zi 7 0])
 .ret)))))))))))) }
def mf_rescue_day:MFunc :=
 { n:=21,np:=2,res:=[.t 4],body :=
 (.seq (.ops [
 Zk 2 238002 0,Zb 4 false])
 (.seq (.seq (.ops [
 Zl 5 1 2,Zn 6 5,Zc 7 .gtr 6 60,Zv 8 7,⟨some 9,some (8,false),.mv (.t 1)⟩,⟨some 10,some (8,false),.len (.t 9)⟩,⟨some 11,some (8,false),.bin .gtr (.t 10) (.c (ZI 2000))⟩,Zp 12 8 11,Zv 13 12,⟨some 14,some (13,false),.load 1 false (.t 2)⟩,⟨some 15,some (13,false),.call cA [(.t 14),(.c (.clo fM []))]⟩,Zp 16 13 15])
 (.cond (.t 16)
 (.seq (.ops [
 Zb 4 false])
 .ret)
 .skip))
 (.seq (.ops [
 Zv 17 1,⟨some 18,none,.mkfn fN [(.t 2)]⟩,⟨some 19,none,.call cm [(.t 17),(.t 18)]⟩,Zt 20 19,Zv 4 20])
 .ret))) }
def mf_rescue_day_1:MFunc :=
 { n:=6,np:=1,res:=[.t 2],body :=
 (.seq (.ops [
 Zb 2 false])
 (.seq (.ops [
 Zv 3 0,⟨some 4,none,.call fp [(.t 3)]⟩,Zt 5 4,Zv 2 5])
 .ret)) }
def mf_rescue_amount:MFunc :=
 { n:=9,np:=1,res:=[.t 2],body :=
 (.seq (.ops [
 Zb 2 false])
 (.seq (.ops [
 Zv 3 0,Zc 4 .geq 3 0,Zv 5 4,⟨some 6,some (5,true),.mv (.t 0)⟩,⟨some 7,some (5,true),.bin .leq (.t 6) (.c (ZI 1000000000000000))⟩,Zq 8 5 7,Zv 2 8])
 .ret)) }
def mf_rescue_day_2:MFunc :=
 { n:=42,np:=2,res:=[.t 3],body :=
 (.seq (.ops [
 Zk 2 252002 0,Zb 3 false])
 (.seq (.ops [
 Zf 4 0 2,Zl 5 1 4,Zc 6 .lss 5 0,Zv 7 6,⟨some 8,some (7,false),.fad 0 (.t 2)⟩,⟨some 9,some (7,false),.load 1 false (.t 8)⟩,⟨some 10,some (7,false),.load 1 false (.t 1)⟩,⟨some 11,some (7,false),.len (.t 10)⟩,⟨some 12,some (7,false),.bin .geq (.t 9) (.t 11)⟩,Zp 13 7 12,Zv 14 13,⟨some 15,some (14,false),.fad 1 (.t 2)⟩,⟨some 16,some (14,false),.load 1 false (.t 15)⟩,⟨some 17,some (14,false),.bin .lss (.t 16) (.c (.dat (.int .i64 (-1))))⟩,Zp 18 14 17,Zv 19 18,⟨some 20,some (19,false),.fad 1 (.t 2)⟩,⟨some 21,some (19,false),.load 1 false (.t 20)⟩,⟨some 22,some (19,false),.load 1 false (.t 1)⟩,⟨some 23,some (19,false),.len (.t 22)⟩,⟨some 24,some (19,false),.bin .geq (.t 21) (.t 23)⟩,Zp 25 19 24,Zv 26 25,⟨some 27,some (26,false),.fad 2 (.t 2)⟩,⟨some 28,some (26,false),.load 1 false (.t 27)⟩,⟨some 29,some (26,false),.bin .lss (.t 28) (.c (ZI 0))⟩,Zp 30 26 29,Zv 31 30,⟨some 32,some (31,false),.fad 2 (.t 2)⟩,⟨some 33,some (31,false),.load 1 false (.t 32)⟩,⟨some 34,some (31,false),.bin .geq (.t 33) (.c (ZI 10))⟩,Zp 35 31 34,Zv 36 35,⟨some 37,some (36,false),.fad 3 (.t 2)⟩,⟨some 38,some (36,false),.load 1 false (.t 37)⟩,⟨some 39,some (36,false),.call fp [(.t 38)]⟩,⟨some 40,some (36,false),.un .not (.t 39)⟩,Zp 41 36 40,Zv 3 41])
 .ret)) }
set_option maxHeartbeats 2000000
noncomputable def Eo:List Data→Option PRes:=FF (α:=Int × Int × Int) (fun (x,a,b)=>([.int .i64 x,.int .i64 a,.int .i64 b]:List Data)) (fun (x,a,b)=>some (.same (.bool (decide (a≤x)&&decide (x≤b)))))
theorem FC:∀ a b:Int × Int × Int,(fun (x,a,b)=>([.int .i64 x,.int .i64 a,.int .i64 b]:List Data)) a=(fun (x,a,b)=>([.int .i64 x,.int .i64 a,.int .i64 b]:List Data)) b→a=b:=by
  rintro⟨x1,a1,b1⟩ ⟨x2,a2,b2⟩ h;simp only[List.cons.injEq,Data.int.injEq,Data.agg.injEq,Data.sl.injEq,Data.bool.injEq,Data.str.injEq,Data.ptr.injEq,Data.tup.injEq,Prod.mk.injEq,true_and,and_true] at h ⊢
  first | exact h | simpa [afr,and_assoc] using h | grind
@[go_sem] theorem QT (x:Int) (a:Int) (b:Int):Eo [.int .i64 x,.int .i64 a,.int .i64 b]=some (.same (.bool (decide (a≤x)&&decide (x≤b)))):=aV FC (x,a,b)
theorem Qu (T:Tab)  (x:Int) (a:Int) (b:Int) :
  wp T mf_clear_right_1.body (bE mf_clear_right_1.res (.same (.bool (decide (a≤x)&&decide (x≤b))))) ⟨ax [.dat (.int .i64 x),.dat (.int .i64 a),.dat (.int .i64 b)],emp⟩:=by
 refine ap ?_;simp only[mf_clear_right_1];rcases c1:decide (a≤x)
 ·have c2:decide (x≥a)=false:=c1
  refine qI ?_
  repeat' (intro h<;>simp only[h,go_sem,go_sem_proc,afs,c1,c2,aft]<;>try refine qS ?_ ?_)
 ·have c2:decide (x≥a)=true:=c1
  refine qI ?_
  repeat' (intro h<;>simp only[h,go_sem,go_sem_proc,afs,c1,c2,afu]<;>try refine qS ?_ ?_)
noncomputable def HB:List Data→Option PRes:=FF (α:=Int) (fun (x:Int)=>([.int .i64 x,.ptr [.fn bn []]]:List Data)) (fun (x:Int)=>some (.same (.bool (!dw x))))
theorem Fa:∀ a b:Int,(fun (x:Int)=>([.int .i64 x,.ptr [.fn bn []]]:List Data)) a=(fun (x:Int)=>([.int .i64 x,.ptr [.fn bn []]]:List Data)) b→a=b:=by
  intro x1 x2 h;simp only[List.cons.injEq,Data.int.injEq,Data.agg.injEq,Data.sl.injEq,Data.bool.injEq,Data.str.injEq,Data.ptr.injEq,Data.tup.injEq,Prod.mk.injEq,true_and,and_true] at h ⊢
  first | exact h | simpa [afr,and_assoc] using h | grind
@[go_sem] theorem QK (x:Int):HB [.int .i64 x,.ptr [.fn bn []]]=some (.same (.bool (!dw x))):=aV Fa x
theorem Rj (T:Tab) (Jq:T bn=mkE Eo) (x:Int) :
  wp T mf_clear_right_2.body (bE mf_clear_right_2.res (.same (.bool (!dw x)))) ⟨ax [.dat (.int .i64 x),.dat (.ptr [.fn bn []])],emp⟩:=by
 refine ap ?_;simp only[mf_clear_right_2];unfold dw;refine qI ?_
 repeat' (intro h<;>simp only[h,go_sem,go_sem_proc,afs,Jq]<;>try refine qS ?_ ?_)
noncomputable def KB:List Data→Option PRes:=FF (α:=Int × Int × Int × Int × Int) (fun (a,b,k,x,n)=>([.agg [.int .i64 a,.int .i64 b,.int .i64 k,.int .i64 x],.ptr [.fn bn []],.ptr [.int .i64 n]]:List Data)) (fun (a,b,k,x,n)=>aF (0≤n∧n≤1000000) (.same (.bool (!d8 n (a,b,k,x)))))
theorem Gj:∀ a b:Int × Int × Int × Int × Int,(fun (a,b,k,x,n)=>([.agg [.int .i64 a,.int .i64 b,.int .i64 k,.int .i64 x],.ptr [.fn bn []],.ptr [.int .i64 n]]:List Data)) a=(fun (a,b,k,x,n)=>([.agg [.int .i64 a,.int .i64 b,.int .i64 k,.int .i64 x],.ptr [.fn bn []],.ptr [.int .i64 n]]:List Data)) b→a=b:=by
  rintro⟨a1,b1,k1,x1,n1⟩ ⟨a2,b2,k2,x2,n2⟩ h;simp only[List.cons.injEq,Data.int.injEq,Data.agg.injEq,Data.sl.injEq,Data.bool.injEq,Data.str.injEq,Data.ptr.injEq,Data.tup.injEq,Prod.mk.injEq,true_and,and_true] at h ⊢
  first | exact h | simpa [afr,and_assoc] using h | grind
@[go_sem] theorem Re (a:Int) (b:Int) (k:Int) (x:Int) (n:Int) (hc:0≤n∧n≤1000000):KB [.agg [.int .i64 a,.int .i64 b,.int .i64 k,.int .i64 x],.ptr [.fn bn []],.ptr [.int .i64 n]]=some (.same (.bool (!d8 n (a,b,k,x)))):=(aV Gj (a,b,k,x,n)).trans (an hc _)
theorem R9 (T:Tab) (Jq:T bn=mkE Eo) (a:Int) (b:Int) (k:Int) (x:Int) (n:Int) (hc:0≤n∧n≤1000000) :
  wp T mf_clear_right_3.body (bE mf_clear_right_3.res (.same (.bool (!d8 n (a,b,k,x))))) ⟨ax [.dat (.agg [.int .i64 a,.int .i64 b,.int .i64 k,.int .i64 x]),.dat (.ptr [.fn bn []]),.dat (.ptr [.int .i64 n])],emp⟩:=by
 refine ap ?_;simp only[mf_clear_right_3];have w:IntKind.i64.wrap (n-1)=n-1:=by rw[ak _ (by omega) (by omega)]
 have e:d8 n (a,b,k,x)=((decide (0≤a)&&decide (a≤n-1))&&((decide (-1≤b)&&decide (b≤n-1))&&((decide (0≤k)&&decide (k≤9))&&(decide (0≤x)&&decide (x≤1000000000000000))))):=by
  rw[afv,rightC_iff];simp only[Bool.and_eq_true,decide_eq_true_eq];omega
 rw[e];rcases c1:(decide (0≤a)&&decide (a≤n-1))<;>rcases c2:(decide (-1≤b)&&decide (b≤n-1))<;>rcases c3:(decide (0≤k)&&decide (k≤9))<;>rcases c4:(decide (0≤x)&&decide (x≤1000000000000000))
 all_goals
      refine qI ?_
      repeat' (intro h<;>simp only[h,go_sem,go_sem_proc,afs,Jq,w,c1,c2,c3,c4]<;>try refine qS ?_ ?_)
noncomputable def rH:List Data→Option PRes:=FF (α:=Int × (List aS) × Nat) (fun (z,h,i)=>([.int .i64 z,.ptr [.sl (h.map ad)],.ptr [.int .i64 i]]:List Data)) (fun (z,h,i)=>aF (bZ z∧i<h.length∧okL h) (.same (.bool (decide (pa (h.getD i bB) (ai (z:Rat))<0)))))
theorem vQ:∀ a b:Int × (List aS) × Nat,(fun (z,h,i)=>([.int .i64 z,.ptr [.sl (h.map ad)],.ptr [.int .i64 i]]:List Data)) a=(fun (z,h,i)=>([.int .i64 z,.ptr [.sl (h.map ad)],.ptr [.int .i64 i]]:List Data)) b→a=b:=by
  rintro⟨z1,h1,i1⟩ ⟨z2,h2,i2⟩ h;simp only[List.cons.injEq,Data.int.injEq,Data.ptr.injEq,Data.sl.injEq,and_true,true_and] at h;exact afw h.1 (afw (af dO _ _ h.2.1) (by have:=h.2.2;dsimp only;omega))
@[go_sem] theorem xT (z:Int) (h:List aS) (i:Nat) (hc:bZ z∧i<h.length∧okL h):rH [.int .i64 z,.ptr [.sl (h.map ad)],.ptr [.int .i64 i]]=some (.same (.bool (decide (pa (h.getD i bB) (ai (z:Rat))<0)))):=(aV vQ (z,h,i)).trans (an hc _)
theorem Gc (T:Tab) (bo:T bq=mkE fJ) (aq:T bh=mkE dC) (z:Int) (h:List aS) (i:Nat) (hc:bZ z∧i<h.length∧okL h) :
  wp T mf_clear_Solve_1.body (bE mf_clear_Solve_1.res (.same (.bool (decide (pa (h.getD i bB) (ai (z:Rat))<0))))) ⟨ax [.dat (.int .i64 z),.dat (.ptr [.sl (h.map ad)]),.dat (.ptr [.int .i64 i])],emp⟩:=by
 refine ap ?_;simp only[mf_clear_Solve_1];obtain⟨hz,hi,hok⟩:=hc;have hw:=fy z hz;obtain⟨x,hx⟩:∃ x,h[i]?=some x:=⟨_,afp hi⟩;have hxd:h.getD i bB=x:=by rw[afo,hx];rfl
 obtain⟨o1,o2⟩:=hok.2 x (afx hx);obtain⟨o3,o4⟩:=eJ (eA hz);rw[hxd];generalize ai (z:Rat)=Z at *;obtain⟨⟨a1,a2⟩,⟨a3,a4⟩⟩:=Z;obtain⟨⟨b1,b2⟩,⟨b3,b4⟩⟩:=x;have hcp:=o0 b1 b2 b3 b4 a1 a2 a3 a4 ⟨o1,o2,o3,o4⟩;simp only[ad] at hw;simp only[go_sem,go_sem_proc,afs,bo,aq,hw,hx,hcp,ad,afd,afb]
 repeat' (first|refine qS ?_ ?_|fail)<;>intro h<;>simp only[h,go_sem,go_sem_proc,afs,bo,aq,hw,hx,hcp,ad,afd,afb]
noncomputable def oG:List Data→Option PRes:=FF (α:=Int) (fun (x:Int)=>([.int .i64 x]:List Data)) (fun (x:Int)=>some (.same (.bool (dw x))))
theorem vP:∀ a b:Int,(fun (x:Int)=>([.int .i64 x]:List Data)) a=(fun (x:Int)=>([.int .i64 x]:List Data)) b→a=b:=by
  intro x1 x2 h;simp only[List.cons.injEq,Data.int.injEq,Data.agg.injEq,Data.sl.injEq,Data.bool.injEq,Data.str.injEq,Data.ptr.injEq,Data.tup.injEq,Prod.mk.injEq,true_and,and_true] at h ⊢
  first | exact h | simpa [afr,and_assoc] using h | grind
@[go_sem] theorem Lv (x:Int):oG [.int .i64 x]=some (.same (.bool (dw x))):=aV vP x
theorem FQ (T:Tab)  (x:Int) :
  wp T mf_rescue_amount.body (bE mf_rescue_amount.res (.same (.bool (dw x)))) ⟨ax [.dat (.int .i64 x)],emp⟩:=by
 refine ap ?_;simp only[mf_rescue_amount];unfold dw;rcases c1:decide (0≤x)
 ·have c2:decide (x≥0)=false:=c1
  refine qI ?_
  repeat' (intro h<;>simp only[h,go_sem,go_sem_proc,afs,c1,c2,aft]<;>try refine qS ?_ ?_)
 ·have c2:decide (x≥0)=true:=c1
  refine qI ?_
  repeat' (intro h<;>simp only[h,go_sem,go_sem_proc,afs,c1,c2,afu]<;>try refine qS ?_ ?_)
noncomputable def yX:List Data→Option PRes:=FF (α:=Int) (fun (x:Int)=>([.int .i64 x]:List Data)) (fun (x:Int)=>some (.same (.bool (!dw x))))
theorem AP:∀ a b:Int,(fun (x:Int)=>([.int .i64 x]:List Data)) a=(fun (x:Int)=>([.int .i64 x]:List Data)) b→a=b:=by
  intro x1 x2 h;simp only[List.cons.injEq,Data.int.injEq,Data.agg.injEq,Data.sl.injEq,Data.bool.injEq,Data.str.injEq,Data.ptr.injEq,Data.tup.injEq,Prod.mk.injEq,true_and,and_true] at h ⊢
  first | exact h | simpa [afr,and_assoc] using h | grind
@[go_sem] theorem Pl (x:Int):yX [.int .i64 x]=some (.same (.bool (!dw x))):=aV AP x
theorem Mb (T:Tab) (mF:T fp=mkE oG) (x:Int) :
  wp T mf_rescue_day_1.body (bE mf_rescue_day_1.res (.same (.bool (!dw x)))) ⟨ax [.dat (.int .i64 x)],emp⟩:=by
 refine ap ?_;simp only[mf_rescue_day_1];refine qI ?_
 repeat' (intro h<;>simp only[h,go_sem,go_sem_proc,afs,mF]<;>try refine qS ?_ ?_)
inductive sJ where
 | right
 | day
 | solve (h:List aS) (i:Nat)
def my:sJ→Data
 | .right => .fn fm [.ptr [.fn bn []]]
 | .day => .fn fM []
 | .solve h i => .fn fu [.ptr [.sl (h.map ad)],.ptr [.int .i64 i]]
theorem By:∀ a b:sJ,my a=my b→a=b:=by
 rintro (_ | _ | ⟨h,i⟩) (_ | _ | ⟨h',i'⟩) e
 all_goals first | rfl | (simp [my,fm,fM,fu] at e;done) | skip
 simp only[my,Data.fn.injEq,List.cons.injEq,Data.ptr.injEq,Data.sl.injEq,Data.int.injEq,and_true,true_and] at e;rw[af dO _ _ e.1,show i=i' by omega]
def pdI:sJ→Int→Bool
 | .right,x => !dw x
 | .day,x => !dw x
 | .solve h i,x=>decide (pa (h.getD i bB) (ai (x:Rat))<0)
def okI (l:List Int):sJ→Prop
 | .right=>True
 | .day=>True
 | .solve h i=>i<h.length∧okL h∧∀ x∈l,bZ x
noncomputable def oB:List Data→Option PRes:=FF (α:=(List Int) × sJ) (fun (l,c)=>([.sl (l.map aa),my c]:List Data)) (fun (l,c)=>aF (l.length≤1000000∧okI l c) (.same (.int .i64 (mE (pdI c) l))))
theorem zL:∀ a b:(List Int) × sJ,(fun (l,c)=>([.sl (l.map aa),my c]:List Data)) a=(fun (l,c)=>([.sl (l.map aa),my c]:List Data)) b→a=b:=by
  rintro⟨l1,c1⟩ ⟨l2,c2⟩ h;simp only[List.cons.injEq,Data.sl.injEq,and_true] at h;exact afw (af aj _ _ h.1) (By _ _ h.2)
@[go_sem] theorem Dm (l:List Int) (c:sJ) (hc:l.length≤1000000∧okI l c):oB [.sl (l.map aa),my c]=some (.same (.int .i64 (mE (pdI c) l))):=(aV zL (l,c)).trans (an hc _)
theorem K8 (T:Tab) (ff:T fm=mkE HB) (cC:T fM=mkE yX) (bH:T fu=mkE rH) (l:List Int) (c:sJ) (hc:l.length≤1000000∧okI l c) :
  wp T mf_slices_IndexFunc_int.body (bE mf_slices_IndexFunc_int.res (.same (.int .i64 (mE (pdI c) l)))) ⟨ax [.dat (.sl (l.map aa)),.dat (my c)],emp⟩:=by
 refine ap ?_;simp only[mf_slices_IndexFunc_int];obtain⟨hl,hok⟩:=hc
 cases c with
 | right =>
  simp only[go_sem,go_sem_proc,afs,ff,cC,bH,my,afd];refine ae [0,1,7] [] (fun (i:Nat) tm mem=>i≤l.length∧(∀ x∈l.take i,pdI .right x=false)∧tm 8 = .dat (.int .i64 i)) (fun i=>l.length-i) 0 (by refine⟨afy _,by simp,rfl⟩) ?_;intro vs ms hvs hms;simp only[go_sem,go_sem_proc,afs,ff,cC,bH,afd] at hvs hms;subst hvs hms;rintro i tm mem hk hm ⟨hi,hall,h8⟩;simp only[go_sem,go_sem_proc,afs,ff,cC,bH,List.cons.injEq] at hk hm;obtain⟨h0,h1,h7⟩:=hk;rcases afz (i<l.length) with hlt | hge
  ·have hx:=afp hlt
   have hat:=fun h=>lw (p:=pdI .right) hall hx h
   have hnx:=fun h=>eT (p:=pdI .right) hall hx h
   generalize l[i]=x at *;have hlt':decide ((i:Int)<(l.length:Int))=true:=decide_eq_true (by omega);have hw:IntKind.i64.wrap ((i:Int)+1)=((i+1:Nat):Int):=by rw[ak _ (by omega) (by omega)];omega
   rcases hb:pdI .right x
   ·have hr:dw x=true:=by simpa [pdI] using hb
    simp only[go_sem,go_sem_proc,afs,ff,cC,bH,h0,h1,h7,h8,hx,hlt',hw,hr,aa,afd,afb,afA]
    repeat' (first|refine qS ?_ ?_|fail)<;>intro h<;>simp only[h,go_sem,go_sem_proc,afs,ff,cC,bH,h0,h1,h7,h8,hx,hlt',hw,hr,aa,afd,afb,afA]
    exact⟨i+1,by omega,by omega,hnx hb,rfl⟩
   ·have hr:dw x=false:=by simpa [pdI] using hb
    rw[hat hb];simp only[go_sem,go_sem_proc,afs,ff,cC,bH,h0,h1,h7,h8,hx,hlt',hw,hr,aa,afd,afb,afB]
    repeat' (first|refine qS ?_ ?_|fail)<;>intro h<;>simp only[h,go_sem,go_sem_proc,afs,ff,cC,bH,h0,h1,h7,h8,hx,hlt',hw,hr,aa,afd,afb,afB]
  ·have hlt':decide ((i:Int)<(l.length:Int))=false:=decide_eq_false (by omega)
   obtain rfl:i=l.length:=by omega
   rw[afC] at hall;rw[jn hall];simp only[go_sem,go_sem_proc,afs,ff,cC,bH,h0,h1,h7,h8,hlt',afd]
   repeat' (first|refine qS ?_ ?_|fail)<;>intro h<;>simp only[h,go_sem,go_sem_proc,afs,ff,cC,bH,h0,h1,h7,h8,hlt',afd]
 | day =>
  simp only[go_sem,go_sem_proc,afs,ff,cC,bH,my,afd];refine ae [0,1,7] [] (fun (i:Nat) tm mem=>i≤l.length∧(∀ x∈l.take i,pdI .day x=false)∧tm 8 = .dat (.int .i64 i)) (fun i=>l.length-i) 0 (by refine⟨afy _,by simp,rfl⟩) ?_;intro vs ms hvs hms;simp only[go_sem,go_sem_proc,afs,ff,cC,bH,afd] at hvs hms;subst hvs hms;rintro i tm mem hk hm ⟨hi,hall,h8⟩;simp only[go_sem,go_sem_proc,afs,ff,cC,bH,List.cons.injEq] at hk hm;obtain⟨h0,h1,h7⟩:=hk;rcases afz (i<l.length) with hlt | hge
  ·have hx:=afp hlt
   have hat:=fun h=>lw (p:=pdI .day) hall hx h
   have hnx:=fun h=>eT (p:=pdI .day) hall hx h
   generalize l[i]=x at *;have hlt':decide ((i:Int)<(l.length:Int))=true:=decide_eq_true (by omega);have hw:IntKind.i64.wrap ((i:Int)+1)=((i+1:Nat):Int):=by rw[ak _ (by omega) (by omega)];omega
   rcases hb:pdI .day x
   ·have hr:dw x=true:=by simpa [pdI] using hb
    simp only[go_sem,go_sem_proc,afs,ff,cC,bH,h0,h1,h7,h8,hx,hlt',hw,hr,aa,afd,afb,afA]
    repeat' (first|refine qS ?_ ?_|fail)<;>intro h<;>simp only[h,go_sem,go_sem_proc,afs,ff,cC,bH,h0,h1,h7,h8,hx,hlt',hw,hr,aa,afd,afb,afA]
    exact⟨i+1,by omega,by omega,hnx hb,rfl⟩
   ·have hr:dw x=false:=by simpa [pdI] using hb
    rw[hat hb];simp only[go_sem,go_sem_proc,afs,ff,cC,bH,h0,h1,h7,h8,hx,hlt',hw,hr,aa,afd,afb,afB]
    repeat' (first|refine qS ?_ ?_|fail)<;>intro h<;>simp only[h,go_sem,go_sem_proc,afs,ff,cC,bH,h0,h1,h7,h8,hx,hlt',hw,hr,aa,afd,afb,afB]
  ·have hlt':decide ((i:Int)<(l.length:Int))=false:=decide_eq_false (by omega)
   obtain rfl:i=l.length:=by omega
   rw[afC] at hall;rw[jn hall];simp only[go_sem,go_sem_proc,afs,ff,cC,bH,h0,h1,h7,h8,hlt',afd]
   repeat' (first|refine qS ?_ ?_|fail)<;>intro h<;>simp only[h,go_sem,go_sem_proc,afs,ff,cC,bH,h0,h1,h7,h8,hlt',afd]
 | solve h k =>
  obtain⟨hk0,hkl,hkz⟩:=hok;simp only[go_sem,go_sem_proc,afs,ff,cC,bH,my,afd];refine ae [0,1,7] [] (fun (i:Nat) tm mem=>i≤l.length∧(∀ x∈l.take i,pdI (.solve h k) x=false)∧tm 8 = .dat (.int .i64 i)) (fun i=>l.length-i) 0 (by refine⟨afy _,by simp,rfl⟩) ?_;intro vs ms hvs hms;simp only[go_sem,go_sem_proc,afs,ff,cC,bH,afd] at hvs hms;subst hvs hms;rintro i tm mem hk hm ⟨hi,hall,h8⟩;simp only[go_sem,go_sem_proc,afs,ff,cC,bH,List.cons.injEq] at hk hm;obtain⟨h0,h1,h7⟩:=hk;rcases afz (i<l.length) with hlt | hge
  ·have hx:=afp hlt
   have hxz:=hkz _ (afD hlt);have hat:=fun hh=>lw (p:=pdI (.solve h k)) hall hx hh
   have hnx:=fun hh=>eT (p:=pdI (.solve h k)) hall hx hh
   generalize l[i]=x at *;have hF:=xT x h k ⟨hxz,hk0,hkl⟩;have hlt':decide ((i:Int)<(l.length:Int))=true:=decide_eq_true (by omega);have hw:IntKind.i64.wrap ((i:Int)+1)=((i+1:Nat):Int):=by rw[ak _ (by omega) (by omega)];omega
   rcases hb:pdI (.solve h k) x
   ·have hr:=hb
    simp only[pdI] at hr;rw[hr] at hF;simp only[go_sem,go_sem_proc,afs,ff,cC,bH,h0,h1,h7,h8,hx,hlt',hw,hF,aa,afd,afb]
    repeat' (first|refine qS ?_ ?_|fail)<;>intro h<;>simp only[h,go_sem,go_sem_proc,afs,ff,cC,bH,h0,h1,h7,h8,hx,hlt',hw,hF,aa,afd,afb]
    exact⟨i+1,by omega,by omega,hnx hb,rfl⟩
   ·have hr:=hb
    simp only[pdI] at hr;rw[hr] at hF;rw[hat hb];simp only[go_sem,go_sem_proc,afs,ff,cC,bH,h0,h1,h7,h8,hx,hlt',hw,hF,aa,afd,afb]
    repeat' (first|refine qS ?_ ?_|fail)<;>intro h<;>simp only[h,go_sem,go_sem_proc,afs,ff,cC,bH,h0,h1,h7,h8,hx,hlt',hw,hF,aa,afd,afb]
  ·have hlt':decide ((i:Int)<(l.length:Int))=false:=decide_eq_false (by omega)
   obtain rfl:i=l.length:=by omega
   rw[afC] at hall;rw[jn hall];simp only[go_sem,go_sem_proc,afs,ff,cC,bH,h0,h1,h7,h8,hlt',afd]
   repeat' (first|refine qS ?_ ?_|fail)<;>intro h<;>simp only[h,go_sem,go_sem_proc,afs,ff,cC,bH,h0,h1,h7,h8,hlt',afd]
noncomputable def pM:List Data→Option PRes:=FF (α:=(List Int) × sJ) (fun (l,c)=>([.sl (l.map aa),my c]:List Data)) (fun (l,c)=>aF (l.length≤1000000∧okI l c) (.same (.bool (l.any (pdI c)))))
theorem yW:∀ a b:(List Int) × sJ,(fun (l,c)=>([.sl (l.map aa),my c]:List Data)) a=(fun (l,c)=>([.sl (l.map aa),my c]:List Data)) b→a=b:=by
  rintro⟨l1,c1⟩ ⟨l2,c2⟩ h;simp only[List.cons.injEq,Data.sl.injEq,and_true] at h;exact afw (af aj _ _ h.1) (By _ _ h.2)
@[go_sem] theorem su (l:List Int) (c:sJ) (hc:l.length≤1000000∧okI l c):pM [.sl (l.map aa),my c]=some (.same (.bool (l.any (pdI c)))):=(aV yW (l,c)).trans (an hc _)
theorem Ip (T:Tab) (eC:T bY=mkE oB) (l:List Int) (c:sJ) (hc:l.length≤1000000∧okI l c) :
  wp T mf_slices_ContainsFunc_int.body (bE mf_slices_ContainsFunc_int.res (.same (.bool (l.any (pdI c))))) ⟨ax [.dat (.sl (l.map aa)),.dat (my c)],emp⟩:=by
 refine ap ?_;simp only[mf_slices_ContainsFunc_int];rw[←rf];refine qI ?_
 repeat' (intro h<;>simp only[h,go_sem,go_sem_proc,afs,eC,hc]<;>try refine qS ?_ ?_)
noncomputable def xz:List Data→Option PRes:=FF (α:=Int × Int × Int × Int × (List Int)) (fun (a,b,k,x,cash)=>([.agg [.int .i64 a,.int .i64 b,.int .i64 k,.int .i64 x],.ptr [.sl (cash.map aa)]]:List Data)) (fun (a,b,k,x,cash)=>aF (cash.length≤1000000) (.same (.bool (!d8 cash.length (a,b,k,x)))))
theorem Al:∀ a b:Int × Int × Int × Int × (List Int),(fun (a,b,k,x,cash)=>([.agg [.int .i64 a,.int .i64 b,.int .i64 k,.int .i64 x],.ptr [.sl (cash.map aa)]]:List Data)) a=(fun (a,b,k,x,cash)=>([.agg [.int .i64 a,.int .i64 b,.int .i64 k,.int .i64 x],.ptr [.sl (cash.map aa)]]:List Data)) b→a=b:=by
  rintro⟨a1,b1,k1,x1,cash1⟩ ⟨a2,b2,k2,x2,cash2⟩ h;simp only[List.cons.injEq,Data.agg.injEq,Data.int.injEq,Data.ptr.injEq,Data.sl.injEq,and_true,true_and] at h;obtain⟨⟨h1,h2,h3,h4⟩,h5⟩:=h;rw[h1,h2,h3,h4,af aj _ _ h5]
@[go_sem] theorem N7 (a:Int) (b:Int) (k:Int) (x:Int) (cash:List Int) (hc:cash.length≤1000000):xz [.agg [.int .i64 a,.int .i64 b,.int .i64 k,.int .i64 x],.ptr [.sl (cash.map aa)]]=some (.same (.bool (!d8 cash.length (a,b,k,x)))):=(aV Al (a,b,k,x,cash)).trans (an hc _)
theorem Mv (T:Tab) (mF:T fp=mkE oG) (a:Int) (b:Int) (k:Int) (x:Int) (cash:List Int) (hc:cash.length≤1000000) :
  wp T mf_rescue_day_2.body (bE mf_rescue_day_2.res (.same (.bool (!d8 cash.length (a,b,k,x))))) ⟨ax [.dat (.agg [.int .i64 a,.int .i64 b,.int .i64 k,.int .i64 x]),.dat (.ptr [.sl (cash.map aa)])],emp⟩:=by
 refine ap ?_;simp only[mf_rescue_day_2]
 by_cases hr:d8 cash.length (a,b,k,x)=true
 ·have hr':=rightC_iff.1 hr
  dsimp only at hr';have c1:decide (a<0)=false:=decide_eq_false (by omega);have c2:decide (a≥(cash.length:Int))=false:=decide_eq_false (by omega);have c3:decide (b < -1)=false:=decide_eq_false (by omega);have c4:decide (b≥(cash.length:Int))=false:=decide_eq_false (by omega);have c5:decide (k<0)=false:=decide_eq_false (by omega);have c6:decide (k≥10)=false:=decide_eq_false (by omega);have c7:dw x=true:=rightM_iff.2 (by omega);refine qI ?_
  repeat' (intro h<;>simp only[h,go_sem,go_sem_proc,afs,mF,hr,c1,c2,c3,c4,c5,c6,c7,afd,afA]<;>try refine qS ?_ ?_)
 ·have hf:d8 cash.length (a,b,k,x)=false:=by simpa using hr
  rw[rightC_iff] at hr;dsimp only at hr;rcases c7:dw x
  ·refine qI ?_
   repeat' (intro h<;>simp only[h,go_sem,go_sem_proc,afs,mF,hf,c7,afd,afA,afB]<;>try refine qS ?_ ?_)
  ·have c7':=rightM_iff.1 c7
   refine qI ?_
   repeat' (intro h<;>simp only[h,go_sem,go_sem_proc,afs,mF,hf,c7,afd,afA,afB]<;>try refine qS ?_ ?_)
   all_goals (exfalso;simp only[decide_eq_false_iff_not] at *;omega)
inductive rn where
 | right (n:Int)
 | day (cash:List Int)
def mX:rn→Data
 | .right n => .fn fv [.ptr [.fn bn []],.ptr [.int .i64 n]]
 | .day cash => .fn fN [.ptr [.sl (cash.map aa)]]
theorem BH:∀ a b:rn,mX a=mX b→a=b:=by
 rintro (n | c) (n' | c') e
 all_goals first | (simp [mX,fv,fN] at e;done) | skip
 ·simp only[mX,Data.fn.injEq,List.cons.injEq,Data.ptr.injEq,Data.int.injEq,and_true,true_and] at e
  rw[e]
 ·simp only[mX,Data.fn.injEq,List.cons.injEq,Data.ptr.injEq,Data.sl.injEq,and_true,true_and] at e
  rw[af aj _ _ e]
def Df:rn→Int
 | .right n=>n
 | .day cash=>cash.length
def pdC (c:rn) (x:ClR):Bool:=!d8 (Df c) x
def okC (c:rn):Prop:=0≤Df c∧Df c≤1000000
noncomputable def rV:List Data→Option PRes:=FF (α:=(List ClR) × rn) (fun (l,c)=>([.sl (l.map clL),mX c]:List Data)) (fun (l,c)=>aF (l.length≤1000000∧okC c) (.same (.int .i64 (mE (pdC c) l))))
theorem vC:∀ a b:(List ClR) × rn,(fun (l,c)=>([.sl (l.map clL),mX c]:List Data)) a=(fun (l,c)=>([.sl (l.map clL),mX c]:List Data)) b→a=b:=by
  rintro⟨l1,c1⟩ ⟨l2,c2⟩ h;simp only[List.cons.injEq,Data.sl.injEq,and_true] at h;exact afw (af f6 _ _ h.1) (BH _ _ h.2)
@[go_sem] theorem K3 (l:List ClR) (c:rn) (hc:l.length≤1000000∧okC c):rV [.sl (l.map clL),mX c]=some (.same (.int .i64 (mE (pdC c) l))):=(aV vC (l,c)).trans (an hc _)
theorem Hv (T:Tab) (jf:T fv=mkE KB) (eB:T fN=mkE xz) (l:List ClR) (c:rn) (hc:l.length≤1000000∧okC c) :
  wp T mf_slices_IndexFunc_Claim.body (bE mf_slices_IndexFunc_Claim.res (.same (.int .i64 (mE (pdC c) l)))) ⟨ax [.dat (.sl (l.map clL)),.dat (mX c)],emp⟩:=by
 refine ap ?_;simp only[mf_slices_IndexFunc_Claim];obtain⟨hl,hok⟩:=hc
 cases c with
 | right n =>
  have hn:0≤n∧n≤1000000:=hok;simp only[go_sem,go_sem_proc,afs,jf,eB,mX,afd];refine ae [0,1,7] [] (fun (i:Nat) tm mem=>i≤l.length∧(∀ x∈l.take i,pdC (.right n) x=false)∧tm 8 = .dat (.int .i64 i)) (fun i=>l.length-i) 0 (by refine⟨afy _,by simp,rfl⟩) ?_;intro vs ms hvs hms;simp only[go_sem,go_sem_proc,afs,jf,eB,afd] at hvs hms;subst hvs hms;rintro i tm mem hk hm ⟨hi,hall,h8⟩;simp only[go_sem,go_sem_proc,afs,jf,eB,List.cons.injEq] at hk hm;obtain⟨h0,h1,h7⟩:=hk;rcases afz (i<l.length) with hlt | hge
  ·have hx:=afp hlt
   have hat:=fun h=>lw (p:=pdC (.right n)) hall hx h
   have hnx:=fun h=>eT (p:=pdC (.right n)) hall hx h
   generalize l[i]=x at *;obtain⟨a,b,k,z⟩:=x;have hlt':decide ((i:Int)<(l.length:Int))=true:=decide_eq_true (by omega);have hw:IntKind.i64.wrap ((i:Int)+1)=((i+1:Nat):Int):=by rw[ak _ (by omega) (by omega)];omega
   rcases hb:pdC (.right n) (a,b,k,z)
   ·have hr:d8 n (a,b,k,z)=true:=by simpa [pdC,Df] using hb
    simp only[go_sem,go_sem_proc,afs,jf,eB,h0,h1,h7,h8,hx,hlt',hw,hr,hn,clL,afd,afb,afA]
    repeat' (first|refine qS ?_ ?_|fail)<;>intro h<;>simp only[h,go_sem,go_sem_proc,afs,jf,eB,h0,h1,h7,h8,hx,hlt',hw,hr,hn,clL,afd,afb,afA]
    exact⟨i+1,by omega,by omega,hnx hb,rfl⟩
   ·have hr:d8 n (a,b,k,z)=false:=by simpa [pdC,Df] using hb
    rw[hat hb];simp only[go_sem,go_sem_proc,afs,jf,eB,h0,h1,h7,h8,hx,hlt',hw,hr,hn,clL,afd,afb,afB]
    repeat' (first|refine qS ?_ ?_|fail)<;>intro h<;>simp only[h,go_sem,go_sem_proc,afs,jf,eB,h0,h1,h7,h8,hx,hlt',hw,hr,hn,clL,afd,afb,afB]
  ·have hlt':decide ((i:Int)<(l.length:Int))=false:=decide_eq_false (by omega)
   obtain rfl:i=l.length:=by omega
   rw[afC] at hall;rw[jn hall];simp only[go_sem,go_sem_proc,afs,jf,eB,h0,h1,h7,h8,hlt',afd]
   repeat' (first|refine qS ?_ ?_|fail)<;>intro h<;>simp only[h,go_sem,go_sem_proc,afs,jf,eB,h0,h1,h7,h8,hlt',afd]
 | day cash =>
  have hn:cash.length≤1000000:=by have h:(cash.length:Int)≤1000000:=hok.2;omega
  simp only[go_sem,go_sem_proc,afs,jf,eB,mX,afd];refine ae [0,1,7] [] (fun (i:Nat) tm mem=>i≤l.length∧(∀ x∈l.take i,pdC (.day cash) x=false)∧tm 8 = .dat (.int .i64 i)) (fun i=>l.length-i) 0 (by refine⟨afy _,by simp,rfl⟩) ?_;intro vs ms hvs hms;simp only[go_sem,go_sem_proc,afs,jf,eB,afd] at hvs hms;subst hvs hms;rintro i tm mem hk hm ⟨hi,hall,h8⟩;simp only[go_sem,go_sem_proc,afs,jf,eB,List.cons.injEq] at hk hm;obtain⟨h0,h1,h7⟩:=hk;rcases afz (i<l.length) with hlt | hge
  ·have hx:=afp hlt
   have hat:=fun h=>lw (p:=pdC (.day cash)) hall hx h
   have hnx:=fun h=>eT (p:=pdC (.day cash)) hall hx h
   generalize l[i]=x at *;obtain⟨a,b,k,z⟩:=x;have hlt':decide ((i:Int)<(l.length:Int))=true:=decide_eq_true (by omega);have hw:IntKind.i64.wrap ((i:Int)+1)=((i+1:Nat):Int):=by rw[ak _ (by omega) (by omega)];omega
   rcases hb:pdC (.day cash) (a,b,k,z)
   ·have hr:d8 cash.length (a,b,k,z)=true:=by simpa [pdC,Df] using hb
    simp only[go_sem,go_sem_proc,afs,jf,eB,h0,h1,h7,h8,hx,hlt',hw,hr,hn,clL,afd,afb,afA]
    repeat' (first|refine qS ?_ ?_|fail)<;>intro h<;>simp only[h,go_sem,go_sem_proc,afs,jf,eB,h0,h1,h7,h8,hx,hlt',hw,hr,hn,clL,afd,afb,afA]
    exact⟨i+1,by omega,by omega,hnx hb,rfl⟩
   ·have hr:d8 cash.length (a,b,k,z)=false:=by simpa [pdC,Df] using hb
    rw[hat hb];simp only[go_sem,go_sem_proc,afs,jf,eB,h0,h1,h7,h8,hx,hlt',hw,hr,hn,clL,afd,afb,afB]
    repeat' (first|refine qS ?_ ?_|fail)<;>intro h<;>simp only[h,go_sem,go_sem_proc,afs,jf,eB,h0,h1,h7,h8,hx,hlt',hw,hr,hn,clL,afd,afb,afB]
  ·have hlt':decide ((i:Int)<(l.length:Int))=false:=decide_eq_false (by omega)
   obtain rfl:i=l.length:=by omega
   rw[afC] at hall;rw[jn hall];simp only[go_sem,go_sem_proc,afs,jf,eB,h0,h1,h7,h8,hlt',afd]
   repeat' (first|refine qS ?_ ?_|fail)<;>intro h<;>simp only[h,go_sem,go_sem_proc,afs,jf,eB,h0,h1,h7,h8,hlt',afd]
noncomputable def na:List Data→Option PRes:=FF (α:=(List ClR) × rn) (fun (l,c)=>([.sl (l.map clL),mX c]:List Data)) (fun (l,c)=>aF (l.length≤1000000∧okC c) (.same (.bool (l.any (pdC c)))))
theorem tt:∀ a b:(List ClR) × rn,(fun (l,c)=>([.sl (l.map clL),mX c]:List Data)) a=(fun (l,c)=>([.sl (l.map clL),mX c]:List Data)) b→a=b:=by
  rintro⟨l1,c1⟩ ⟨l2,c2⟩ h;simp only[List.cons.injEq,Data.sl.injEq,and_true] at h;exact afw (af f6 _ _ h.1) (BH _ _ h.2)
@[go_sem] theorem o9 (l:List ClR) (c:rn) (hc:l.length≤1000000∧okC c):na [.sl (l.map clL),mX c]=some (.same (.bool (l.any (pdC c)))):=(aV tt (l,c)).trans (an hc _)
theorem BZ (T:Tab) (Gb:T eG=mkE rV) (l:List ClR) (c:rn) (hc:l.length≤1000000∧okC c) :
  wp T mf_slices_ContainsFunc_Claim.body (bE mf_slices_ContainsFunc_Claim.res (.same (.bool (l.any (pdC c))))) ⟨ax [.dat (.sl (l.map clL)),.dat (mX c)],emp⟩:=by
 refine ap ?_;simp only[mf_slices_ContainsFunc_Claim];rw[←rf];refine qI ?_
 repeat' (intro h<;>simp only[h,go_sem,go_sem_proc,afs,Gb,hc]<;>try refine qS ?_ ?_)
theorem sV {α:Type} (l:List α) (p:α→Bool):l.any (fun x => !p x) = !l.all p:=by
 induction l with
 | nil=>rfl
 | cons a l ih=>rw[List.any_cons,List.all_cons,ih];cases p a<;>rfl
noncomputable def uM:List Data→Option PRes:=FF (α:=(List Int) × (List ClR)) (fun (cash,cs)=>([.sl (cash.map aa),.sl (cs.map clL)]:List Data)) (fun (cash,cs)=>aF (cash.length≤1000000∧cs.length≤1000000) (.same (.bool (cG cash cs))))
theorem xO:∀ a b:(List Int) × (List ClR),(fun (cash,cs)=>([.sl (cash.map aa),.sl (cs.map clL)]:List Data)) a=(fun (cash,cs)=>([.sl (cash.map aa),.sl (cs.map clL)]:List Data)) b→a=b:=by
  rintro⟨cash1,cs1⟩ ⟨cash2,cs2⟩ h;simp only[List.cons.injEq,Data.sl.injEq,and_true] at h;exact afw (af aj _ _ h.1) (af f6 _ _ h.2)
@[go_sem] theorem Nl (cash:List Int) (cs:List ClR) (hc:cash.length≤1000000∧cs.length≤1000000):uM [.sl (cash.map aa),.sl (cs.map clL)]=some (.same (.bool (cG cash cs))):=(aV xO (cash,cs)).trans (an hc _)
theorem JN (T:Tab) (tB:T cA=mkE pM) (pe:T cm=mkE na) (cash:List Int) (cs:List ClR) (hc:cash.length≤1000000∧cs.length≤1000000) :
  wp T mf_clear_right.body (bE mf_clear_right.res (.same (.bool (cG cash cs)))) ⟨ax [.dat (.sl (cash.map aa)),.dat (.sl (cs.map clL))],emp⟩:=by
 refine ap ?_;simp only[mf_clear_right];obtain⟨h1,h2⟩:=hc;rw[tJ];have hA:=su cash .right ⟨h1,trivial⟩;have hB:=o9 cs (.right cash.length) ⟨h2,by show (0:Int)≤(cash.length:Int);omega,by show (cash.length:Int)≤1000000;omega⟩
 have e1:cash.any (pdI .right) = !cash.all dw:=sV cash dw;have e2:cs.any (pdC (.right cash.length)) = !cs.all (d8 cash.length):=sV cs _;rw[e1] at hA;rw[e2] at hB;simp only[my] at hA;simp only[mX] at hB;have d1:decide (cash.length≤60)=decide ((cash.length:Int)≤60):=by rw[afv,decide_eq_true_iff,decide_eq_true_iff];omega
 have d2:decide (cs.length≤2000)=decide ((cs.length:Int)≤2000):=by rw[afv,decide_eq_true_iff,decide_eq_true_iff];omega
 rw[d1,d2];rcases q1:decide ((cash.length:Int)≤60)<;>rcases q2:decide ((cs.length:Int)≤2000)<;>rcases q3:cash.all dw<;>rcases q4:cs.all (d8 cash.length)
 all_goals rw[q3] at hA
 all_goals rw[q4] at hB
 all_goals
      refine qI ?_
      repeat' (intro h<;>simp only[h,go_sem,go_sem_proc,afs,tB,pe,hA,hB,q1,q2,afd,afA,afB,afE,afF,toD,o8,afG,scalar]<;>try refine qS ?_ ?_)
noncomputable def Da:List Data→Option PRes:=FF (α:=(List Int) × (List ClR)) (fun (cash,cs)=>([.sl (cash.map aa),.sl (cs.map clL)]:List Data)) (fun (cash,cs)=>aF (cash.length≤1000000∧cs.length≤1000000) (.same (.bool (cG cash cs))))
theorem DF:∀ a b:(List Int) × (List ClR),(fun (cash,cs)=>([.sl (cash.map aa),.sl (cs.map clL)]:List Data)) a=(fun (cash,cs)=>([.sl (cash.map aa),.sl (cs.map clL)]:List Data)) b→a=b:=by
  rintro⟨cash1,cs1⟩ ⟨cash2,cs2⟩ h;simp only[List.cons.injEq,Data.sl.injEq,and_true] at h;exact afw (af aj _ _ h.1) (af f6 _ _ h.2)
@[go_sem] theorem Fw (cash:List Int) (cs:List ClR) (hc:cash.length≤1000000∧cs.length≤1000000):Da [.sl (cash.map aa),.sl (cs.map clL)]=some (.same (.bool (cG cash cs))):=(aV DF (cash,cs)).trans (an hc _)
theorem Om (T:Tab) (tB:T cA=mkE pM) (pe:T cm=mkE na) (cash:List Int) (cs:List ClR) (hc:cash.length≤1000000∧cs.length≤1000000) :
  wp T mf_rescue_day.body (bE mf_rescue_day.res (.same (.bool (cG cash cs)))) ⟨ax [.dat (.sl (cash.map aa)),.dat (.sl (cs.map clL))],emp⟩:=by
 refine ap ?_;simp only[mf_rescue_day];obtain⟨h1,h2⟩:=hc;rw[tJ];have hA:=su cash .day ⟨h1,trivial⟩;have hB:=o9 cs (.day cash) ⟨h2,by show (0:Int)≤(cash.length:Int);omega,by show (cash.length:Int)≤1000000;omega⟩
 have e1:cash.any (pdI .day) = !cash.all dw:=sV cash dw;have e2:cs.any (pdC (.day cash)) = !cs.all (d8 cash.length):=sV cs _;rw[e1] at hA;rw[e2] at hB;simp only[my] at hA;simp only[mX] at hB;have d1:decide (cash.length≤60) = !decide ((cash.length:Int)>60):=by rw[afv,decide_eq_true_iff,afH,decide_eq_false_iff_not];omega
 have d2:decide (cs.length≤2000) = !decide ((cs.length:Int)>2000):=by rw[afv,decide_eq_true_iff,afH,decide_eq_false_iff_not];omega
 rw[d1,d2];rcases q1:decide ((cash.length:Int)>60)<;>rcases q2:decide ((cs.length:Int)>2000)<;>rcases q3:cash.all dw<;>rcases q4:cs.all (d8 cash.length)
 all_goals rw[q3] at hA
 all_goals rw[q4] at hB
 all_goals
      refine qI ?_
      repeat' (intro h<;>simp only[h,go_sem,go_sem_proc,afs,tB,pe,hA,hB,q1,q2,afd,afA,afB,afE,afF,toD,o8,afG,scalar]<;>try refine qS ?_ ?_)
set_option maxHeartbeats 4000000
structure DebA.Fine (a:DebA):Prop where
 sm:SmallD a.cash a.cs
 h10:∀ x∈a.fl,0≤x∧x≤10
theorem DebA.f_eq {a:DebA} {m:Mem} (h:a.At m) (hf:a.Fine) {i:Nat} (hi:i<a.cash.length):a.fl.getD i 10=(fOf a.fl i:Int)∧fOf a.fl i≤10:=by
 have hl:=h.fl
 have:a.fl.getD i 10∈a.fl:=by
  rw[afo,afp (by omega)];exact afD _
 have:=hf.h10 _ this;unfold fOf;omega
structure ShQ (x:DebA × Nat) (mem:Mem):Prop where
 at_:x.1.At mem
 no:NoK 255 mem
 fine:x.1.Fine
 lt:x.2<x.1.cash.length
 f10:fOf x.1.fl x.2<10
 S:0<(ab x.1.cash x.1.cs).S x.2 (fOf x.1.fl x.2)
noncomputable def shD (x:DebA × Nat):Data:=.tup [.sl ((bW x.1.cash.length fun i=>(ab x.1.cash x.1.cs).W (fOf x.1.fl) x.2 i).map ad),.bool true]
noncomputable def oJ:List MV→Mem→Option Data:=NN (fun (x:DebA × Nat) args mem=>args=[.ptr (228500+x.2) (x.1.gs.getD x.2 0) 0,.dat (.int .i64 x.1.cash.length)]∧ShQ x mem) shD
theorem y6 (a:DebA) (k:Nat) (mem:Mem) (h:ShQ (a,k) mem):oJ [.ptr (228500+k) (a.gs.getD k 0) 0,.dat (.int .i64 a.cash.length)] mem=some (shD (a,k)):=by
 refine Km (a:=(a,k)) ?_ ⟨rfl,h⟩;rintro⟨a,i⟩ ⟨b,j⟩ args mem ⟨e1,e2⟩ ⟨e3,e4⟩;obtain rfl:=DebA.uniq e2.at_ e4.at_;rw[e1] at e3;simp only[List.cons.injEq,MV.ptr.injEq,MV.dat.injEq,Data.int.injEq,true_and,and_true] at e3;have h1:228500+i=228500+j:=e3.1;have:i=j:=by omega
 rw[this]
theorem JA (N:Nat) (F:aS):(afI N (ad F)).flatten.map MV.dat=az ad (afI N F):=by
 unfold az;rw[afJ,List.map_flatten,afJ]
theorem FG (T:Tab) (bo:T bq=mkE fJ) (GP:T fV=mkE rA) (gV:T eQ=mkE tN) (lQ:T fx=mkE pg) (a:DebA) (k:Nat) (mem:Mem) (h:ShQ (a,k) mem) :
  wp T mf_clear_debtor_shares.body (pW mf_clear_debtor_shares.res fun m mem'=>toD 6 emp m=some (shD (a,k))∧FrK 255 mem mem') ⟨ax [.ptr (228500+k) (a.gs.getD k 0) 0,.dat (.int .i64 a.cash.length)],mem⟩:=by
 obtain⟨hat,hno,hfi,hk,hf10,hS⟩:=h;dsimp only at *;obtain⟨hs,h10⟩:=hfi;have hn:=hs.n5;have hb0:=hat.blk k hk;have hfe:=(DebA.f_eq hat ⟨hs,h10⟩ hk).1;have hok:=a.deb_ok k;have hlen:=jI hok;have qf:=AE hok;rw[show (a.deb k).f=(fOf a.fl k:Int) from hfe] at qf;have qc:=JL (x:=a.deb k) (k:=fOf a.fl k) (l:=aU a.cs k (fOf a.fl k)) (cN _ hf10);have qu:=uU hok (k:=fOf a.fl k) (z:=aM a.cs k (fOf a.fl k:Nat)) (cN _ (by omega));have qu1:=uU hok (k:=fOf a.fl k+1) (z:=aM a.cs k (fOf a.fl k+1:Nat)) (cN _ (by omega));have hbig:∀ j,228500+k≠255000+j:=fun j=>by omega
 generalize dJ (a.deb k)=DC at *;have hcw:=fy 0 qa;have hz:bW a.cash.length (shP (ab a.cash a.cs) [])=afI a.cash.length (ai ((0:Int):Rat)):=(pN afK fun j hj=>by rw[List.getElem?_replicate,if_pos hj,K7];rfl).symm;generalize hL:aU a.cs k (fOf a.fl k)=L at *;refine ap ?_;simp only[mf_clear_debtor_shares];have hKd:(228500+k) / 1000≠255:=by omega
 have h17:mem 255017=none:=hno 255017 (by decide);have hmem:=fun c (hc:c∈L)=>cell_mem.1 (hL ▸ hc:c∈aU a.cs k (fOf a.fl k))
 have hcw':=fun c (hc:c∈L)=>(yT hs hS (hL ▸ hc:c∈aU a.cs k (fOf a.fl k))).2.2
 have hszs:=fun l i (hl:∃ l',L=l++l')=>OU hs hS (l:=l) (by rw[hL];exact hl) i
 have hWe:=fun i=>NX hs.right (fOf a.fl) k i
 rw[hL] at hWe
 have hL12:L.length≤12:=by
  have h1:=afL (fun c:ClR=>c.1==(k:Int)&&c.2.2.1==(fOf a.fl k:Int)) a.cs;have h2:=hs.c12;rw[←hL];unfold aU;omega
 have hSI:(0:Int)<SI a.cs k (fOf a.fl k):=by
  have h1:=yn hs.right k (fOf a.fl k);rw[←h1] at hS;have:(0:Int)<aM a.cs k (fOf a.fl k+1:Nat)-aM a.cs k (fOf a.fl k):=by exact_mod_cast hS
  exact this
 have hSI2:SI a.cs k (fOf a.fl k)=aM a.cs k (fOf a.fl k+1:Nat)-aM a.cs k (fOf a.fl k:Nat):=rfl;have hu1:=hs.upto k (fOf a.fl k+1:Nat);have hu0:=hs.upto k (fOf a.fl k:Nat);have hright:=(rightD_iff.1 hs.right).2.2.2;generalize hK:228500+k=KK at *;have hKK:∀ j,KK≠255000+j:=fun j=>by omega
 have n9:(KK=255009)=False:=eq_false (hKK 9);have n10:(KK=255010)=False:=eq_false (hKK 10);have n12:(KK=255012)=False:=eq_false (hKK 12);have n17:(KK=255017)=False:=eq_false (hKK 17);have b9:(KK==255009)=false:=beq_eq_false_iff_ne.2 (hKK 9);have b10:(KK==255010)=false:=beq_eq_false_iff_ne.2 (hKK 10);have b12:(KK==255012)=false:=beq_eq_false_iff_ne.2 (hKK 12);have b17:(KK==255017)=false:=beq_eq_false_iff_ne.2 (hKK 17);have d9:(255009==KK)=false:=beq_eq_false_iff_ne.2 (hKK 9).symm;have d10:(255010==KK)=false:=beq_eq_false_iff_ne.2 (hKK 10).symm;have d12:(255012==KK)=false:=beq_eq_false_iff_ne.2 (hKK 12).symm;have d17:(255017==KK)=false:=beq_eq_false_iff_ne.2 (hKK 17).symm;have l1:fOf a.fl k+1<11:=by omega
 have l2:fOf a.fl k<11:=by omega
 have l3:(1+fOf a.fl k+1≤24)=True:=eq_true (by omega);have l4:(11+fOf a.fl k+1≤24)=True:=eq_true (by omega);have l5:(11+(fOf a.fl k+1)+1≤24)=True:=eq_true (by omega);have wf:IntKind.i64.wrap ((fOf a.fl k:Int)+1)=((fOf a.fl k+1:Nat):Int):=by rw[ak _ (by omega) (by omega)];omega
 have hb1:=hb0;generalize hU1:aM a.cs k (fOf a.fl k+1:Nat)=U1 at *;generalize hU0:aM a.cs k (fOf a.fl k:Nat)=U0 at *;generalize hF0:fOf a.fl k=F0 at *;generalize hZ:ai ((0:Int):Rat)=Z at *;obtain⟨⟨z1,z2⟩,⟨z3,z4⟩⟩:=Z;have hrp:=yM z1 z2 z3 z4 a.cash.length (by omega);have hfold:=JA a.cash.length ((z1,z2),(z3,z4));simp only[ad] at hcw hrp hfold;have hcl:=Ev L;simp only[go_sem,go_sem_proc,afs] at hcl;simp only[go_sem,go_sem_proc,afs,bo,hcw,GP,hrp,hfold,hb0,hlen,hf10,qf,qc,n17,l3,h17,iC,afM,hcl,afK]
 refine ae [0,6,26,27] [] (fun (j:Nat) tm m=>j≤L.length∧tm 28 = .dat (.int .i64 j)∧tm 7 = .dat (.bool true)∧m 255017=some (0,az ad (bW a.cash.length (shP (ab a.cash a.cs) (L.take j))))∧FrK 255 mem m) (fun j=>L.length-j) 0 (by
  refine⟨by omega,rfl,rfl,?_,(FrK.refl _ _).upd (by decide)⟩
  rw[afN,hz];simp [aA,h17,cO]) ?_
 intro vs ms hvs hms;simp only[go_sem,go_sem_proc,afs] at hvs hms;subst hvs hms;clear hcw hrp hfold hb0;rintro j tm m hk-⟨hj,e28,e7,m17,hfr⟩;simp only[go_sem,go_sem_proc,afs,List.cons.injEq] at hk;obtain⟨e0,e6,e26,e27⟩:=hk;have hb:=(hfr KK hKd).trans hb1;rcases afz (j<L.length) with hlt | hge
 ·have d1:decide ((j:Int)<(L.length:Int))=true:=decide_eq_true (by omega)
  have w3:IntKind.i64.wrap ((j:Int)+1)=((j+1:Nat):Int):=by rw[ak _ (by omega) (by omega)];omega
  obtain⟨⟨c1,c2,c3,c4⟩,hx⟩:∃ c,L[j]?=some c:=⟨_,afp hlt⟩;have hxm:=afx hx;have hrc:=hright _ (hmem _ hxm).1;dsimp only at hrc;have hia:=En hx;simp only[go_sem,go_sem_proc,afs] at hia;have htk:L.take (j+1)=L.take j++[(c1,c2,c3,c4)]:=by rw[afO,hx];rfl
  rcases q:decide (c2<0)
  ·have hc2:0≤c2:=by have:=of_decide_eq_false q;omega
   obtain⟨t,rfl⟩:∃ t:Nat,c2=(t:Int):=⟨c2.toNat,by omega⟩
   have hw:=hcw' _ hxm;dsimp only at hw;have hnew:=Kn (p:=c4) (q:=SI a.cs k F0) (fX (by omega) (by omega)) (fX (by omega) (by omega)) (by omega);rw[←hw] at hnew;have hof:=AC c4 (SI a.cs k F0) ⟨fX (by omega) (by omega),fX (by omega) (by omega)⟩;rw[hnew] at hof;have z1:=hszs (L.take j) t ⟨L.drop j,(afP j L).symm⟩;have z2:=SS hs (hmem _ hxm).1;have hadd:=DS (eh z1 (by omega)) (eh z2 (by omega)) (jR z1 z2 (by omega))
   have hvf:bW a.cash.length (shP (ab a.cash a.cs) (L.take (j+1)))=(bW a.cash.length (shP (ab a.cash a.cs) (L.take j))).set t (ai (shP (ab a.cash a.cs) (L.take j) t+(ab a.cash a.cs).w (bw (c1,(t:Int),c3,c4)))):=by
    rw[KL];refine jw fun i _=>?_
    rw[htk,EA]
    by_cases hi:i=t
    ·rw[if_pos hi,if_pos (by dsimp only;omega),hi]
    ·rw[if_neg hi,if_neg (by dsimp only;omega),afQ]
   have wSI:IntKind.i64.wrap (U1-U0)=SI a.cs k F0:=by rw[ak _ (by omega) (by omega),hSI2]
   have hRl:(bW a.cash.length (shP (ab a.cash a.cs) (L.take j))).length=a.cash.length:=dx _ _;have hRg:=ej (N:=a.cash.length) (shP (ab a.cash a.cs) (L.take j)) (k:=t) (by omega);clear z1 z2 hszs hcw' hnew hw;generalize ai (shP (ab a.cash a.cs) (L.take j) t+(ab a.cash a.cs).w (bw (c1,(t:Int),c3,c4)))=F1 at *;generalize ai (shP (ab a.cash a.cs) (L.take j) t)=F2 at *;generalize ai ((ab a.cash a.cs).w (bw (c1,(t:Int),c3,c4)))=F3 at *;generalize bW a.cash.length (shP (ab a.cash a.cs) (L.take j))=R at *;obtain⟨⟨a1,a2⟩,⟨a3,a4⟩⟩:=F1;obtain⟨⟨f1,f2⟩,⟨f3,f4⟩⟩:=F2;obtain⟨⟨g1,g2⟩,⟨g3,g4⟩⟩:=F3;have t1:=GN hRg;have t2:=Gk (l:=R) (k:=t) (by omega);have t3:=OH (l:=R) (k:=t) (by omega) a1 a2 a3 a4;have hlc:t<a.cash.length:=by omega
   simp only[ad,bD] at hof hadd;simp only[go_sem,go_sem_proc,afs,gV,lQ,e0,e6,e7,e26,e27,e28,hb,m17,hia,hlen,qf,qu,qu1,wf,wSI,d1,w3,q,hof,hadd,t1,t2,t3,hlc,hf10,l1,l2,l3,l4,l5,n9,n10,n12,n17,b9,b10,b12,b17,d9,d10,d12,d17,clL,iC,afM,beq_self_eq_true]
   repeat' (first|refine qS ?_ ?_|fail)<;>intro h<;>simp only[h,go_sem,go_sem_proc,afs,gV,lQ,e0,e6,e7,e26,e27,e28,hb,m17,hia,hlen,qf,qu,qu1,wf,wSI,d1,w3,q,hof,hadd,t1,t2,t3,hlc,hf10,l1,l2,l3,l4,l5,n9,n10,n12,n17,b9,b10,b12,b17,d9,d10,d12,d17,clL,iC,afM,beq_self_eq_true]
   refine⟨j+1,by omega,by omega,rfl,by rw[hvf],by repeat first | exact hfr | refine FrK.upd ?_ (by decide)⟩
  ·have hc2:c2<0:=of_decide_eq_true q
   have hvf:bW a.cash.length (shP (ab a.cash a.cs) (L.take (j+1)))=bW a.cash.length (shP (ab a.cash a.cs) (L.take j)):=jw fun i _=>by
    rw[htk,EA,if_neg (by dsimp only;omega),afQ]
   simp only[go_sem,go_sem_proc,afs,e0,e6,e7,e26,e27,e28,hb,m17,hia,d1,w3,q,clL,afM]
   repeat' (first|refine qS ?_ ?_|fail)<;>intro h<;>simp only[h,go_sem,go_sem_proc,afs,e0,e6,e7,e26,e27,e28,hb,m17,hia,d1,w3,q,clL,afM]
   refine⟨j+1,by omega,by omega,rfl,by rw[hvf],by repeat first | exact hfr | refine FrK.upd ?_ (by decide)⟩
 ·have d1:decide ((j:Int)<(L.length:Int))=false:=decide_eq_false (by omega)
  rw[afn (by omega)] at m17;have hvf:bW a.cash.length (shP (ab a.cash a.cs) L)=bW a.cash.length fun i=>(ab a.cash a.cs).W (fOf a.fl) k i:=jw fun i _=>hWe i
  rw[hvf] at m17;have hvl:(bW a.cash.length fun i=>(ab a.cash a.cs).W (fOf a.fl) k i).length=a.cash.length:=dx _ _;have hfz:=fun (K:St→Prop) (st:St)=>bX (K:=K) (st:=st) cD 6 255017 0 (bW a.cash.length fun i=>(ab a.cash a.cs).W (fOf a.fl) k i)
  rw[hvl] at hfz;simp only[go_sem,go_sem_proc,afs,e0,e6,e7,e26,e27,e28,hb,m17,d1,hfz]
  repeat' (first|refine qS ?_ ?_|fail)<;>intro h<;>simp only[h,go_sem,go_sem_proc,afs,e0,e6,e7,e26,e27,e28,hb,m17,d1,hfz]
  exact⟨_,rfl,rfl,by repeat first | exact hfr | refine FrK.upd ?_ (by decide) | refine FrK.kill ?_ (by decide)⟩
theorem wT (N:Nat) (x:Nat→Rat):bW (N+1) x=bW N x++[ai (x N)]:=by
 unfold bW;rw[afR,afS,afS];rfl
theorem nq {l:List MV} {k:Nat} {y:MV} (h:l[k]?=some y):afe 1 (aff k l)=[y]:=by
 have:=zV (f:=id) h
 rwa [List.map_id] at this
def shL (n:Nat) (W:Nat→Nat→Rat) (k:Nat):List Data:=[.sl ((bW n (W k)).map ad)]
theorem QS (T:Tab) (bo:T bq=mkE fJ) (cy:T dr=mkE lF) {K:bK→St→Prop} {kk:List Todo} (mem0:Mem) (n:Nat) (hn:n≤60) (p:List Nat) (hp:p.length≤60) (W:Nat→Nat→Rat) (r i:Nat) (hi:i<n) (hW:∀ k,k<p.length→szR 30 (W (p.getD k 0) i)) (v0 v1 v10 v20 v21 v22:MV) (G gA:Nat) (c1 c2 c3 c4:MV) (x82:Option (Nat × List MV)) (tm:Nat→MV) (m:Mem)
  (e0:tm 0=v0) (e1:tm 1=v1) (e2:tm 2 = .dat (.sl (p.map fF))) (e3:tm 3 = .dat (.sl (p.map (shL n W)))) (e10:tm 10=v10) (e11:tm 11 = .dat (.int .i64 r)) (e12:tm 12 = .dat (.int .i64 i)) (e13:tm 13 = .ptr 256013 G 0) (e20:tm 20=v20) (e21:tm 21=v21) (e22:tm 22=v22) (e50:tm 50 = .dat (.int .i64 p.length)) (e51:tm 51 = .dat (.int .i64 0)) (m13:m 256013=some (G,[.ref 256076 gA 4 0 0,c1,c2,c3,c4])) (mA:m 256076=some (gA,[])) (m82:m 256082=x82) (hfr:FrK 256 mem0 m)
  (hK:∀ tm' m' gA',tm' 0=v0→tm' 1=v1→tm' 2 = .dat (.sl (p.map fF))→tm' 3 = .dat (.sl (p.map (shL n W)))→tm' 10=v10→tm' 13 = .ptr 256013 G 0→tm' 20=v20→tm' 21=v21→tm' 22=v22→m' 256013=some (G,[.ref 256076 gA' 4 0 p.length,c1,c2,c3,c4])→m' 256076=some (gA',az ad (bW p.length fun k=>(if r=k then 1 else 0)-W (p.getD k 0) i))→m' 256082=x82→FrK 256 mem0 m'→kont T K kk (.exit 2) ⟨tm',m'⟩) :
  wp T (mf_clear_solve.body.sub [1,1,0,1,0,0,0,1,1,0,0,1,1,0,1,0]) (kont T K kk) ⟨tm,m⟩:=by
 simp only[mf_clear_solve,MCode.sub];refine ae [0,1,2,3,10,11,12,13,20,21,22,50] [256082] (fun ((k,g):Nat × Nat) tm m=>k≤p.length∧tm 51 = .dat (.int .i64 k)∧m 256013=some (G,[.ref 256076 g 4 0 k,c1,c2,c3,c4])∧m 256076=some (g,az ad (bW k fun k=>(if r=k then 1 else 0)-W (p.getD k 0) i))∧FrK 256 mem0 m) (fun (k,_)=>p.length-k) (0,gA) (by refine⟨by omega,e51,m13,mA,hfr⟩) ?_
 intro vs ms hvs hms;simp only[go_sem,go_sem_proc,afs,e0,e1,e2,e3,e10,e11,e12,e13,e20,e21,e22,e50,m82] at hvs hms;subst hvs hms;clear e0 e1 e2 e3 e10 e11 e12 e13 e20 e21 e22 e50 e51 m13 mA m82 hfr tm m;rintro⟨k,g⟩ tm m hk hm ⟨hkn,e51,m13,mA,hfr⟩;simp only[go_sem,go_sem_proc,afs,List.cons.injEq] at hk hm;obtain⟨e0,e1,e2,e3,e10,e11,e12,e13,e20,e21,e22,e50⟩:=hk;rcases afz (k<p.length) with hlt | hge
 ·have d1:decide ((k:Int)<(p.length:Int))=true:=decide_eq_true (by omega)
  have w3:IntKind.i64.wrap ((k:Int)+1)=((k+1:Nat):Int):=by rw[ak _ (by omega) (by omega)];omega
  obtain⟨pk,hx⟩:∃ c,p[k]?=some c:=⟨_,afp hlt⟩;have hpk:p.getD k 0=pk:=by rw[afo,hx];rfl
  have hWk:=hW k hlt;have hvs:=wT k fun k=>(if r=k then 1 else 0)-W (p.getD k 0) i
  have hrl:(bW k fun k=>(if r=k then 1 else 0)-W (p.getD k 0) i).length=k:=dx _ _;have hap:=fun (F:aS) cs hcs=>dF cD mH 256076 g 64 (bW k fun k=>(if r=k then 1 else 0)-W (p.getD k 0) i) F (cs:=cs) hcs (by omega) (by omega)
  simp only[hrl] at hap;rw[hpk] at hWk hvs;have hg:=ej (W pk) hi;generalize bW k (fun k=>(if r=k then 1 else 0)-W (p.getD k 0) i)=V at *;generalize hV2:bW (k+1) (fun k=>(if r=k then 1 else 0)-W (p.getD k 0) i)=V2 at *;clear hK hW;have key:∀ o:Int,(o=0∨o=1)→(if r=k then (1:Rat) else 0)=(o:Rat)→True:=fun _ _ _=>trivial
  rcases q:((k:Int)==(r:Int))
  ·have hrk:¬ r=k:=by have:=ne_of_beq_false q;omega
   have hw:=fy 0 qa;have hs:=sN (eA qa) (eh hWk (by omega)) (jR (nS (z:=0) (b:=1) (by decide)) (ne hWk) (by omega));rw[if_neg hrk,show (0:Rat)=((0:Int):Rat) from rfl] at hvs;generalize ai ((0:Int):Rat)=Z at *;generalize ai (W pk i)=E at *;generalize ai (((0:Int):Rat)-W pk i)=X at *;obtain⟨⟨z1,z2⟩,⟨z3,z4⟩⟩:=Z;obtain⟨⟨y1,y2⟩,⟨y3,y4⟩⟩:=E;obtain⟨⟨x1,x2⟩,⟨x3,x4⟩⟩:=X;have hap':=hap ((x1,x2),(x3,x4)) _ rfl;rw[←hvs] at hap';simp only[ad,afT,afU] at hap' hw hs;refine qI ?_
   repeat' (intro h<;>simp only[h,go_sem,go_sem_proc,afs,bo,cy,e0,e1,e2,e3,e10,e11,e12,e13,e20,e21,e22,e50,e51,m13,mA,hm,d1,w3,q,hx,shL,hg,hw,hs,hap',ad,afd,afb,bne,beq_self_eq_true,afA,afV]<;>try refine qS ?_ ?_)
   exact⟨(k+1,g+1),by dsimp only;omega,by dsimp only;omega,rfl,rfl,by rw[←hV2],by repeat first | exact hfr | refine FrK.upd ?_ (by decide)⟩
  ·have hrk:r=k:=by have:=eq_of_beq q;omega
   have hw:=fy 1 JQ;have hs:=sN (eA JQ) (eh hWk (by omega)) (jR (nS (z:=1) (b:=1) (by decide)) (ne hWk) (by omega));rw[if_pos hrk,show (1:Rat)=((1:Int):Rat) from rfl] at hvs;generalize ai ((1:Int):Rat)=Z at *;generalize ai (W pk i)=E at *;generalize ai (((1:Int):Rat)-W pk i)=X at *;obtain⟨⟨z1,z2⟩,⟨z3,z4⟩⟩:=Z;obtain⟨⟨y1,y2⟩,⟨y3,y4⟩⟩:=E;obtain⟨⟨x1,x2⟩,⟨x3,x4⟩⟩:=X;have hap':=hap ((x1,x2),(x3,x4)) _ rfl;rw[←hvs] at hap';simp only[ad,afT,afU] at hap' hw hs;refine qI ?_
   repeat' (intro h<;>simp only[h,go_sem,go_sem_proc,afs,bo,cy,e0,e1,e2,e3,e10,e11,e12,e13,e20,e21,e22,e50,e51,m13,mA,hm,d1,w3,q,hx,shL,hg,hw,hs,hap',ad,afd,afb,bne,beq_self_eq_true,afA,afV]<;>try refine qS ?_ ?_)
   exact⟨(k+1,g+1),by dsimp only;omega,by dsimp only;omega,rfl,rfl,by rw[←hV2],by repeat first | exact hfr | refine FrK.upd ?_ (by decide)⟩
 ·have d1:decide ((k:Int)<(p.length:Int))=false:=decide_eq_false (by omega)
  obtain rfl:k=p.length:=by omega
  refine qI ?_
  repeat' (intro h<;>simp only[h,go_sem,go_sem_proc,afs,e0,e1,e2,e3,e10,e11,e12,e13,e20,e21,e22,e50,e51,d1]<;>try refine qS ?_ ?_)
  refine hK _ _ g ?_ ?_ ?_ ?_ ?_ ?_ ?_ ?_ ?_ m13 mA hm hfr<;>simp only[aP,afW,if_false,e0,e1,e2,e3,e10,e13,e20,e21,e22]
structure SvQ (a:DebA) (mem:Mem):Prop where
 at_:a.At mem
 no:NoK 256 mem
 fine:a.Fine
 pay:PayG (ab a.cash a.cs) (fOf a.fl) (pOf a.P)
noncomputable def DebA.p (a:DebA):List Nat:=payers (pOf a.P) a.cash.length
noncomputable def svA (a:DebA):List MV:=[.ref 228023 a.g 1 0 a.cash.length,.dat (.sl ((fL a.cash.length fun i=>cY a.cash a.cs (fOf a.fl) i).map aa)),.dat (.sl (a.p.map fF)),.dat (.sl (a.p.map (shL a.cash.length fun k i=>(ab a.cash a.cs).W (fOf a.fl) k i)))]
noncomputable def DebA.xs (a:DebA):List aS:=bW a.p.length fun k=>(ab a.cash a.cs).lst (fOf a.fl) (pOf a.P) (a.p.getD k 0)-(ab a.cash a.cs).U (a.p.getD k 0) (fOf a.fl (a.p.getD k 0))
noncomputable def svD (a:DebA):Data:=.tup [.sl (a.xs.map ad),.bool true]
noncomputable def qx:List MV→Mem→Option Data:=NN (fun (a:DebA) args mem=>args=svA a∧SvQ a mem) svD
theorem zu (a:DebA) (mem:Mem) (h:SvQ a mem):qx (svA a) mem=some (svD a):=by
 refine Km (a:=a) ?_ ⟨rfl,h⟩;rintro a b args mem ⟨e1,e2⟩ ⟨e3,e4⟩;rw[DebA.uniq e2.at_ e4.at_]
theorem HC (T:Tab) (bo:T bq=mkE fJ) (cy:T dr=mkE lF) (Cp:T jZ=mkE pd) (a:DebA) (mem:Mem) (ha:SvQ a mem) :
  wp T mf_clear_solve.body (pW mf_clear_solve.res fun m mem'=>toD 6 emp m=some (svD a)∧FrK 256 mem mem') ⟨ax (svA a),mem⟩:=by
 obtain⟨hat,hno,hfi,hpay⟩:=ha;have hfe:=fun i=>DebA.f_eq hat hfi (i:=i)
 obtain⟨hs,h10⟩:=hfi;have hn:=hs.n5;have hpm:=fun k=>gj (P:=pOf a.P) (n:=a.cash.length) (k:=k)
 have hsol:=Bu hs hpay;have hsc:=ni hs hpay.S_pos (payers (pOf a.P) a.cash.length) fun k hk=>(gj hk).2
 have hWz:=fun k (hk:pOf a.P k) i=>(Pf hs hpay hk i).1
 have hp5:(payers (pOf a.P) a.cash.length).length≤5:=by
  unfold payers;exact afX (afL _ _) (by rw[afY];exact hn)
 have h82:mem 256082=none:=hno 256082 (by decide);unfold svA svD DebA.xs DebA.p;generalize hp:payers (pOf a.P) a.cash.length=p at *;generalize hA:(ab a.cash a.cs).smallM (fOf a.fl) p=A at *;generalize hSD:(fL a.cash.length fun i=>cY a.cash a.cs (fOf a.fl) i).map aa=SD at *;have hSD':∀ i,i<a.cash.length→SD[i]?=some [.int .i64 (cY a.cash a.cs (fOf a.fl) i)]:=fun i hi=>by rw[←hSD,afb,cN _ hi];rfl
 refine ap ?_;simp only[mf_clear_solve];simp only[go_sem,go_sem_proc,afs,h82,afd];refine ae [0,1,2,3,20,21] [] (fun ((r,g):Nat × Nat) tm m=>r≤p.length∧tm 22 = .dat (.int .i64 r)∧tm 10 = .ref 256082 g 5 0 r∧m 256082=some (g,az fq ((dV p.length A).take r))∧FrK 256 mem m) (fun (r,_)=>p.length-r) (0,0) (by refine⟨by omega,rfl,rfl,rfl,(FrK.refl _ _).upd (by decide)⟩) ?_
 intro vs ms hvs hms;simp only[go_sem,go_sem_proc,afs,afd] at hvs hms;subst hvs hms;rintro⟨r,g⟩ tm m hk hm ⟨hrn,e22,e10,m82,hfr⟩;simp only[go_sem,go_sem_proc,afs,List.cons.injEq] at hk;obtain⟨e0,e1,e2,e3,e20,e21⟩:=hk;rcases afz (r<p.length) with hlt | hge
 ·have d1:decide ((r:Int)<(p.length:Int))=true:=decide_eq_true (by omega)
  have w3:IntKind.i64.wrap ((r:Int)+1)=((r+1:Nat):Int):=by rw[ak _ (by omega) (by omega)];omega
  obtain⟨i,hx⟩:∃ c,p[r]?=some c:=⟨_,afp hlt⟩;have hpr:p.getD r 0=i:=by rw[afo,hx];rfl
  obtain⟨hi,hPi⟩:=hpm r hlt;rw[hpr] at hi hPi;obtain⟨hfi,hf10⟩:=hfe i hi;have hrow:=(hfr.at 228023 (by omega)).trans hat.row;have hblk:=(hfr.at (228500+i) (by omega)).trans (hat.blk i hi);have hri:=nq (cN (fun i=>MV.ptr (228500+i) (a.gs.getD i 0) 0) hi);have hrl:(fL a.cash.length fun i=>MV.ptr (228500+i) (a.gs.getD i 0) 0).length=a.cash.length:=bO _ _;have hok:=a.deb_ok i;have hlen:=jI hok;have qf:=AE hok;rw[show (a.deb i).f=(fOf a.fl i:Int) from hfi] at qf;have qu:=uU hok (k:=fOf a.fl i) (z:=aM a.cs i (fOf a.fl i:Nat)) (cN _ (by omega));have hst:=hSD' i hi;have b1:=hs.steady (fOf a.fl) i;have b2:=hs.upto i (fOf a.fl i);have wS:IntKind.i64.wrap (cY a.cash a.cs (fOf a.fl) i-aM a.cs i (fOf a.fl i:Nat))=cY a.cash a.cs (fOf a.fl) i-aM a.cs i (fOf a.fl i:Nat):=by rw[ak _ (by omega) (by omega)]
  have hw:=fy (cY a.cash a.cs (fOf a.fl) i-aM a.cs i (fOf a.fl i:Nat)) (fX (by omega) (by omega))
  have hAr:A r p.length=((cY a.cash a.cs (fOf a.fl) i-aM a.cs i (fOf a.fl i:Nat):Int):Rat):=by
   rw[←hA];unfold Day.smallM;rw[if_neg (by omega),hpr,←qO hs.right,←dl hs.right,Rat.intCast_sub]
  have hAk:∀ k,k<p.length→A r k=(if r=k then 1 else 0)-(ab a.cash a.cs).W (fOf a.fl) (p.getD k 0) i:=fun k hk=>by
   rw[←hA];unfold Day.smallM;rw[if_pos hk,hpr]
  have l1:i+1≤a.cash.length:=by omega
  have l2:fOf a.fl i<11:=by omega
  have l3:(11+fOf a.fl i+1≤24)=True:=eq_true (by omega);rw[←hAr] at hw;generalize hKd:228500+i=KK at *;generalize dJ (a.deb i)=DC at *;generalize (fL a.cash.length fun i=>MV.ptr (228500+i) (a.gs.getD i 0) 0)=RW at *;generalize cY a.cash a.cs (fOf a.fl) i=S1 at *;generalize aM a.cs i (fOf a.fl i:Nat)=U1 at *;generalize fOf a.fl i=F0 at *;generalize hE:ai (A r p.length)=E at *;obtain⟨⟨y1,y2⟩,⟨y3,y4⟩⟩:=E;simp only[ad] at hw;have n13:(KK==256013)=false:=beq_eq_false_iff_ne.2 (by omega);have n13':(256013==KK)=false:=beq_eq_false_iff_ne.2 (by omega);have n13e:(KK=256013)=False:=eq_false (by omega);simp only[go_sem,go_sem_proc,afs,bo,e0,e1,e2,e3,e10,e20,e21,e22,hrow,hblk,hri,hrl,hlen,qf,qu,hst,wS,hw,hx,d1,w3,hi,l1,l2,l3,n13,n13',n13e,iC,fF,afM,afd,afb];refine vL (kc:=256013) (g:=cO (m 256013)) (off:=0) (cs:=[.nil,.dat (.int .i64 y1),.dat (.sl (y2.map aa)),.dat (.int .i64 y3),.dat (.sl (y4.map aa))]) ?_ ?_ rfl (by decide) ?_
  ·simp only[go_sem,go_sem_proc,afs]
  ·simp [aA]
  simp only[go_sem,go_sem_proc,afs,e2,afd,afV];refine QS T bo cy mem a.cash.length (by omega) p (by omega) (fun k i=>(ab a.cash a.cs).W (fOf a.fl) k i) r i hi (fun k hk=>hWz _ (hpm k hk).2 i) (.ref 228023 a.g 1 0 a.cash.length) (.dat (.sl SD)) (.ref 256082 g 5 0 r) (.dat (.sl (p.map fF))) (.dat (.int .i64 p.length)) (.dat (.int .i64 r)) (cO (m 256013)) (cO (m 256076)) (.dat (.int .i64 y1)) (.dat (.sl (y2.map aa))) (.dat (.int .i64 y3)) (.dat (.sl (y4.map aa))) (some (g,az fq ((dV p.length A).take r))) _ _ ?_ ?_ ?_ ?_ ?_ ?_ ?_ ?_ ?_ ?_ ?_ ?_ ?_ ?_ ?_ ?_ ?_ ?_
  ·simp only[aP,afW,if_false];exact e0
  ·simp only[aP,afW,if_false];exact e1
  ·simp only[aP,afW,if_false];exact e2
  ·simp only[aP,afW,if_false];exact e3
  ·simp only[aP,afW,if_false];exact e10
  ·simp only[aP,afW,if_false,if_true]
  ·simp only[aP,afW,if_false,if_true]
  ·simp only[aP,afW,if_false,if_true]
  ·simp only[aP,afW,if_false];exact e20
  ·simp only[aP,afW,if_false];exact e21
  ·simp only[aP,afW,if_false];exact e22
  ·simp only[aP,afW,if_false,if_true]
  ·simp only[aP,afW,if_false,if_true]
  ·simp [aA]
  ·simp [aA]
  ·simp only[aA,afW,if_false];exact m82
  ·repeat first | exact hfr | refine FrK.upd ?_ (by decide)
  intro tm m2 gA k0 k1 k2 k3 k10 k13 k20 k21 k22 q13 qA q82 hfr2;have hvA:(bW p.length fun k=>(if r=k then 1 else 0)-(ab a.cash a.cs).W (fOf a.fl) (p.getD k 0) i)=bW p.length (A r):=jw fun k hk=>(hAk k hk).symm
  rw[hvA] at qA;clear e0 e1 e2 e3 e10 e20 e21 e22 m82 hrow hblk hri hfr;have hap:=fun cs hcs=>dF AL Hb 256082 g 88 ((dV p.length A).take r) (bW p.length (A r),ai (A r p.length)) (cs:=cs) hcs
  have htl:((dV p.length A).take r).length=r:=by rw[List.length_take,eO];omega
  have htk:(dV p.length A).take r++[(bW p.length (A r),ai (A r p.length))]=(dV p.length A).take (r+1):=by
   rw[afO,t8 A hlt];rfl
  rw[htl,htk,hE] at hap;have hvl:(bW p.length (A r)).length=p.length:=dx _ _;generalize bW p.length (A r)=V at *;have hap':=hap _ rfl (by omega) (by omega);simp only[ad,fq,afT,afU] at hap';simp only[go_sem,go_sem_proc,afs];refine uV (kc:=256013) (gc:=cO (m 256013)) (off:=0) (cc:=[.ref 256076 gA 4 0 p.length,.dat (.int .i64 y1),.dat (.sl (y2.map aa)),.dat (.int .i64 y3),.dat (.sl (y4.map aa))]) (k:=256076) (g:=gA) (sz:=4) (o:=0) (len:=p.length) (cs:=az ad V) (d:=.sl (V.map ad)) ?_ q13 rfl qA (tW _ _) (by decide) ?_ ?_
  ·exact k13
  ·have:=eM (n:=0) cD qA
   rw[hvl] at this;exact this
  refine qI ?_
  repeat' (intro h<;>simp only[h,go_sem,go_sem_proc,afs,k0,k1,k2,k3,k10,k13,k20,k21,k22,q82,hap',w3,afV]<;>try refine qS ?_ ?_)
  exact⟨(r+1,g+1),by dsimp only;omega,by dsimp only;omega,rfl,rfl,rfl,by repeat first | exact hfr2 | refine FrK.upd ?_ (by decide)⟩
 ·have d1:decide ((r:Int)<(p.length:Int))=false:=decide_eq_false (by omega)
  have hrn:r=p.length:=by omega
  have hlen:=eO p.length A;rw[afn (by rw[hlen];omega)] at m82;obtain⟨b1,b2⟩:=hsol;have hlim:iu (dV p.length A):=Gi (by omega) fun i hi k hk=>eh (hsc.sz (by omega) hi hk) (by omega)
  have hF:=vA (dV p.length A) p.length hlim;rw[b1] at hF;dsimp only at hF;have hfz:=fun (K:St→Prop) (st:St)=>bX (K:=K) (st:=st) AL 10 256082 g (dV p.length A)
  rw[hlen] at hfz;subst hrn;refine qI ?_
  repeat' (intro h<;>simp only[h,go_sem,go_sem_proc,afs,Cp,e0,e1,e2,e3,e10,e20,e21,e22,m82,d1,hfz,hF,afd,bne,beq_self_eq_true,afA]<;>try refine qS ?_ ?_)
  exact⟨_,rfl,rfl,by repeat first | exact hfr | refine FrK.upd ?_ (by decide) | refine FrK.kill ?_ (by decide)⟩
end Go.Mini
namespace Go.Mini
open Classical
def qD (cs:List ClR) (f:Nat→Nat) (n:Nat):List ClR:=(afZ n).flatMap fun i=>(afZ (f i)).flatMap fun k=>aU cs i k
theorem Kf (F:Nat→List ClR) (r n:Nat) (h:r≤n):((afZ n).flatMap fun k=>if k<r then F k else [])=(afZ r).flatMap F:=by
 induction n with
 | zero=>rw[show r=0 by omega];rfl
 | succ n ih =>
  rw[afR,af0,af1,af2,af3]
  by_cases hr:r=n+1
  ·subst hr
   rw[if_pos (by omega),afR,af0,af1,af2,af3]
   congr 1
   rw[af4,af4]
   congr 1
   exact af5 fun k hk=>if_pos (by have:=List.mem_range.1 hk;omega)
  ·rw[if_neg (by omega),af3]
   exact ih (by omega)
theorem se {α:Type} (l:List α) (F:α→List ClR) (p:ClR→Bool):(l.flatMap F).filter p=l.flatMap fun x=>(F x).filter p:=by
 induction l with
 | nil=>rfl
 | cons a l ih=>rw[af1,af1,af6,ih]
theorem Do {cs:List ClR} {f:Nat→Nat} {n:Nat} (hf:∀ i,i<n→f i≤10):qD cs f n=(aE n cs).filter fun c=>decide (c.2.2.1<(f c.1.toNat:Int)):=by
 unfold qD aE;rw[se,af4,af4]
 congr 1
 refine af5 fun i hi=>?_
 rw[se,←Kf (fun k=>aU cs i k) (f i) 10 (hf i (List.mem_range.1 hi)),af4,af4]
 congr 1
 refine af5 fun k _=>?_
 by_cases h:k<f i
 ·rw[if_pos h]
  refine (List.filter_eq_self.2 fun c hc=>?_).symm;obtain⟨-,h1,h2⟩:=cell_mem.1 hc;rw[h1,h2,af7];exact decide_eq_true (by omega)
 ·rw[if_neg h]
  refine (List.filter_eq_nil_iff.2 fun c hc=>?_).symm;obtain⟨-,h1,h2⟩:=cell_mem.1 hc;rw[h1,h2,af7,decide_eq_true_eq];omega
theorem Ad (cs:List ClR) (p:ClR→Prop) [DecidablePred p] (F:ClR→Int):bf (cs.filter fun c=>decide (p c)) F=bf cs fun c=>if p c then F c else 0:=by
 induction cs with
 | nil=>rfl
 | cons c l ih =>
  by_cases h:p c
  ·rw[af8 (by simpa using h)]
   simp only[bf,ih,if_pos h]
  ·rw[af9 (by simpa using h),ih]
   simp only[bf,if_neg h];omega
def toI (j:Nat) (c:ClR):Int:=if c.2.1=(j:Int) then c.2.2.2 else 0
theorem ug {cash:List Int} {cs:List ClR} {f:Nat→Nat} (hcan:cs=aE cash.length cs) (hf:∀ i,i<cash.length→f i≤10) (j:Nat):cY cash cs f j=cash.getD j 0+bf (qD cs f cash.length) (toI j):=by
 rw[Do hf,←hcan,Ad cs (fun c=>c.2.2.1<(f c.1.toNat:Int))];unfold cY
 congr 1
 refine jt fun c _=>?_
 unfold toI
 by_cases h1:c.2.1=(j:Int)
 ·by_cases h2:c.2.2.1<(f c.1.toNat:Int)
  ·rw[if_pos ⟨h1,h2⟩,if_pos h2,if_pos h1]
  ·rw[if_neg fun h=>h2 h.2,if_neg h2]
 ·rw[if_neg fun h=>h1 h.1,if_neg h1]
  split<;>rfl
theorem Mr {cs:List ClR} {f:Nat→Nat} {n:Nat} {c:ClR} (h:c∈qD cs f n):c∈cs:=by
 unfold qD at h;simp only[List.mem_flatMap] at h;obtain⟨i,-,k,-,hc⟩:=h;exact (cell_mem.1 hc).1
def je (cs:List ClR) (f:Nat→Nat) (i k t:Nat):List ClR:=qD cs f i++(((afZ k).flatMap fun k=>aU cs i k)++(aU cs i k).take t)
theorem Fe (cs:List ClR) (f:Nat→Nat):je cs f 0 0 0=[]:=rfl
theorem IV (cs:List ClR) (f:Nat→Nat) (i k:Nat):je cs f i k (aU cs i k).length=je cs f i (k+1) 0:=by
 unfold je;rw[afC,afN,af3,afR,af0,af1,af2,af3]
theorem I4 (cs:List ClR) (f:Nat→Nat) (i:Nat):je cs f i (f i) 0=je cs f (i+1) 0 0:=by
 unfold je qD;rw[afN,afN,af3,afR,af0,af1,af2,af3];simp
theorem Ea (cs:List ClR) (f:Nat→Nat) (n:Nat):je cs f n 0 0=qD cs f n:=by
 unfold je;simp
theorem wo (cs:List ClR) (f:Nat→Nat) {n i k t:Nat} (hi:i<n) (hk:k<f i):∃ l,qD cs f n=je cs f i k t++l:=by
 have hn:∃ m,n=i+1+m:=⟨n-(i+1),by omega⟩
 obtain⟨m,rfl⟩:=hn;have hf:∃ r,f i=k+1+r:=⟨f i-(k+1),by omega⟩
 obtain⟨r,hr⟩:=hf;have hra:∀ (a b:Nat) (F:Nat→List ClR),(afZ (a+b)).flatMap F=(afZ a).flatMap F++((afZ b).map (a+·)).flatMap F:=fun a b F=>by rw[aga,af0]
 unfold qD je;rw[hra,afR,af0,af1,af2,af3,hr,hra,afR,af0,af1,af2,af3];refine⟨(aU cs i k).drop t++(((afZ r).map (k+1+·)).flatMap (fun k=>aU cs i k)++((afZ m).map (i+1+·)).flatMap fun i=>(afZ (f i)).flatMap fun k=>aU cs i k),?_⟩;unfold qD;simp only[agb]
 congr 1
 congr 1
 rw[←agb ((aU cs i k).take t),afP]
theorem wV {cash:List Int} {cs:List ClR} (h:SmallD cash cs) {f:Nat→Nat} (hcan:cs=aE cash.length cs) (hf:∀ i,i<cash.length→f i≤10) (j:Nat) {l l':List ClR} (hl:qD cs f cash.length=l++l'):0≤bf l (toI j)∧bf l (toI j)≤1000000536870912:=by
 have hnn:∀ m:List ClR,(∀ c∈m,c∈cs)→0≤bf m (toI j):=by
  intro m
  induction m with
  | nil=>intro _;exact Int.le_refl _
  | cons c m ih =>
   intro hm;have h1:=ih fun y hy=>hm y (List.mem_cons_of_mem _ hy)
   have h2:=((rightD_iff.1 h.right).2.2.2 c (hm c List.mem_cons_self)).2.2.2.2.2.2.1;simp only[bf,toI] at *
   split<;>omega
 have hm:∀ c∈l++l',c∈cs:=fun c hc=>Mr (by rw[hl];exact hc)
 have h1:=hnn l fun c hc=>hm c (by simp [hc])
 have h2:=hnn l' fun c hc=>hm c (by simp [hc])
 have h3:=ug hcan hf j;rw[hl,jO] at h3;have h4:=h.steady f j;have h5:=h.cash j;omega
end Go.Mini
namespace Go.Mini
open Go
set_option maxRecDepth 10000
set_option maxHeartbeats 4000000
theorem iset {n c:Nat} (hc:c<n) (q:Nat→Int) (v:Int):afe c (agc iC (fL n q))++[MV.dat (.int .i64 v)]++aff (c+1) (agc iC (fL n q))=agc iC (fL n fun j=>if j=c then v else q j):=by
 rw[←mQ,List.map_set,List.set_eq_take_append_cons_drop,if_pos (by rw[afd,bO];exact hc)];simp [iC]
theorem iget {n c:Nat} (hc:c<n) (q:Nat→Int):afe 1 (aff c (agc iC (fL n q)))=[.dat (.int .i64 (q c))]:=zV (f:=iC) (cN q hc)
theorem ilen (n:Nat) (q:Nat→Int):(agc iC (fL n q)).length=n:=by rw[afd,bO]
theorem kV (l:List ClR) (c:ClR) (F:ClR→Int):bf (l++[c]) F=bf l F+F c:=by
 rw[jO];simp [bf]
theorem QE (T:Tab) {K:bK→St→Prop} {kk:List Todo} (mem0:Mem) (n:Nat) (hn:n≤60) (L:List ClR) (B:Nat→Int) (hB:∀ t j,0≤B j+bf (L.take t) (toI j)∧B j+bf (L.take t) (toI j)≤4000000000000000000) (hL:∀ c∈L,c.2.1<n ∧ -1≤c.2.1) (hLl:L.length≤2000) (v0 v4 v6 v7 v8 v9 v30 v31 v32 v50 v51:MV) (G:Nat) (x94 x98:Option (Nat × List MV)) (tm:Nat→MV) (m:Mem)
  (e0:tm 0=v0) (e4:tm 4=v4) (e5:tm 5 = .ref 248029 G 1 0 n) (e6:tm 6=v6) (e7:tm 7=v7) (e8:tm 8=v8) (e9:tm 9=v9) (e30:tm 30=v30) (e31:tm 31=v31) (e32:tm 32=v32) (e50:tm 50=v50) (e51:tm 51=v51) (e59:tm 59=clM L) (e60:tm 60 = .dat (.int .i64 L.length)) (e61:tm 61 = .dat (.int .i64 0))
  (m29:m 248029=some (G,(fL n B).map iC)) (m94:m 248094=x94) (m98:m 248098=x98) (hfr:FrK 248 mem0 m)
  (hK:∀ tm' m',tm' 0=v0→tm' 4=v4→tm' 5 = .ref 248029 G 1 0 n→tm' 6=v6→tm' 7=v7→tm' 8=v8→tm' 9=v9→tm' 30=v30→tm' 31=v31→tm' 32=v32→tm' 50=v50→tm' 51=v51→m' 248029=some (G,(fL n fun j=>B j+bf L (toI j)).map iC)→m' 248094=x94→m' 248098=x98→FrK 248 mem0 m'→kont T K kk (.exit 4) ⟨tm',m'⟩) :
  wp T (mf_clear_list.body.sub [1,1,1,1,1,0,1,0,0,0,0,1,1,0,0,1,1,0,1,0,0,1,1,0,0,1,1,0]) (kont T K kk) ⟨tm,m⟩:=by
 simp only[mf_clear_list,MCode.sub]
 refine ae [0,4,5,6,7,8,9,30,31,32,50,51,59,60] [248094,248098] (fun (t:Nat) tm m=>t≤L.length∧tm 61 = .dat (.int .i64 t)∧m 248029=some (G,(fL n fun j=>B j+bf (L.take t) (toI j)).map iC)∧FrK 248 mem0 m) (fun t=>L.length-t) 0 (by
  refine⟨by omega,e61,?_,hfr⟩
  rw[m29]
  congr 3
  exact bJ fun j _=>by rw[afN];simp [bf]) ?_
 intro vs ms hvs hms;simp only[go_sem,go_sem_proc,afs,e0,e4,e5,e6,e7,e8,e9,e30,e31,e32,e50,e51,e59,e60,m94,m98] at hvs hms;subst hvs hms;clear e0 e4 e5 e6 e7 e8 e9 e30 e31 e32 e50 e51 e59 e60 e61 m29 m94 m98 hfr tm m;rintro t tm m hk hm ⟨htn,e61,m29,hfr⟩;simp only[go_sem,go_sem_proc,afs,List.cons.injEq] at hk hm;obtain⟨e0,e4,e5,e6,e7,e8,e9,e30,e31,e32,e50,e51,e59,e60⟩:=hk;obtain⟨m94,m98⟩:=hm;rcases afz (t<L.length) with hlt | hge
 ·have d1:decide ((t:Int)<(L.length:Int))=true:=decide_eq_true (by omega)
  have w3:IntKind.i64.wrap ((t:Int)+1)=((t+1:Nat):Int):=by rw[ak _ (by omega) (by omega)];omega
  obtain⟨⟨c1,c2,c3,c4⟩,hx⟩:∃ c,L[t]?=some c:=⟨_,afp hlt⟩;have hrc:=hL _ (afx hx);dsimp only at hrc;have hia:=En hx;simp only[go_sem,go_sem_proc,afs] at hia;have htk:L.take (t+1)=L.take t++[(c1,c2,c3,c4)]:=by rw[afO,hx];rfl
  rcases q:decide (c2≥0)
  ·have hc2:c2<0:=by have:=of_decide_eq_false q;omega
   have hvf:(fL n fun j=>B j+bf (L.take (t+1)) (toI j))=fL n fun j=>B j+bf (L.take t) (toI j):=bJ fun j _=>by
    rw[htk,kV];unfold toI;rw[if_neg (by dsimp only;omega)];omega
   refine qI ?_
   repeat' (intro h<;>simp only[h,go_sem,go_sem_proc,afs,e0,e4,e5,e6,e7,e8,e9,e30,e31,e32,e50,e51,e59,e60,e61,m29,m94,m98,hia,d1,w3,q,clL,afM]<;>try refine qS ?_ ?_)
   refine⟨t+1,by omega,by omega,rfl,by rw[hvf],by repeat first | exact hfr | refine FrK.upd ?_ (by decide)⟩
  ·have hc2:0≤c2:=of_decide_eq_true q
   obtain⟨i,rfl⟩:∃ t:Nat,c2=(t:Int):=⟨c2.toNat,by omega⟩
   have hin:i<n:=by omega
   have hb1:=hB t i;have hb2:=hB (t+1) i;rw[htk,kV] at hb2;have hto:toI i (c1,(i:Int),c3,c4)=c4:=by unfold toI;rw[if_pos rfl]
   rw[hto] at hb2;have wA:IntKind.i64.wrap (B i+bf (L.take t) (toI i)+c4)=B i+bf (L.take t) (toI i)+c4:=by rw[ak _ (by omega) (by omega)]
   have hvf:(fL n fun j=>B j+bf (L.take (t+1)) (toI j))=fL n fun j=>if j=i then B i+bf (L.take t) (toI i)+c4 else B j+bf (L.take t) (toI j):=bJ fun j _=>by
    rw[htk,kV]
    by_cases hj:j=i
    ·rw[if_pos hj,hj,hto];omega
    ·rw[if_neg hj]
     have:toI j (c1,(i:Int),c3,c4)=0:=by unfold toI;rw[if_neg (by dsimp only;omega)]
     rw[this];omega
   have t1:=iget hin fun j=>B j+bf (L.take t) (toI j)
   have t2:=ilen n fun j=>B j+bf (L.take t) (toI j)
   have t3:=iset hin (fun j=>B j+bf (L.take t) (toI j)) (B i+bf (L.take t) (toI i)+c4);rw[←hvf] at t3;have l1:i+1≤n:=by omega
   generalize hv:(fL n fun j=>B j+bf (L.take t) (toI j)).map iC=R at *;generalize hv2:(fL n fun j=>B j+bf (L.take (t+1)) (toI j)).map iC=R2 at *;generalize B i+bf (L.take t) (toI i)=S1 at *;refine qI ?_
   repeat' (intro h<;>simp only[h,go_sem,go_sem_proc,afs,e0,e4,e5,e6,e7,e8,e9,e30,e31,e32,e50,e51,e59,e60,e61,m29,m94,m98,hia,d1,w3,q,wA,t1,t2,t3,hin,l1,clL,afM]<;>try refine qS ?_ ?_)
   refine⟨t+1,by omega,by omega,rfl,by rw[hv2],by repeat first | exact hfr | refine FrK.upd ?_ (by decide)⟩
 ·have d1:decide ((t:Int)<(L.length:Int))=false:=decide_eq_false (by omega)
  rw[afn (by omega)] at m29;refine qI ?_
  repeat' (intro h<;>simp only[h,go_sem,go_sem_proc,afs,e0,e4,e5,e6,e7,e8,e9,e30,e31,e32,e50,e51,e59,e60,e61,d1]<;>try refine qS ?_ ?_)
  refine hK _ _ ?_ ?_ ?_ ?_ ?_ ?_ ?_ ?_ ?_ ?_ ?_ ?_ m29 m94 m98 hfr<;>simp only[aP,afW,if_false,e0,e4,e5,e6,e7,e8,e9,e30,e31,e32,e50,e51]
theorem AW (cs:List ClR) (f:Nat→Nat) (i k t:Nat):je cs f i k t=je cs f i k 0++(aU cs i k).take t:=by
 unfold je;simp
theorem QH (T:Tab) {K:bK→St→Prop} {kk:List Todo} (mem0:Mem) (cash:List Int) (cs:List ClR) (f:Nat→Nat) (hs:SmallD cash cs) (hcan:cs=aE cash.length cs) (hf:∀ i,i<cash.length→f i≤10) (i:Nat) (hi:i<cash.length) (x:DebR) (hx:x.OK) (hcl:∀ k,k<10→x.cl[k]?=some (aU cs i k)) (B:Nat→Int) (hB:∀ j,0≤B j∧B j≤1000000000000000) (KK g:Nat) (hKd:KK / 1000≠248) (hm0:mem0 KK=some (g,dJ x)) (v0 v4 v6 v7 v8 v30 v31 v32:MV) (G:Nat) (x94 x98:Option (Nat × List MV)) (tm:Nat→MV) (m:Mem)
  (e0:tm 0=v0) (e4:tm 4=v4) (e5:tm 5 = .ref 248029 G 1 0 cash.length) (e6:tm 6=v6) (e7:tm 7=v7) (e8:tm 8=v8) (e9:tm 9 = .ptr KK g 0) (e30:tm 30=v30) (e31:tm 31=v31) (e32:tm 32=v32) (e50:tm 50 = .dat (.int .i64 (f i))) (e51:tm 51 = .dat (.int .i64 0))
  (m29:m 248029=some (G,(fL cash.length fun j=>B j+bf (je cs f i 0 0) (toI j)).map iC)) (m94:m 248094=x94) (m98:m 248098=x98) (hfr:FrK 248 mem0 m)
  (hK:∀ tm' m',tm' 0=v0→tm' 4=v4→tm' 5 = .ref 248029 G 1 0 cash.length→tm' 6=v6→tm' 7=v7→tm' 8=v8→tm' 9 = .ptr KK g 0→tm' 30=v30→tm' 31=v31→tm' 32=v32→m' 248029=some (G,(fL cash.length fun j=>B j+bf (je cs f (i+1) 0 0) (toI j)).map iC)→m' 248094=x94→m' 248098=x98→FrK 248 mem0 m'→kont T K kk (.exit 2) ⟨tm',m'⟩) :
  wp T (mf_clear_list.body.sub [1,1,1,1,1,0,1,0,0,0,0,1,1,0,0,1,1,0,1,0]) (kont T K kk) ⟨tm,m⟩:=by
 simp only[mf_clear_list,MCode.sub];have hfi:=hf i hi;have hn:=hs.n5;refine ae [0,4,5,6,7,8,9,30,31,32,50] [248094,248098] (fun (k:Nat) tm m=>k≤f i∧tm 51 = .dat (.int .i64 k)∧m 248029=some (G,(fL cash.length fun j=>B j+bf (je cs f i k 0) (toI j)).map iC)∧FrK 248 mem0 m) (fun k=>f i-k) 0 (by refine⟨by omega,e51,m29,hfr⟩) ?_
 intro vs ms hvs hms;simp only[go_sem,go_sem_proc,afs,e0,e4,e5,e6,e7,e8,e9,e30,e31,e32,e50,m94,m98] at hvs hms;subst hvs hms;clear e0 e4 e5 e6 e7 e8 e9 e30 e31 e32 e50 e51 m29 m94 m98 hfr tm m;rintro k tm m hk hm ⟨hkn,e51,m29,hfr⟩;simp only[go_sem,go_sem_proc,afs,List.cons.injEq] at hk hm;obtain⟨e0,e4,e5,e6,e7,e8,e9,e30,e31,e32,e50⟩:=hk;obtain⟨m94,m98⟩:=hm;rcases afz (k<f i) with hlt | hge
 ·have d1:decide ((k:Int)<(f i:Int))=true:=decide_eq_true (by omega)
  have w3:IntKind.i64.wrap ((k:Int)+1)=((k+1:Nat):Int):=by rw[ak _ (by omega) (by omega)];omega
  have hb:=(hfr KK hKd).trans hm0;have hlen:=jI hx;have qc:=JL (x:=x) (k:=k) (l:=aU cs i k) (hcl k (by omega));have l1:k<10:=by omega
  have l3:(1+k+1≤24)=True:=eq_true (by omega);have hcln:=Ev (aU cs i k);simp only[go_sem,go_sem_proc,afs] at hcln;generalize dJ x=DC at *;simp only[go_sem,go_sem_proc,afs,e0,e4,e5,e6,e7,e8,e9,e30,e31,e32,e50,e51,hb,hlen,qc,d1,l1,l3,hcln,afM];refine QE T mem0 cash.length (by omega) (aU cs i k) (fun j=>B j+bf (je cs f i k 0) (toI j)) (fun t j=>?_) (fun c hc=>?_) ?_ v0 v4 v6 v7 v8 (.ptr KK g 0) v30 v31 v32 (.dat (.int .i64 (f i))) (.dat (.int .i64 k)) G x94 x98 _ _ ?_ ?_ ?_ ?_ ?_ ?_ ?_ ?_ ?_ ?_ ?_ ?_ ?_ ?_ ?_ m29 m94 m98 hfr ?_
  ·obtain⟨l,hl⟩:=wo cs f (n:=cash.length) (t:=t) hi hlt
   have h1:=wV hs hcan hf j hl;rw[AW,jO] at h1;have h2:=hB j;omega
  ·have:=(rightD_iff.1 hs.right).2.2.2 c (cell_mem.1 hc).1
   omega
  ·have h1:=afL (fun c:ClR=>c.1==(i:Int)&&c.2.2.1==(k:Int)) cs
   have h2:=hs.c12;unfold aU;omega
  all_goals first | (intro tm' m' k0 k4 k5 k6 k7 k8 k9 k30 k31 k32 k50 k51 q29 q94 q98 hfr') | (simp only[aP,afW,if_false,if_true,e0,e4,e5,e6,e7,e8,e9,e30,e31,e32,e50,e51])
  have hnx:(fL cash.length fun j=>B j+bf (je cs f i k 0) (toI j)+bf (aU cs i k) (toI j))=fL cash.length fun j=>B j+bf (je cs f i (k+1) 0) (toI j):=bJ fun j _=>by
   rw[←IV,AW cs f i k (aU cs i k).length,afC,jO];omega
  rw[hnx] at q29;refine qI ?_
  repeat' (intro h<;>simp only[h,go_sem,go_sem_proc,afs,k0,k4,k5,k6,k7,k8,k9,k30,k31,k32,k50,k51,q94,q98,w3]<;>try refine qS ?_ ?_)
  refine⟨k+1,by omega,by omega,rfl,q29,hfr'⟩
 ·have d1:decide ((k:Int)<(f i:Int))=false:=decide_eq_false (by omega)
  obtain rfl:k=f i:=by omega
  rw[I4] at m29;refine qI ?_
  repeat' (intro h<;>simp only[h,go_sem,go_sem_proc,afs,e0,e4,e5,e6,e7,e8,e9,e30,e31,e32,e50,e51,d1]<;>try refine qS ?_ ?_)
  refine hK _ _ ?_ ?_ ?_ ?_ ?_ ?_ ?_ ?_ ?_ ?_ m29 m94 m98 hfr<;>simp only[aP,afW,if_false,e0,e4,e5,e6,e7,e8,e9,e30,e31,e32]
structure LsQ (a:DebA) (mem:Mem):Prop where
 at_:a.At mem
 n1:NoK 248 mem
 n2:NoK 255 mem
 n3:NoK 256 mem
 fine:a.Fine
 pay:PayG (ab a.cash a.cs) (fOf a.fl) (pOf a.P)
open Classical in
theorem sq (P:Nat→Prop) (n:Nat):payers P (n+1)=payers P n++(if P n then [n] else []):=by
 unfold payers;rw[afR,af6]
 by_cases h:P n
 ·rw[if_pos h,af8 (by simpa using h),agd]
 ·rw[if_neg h,af9 (by simpa using h),agd]
theorem uh (P:Nat→Prop) (n:Nat):(payers P n).length≤n:=by
 unfold payers;exact afX (afL _ _) (by rw[afY];exact Nat.le_refl _)
noncomputable def DebA.W (a:DebA) (k i:Nat):Rat:=(ab a.cash a.cs).W (fOf a.fl) k i
theorem D0 (n:Nat) (W:Nat→Nat→Rat) (k:Nat):(shL n W k).length=1:=rfl
theorem LX (n:Nat) (W:Nat→Nat→Rat) (k:Nat):((shL n W k).map MV.dat).all MV.one=true:=rfl
def stI (a:DebA) (i j:Nat):Int:=(if j<i then a.cash.getD j 0 else 0)+bf (je a.cs (fOf a.fl) i 0 0) (toI j)
theorem RS (T:Tab) (rF:T dW=mkN oJ) {K:bK→St→Prop} {kk:List Todo} (a:DebA) (mem0:Mem) (ha:LsQ a mem0) (v0 v4 v30:MV) (G g6 g7:Nat) (tm:Nat→MV) (m:Mem)
  (e0:tm 0=v0) (e4:tm 4 = .dat (.int .i64 a.cash.length)) (e5:tm 5 = .ref 248029 G 1 0 a.cash.length) (e6:tm 6 = .ref 248094 g6 1 0 0) (e7:tm 7 = .ref 248098 g7 1 0 0) (e30:tm 30 = .ref 228023 a.g 1 0 a.cash.length) (e31:tm 31 = .dat (.int .i64 a.cash.length)) (e32:tm 32 = .dat (.int .i64 0))
  (m29:m 248029=some (G,(fL a.cash.length fun j=>stI a 0 j).map iC)) (m94:m 248094=some (g6,[])) (m98:m 248098=some (g7,[])) (hfr:FrK 248 mem0 m)
  (hK:∀ tm' m' g6' g7',tm' 0=v0→tm' 4 = .dat (.int .i64 a.cash.length)→tm' 5 = .ref 248029 G 1 0 a.cash.length→tm' 6 = .ref 248094 g6' 1 0 a.p.length→tm' 7 = .ref 248098 g7' 1 0 a.p.length→m' 248029=some (G,(fL a.cash.length fun j=>stI a a.cash.length j).map iC)→m' 248094=some (g6',az fF a.p)→m' 248098=some (g7',az (shL a.cash.length a.W) a.p)→FrK 248 mem0 m'→kont T K kk (.exit 0) ⟨tm',m'⟩) :
  wp T (mf_clear_list.body.sub [1,1,1,1,1,0,1,0,0,0]) (kont T K kk) ⟨tm,m⟩:=by
 have ha':=ha;obtain⟨hat,n1,n2,n3,hfine,hpay⟩:=ha;have hfe:=fun i=>DebA.f_eq hat hfine (i:=i)
 obtain⟨hs,h10⟩:=hfine;have hn:=hs.n5;simp only[mf_clear_list,MCode.sub];refine ae [0,4,5,30,31] [] (fun ((i,g6,g7):Nat × Nat × Nat) tm m=>i≤a.cash.length∧tm 32 = .dat (.int .i64 i)∧tm 6 = .ref 248094 g6 1 0 (payers (pOf a.P) i).length∧tm 7 = .ref 248098 g7 1 0 (payers (pOf a.P) i).length∧m 248029=some (G,(fL a.cash.length fun j=>stI a i j).map iC)∧m 248094=some (g6,az fF (payers (pOf a.P) i))∧m 248098=some (g7,az (shL a.cash.length a.W) (payers (pOf a.P) i))∧FrK 248 mem0 m) (fun (i,_)=>a.cash.length-i) (0,g6,g7) (by refine⟨by omega,e32,e6,e7,m29,m94,m98,hfr⟩) ?_
 intro vs ms hvs hms;simp only[go_sem,go_sem_proc,afs,e0,e4,e5,e30,e31] at hvs hms;subst hvs hms;clear e0 e4 e5 e6 e7 e30 e31 e32 m29 m94 m98 hfr tm m;rintro⟨i,g6,g7⟩ tm m hk-⟨hin,e32,e6,e7,m29,m94,m98,hfr⟩;simp only[go_sem,go_sem_proc,afs,List.cons.injEq] at hk;obtain⟨e0,e4,e5,e30,e31⟩:=hk;rcases afz (i<a.cash.length) with hi | hge
 ·have d1:decide ((i:Int)<(a.cash.length:Int))=true:=decide_eq_true (by omega)
  have w3:IntKind.i64.wrap ((i:Int)+1)=((i+1:Nat):Int):=by rw[ak _ (by omega) (by omega)];omega
  obtain⟨hfi,hf10⟩:=hfe i hi;have hrow:=(hfr.at 228023 (by omega)).trans hat.row;have hb0:=hat.blk i hi;have hblk:=(hfr.at (228500+i) (by omega)).trans hb0;have hri:=nq (cN (fun i=>MV.ptr (228500+i) (a.gs.getD i 0) 0) hi);have hrl:(fL a.cash.length fun i=>MV.ptr (228500+i) (a.gs.getD i 0) 0).length=a.cash.length:=bO _ _;have hok:=a.deb_ok i;have hlen:=jI hok;have qf:=AE hok;have qp:=Nv hok;have qca:=JO (x:=a.deb i);rw[show (a.deb i).f=(fOf a.fl i:Int) from hfi] at qf;rw[show (a.deb i).p=a.P.getD i false from rfl] at qp;rw[show (a.deb i).cash=a.cash.getD i 0 from rfl] at qca;have hcash:=hs.cash i;have hsp:=wo a.cs (fOf a.fl) (n:=a.cash.length) (i:=i) (k:=0) (t:=0) hi
  have hsI0:0≤bf (je a.cs (fOf a.fl) i 0 0) (toI i)∧bf (je a.cs (fOf a.fl) i 0 0) (toI i)≤1000000536870912:=by
   have:∃ l,qD a.cs (fOf a.fl) a.cash.length=je a.cs (fOf a.fl) i 0 0++l:=by
    obtain⟨r,hr⟩:∃ r,a.cash.length=i+r:=⟨a.cash.length-i,by omega⟩
    refine⟨((afZ r).map (i+·)).flatMap fun i=>(afZ (fOf a.fl i)).flatMap fun k=>aU a.cs i k,?_⟩
    rw[Ea];unfold qD;rw[hr,aga,af0]
   obtain⟨l,hl⟩:=this;exact wV hs hat.can (fun i hi=>(hfe i hi).2) i hl
  have hst0:stI a i i=bf (je a.cs (fOf a.fl) i 0 0) (toI i):=by unfold stI;rw[if_neg (by omega)];omega
  have wC:IntKind.i64.wrap (stI a i i+a.cash.getD i 0)=stI a i i+a.cash.getD i 0:=by rw[ak _ (by omega) (by omega)]
  have t1:=iget hi fun j=>stI a i j
  have t2:=ilen a.cash.length fun j=>stI a i j
  have t3:=iset hi (fun j=>stI a i j) (stI a i i+a.cash.getD i 0)
  have hB2:(fL a.cash.length fun j=>if j=i then stI a i i+a.cash.getD i 0 else stI a i j)=fL a.cash.length fun j=>(if j<i+1 then a.cash.getD j 0 else 0)+bf (je a.cs (fOf a.fl) i 0 0) (toI j):=bJ fun j _=>by
   by_cases hj:j=i
   ·rw[if_pos hj,hj,if_pos (by omega),hst0];omega
   ·rw[if_neg hj]
    unfold stI
    by_cases hj2:j<i
    ·rw[if_pos hj2,if_pos (by omega)]
    ·rw[if_neg hj2,if_neg (by omega)]
  rw[hB2] at t3;have l1:i+1≤a.cash.length:=by omega
  have hKd:(228500+i) / 1000≠248:=by omega
  generalize hKK:228500+i=KK at *;have n29:(KK=248029)=False:=eq_false (by omega);have b29:(KK==248029)=false:=beq_eq_false_iff_ne.2 (by omega);have b29':(248029==KK)=false:=beq_eq_false_iff_ne.2 (by omega);have hDC:dJ (a.deb i)=dJ (a.deb i):=rfl;generalize hR:(fL a.cash.length fun j=>stI a i j).map iC=R at *;generalize hR2:(fL a.cash.length fun j=>(if j<i+1 then a.cash.getD j 0 else 0)+bf (je a.cs (fOf a.fl) i 0 0) (toI j)).map iC=R2 at *;generalize hRW:(fL a.cash.length fun i=>MV.ptr (228500+i) (a.gs.getD i 0) 0)=RW at *;generalize hDD:dJ (a.deb i)=DC at *;simp only[go_sem,go_sem_proc,afs,e0,e4,e5,e6,e7,e30,e31,e32,hrow,hblk,hri,hrl,hlen,qf,qp,qca,m29,t1,t2,t3,wC,d1,hi,l1,n29,b29,b29',iC,bC,afM];refine QH T mem0 a.cash a.cs (fOf a.fl) hs hat.can (fun i hi=>(hfe i hi).2) i hi (a.deb i) hok (fun k hk=>cN _ hk) (fun j=>if j<i+1 then a.cash.getD j 0 else 0) (fun j=>?_) KK (a.gs.getD i 0) hKd (by rw[hDD];exact hb0) v0 (.dat (.int .i64 a.cash.length)) (.ref 248094 g6 1 0 (payers (pOf a.P) i).length) (.ref 248098 g7 1 0 (payers (pOf a.P) i).length) (.dat (.int .i64 i)) (.ref 228023 a.g 1 0 a.cash.length) (.dat (.int .i64 a.cash.length)) (.dat (.int .i64 i)) G (some (g6,az fF (payers (pOf a.P) i))) (some (g7,az (shL a.cash.length a.W) (payers (pOf a.P) i))) _ _ ?_ ?_ ?_ ?_ ?_ ?_ ?_ ?_ ?_ ?_ ?_ ?_ ?_ ?_ ?_ (hfr.upd (by decide)) ?_
  ·have:=hs.cash j
   split<;>omega
  all_goals first | (intro tm' m' k0 k4 k5 k6 k7 k8 k9 k30 k31 k32 q29 q94 q98 hfr') | (simp only[aP,afW,if_false,if_true,e0,e4,e5,e6,e7,e30,e31,e32]) | (simp only[aA,afW,if_false,if_true,m94,m98]) | skip
  ·rw[←hR2]
  have hnx:(fL a.cash.length fun j=>(if j<i+1 then a.cash.getD j 0 else 0)+bf (je a.cs (fOf a.fl) (i+1) 0 0) (toI j))=fL a.cash.length fun j=>stI a (i+1) j:=rfl
  rw[hnx] at q29;have hb2:=(hfr' KK hKd).trans hb0;have pl:=uh (pOf a.P) i;rcases q:a.P.getD i false
  ·have hps:payers (pOf a.P) (i+1)=payers (pOf a.P) i:=by
    rw[sq,if_neg (by unfold pOf;rw[q];decide),af3]
   rw[q] at qp;refine qI ?_
   repeat' (intro h<;>simp only[h,go_sem,go_sem_proc,afs,k0,k4,k5,k6,k7,k8,k9,k30,k31,k32,q94,q98,hb2,hlen,qp,w3,bC,afM]<;>try refine qS ?_ ?_)
   exact⟨(i+1,g6,g7),by dsimp only;omega,by dsimp only;omega,rfl,by rw[hps],by rw[hps],q29,by rw[hps],by rw[hps],hfr'⟩
  ·have hP:pOf a.P i:=q
   have hps:payers (pOf a.P) (i+1)=payers (pOf a.P) i++[i]:=by
    rw[sq,if_pos hP]
   have hf10':fOf a.fl i<10:=by
    obtain⟨h1,g,h2,h3⟩:=hpay;exact (h3.fallen i hP).2
   have hsh:=y6 a i m' ⟨hat.fr hfr' (by decide) hn,n2.fr hfr' (by decide),⟨hs,h10⟩,hi,hf10',hpay.S_pos i hP⟩;rw[hKK] at hsh;have hsD:shD (a,i) = .tup [.sl ((bW a.cash.length (a.W i)).map ad),.bool true]:=rfl;rw[hsD] at hsh;have ha6:=dF il xj 248094 g6 8 (payers (pOf a.P) i) i (cs:=[.dat (.int .i64 i)]) rfl (by omega) (by omega);have ha7:=dF (D0 a.cash.length a.W) (LX a.cash.length a.W) 248098 g7 24 (payers (pOf a.P) i) i (cs:=[.dat (.sl ((bW a.cash.length (a.W i)).map ad))]) rfl (by omega) (by omega);have hl1:(payers (pOf a.P) (i+1)).length=(payers (pOf a.P) i).length+1:=by rw[hps,List.length_append];rfl
   rw[←hps] at ha6 ha7;rw[q] at qp;generalize (bW a.cash.length (a.W i)).map ad=V at *;refine qI ?_
   repeat' (intro h<;>simp only[h,go_sem,go_sem_proc,afs,rF,k0,k4,k5,k6,k7,k8,k9,k30,k31,k32,q94,q98,hb2,hlen,qp,hsh,ha6,ha7,w3,bC,afM,afA]<;>try refine qS ?_ ?_)
   exact⟨(i+1,g6+1,g7+1),by dsimp only;omega,by dsimp only;omega,rfl,by rw[hl1],by rw[hl1],q29,rfl,rfl,by repeat first | exact hfr' | refine FrK.upd ?_ (by decide)⟩
 ·have d1:decide ((i:Int)<(a.cash.length:Int))=false:=decide_eq_false (by omega)
  obtain rfl:i=a.cash.length:=by omega
  refine qI ?_
  repeat' (intro h<;>simp only[h,go_sem,go_sem_proc,afs,e0,e4,e5,e6,e7,e30,e31,e32,d1]<;>try refine qS ?_ ?_)
  refine hK _ _ g6 g7 ?_ ?_ ?_ ?_ ?_ m29 m94 m98 hfr<;>simp only[aP,afW,if_false,e0,e4,e5,e6,e7,DebA.p]
end Go.Mini
