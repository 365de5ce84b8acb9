/- A part of the proof. -/
import Derived.Test.YtdbkjjoedjfmpaaM04
import Derived.Test.YtdbkjjoedjfmpaaM11
set_option linter.unusedSimpArgs false
set_option linter.unusedVariables false
open Prod renaming ext_iff → afk, ext → afp
open Bool renaming false_eq_true → afl, false_and → afm, true_and → afn, eq_iff_iff → afo, not_true → afx, not_false → afy, and_true → afB, and_false → afC, not_eq_true' → afE
open List renaming getElem?_eq_getElem → afq, getD_eq_getElem?_getD → afr, mem_of_getElem? → afs, length_map → aft, getElem?_map → afu, take_length → afz, getElem_mem → afA, replicate → afF, map_replicate → afG, length_replicate → afH, length_filter_le → afI, take_zero → afK, take_add_one → afL, take_append_drop → afM, take_of_length_le → afO, range_succ → afP, map_append → afQ, take → afR, drop → afS, map_cons → afT, map_nil → afU, set_cons_zero → afV, length_range → afY, range → afZ, flatMap_append → af0, flatMap_cons → af1, flatMap_nil → af2, append_nil → af3, flatMap_def → af4, map_congr_left → af5, filter_append → af6, filter_cons_of_pos → af8, filter_cons_of_neg → af9, range_add → aga, append_assoc → agb, map → agc, filter_nil → agd
open Nat renaming zero_le → afv, mul_one → afJ, reduceEqDiff → afW, le_trans → afX
open Decidable renaming em → afw
open Option renaming bind_none → afD
open Rat renaming add_zero → afN
open Int renaming toNat_natCast → af7
namespace Go.Mini
open Go
def mf_rescue_Least:MFunc :=
 { n:=107,np:=3,res:=[.cell 6 4 true,.t 7],body :=
 (.seq (.ops [
 ⟨some 6,none,.alloc 221006 [(ZI 0),.nil,(ZI 0),.nil]⟩,Zi 7 0])
 (.seq (.seq (.ops [
 Zv 18 0,Zv 19 1,⟨some 20,none,.call lS [(.t 18),(.t 19)]⟩,Zt 21 20,Zv 22 21,⟨some 23,some (22,false),.mv (.t 2)⟩,⟨some 24,some (22,false),.bin .lss (.t 23) (.c (ZI 0))⟩,Zp 25 22 24,Zv 26 25,⟨some 27,some (26,false),.mv (.t 2)⟩,⟨some 28,some (26,false),.mv (.t 0)⟩,⟨some 29,some (26,false),.len (.t 28)⟩,⟨some 30,some (26,false),.bin .geq (.t 27) (.t 29)⟩,Zp 31 26 30])
 (.cond (.t 31)
 (.seq (.ops [
 ⟨some 32,none,.build [(ZI 0),.nil,(ZI 0),.nil] []⟩,Zs 4 6 32,Zi 7 1])
 .ret)
 .skip))
 (.seq (.ops [
 Zv 33 0,⟨some 34,none,.callo 221034 1 bt [(.t 33)]⟩,Zv 8 34,Zi 9 0])
 (.seq (.ops [
 Ze 10])
 (.seq (.seq (.ops [
 Zv 35 1,Zn 36 35,Zi 37 0])
 (.block 0
 (.ghost (.adopt 10 221048 4) (.loop
 (.seq (.ops [
 Zo 38 .lss 37 36])
 (.seq (.cond (.t 38)
 .skip
 (.exit 0))
 (.seq (.block 1
 (.seq (.ops [
 Za 39 4 35 37,Zu 40 4 39,⟨some 12,none,.alloc 221012 [(ZI 0),(ZI 0),(ZI 0),(ZI 0)]⟩,Zs 4 12 40])
 (.seq (.seq (.ops [
 Zf 41 0 12,Zl 42 1 41,Zv 43 2,Zo 44 .neq 42 43])
 (.cond (.t 44)
 (.seq (.ops [
 Zv 45 10,Zu 46 4 12,⟨some 47,none,.bsl 221047 false [(ZI 0),(ZI 0),(ZI 0),(ZI 0)] 4 1 [(0,4,(.t 46))]⟩,⟨some 48,none,.app 221048 [(ZI 0),(ZI 0),(ZI 0),(ZI 0)] 32 (.t 45) (.t 47)⟩,Zv 10 48])
 (.exit 1))
 .skip))
 (.seq (.ops [
 Zv 49 9,Zf 50 3 12,Zl 51 1 50,Zo 52 .add 49 51,Zv 9 52])
 (.seq (.ops [
 Zf 53 1 12,Zl 54 1 53,Zc 55 .geq 54 0])
 (.cond (.t 55)
 (.opsD [
 Zv 56 8,Zf 57 1 12,Zl 58 1 57,Za 59 1 56 58,Zl 60 1 59,Zf 61 3 12,Zl 62 1 61,Zo 63 .add 60 62,Za 64 1 56 58,Zs 1 64 63] [[],[],[],[],[],[],[],[],[],[]])
 .skip))))))
 (.ops [
 Zc 65 .add 37 1,Zv 37 65]))))))))
 (.seq (.seq (.ops [
 Zv 66 8,⟨some 67,none,.call iR [(.t 66)]⟩,Zc 68 .gtr 67 1000000000000000])
 (.cond (.t 68)
 (.seq (.ops [
 ⟨some 69,none,.build [(ZI 0),.nil,(ZI 0),.nil] []⟩,Zs 4 6 69,Zi 7 6])
 .ret)
 .skip))
 (.seq (.ghost (.freeze 8) (.ghost (.freeze 10) (.ops [
 Zv 71 8,Zv 72 10,⟨some 73,none,.call kX [(.t 71),(.t 72)]⟩,Zv 70 73,Zx 74 0 70,Zx 75 1 70,⟨some 13,none,.alloc 221013 [.nil,.nil,.nil]⟩,Zs 3 13 74,Zv 14 75])))
 (.seq (.seq (.ops [
 Zv 76 14,Zc 77 .neq 76 0])
 (.cond (.t 77)
 (.seq (.ops [
 ⟨some 78,none,.build [(ZI 0),.nil,(ZI 0),.nil] []⟩,Zs 4 6 78,Zi 7 6])
 .ret)
 .skip))
 (.seq (.ops [
 Zv 80 9,⟨some 81,none,.call eQ [(.t 80),(.c (ZI 1))]⟩,Zv 79 81,Zx 82 0 79,Zx 83 1 79,⟨some 15,none,.alloc 221015 [(ZI 0),.nil,(ZI 0),.nil]⟩,Zs 4 15 82,Zv 16 83])
 (.seq (.opsD [
 Zu 85 4 15,Zf 86 0 13,Zl 87 1 86,Zv 88 2,Za 89 4 87 88,Zu 90 4 89,⟨some 91,none,.call dm [(.t 85),(.t 90)]⟩,Zv 84 91,Zx 92 0 84,Zx 93 1 84,⟨some 17,none,.alloc 221017 [(ZI 0),.nil,(ZI 0),.nil]⟩,Zs 4 17 92,Zv 14 93] [[],[],[],[],[],[],[],[],[],[],[0,2,5],[],[]])
 (.seq (.block 2
 (.seq (.ops [
 Zv 95 14,Zc 96 .neq 95 0,Zv 94 96])
 (.cond (.t 94)
 (.seq (.ops [
 ⟨some 97,none,.build [(ZI 0),.nil,(ZI 0),.nil] []⟩,Zs 4 6 97,Zi 7 6])
 .ret)
 (.seq (.ops [
 Zf 99 0 17,Zf 100 0 99,Zl 101 1 100,Zc 102 .lss 101 0,Zv 98 102])
 (.cond (.t 98)
 (.seq (.ops [
 ⟨some 103,none,.call eQ [(.c (ZI 0)),(.c (ZI 1))]⟩,Zx 104 0 103,Zx 105 1 103,Zs 4 6 104,Zv 7 105])
 .ret)
 .skip)))))
 (.seq (.ops [
 Zu 106 4 17,Zs 4 6 106,Zi 7 0])
 .ret)))))))))))) }
def mf_rescue_day:MFunc :=
 { n:=21,np:=2,res:=[.t 4],body :=
 (.seq (.ops [
 Zk 2 238002 0,Zb 4 false])
 (.seq (.seq (.ops [
 Zl 5 1 2,Zn 6 5,Zc 7 .gtr 6 60,Zv 8 7,⟨some 9,some (8,false),.mv (.t 1)⟩,⟨some 10,some (8,false),.len (.t 9)⟩,⟨some 11,some (8,false),.bin .gtr (.t 10) (.c (ZI 2000))⟩,Zp 12 8 11,Zv 13 12,⟨some 14,some (13,false),.load 1 false (.t 2)⟩,⟨some 15,some (13,false),.call cA [(.t 14),(.c (.clo fM []))]⟩,Zp 16 13 15])
 (.cond (.t 16)
 (.seq (.ops [
 Zb 4 false])
 .ret)
 .skip))
 (.seq (.ops [
 Zv 17 1,⟨some 18,none,.mkfn fN [(.t 2)]⟩,⟨some 19,none,.call cp [(.t 17),(.t 18)]⟩,Zt 20 19,Zv 4 20])
 .ret))) }
def mf_rescue_day_1:MFunc :=
 { n:=6,np:=1,res:=[.t 2],body :=
 (.seq (.ops [
 Zb 2 false])
 (.seq (.ops [
 Zv 3 0,⟨some 4,none,.call fo [(.t 3)]⟩,Zt 5 4,Zv 2 5])
 .ret)) }
def mf_rescue_amount:MFunc :=
 { n:=9,np:=1,res:=[.t 2],body :=
 (.seq (.ops [
 Zb 2 false])
 (.seq (.ops [
 Zv 3 0,Zc 4 .geq 3 0,Zv 5 4,⟨some 6,some (5,true),.mv (.t 0)⟩,⟨some 7,some (5,true),.bin .leq (.t 6) (.c (ZI 1000000000000000))⟩,Zq 8 5 7,Zv 2 8])
 .ret)) }
def mf_rescue_day_2:MFunc :=
 { n:=42,np:=2,res:=[.t 3],body :=
 (.seq (.ops [
 Zk 2 252002 0,Zb 3 false])
 (.seq (.ops [
 Zf 4 0 2,Zl 5 1 4,Zc 6 .lss 5 0,Zv 7 6,⟨some 8,some (7,false),.fad 0 (.t 2)⟩,⟨some 9,some (7,false),.load 1 false (.t 8)⟩,⟨some 10,some (7,false),.load 1 false (.t 1)⟩,⟨some 11,some (7,false),.len (.t 10)⟩,⟨some 12,some (7,false),.bin .geq (.t 9) (.t 11)⟩,Zp 13 7 12,Zv 14 13,⟨some 15,some (14,false),.fad 1 (.t 2)⟩,⟨some 16,some (14,false),.load 1 false (.t 15)⟩,⟨some 17,some (14,false),.bin .lss (.t 16) (.c (.dat (.int .i64 (-1))))⟩,Zp 18 14 17,Zv 19 18,⟨some 20,some (19,false),.fad 1 (.t 2)⟩,⟨some 21,some (19,false),.load 1 false (.t 20)⟩,⟨some 22,some (19,false),.load 1 false (.t 1)⟩,⟨some 23,some (19,false),.len (.t 22)⟩,⟨some 24,some (19,false),.bin .geq (.t 21) (.t 23)⟩,Zp 25 19 24,Zv 26 25,⟨some 27,some (26,false),.fad 2 (.t 2)⟩,⟨some 28,some (26,false),.load 1 false (.t 27)⟩,⟨some 29,some (26,false),.bin .lss (.t 28) (.c (ZI 0))⟩,Zp 30 26 29,Zv 31 30,⟨some 32,some (31,false),.fad 2 (.t 2)⟩,⟨some 33,some (31,false),.load 1 false (.t 32)⟩,⟨some 34,some (31,false),.bin .geq (.t 33) (.c (ZI 10))⟩,Zp 35 31 34,Zv 36 35,⟨some 37,some (36,false),.fad 3 (.t 2)⟩,⟨some 38,some (36,false),.load 1 false (.t 37)⟩,⟨some 39,some (36,false),.call fo [(.t 38)]⟩,⟨some 40,some (36,false),.un .not (.t 39)⟩,Zp 41 36 40,Zv 3 41])
 .ret)) }
set_option maxRecDepth 10000
set_option maxHeartbeats 2000000
noncomputable def Et:List Data→Option PRes:=FF (α:=Int × Int × Int) (fun (x,a,b)=>([.int .i64 x,.int .i64 a,.int .i64 b]:List Data)) (fun (x,a,b)=>some (.same (.bool (decide (a≤x)&&decide (x≤b)))))
theorem FT:∀ a b:Int × Int × Int,(fun (x,a,b)=>([.int .i64 x,.int .i64 a,.int .i64 b]:List Data)) a=(fun (x,a,b)=>([.int .i64 x,.int .i64 a,.int .i64 b]:List Data)) b→a=b:=by
  rintro⟨x1,a1,b1⟩ ⟨x2,a2,b2⟩ h;simp only[List.cons.injEq,Data.int.injEq,Data.agg.injEq,Data.sl.injEq,Data.bool.injEq,Data.str.injEq,Data.ptr.injEq,Data.tup.injEq,Prod.mk.injEq,true_and,and_true] at h ⊢
  first | exact h | simpa [afk,and_assoc] using h | grind
@[go_sem] theorem Re (x:Int) (a:Int) (b:Int):Et [.int .i64 x,.int .i64 a,.int .i64 b]=some (.same (.bool (decide (a≤x)&&decide (x≤b)))):=aV FT (x,a,b)
theorem Qr (T:Tab)  (x:Int) (a:Int) (b:Int) :
  wp T mf_clear_right_1.body (bG mf_clear_right_1.res (.same (.bool (decide (a≤x)&&decide (x≤b))))) ⟨ax [.dat (.int .i64 x),.dat (.int .i64 a),.dat (.int .i64 b)],emp⟩:=by
 refine ap ?_;simp only[mf_clear_right_1];rcases c1:decide (a≤x)
 ·have c2:decide (x≥a)=false:=c1
  refine qI ?_
  repeat' (intro h<;>simp only[h,go_sem,go_sem_proc,afl,c1,c2,afm]<;>try refine qS ?_ ?_)
 ·have c2:decide (x≥a)=true:=c1
  refine qI ?_
  repeat' (intro h<;>simp only[h,go_sem,go_sem_proc,afl,c1,c2,afn]<;>try refine qS ?_ ?_)
noncomputable def Kf:List Data→Option PRes:=FF (α:=Int) (fun (x:Int)=>([.int .i64 x,.ptr [.fn bn []]]:List Data)) (fun (x:Int)=>some (.same (.bool (!dt x))))
theorem G0:∀ a b:Int,(fun (x:Int)=>([.int .i64 x,.ptr [.fn bn []]]:List Data)) a=(fun (x:Int)=>([.int .i64 x,.ptr [.fn bn []]]:List Data)) b→a=b:=by
  intro x1 x2 h;simp only[List.cons.injEq,Data.int.injEq,Data.agg.injEq,Data.sl.injEq,Data.bool.injEq,Data.str.injEq,Data.ptr.injEq,Data.tup.injEq,Prod.mk.injEq,true_and,and_true] at h ⊢
  first | exact h | simpa [afk,and_assoc] using h | grind
@[go_sem] theorem Rj (x:Int):Kf [.int .i64 x,.ptr [.fn bn []]]=some (.same (.bool (!dt x))):=aV G0 x
theorem QL (T:Tab) (IE:T bn=mkE Et) (x:Int) :
  wp T mf_clear_right_2.body (bG mf_clear_right_2.res (.same (.bool (!dt x)))) ⟨ax [.dat (.int .i64 x),.dat (.ptr [.fn bn []])],emp⟩:=by
 refine ap ?_;simp only[mf_clear_right_2];unfold dt;refine qI ?_
 repeat' (intro h<;>simp only[h,go_sem,go_sem_proc,afl,IE]<;>try refine qS ?_ ?_)
noncomputable def Kb:List Data→Option PRes:=FF (α:=Int × Int × Int × Int × Int) (fun (a,b,k,x,n)=>([.agg [.int .i64 a,.int .i64 b,.int .i64 k,.int .i64 x],.ptr [.fn bn []],.ptr [.int .i64 n]]:List Data)) (fun (a,b,k,x,n)=>aG (0≤n∧n≤1000000) (.same (.bool (!dW n (a,b,k,x)))))
theorem Hi:∀ a b:Int × Int × Int × Int × Int,(fun (a,b,k,x,n)=>([.agg [.int .i64 a,.int .i64 b,.int .i64 k,.int .i64 x],.ptr [.fn bn []],.ptr [.int .i64 n]]:List Data)) a=(fun (a,b,k,x,n)=>([.agg [.int .i64 a,.int .i64 b,.int .i64 k,.int .i64 x],.ptr [.fn bn []],.ptr [.int .i64 n]]:List Data)) b→a=b:=by
  rintro⟨a1,b1,k1,x1,n1⟩ ⟨a2,b2,k2,x2,n2⟩ h;simp only[List.cons.injEq,Data.int.injEq,Data.agg.injEq,Data.sl.injEq,Data.bool.injEq,Data.str.injEq,Data.ptr.injEq,Data.tup.injEq,Prod.mk.injEq,true_and,and_true] at h ⊢
  first | exact h | simpa [afk,and_assoc] using h | grind
@[go_sem] theorem Q7 (a:Int) (b:Int) (k:Int) (x:Int) (n:Int) (hc:0≤n∧n≤1000000):Kb [.agg [.int .i64 a,.int .i64 b,.int .i64 k,.int .i64 x],.ptr [.fn bn []],.ptr [.int .i64 n]]=some (.same (.bool (!dW n (a,b,k,x)))):=(aV Hi (a,b,k,x,n)).trans (an hc _)
theorem R6 (T:Tab) (IE:T bn=mkE Et) (a:Int) (b:Int) (k:Int) (x:Int) (n:Int) (hc:0≤n∧n≤1000000) :
  wp T mf_clear_right_3.body (bG mf_clear_right_3.res (.same (.bool (!dW n (a,b,k,x))))) ⟨ax [.dat (.agg [.int .i64 a,.int .i64 b,.int .i64 k,.int .i64 x]),.dat (.ptr [.fn bn []]),.dat (.ptr [.int .i64 n])],emp⟩:=by
 refine ap ?_;simp only[mf_clear_right_3];have w:IntKind.i64.wrap (n-1)=n-1:=by rw[aj _ (by omega) (by omega)]
 have e:dW n (a,b,k,x)=((decide (0≤a)&&decide (a≤n-1))&&((decide (-1≤b)&&decide (b≤n-1))&&((decide (0≤k)&&decide (k≤9))&&(decide (0≤x)&&decide (x≤1000000000000000))))):=by
  rw[afo,rightC_iff];simp only[Bool.and_eq_true,decide_eq_true_eq];omega
 rw[e];rcases c1:(decide (0≤a)&&decide (a≤n-1))<;>rcases c2:(decide (-1≤b)&&decide (b≤n-1))<;>rcases c3:(decide (0≤k)&&decide (k≤9))<;>rcases c4:(decide (0≤x)&&decide (x≤1000000000000000))
 all_goals
      refine qI ?_
      repeat' (intro h<;>simp only[h,go_sem,go_sem_proc,afl,IE,w,c1,c2,c3,c4]<;>try refine qS ?_ ?_)
noncomputable def rU:List Data→Option PRes:=FF (α:=Int × (List aU) × Nat) (fun (z,h,i)=>([.int .i64 z,.ptr [.sl (h.map ad)],.ptr [.int .i64 i]]:List Data)) (fun (z,h,i)=>aG (ca z∧i<h.length∧okL h) (.same (.bool (decide (pe (h.getD i bz) (ak (z:Rat))<0)))))
theorem vH:∀ a b:Int × (List aU) × Nat,(fun (z,h,i)=>([.int .i64 z,.ptr [.sl (h.map ad)],.ptr [.int .i64 i]]:List Data)) a=(fun (z,h,i)=>([.int .i64 z,.ptr [.sl (h.map ad)],.ptr [.int .i64 i]]:List Data)) b→a=b:=by
  rintro⟨z1,h1,i1⟩ ⟨z2,h2,i2⟩ h;simp only[List.cons.injEq,Data.int.injEq,Data.ptr.injEq,Data.sl.injEq,and_true,true_and] at h;exact afp h.1 (afp (af eX _ _ h.2.1) (by have:=h.2.2;dsimp only;omega))
@[go_sem] theorem y7 (z:Int) (h:List aU) (i:Nat) (hc:ca z∧i<h.length∧okL h):rU [.int .i64 z,.ptr [.sl (h.map ad)],.ptr [.int .i64 i]]=some (.same (.bool (decide (pe (h.getD i bz) (ak (z:Rat))<0)))):=(aV vH (z,h,i)).trans (an hc _)
theorem GY (T:Tab) (bo:T bp=mkE fK) (aw:T bD=mkE d7) (z:Int) (h:List aU) (i:Nat) (hc:ca z∧i<h.length∧okL h) :
  wp T mf_clear_Solve_1.body (bG mf_clear_Solve_1.res (.same (.bool (decide (pe (h.getD i bz) (ak (z:Rat))<0))))) ⟨ax [.dat (.int .i64 z),.dat (.ptr [.sl (h.map ad)]),.dat (.ptr [.int .i64 i])],emp⟩:=by
 refine ap ?_;simp only[mf_clear_Solve_1];obtain⟨hz,hi,hok⟩:=hc;have hw:=fz z hz;obtain⟨x,hx⟩:∃ x,h[i]?=some x:=⟨_,afq hi⟩;have hxd:h.getD i bz=x:=by rw[afr,hx];rfl
 obtain⟨o1,o2⟩:=hok.2 x (afs hx);obtain⟨o3,o4⟩:=eF (ez hz);rw[hxd];generalize ak (z:Rat)=Z at *;obtain⟨⟨a1,a2⟩,⟨a3,a4⟩⟩:=Z;obtain⟨⟨b1,b2⟩,⟨b3,b4⟩⟩:=x;have hcp:=oU b1 b2 b3 b4 a1 a2 a3 a4 ⟨o1,o2,o3,o4⟩;simp only[ad] at hw;simp only[go_sem,go_sem_proc,afl,bo,aw,hw,hx,hcp,ad,aft,afu]
 repeat' (first|refine qS ?_ ?_|fail)<;>intro h<;>simp only[h,go_sem,go_sem_proc,afl,bo,aw,hw,hx,hcp,ad,aft,afu]
noncomputable def oF:List Data→Option PRes:=FF (α:=Int) (fun (x:Int)=>([.int .i64 x]:List Data)) (fun (x:Int)=>some (.same (.bool (dt x))))
theorem vJ:∀ a b:Int,(fun (x:Int)=>([.int .i64 x]:List Data)) a=(fun (x:Int)=>([.int .i64 x]:List Data)) b→a=b:=by
  intro x1 x2 h;simp only[List.cons.injEq,Data.int.injEq,Data.agg.injEq,Data.sl.injEq,Data.bool.injEq,Data.str.injEq,Data.ptr.injEq,Data.tup.injEq,Prod.mk.injEq,true_and,and_true] at h ⊢
  first | exact h | simpa [afk,and_assoc] using h | grind
@[go_sem] theorem Lt (x:Int):oF [.int .i64 x]=some (.same (.bool (dt x))):=aV vJ x
theorem EZ (T:Tab)  (x:Int) :
  wp T mf_rescue_amount.body (bG mf_rescue_amount.res (.same (.bool (dt x)))) ⟨ax [.dat (.int .i64 x)],emp⟩:=by
 refine ap ?_;simp only[mf_rescue_amount];unfold dt;rcases c1:decide (0≤x)
 ·have c2:decide (x≥0)=false:=c1
  refine qI ?_
  repeat' (intro h<;>simp only[h,go_sem,go_sem_proc,afl,c1,c2,afm]<;>try refine qS ?_ ?_)
 ·have c2:decide (x≥0)=true:=c1
  refine qI ?_
  repeat' (intro h<;>simp only[h,go_sem,go_sem_proc,afl,c1,c2,afn]<;>try refine qS ?_ ?_)
noncomputable def y0:List Data→Option PRes:=FF (α:=Int) (fun (x:Int)=>([.int .i64 x]:List Data)) (fun (x:Int)=>some (.same (.bool (!dt x))))
theorem zy:∀ a b:Int,(fun (x:Int)=>([.int .i64 x]:List Data)) a=(fun (x:Int)=>([.int .i64 x]:List Data)) b→a=b:=by
  intro x1 x2 h;simp only[List.cons.injEq,Data.int.injEq,Data.agg.injEq,Data.sl.injEq,Data.bool.injEq,Data.str.injEq,Data.ptr.injEq,Data.tup.injEq,Prod.mk.injEq,true_and,and_true] at h ⊢
  first | exact h | simpa [afk,and_assoc] using h | grind
@[go_sem] theorem OG (x:Int):y0 [.int .i64 x]=some (.same (.bool (!dt x))):=aV zy x
theorem LK (T:Tab) (l9:T fo=mkE oF) (x:Int) :
  wp T mf_rescue_day_1.body (bG mf_rescue_day_1.res (.same (.bool (!dt x)))) ⟨ax [.dat (.int .i64 x)],emp⟩:=by
 refine ap ?_;simp only[mf_rescue_day_1];refine qI ?_
 repeat' (intro h<;>simp only[h,go_sem,go_sem_proc,afl,l9]<;>try refine qS ?_ ?_)
inductive ss where
 | right
 | day
 | solve (h:List aU) (i:Nat)
def l6:ss→Data
 | .right => .fn fa [.ptr [.fn bn []]]
 | .day => .fn fM []
 | .solve h i => .fn fb [.ptr [.sl (h.map ad)],.ptr [.int .i64 i]]
theorem BN:∀ a b:ss,l6 a=l6 b→a=b:=by
 rintro (_ | _ | ⟨h,i⟩) (_ | _ | ⟨h',i'⟩) e
 all_goals first | rfl | (simp [l6,fa,fM,fb] at e;done) | skip
 simp only[l6,Data.fn.injEq,List.cons.injEq,Data.ptr.injEq,Data.sl.injEq,Data.int.injEq,and_true,true_and] at e;rw[af eX _ _ e.1,show i=i' by omega]
def pdI:ss→Int→Bool
 | .right,x => !dt x
 | .day,x => !dt x
 | .solve h i,x=>decide (pe (h.getD i bz) (ak (x:Rat))<0)
def okI (l:List Int):ss→Prop
 | .right=>True
 | .day=>True
 | .solve h i=>i<h.length∧okL h∧∀ x∈l,ca x
noncomputable def oA:List Data→Option PRes:=FF (α:=(List Int) × ss) (fun (l,c)=>([.sl (l.map aa),l6 c]:List Data)) (fun (l,c)=>aG (l.length≤1000000∧okI l c) (.same (.int .i64 (mn (pdI c) l))))
theorem BH:∀ a b:(List Int) × ss,(fun (l,c)=>([.sl (l.map aa),l6 c]:List Data)) a=(fun (l,c)=>([.sl (l.map aa),l6 c]:List Data)) b→a=b:=by
  rintro⟨l1,c1⟩ ⟨l2,c2⟩ h;simp only[List.cons.injEq,Data.sl.injEq,and_true] at h;exact afp (af ai _ _ h.1) (BN _ _ h.2)
@[go_sem] theorem CL (l:List Int) (c:ss) (hc:l.length≤1000000∧okI l c):oA [.sl (l.map aa),l6 c]=some (.same (.int .i64 (mn (pdI c) l))):=(aV BH (l,c)).trans (an hc _)
theorem KU (T:Tab) (fq:T fa=mkE Kf) (cD:T fM=mkE y0) (bI:T fb=mkE rU) (l:List Int) (c:ss) (hc:l.length≤1000000∧okI l c) :
  wp T mf_slices_IndexFunc_int.body (bG mf_slices_IndexFunc_int.res (.same (.int .i64 (mn (pdI c) l)))) ⟨ax [.dat (.sl (l.map aa)),.dat (l6 c)],emp⟩:=by
 refine ap ?_;simp only[mf_slices_IndexFunc_int];obtain⟨hl,hok⟩:=hc
 cases c with
 | right =>
  simp only[go_sem,go_sem_proc,afl,fq,cD,bI,l6,aft];refine ae [0,1,7] [] (fun (i:Nat) tm mem=>i≤l.length∧(∀ x∈l.take i,pdI .right x=false)∧tm 8 = .dat (.int .i64 i)) (fun i=>l.length-i) 0 (by refine⟨afv _,by simp,rfl⟩) ?_;intro vs ms hvs hms;simp only[go_sem,go_sem_proc,afl,fq,cD,bI,aft] at hvs hms;subst hvs hms;rintro i tm mem hk hm ⟨hi,hall,h8⟩;simp only[go_sem,go_sem_proc,afl,fq,cD,bI,List.cons.injEq] at hk hm;obtain⟨h0,h1,h7⟩:=hk;rcases afw (i<l.length) with hlt | hge
  ·have hx:=afq hlt
   have hat:=fun h=>li (p:=pdI .right) hall hx h
   have hnx:=fun h=>eO (p:=pdI .right) hall hx h
   generalize l[i]=x at *;have hlt':decide ((i:Int)<(l.length:Int))=true:=decide_eq_true (by omega);have hw:IntKind.i64.wrap ((i:Int)+1)=((i+1:Nat):Int):=by rw[aj _ (by omega) (by omega)];omega
   rcases hb:pdI .right x
   ·have hr:dt x=true:=by simpa [pdI] using hb
    simp only[go_sem,go_sem_proc,afl,fq,cD,bI,h0,h1,h7,h8,hx,hlt',hw,hr,aa,aft,afu,afx]
    repeat' (first|refine qS ?_ ?_|fail)<;>intro h<;>simp only[h,go_sem,go_sem_proc,afl,fq,cD,bI,h0,h1,h7,h8,hx,hlt',hw,hr,aa,aft,afu,afx]
    exact⟨i+1,by omega,by omega,hnx hb,rfl⟩
   ·have hr:dt x=false:=by simpa [pdI] using hb
    rw[hat hb];simp only[go_sem,go_sem_proc,afl,fq,cD,bI,h0,h1,h7,h8,hx,hlt',hw,hr,aa,aft,afu,afy]
    repeat' (first|refine qS ?_ ?_|fail)<;>intro h<;>simp only[h,go_sem,go_sem_proc,afl,fq,cD,bI,h0,h1,h7,h8,hx,hlt',hw,hr,aa,aft,afu,afy]
  ·have hlt':decide ((i:Int)<(l.length:Int))=false:=decide_eq_false (by omega)
   obtain rfl:i=l.length:=by omega
   rw[afz] at hall;rw[jq hall];simp only[go_sem,go_sem_proc,afl,fq,cD,bI,h0,h1,h7,h8,hlt',aft]
   repeat' (first|refine qS ?_ ?_|fail)<;>intro h<;>simp only[h,go_sem,go_sem_proc,afl,fq,cD,bI,h0,h1,h7,h8,hlt',aft]
 | day =>
  simp only[go_sem,go_sem_proc,afl,fq,cD,bI,l6,aft];refine ae [0,1,7] [] (fun (i:Nat) tm mem=>i≤l.length∧(∀ x∈l.take i,pdI .day x=false)∧tm 8 = .dat (.int .i64 i)) (fun i=>l.length-i) 0 (by refine⟨afv _,by simp,rfl⟩) ?_;intro vs ms hvs hms;simp only[go_sem,go_sem_proc,afl,fq,cD,bI,aft] at hvs hms;subst hvs hms;rintro i tm mem hk hm ⟨hi,hall,h8⟩;simp only[go_sem,go_sem_proc,afl,fq,cD,bI,List.cons.injEq] at hk hm;obtain⟨h0,h1,h7⟩:=hk;rcases afw (i<l.length) with hlt | hge
  ·have hx:=afq hlt
   have hat:=fun h=>li (p:=pdI .day) hall hx h
   have hnx:=fun h=>eO (p:=pdI .day) hall hx h
   generalize l[i]=x at *;have hlt':decide ((i:Int)<(l.length:Int))=true:=decide_eq_true (by omega);have hw:IntKind.i64.wrap ((i:Int)+1)=((i+1:Nat):Int):=by rw[aj _ (by omega) (by omega)];omega
   rcases hb:pdI .day x
   ·have hr:dt x=true:=by simpa [pdI] using hb
    simp only[go_sem,go_sem_proc,afl,fq,cD,bI,h0,h1,h7,h8,hx,hlt',hw,hr,aa,aft,afu,afx]
    repeat' (first|refine qS ?_ ?_|fail)<;>intro h<;>simp only[h,go_sem,go_sem_proc,afl,fq,cD,bI,h0,h1,h7,h8,hx,hlt',hw,hr,aa,aft,afu,afx]
    exact⟨i+1,by omega,by omega,hnx hb,rfl⟩
   ·have hr:dt x=false:=by simpa [pdI] using hb
    rw[hat hb];simp only[go_sem,go_sem_proc,afl,fq,cD,bI,h0,h1,h7,h8,hx,hlt',hw,hr,aa,aft,afu,afy]
    repeat' (first|refine qS ?_ ?_|fail)<;>intro h<;>simp only[h,go_sem,go_sem_proc,afl,fq,cD,bI,h0,h1,h7,h8,hx,hlt',hw,hr,aa,aft,afu,afy]
  ·have hlt':decide ((i:Int)<(l.length:Int))=false:=decide_eq_false (by omega)
   obtain rfl:i=l.length:=by omega
   rw[afz] at hall;rw[jq hall];simp only[go_sem,go_sem_proc,afl,fq,cD,bI,h0,h1,h7,h8,hlt',aft]
   repeat' (first|refine qS ?_ ?_|fail)<;>intro h<;>simp only[h,go_sem,go_sem_proc,afl,fq,cD,bI,h0,h1,h7,h8,hlt',aft]
 | solve h k =>
  obtain⟨hk0,hkl,hkz⟩:=hok;simp only[go_sem,go_sem_proc,afl,fq,cD,bI,l6,aft];refine ae [0,1,7] [] (fun (i:Nat) tm mem=>i≤l.length∧(∀ x∈l.take i,pdI (.solve h k) x=false)∧tm 8 = .dat (.int .i64 i)) (fun i=>l.length-i) 0 (by refine⟨afv _,by simp,rfl⟩) ?_;intro vs ms hvs hms;simp only[go_sem,go_sem_proc,afl,fq,cD,bI,aft] at hvs hms;subst hvs hms;rintro i tm mem hk hm ⟨hi,hall,h8⟩;simp only[go_sem,go_sem_proc,afl,fq,cD,bI,List.cons.injEq] at hk hm;obtain⟨h0,h1,h7⟩:=hk;rcases afw (i<l.length) with hlt | hge
  ·have hx:=afq hlt
   have hxz:=hkz _ (afA hlt);have hat:=fun hh=>li (p:=pdI (.solve h k)) hall hx hh
   have hnx:=fun hh=>eO (p:=pdI (.solve h k)) hall hx hh
   generalize l[i]=x at *;have hF:=y7 x h k ⟨hxz,hk0,hkl⟩;have hlt':decide ((i:Int)<(l.length:Int))=true:=decide_eq_true (by omega);have hw:IntKind.i64.wrap ((i:Int)+1)=((i+1:Nat):Int):=by rw[aj _ (by omega) (by omega)];omega
   rcases hb:pdI (.solve h k) x
   ·have hr:=hb
    simp only[pdI] at hr;rw[hr] at hF;simp only[go_sem,go_sem_proc,afl,fq,cD,bI,h0,h1,h7,h8,hx,hlt',hw,hF,aa,aft,afu]
    repeat' (first|refine qS ?_ ?_|fail)<;>intro h<;>simp only[h,go_sem,go_sem_proc,afl,fq,cD,bI,h0,h1,h7,h8,hx,hlt',hw,hF,aa,aft,afu]
    exact⟨i+1,by omega,by omega,hnx hb,rfl⟩
   ·have hr:=hb
    simp only[pdI] at hr;rw[hr] at hF;rw[hat hb];simp only[go_sem,go_sem_proc,afl,fq,cD,bI,h0,h1,h7,h8,hx,hlt',hw,hF,aa,aft,afu]
    repeat' (first|refine qS ?_ ?_|fail)<;>intro h<;>simp only[h,go_sem,go_sem_proc,afl,fq,cD,bI,h0,h1,h7,h8,hx,hlt',hw,hF,aa,aft,afu]
  ·have hlt':decide ((i:Int)<(l.length:Int))=false:=decide_eq_false (by omega)
   obtain rfl:i=l.length:=by omega
   rw[afz] at hall;rw[jq hall];simp only[go_sem,go_sem_proc,afl,fq,cD,bI,h0,h1,h7,h8,hlt',aft]
   repeat' (first|refine qS ?_ ?_|fail)<;>intro h<;>simp only[h,go_sem,go_sem_proc,afl,fq,cD,bI,h0,h1,h7,h8,hlt',aft]
noncomputable def qa:List Data→Option PRes:=FF (α:=(List Int) × ss) (fun (l,c)=>([.sl (l.map aa),l6 c]:List Data)) (fun (l,c)=>aG (l.length≤1000000∧okI l c) (.same (.bool (l.any (pdI c)))))
theorem xK:∀ a b:(List Int) × ss,(fun (l,c)=>([.sl (l.map aa),l6 c]:List Data)) a=(fun (l,c)=>([.sl (l.map aa),l6 c]:List Data)) b→a=b:=by
  rintro⟨l1,c1⟩ ⟨l2,c2⟩ h;simp only[List.cons.injEq,Data.sl.injEq,and_true] at h;exact afp (af ai _ _ h.1) (BN _ _ h.2)
@[go_sem] theorem si (l:List Int) (c:ss) (hc:l.length≤1000000∧okI l c):qa [.sl (l.map aa),l6 c]=some (.same (.bool (l.any (pdI c)))):=(aV xK (l,c)).trans (an hc _)
theorem Kr (T:Tab) (ew:T bX=mkE oA) (l:List Int) (c:ss) (hc:l.length≤1000000∧okI l c) :
  wp T mf_slices_ContainsFunc_int.body (bG mf_slices_ContainsFunc_int.res (.same (.bool (l.any (pdI c))))) ⟨ax [.dat (.sl (l.map aa)),.dat (l6 c)],emp⟩:=by
 refine ap ?_;simp only[mf_slices_ContainsFunc_int];rw[←pI];refine qI ?_
 repeat' (intro h<;>simp only[h,go_sem,go_sem_proc,afl,ew,hc]<;>try refine qS ?_ ?_)
noncomputable def yZ:List Data→Option PRes:=FF (α:=Int × Int × Int × Int × (List Int)) (fun (a,b,k,x,cash)=>([.agg [.int .i64 a,.int .i64 b,.int .i64 k,.int .i64 x],.ptr [.sl (cash.map aa)]]:List Data)) (fun (a,b,k,x,cash)=>aG (cash.length≤1000000) (.same (.bool (!dW cash.length (a,b,k,x)))))
theorem AU:∀ a b:Int × Int × Int × Int × (List Int),(fun (a,b,k,x,cash)=>([.agg [.int .i64 a,.int .i64 b,.int .i64 k,.int .i64 x],.ptr [.sl (cash.map aa)]]:List Data)) a=(fun (a,b,k,x,cash)=>([.agg [.int .i64 a,.int .i64 b,.int .i64 k,.int .i64 x],.ptr [.sl (cash.map aa)]]:List Data)) b→a=b:=by
  rintro⟨a1,b1,k1,x1,cash1⟩ ⟨a2,b2,k2,x2,cash2⟩ h;simp only[List.cons.injEq,Data.agg.injEq,Data.int.injEq,Data.ptr.injEq,Data.sl.injEq,and_true,true_and] at h;obtain⟨⟨h1,h2,h3,h4⟩,h5⟩:=h;rw[h1,h2,h3,h4,af ai _ _ h5]
@[go_sem] theorem NH (a:Int) (b:Int) (k:Int) (x:Int) (cash:List Int) (hc:cash.length≤1000000):yZ [.agg [.int .i64 a,.int .i64 b,.int .i64 k,.int .i64 x],.ptr [.sl (cash.map aa)]]=some (.same (.bool (!dW cash.length (a,b,k,x)))):=(aV AU (a,b,k,x,cash)).trans (an hc _)
theorem LR (T:Tab) (l9:T fo=mkE oF) (a:Int) (b:Int) (k:Int) (x:Int) (cash:List Int) (hc:cash.length≤1000000) :
  wp T mf_rescue_day_2.body (bG mf_rescue_day_2.res (.same (.bool (!dW cash.length (a,b,k,x))))) ⟨ax [.dat (.agg [.int .i64 a,.int .i64 b,.int .i64 k,.int .i64 x]),.dat (.ptr [.sl (cash.map aa)])],emp⟩:=by
 refine ap ?_;simp only[mf_rescue_day_2]
 by_cases hr:dW cash.length (a,b,k,x)=true
 ·have hr':=rightC_iff.1 hr
  dsimp only at hr';have c1:decide (a<0)=false:=decide_eq_false (by omega);have c2:decide (a≥(cash.length:Int))=false:=decide_eq_false (by omega);have c3:decide (b < -1)=false:=decide_eq_false (by omega);have c4:decide (b≥(cash.length:Int))=false:=decide_eq_false (by omega);have c5:decide (k<0)=false:=decide_eq_false (by omega);have c6:decide (k≥10)=false:=decide_eq_false (by omega);have c7:dt x=true:=rightM_iff.2 (by omega);refine qI ?_
  repeat' (intro h<;>simp only[h,go_sem,go_sem_proc,afl,l9,hr,c1,c2,c3,c4,c5,c6,c7,aft,afx]<;>try refine qS ?_ ?_)
 ·have hf:dW cash.length (a,b,k,x)=false:=by simpa using hr
  rw[rightC_iff] at hr;dsimp only at hr;rcases c7:dt x
  ·refine qI ?_
   repeat' (intro h<;>simp only[h,go_sem,go_sem_proc,afl,l9,hf,c7,aft,afx,afy]<;>try refine qS ?_ ?_)
  ·have c7':=rightM_iff.1 c7
   refine qI ?_
   repeat' (intro h<;>simp only[h,go_sem,go_sem_proc,afl,l9,hf,c7,aft,afx,afy]<;>try refine qS ?_ ?_)
   all_goals (exfalso;simp only[decide_eq_false_iff_not] at *;omega)
inductive re where
 | right (n:Int)
 | day (cash:List Int)
def ne:re→Data
 | .right n => .fn fe [.ptr [.fn bn []],.ptr [.int .i64 n]]
 | .day cash => .fn fN [.ptr [.sl (cash.map aa)]]
theorem Bq:∀ a b:re,ne a=ne b→a=b:=by
 rintro (n | c) (n' | c') e
 all_goals first | (simp [ne,fe,fN] at e;done) | skip
 ·simp only[ne,Data.fn.injEq,List.cons.injEq,Data.ptr.injEq,Data.int.injEq,and_true,true_and] at e
  rw[e]
 ·simp only[ne,Data.fn.injEq,List.cons.injEq,Data.ptr.injEq,Data.sl.injEq,and_true,true_and] at e
  rw[af ai _ _ e]
def BY:re→Int
 | .right n=>n
 | .day cash=>cash.length
def pdC (c:re) (x:ClR):Bool:=!dW (BY c) x
def okC (c:re):Prop:=0≤BY c∧BY c≤1000000
noncomputable def rR:List Data→Option PRes:=FF (α:=(List ClR) × re) (fun (l,c)=>([.sl (l.map clL),ne c]:List Data)) (fun (l,c)=>aG (l.length≤1000000∧okC c) (.same (.int .i64 (mn (pdC c) l))))
theorem vv:∀ a b:(List ClR) × re,(fun (l,c)=>([.sl (l.map clL),ne c]:List Data)) a=(fun (l,c)=>([.sl (l.map clL),ne c]:List Data)) b→a=b:=by
  rintro⟨l1,c1⟩ ⟨l2,c2⟩ h;simp only[List.cons.injEq,Data.sl.injEq,and_true] at h;exact afp (af fZ _ _ h.1) (Bq _ _ h.2)
@[go_sem] theorem LX (l:List ClR) (c:re) (hc:l.length≤1000000∧okC c):rR [.sl (l.map clL),ne c]=some (.same (.int .i64 (mn (pdC c) l))):=(aV vv (l,c)).trans (an hc _)
theorem E4 (T:Tab) (jc:T fe=mkE Kb) (en:T fN=mkE yZ) (l:List ClR) (c:re) (hc:l.length≤1000000∧okC c) :
  wp T mf_slices_IndexFunc_Claim.body (bG mf_slices_IndexFunc_Claim.res (.same (.int .i64 (mn (pdC c) l)))) ⟨ax [.dat (.sl (l.map clL)),.dat (ne c)],emp⟩:=by
 refine ap ?_;simp only[mf_slices_IndexFunc_Claim];obtain⟨hl,hok⟩:=hc
 cases c with
 | right n =>
  have hn:0≤n∧n≤1000000:=hok;simp only[go_sem,go_sem_proc,afl,jc,en,ne,aft];refine ae [0,1,7] [] (fun (i:Nat) tm mem=>i≤l.length∧(∀ x∈l.take i,pdC (.right n) x=false)∧tm 8 = .dat (.int .i64 i)) (fun i=>l.length-i) 0 (by refine⟨afv _,by simp,rfl⟩) ?_;intro vs ms hvs hms;simp only[go_sem,go_sem_proc,afl,jc,en,aft] at hvs hms;subst hvs hms;rintro i tm mem hk hm ⟨hi,hall,h8⟩;simp only[go_sem,go_sem_proc,afl,jc,en,List.cons.injEq] at hk hm;obtain⟨h0,h1,h7⟩:=hk;rcases afw (i<l.length) with hlt | hge
  ·have hx:=afq hlt
   have hat:=fun h=>li (p:=pdC (.right n)) hall hx h
   have hnx:=fun h=>eO (p:=pdC (.right n)) hall hx h
   generalize l[i]=x at *;obtain⟨a,b,k,z⟩:=x;have hlt':decide ((i:Int)<(l.length:Int))=true:=decide_eq_true (by omega);have hw:IntKind.i64.wrap ((i:Int)+1)=((i+1:Nat):Int):=by rw[aj _ (by omega) (by omega)];omega
   rcases hb:pdC (.right n) (a,b,k,z)
   ·have hr:dW n (a,b,k,z)=true:=by simpa [pdC,BY] using hb
    simp only[go_sem,go_sem_proc,afl,jc,en,h0,h1,h7,h8,hx,hlt',hw,hr,hn,clL,aft,afu,afx]
    repeat' (first|refine qS ?_ ?_|fail)<;>intro h<;>simp only[h,go_sem,go_sem_proc,afl,jc,en,h0,h1,h7,h8,hx,hlt',hw,hr,hn,clL,aft,afu,afx]
    exact⟨i+1,by omega,by omega,hnx hb,rfl⟩
   ·have hr:dW n (a,b,k,z)=false:=by simpa [pdC,BY] using hb
    rw[hat hb];simp only[go_sem,go_sem_proc,afl,jc,en,h0,h1,h7,h8,hx,hlt',hw,hr,hn,clL,aft,afu,afy]
    repeat' (first|refine qS ?_ ?_|fail)<;>intro h<;>simp only[h,go_sem,go_sem_proc,afl,jc,en,h0,h1,h7,h8,hx,hlt',hw,hr,hn,clL,aft,afu,afy]
  ·have hlt':decide ((i:Int)<(l.length:Int))=false:=decide_eq_false (by omega)
   obtain rfl:i=l.length:=by omega
   rw[afz] at hall;rw[jq hall];simp only[go_sem,go_sem_proc,afl,jc,en,h0,h1,h7,h8,hlt',aft]
   repeat' (first|refine qS ?_ ?_|fail)<;>intro h<;>simp only[h,go_sem,go_sem_proc,afl,jc,en,h0,h1,h7,h8,hlt',aft]
 | day cash =>
  have hn:cash.length≤1000000:=by have h:(cash.length:Int)≤1000000:=hok.2;omega
  simp only[go_sem,go_sem_proc,afl,jc,en,ne,aft];refine ae [0,1,7] [] (fun (i:Nat) tm mem=>i≤l.length∧(∀ x∈l.take i,pdC (.day cash) x=false)∧tm 8 = .dat (.int .i64 i)) (fun i=>l.length-i) 0 (by refine⟨afv _,by simp,rfl⟩) ?_;intro vs ms hvs hms;simp only[go_sem,go_sem_proc,afl,jc,en,aft] at hvs hms;subst hvs hms;rintro i tm mem hk hm ⟨hi,hall,h8⟩;simp only[go_sem,go_sem_proc,afl,jc,en,List.cons.injEq] at hk hm;obtain⟨h0,h1,h7⟩:=hk;rcases afw (i<l.length) with hlt | hge
  ·have hx:=afq hlt
   have hat:=fun h=>li (p:=pdC (.day cash)) hall hx h
   have hnx:=fun h=>eO (p:=pdC (.day cash)) hall hx h
   generalize l[i]=x at *;obtain⟨a,b,k,z⟩:=x;have hlt':decide ((i:Int)<(l.length:Int))=true:=decide_eq_true (by omega);have hw:IntKind.i64.wrap ((i:Int)+1)=((i+1:Nat):Int):=by rw[aj _ (by omega) (by omega)];omega
   rcases hb:pdC (.day cash) (a,b,k,z)
   ·have hr:dW cash.length (a,b,k,z)=true:=by simpa [pdC,BY] using hb
    simp only[go_sem,go_sem_proc,afl,jc,en,h0,h1,h7,h8,hx,hlt',hw,hr,hn,clL,aft,afu,afx]
    repeat' (first|refine qS ?_ ?_|fail)<;>intro h<;>simp only[h,go_sem,go_sem_proc,afl,jc,en,h0,h1,h7,h8,hx,hlt',hw,hr,hn,clL,aft,afu,afx]
    exact⟨i+1,by omega,by omega,hnx hb,rfl⟩
   ·have hr:dW cash.length (a,b,k,z)=false:=by simpa [pdC,BY] using hb
    rw[hat hb];simp only[go_sem,go_sem_proc,afl,jc,en,h0,h1,h7,h8,hx,hlt',hw,hr,hn,clL,aft,afu,afy]
    repeat' (first|refine qS ?_ ?_|fail)<;>intro h<;>simp only[h,go_sem,go_sem_proc,afl,jc,en,h0,h1,h7,h8,hx,hlt',hw,hr,hn,clL,aft,afu,afy]
  ·have hlt':decide ((i:Int)<(l.length:Int))=false:=decide_eq_false (by omega)
   obtain rfl:i=l.length:=by omega
   rw[afz] at hall;rw[jq hall];simp only[go_sem,go_sem_proc,afl,jc,en,h0,h1,h7,h8,hlt',aft]
   repeat' (first|refine qS ?_ ?_|fail)<;>intro h<;>simp only[h,go_sem,go_sem_proc,afl,jc,en,h0,h1,h7,h8,hlt',aft]
noncomputable def mL:List Data→Option PRes:=FF (α:=(List ClR) × re) (fun (l,c)=>([.sl (l.map clL),ne c]:List Data)) (fun (l,c)=>aG (l.length≤1000000∧okC c) (.same (.bool (l.any (pdC c)))))
theorem sV:∀ a b:(List ClR) × re,(fun (l,c)=>([.sl (l.map clL),ne c]:List Data)) a=(fun (l,c)=>([.sl (l.map clL),ne c]:List Data)) b→a=b:=by
  rintro⟨l1,c1⟩ ⟨l2,c2⟩ h;simp only[List.cons.injEq,Data.sl.injEq,and_true] at h;exact afp (af fZ _ _ h.1) (Bq _ _ h.2)
@[go_sem] theorem oW (l:List ClR) (c:re) (hc:l.length≤1000000∧okC c):mL [.sl (l.map clL),ne c]=some (.same (.bool (l.any (pdC c)))):=(aV sV (l,c)).trans (an hc _)
theorem Cp (T:Tab) (Fe:T eD=mkE rR) (l:List ClR) (c:re) (hc:l.length≤1000000∧okC c) :
  wp T mf_slices_ContainsFunc_Claim.body (bG mf_slices_ContainsFunc_Claim.res (.same (.bool (l.any (pdC c))))) ⟨ax [.dat (.sl (l.map clL)),.dat (ne c)],emp⟩:=by
 refine ap ?_;simp only[mf_slices_ContainsFunc_Claim];rw[←pI];refine qI ?_
 repeat' (intro h<;>simp only[h,go_sem,go_sem_proc,afl,Fe,hc]<;>try refine qS ?_ ?_)
theorem sI {α:Type} (l:List α) (p:α→Bool):l.any (fun x => !p x) = !l.all p:=by
 induction l with
 | nil=>rfl
 | cons a l ih=>rw[List.any_cons,List.all_cons,ih];cases p a<;>rfl
noncomputable def ti:List Data→Option PRes:=FF (α:=(List Int) × (List ClR)) (fun (cash,cs)=>([.sl (cash.map aa),.sl (cs.map clL)]:List Data)) (fun (cash,cs)=>aG (cash.length≤1000000∧cs.length≤1000000) (.same (.bool (cE cash cs))))
theorem yl:∀ a b:(List Int) × (List ClR),(fun (cash,cs)=>([.sl (cash.map aa),.sl (cs.map clL)]:List Data)) a=(fun (cash,cs)=>([.sl (cash.map aa),.sl (cs.map clL)]:List Data)) b→a=b:=by
  rintro⟨cash1,cs1⟩ ⟨cash2,cs2⟩ h;simp only[List.cons.injEq,Data.sl.injEq,and_true] at h;exact afp (af ai _ _ h.1) (af fZ _ _ h.2)
@[go_sem] theorem Nw (cash:List Int) (cs:List ClR) (hc:cash.length≤1000000∧cs.length≤1000000):ti [.sl (cash.map aa),.sl (cs.map clL)]=some (.same (.bool (cE cash cs))):=(aV yl (cash,cs)).trans (an hc _)
theorem JU (T:Tab) (tt:T cA=mkE qa) (pm:T cp=mkE mL) (cash:List Int) (cs:List ClR) (hc:cash.length≤1000000∧cs.length≤1000000) :
  wp T mf_clear_right.body (bG mf_clear_right.res (.same (.bool (cE cash cs)))) ⟨ax [.dat (.sl (cash.map aa)),.dat (.sl (cs.map clL))],emp⟩:=by
 refine ap ?_;simp only[mf_clear_right];obtain⟨h1,h2⟩:=hc;rw[uz];have hA:=si cash .right ⟨h1,trivial⟩;have hB:=oW cs (.right cash.length) ⟨h2,by show (0:Int)≤(cash.length:Int);omega,by show (cash.length:Int)≤1000000;omega⟩
 have e1:cash.any (pdI .right) = !cash.all dt:=sI cash dt;have e2:cs.any (pdC (.right cash.length)) = !cs.all (dW cash.length):=sI cs _;rw[e1] at hA;rw[e2] at hB;simp only[l6] at hA;simp only[ne] at hB;have d1:decide (cash.length≤60)=decide ((cash.length:Int)≤60):=by rw[afo,decide_eq_true_iff,decide_eq_true_iff];omega
 have d2:decide (cs.length≤2000)=decide ((cs.length:Int)≤2000):=by rw[afo,decide_eq_true_iff,decide_eq_true_iff];omega
 rw[d1,d2];rcases q1:decide ((cash.length:Int)≤60)<;>rcases q2:decide ((cs.length:Int)≤2000)<;>rcases q3:cash.all dt<;>rcases q4:cs.all (dW cash.length)
 all_goals rw[q3] at hA
 all_goals rw[q4] at hB
 all_goals
      refine qI ?_
      repeat' (intro h<;>simp only[h,go_sem,go_sem_proc,afl,tt,pm,hA,hB,q1,q2,aft,afx,afy,afB,afC,toD,oS,afD,scalar]<;>try refine qS ?_ ?_)
noncomputable def Dv:List Data→Option PRes:=FF (α:=(List Int) × (List ClR)) (fun (cash,cs)=>([.sl (cash.map aa),.sl (cs.map clL)]:List Data)) (fun (cash,cs)=>aG (cash.length≤1000000∧cs.length≤1000000) (.same (.bool (cE cash cs))))
theorem Dt:∀ a b:(List Int) × (List ClR),(fun (cash,cs)=>([.sl (cash.map aa),.sl (cs.map clL)]:List Data)) a=(fun (cash,cs)=>([.sl (cash.map aa),.sl (cs.map clL)]:List Data)) b→a=b:=by
  rintro⟨cash1,cs1⟩ ⟨cash2,cs2⟩ h;simp only[List.cons.injEq,Data.sl.injEq,and_true] at h;exact afp (af ai _ _ h.1) (af fZ _ _ h.2)
@[go_sem] theorem FI (cash:List Int) (cs:List ClR) (hc:cash.length≤1000000∧cs.length≤1000000):Dv [.sl (cash.map aa),.sl (cs.map clL)]=some (.same (.bool (cE cash cs))):=(aV Dt (cash,cs)).trans (an hc _)
theorem Ox (T:Tab) (tt:T cA=mkE qa) (pm:T cp=mkE mL) (cash:List Int) (cs:List ClR) (hc:cash.length≤1000000∧cs.length≤1000000) :
  wp T mf_rescue_day.body (bG mf_rescue_day.res (.same (.bool (cE cash cs)))) ⟨ax [.dat (.sl (cash.map aa)),.dat (.sl (cs.map clL))],emp⟩:=by
 refine ap ?_;simp only[mf_rescue_day];obtain⟨h1,h2⟩:=hc;rw[uz];have hA:=si cash .day ⟨h1,trivial⟩;have hB:=oW cs (.day cash) ⟨h2,by show (0:Int)≤(cash.length:Int);omega,by show (cash.length:Int)≤1000000;omega⟩
 have e1:cash.any (pdI .day) = !cash.all dt:=sI cash dt;have e2:cs.any (pdC (.day cash)) = !cs.all (dW cash.length):=sI cs _;rw[e1] at hA;rw[e2] at hB;simp only[l6] at hA;simp only[ne] at hB;have d1:decide (cash.length≤60) = !decide ((cash.length:Int)>60):=by rw[afo,decide_eq_true_iff,afE,decide_eq_false_iff_not];omega
 have d2:decide (cs.length≤2000) = !decide ((cs.length:Int)>2000):=by rw[afo,decide_eq_true_iff,afE,decide_eq_false_iff_not];omega
 rw[d1,d2];rcases q1:decide ((cash.length:Int)>60)<;>rcases q2:decide ((cs.length:Int)>2000)<;>rcases q3:cash.all dt<;>rcases q4:cs.all (dW cash.length)
 all_goals rw[q3] at hA
 all_goals rw[q4] at hB
 all_goals
      refine qI ?_
      repeat' (intro h<;>simp only[h,go_sem,go_sem_proc,afl,tt,pm,hA,hB,q1,q2,aft,afx,afy,afB,afC,toD,oS,afD,scalar]<;>try refine qS ?_ ?_)
set_option maxHeartbeats 4000000
structure DebA.Fine (a:DebA):Prop where
 sm:SmallD a.cash a.cs
 h10:∀ x∈a.fl,0≤x∧x≤10
theorem DebA.f_eq {a:DebA} {m:Mem} (h:a.At m) (hf:a.Fine) {i:Nat} (hi:i<a.cash.length):a.fl.getD i 10=(fOf a.fl i:Int)∧fOf a.fl i≤10:=by
 have hl:=h.fl
 have:a.fl.getD i 10∈a.fl:=by
  rw[afr,afq (by omega)];exact afA _
 have:=hf.h10 _ this;unfold fOf;omega
structure ShQ (x:DebA × Nat) (mem:Mem):Prop where
 at_:x.1.At mem
 no:NoK 255 mem
 fine:x.1.Fine
 lt:x.2<x.1.cash.length
 f10:fOf x.1.fl x.2<10
 S:0<(ab x.1.cash x.1.cs).S x.2 (fOf x.1.fl x.2)
noncomputable def shD (x:DebA × Nat):Data:=.tup [.sl ((bY x.1.cash.length fun i=>(ab x.1.cash x.1.cs).W (fOf x.1.fl) x.2 i).map ad),.bool true]
noncomputable def ow:List MV→Mem→Option Data:=NN (fun (x:DebA × Nat) args mem=>args=[.ptr (228500+x.2) (x.1.gs.getD x.2 0) 0,.dat (.int .i64 x.1.cash.length)]∧ShQ x mem) shD
theorem yX (a:DebA) (k:Nat) (mem:Mem) (h:ShQ (a,k) mem):ow [.ptr (228500+k) (a.gs.getD k 0) 0,.dat (.int .i64 a.cash.length)] mem=some (shD (a,k)):=by
 refine Hz (a:=(a,k)) ?_ ⟨rfl,h⟩;rintro⟨a,i⟩ ⟨b,j⟩ args mem ⟨e1,e2⟩ ⟨e3,e4⟩;obtain rfl:=DebA.uniq e2.at_ e4.at_;rw[e1] at e3;simp only[List.cons.injEq,MV.ptr.injEq,MV.dat.injEq,Data.int.injEq,true_and,and_true] at e3;have h1:228500+i=228500+j:=e3.1;have:i=j:=by omega
 rw[this]
theorem Iz (N:Nat) (F:aU):(afF N (ad F)).flatten.map MV.dat=ay ad (afF N F):=by
 unfold ay;rw[afG,List.map_flatten,afG]
theorem Hj (T:Tab) (bo:T bp=mkE fK) (FO:T fU=mkE rA) (gW:T eQ=mkE ud) (lB:T fy=mkE pn) (a:DebA) (k:Nat) (mem:Mem) (h:ShQ (a,k) mem) :
  wp T mf_clear_debtor_shares.body (pH mf_clear_debtor_shares.res fun m mem'=>toD 6 emp m=some (shD (a,k))∧FrK 255 mem mem') ⟨ax [.ptr (228500+k) (a.gs.getD k 0) 0,.dat (.int .i64 a.cash.length)],mem⟩:=by
 obtain⟨hat,hno,hfi,hk,hf10,hS⟩:=h;dsimp only at *;obtain⟨hs,h10⟩:=hfi;have hn:=hs.n5;have hb0:=hat.blk k hk;have hfe:=(DebA.f_eq hat ⟨hs,h10⟩ hk).1;have hok:=a.deb_ok k;have hlen:=jL hok;have qf:=BI hok;rw[show (a.deb k).f=(fOf a.fl k:Int) from hfe] at qf;have qc:=Ik (x:=a.deb k) (k:=fOf a.fl k) (l:=aT a.cs k (fOf a.fl k)) (cR _ hf10);have qu:=sT hok (k:=fOf a.fl k) (z:=aM a.cs k (fOf a.fl k:Nat)) (cR _ (by omega));have qu1:=sT hok (k:=fOf a.fl k+1) (z:=aM a.cs k (fOf a.fl k+1:Nat)) (cR _ (by omega));have hbig:∀ j,228500+k≠255000+j:=fun j=>by omega
 generalize dD (a.deb k)=DC at *;have hcw:=fz 0 qZ;have hz:bY a.cash.length (shP (ab a.cash a.cs) [])=afF a.cash.length (ak ((0:Int):Rat)):=(qB afH fun j hj=>by rw[List.getElem?_replicate,if_pos hj,Lo];rfl).symm;generalize hL:aT a.cs k (fOf a.fl k)=L at *;refine ap ?_;simp only[mf_clear_debtor_shares];have hKd:(228500+k) / 1000≠255:=by omega
 have h17:mem 255017=none:=hno 255017 (by decide);have hmem:=fun c (hc:c∈L)=>cell_mem.1 (hL ▸ hc:c∈aT a.cs k (fOf a.fl k))
 have hcw':=fun c (hc:c∈L)=>(y8 hs hS (hL ▸ hc:c∈aT a.cs k (fOf a.fl k))).2.2
 have hszs:=fun l i (hl:∃ l',L=l++l')=>Oq hs hS (l:=l) (by rw[hL];exact hl) i
 have hWe:=fun i=>OD hs.right (fOf a.fl) k i
 rw[hL] at hWe
 have hL12:L.length≤12:=by
  have h1:=afI (fun c:ClR=>c.1==(k:Int)&&c.2.2.1==(fOf a.fl k:Int)) a.cs;have h2:=hs.c12;rw[←hL];unfold aT;omega
 have hSI:(0:Int)<SI a.cs k (fOf a.fl k):=by
  have h1:=xL hs.right k (fOf a.fl k);rw[←h1] at hS;have:(0:Int)<aM a.cs k (fOf a.fl k+1:Nat)-aM a.cs k (fOf a.fl k):=by exact_mod_cast hS
  exact this
 have hSI2:SI a.cs k (fOf a.fl k)=aM a.cs k (fOf a.fl k+1:Nat)-aM a.cs k (fOf a.fl k:Nat):=rfl;have hu1:=hs.upto k (fOf a.fl k+1:Nat);have hu0:=hs.upto k (fOf a.fl k:Nat);have hright:=(rightD_iff.1 hs.right).2.2.2;generalize hK:228500+k=KK at *;have hKK:∀ j,KK≠255000+j:=fun j=>by omega
 have n9:(KK=255009)=False:=eq_false (hKK 9);have n10:(KK=255010)=False:=eq_false (hKK 10);have n12:(KK=255012)=False:=eq_false (hKK 12);have n17:(KK=255017)=False:=eq_false (hKK 17);have b9:(KK==255009)=false:=beq_eq_false_iff_ne.2 (hKK 9);have b10:(KK==255010)=false:=beq_eq_false_iff_ne.2 (hKK 10);have b12:(KK==255012)=false:=beq_eq_false_iff_ne.2 (hKK 12);have b17:(KK==255017)=false:=beq_eq_false_iff_ne.2 (hKK 17);have d9:(255009==KK)=false:=beq_eq_false_iff_ne.2 (hKK 9).symm;have d10:(255010==KK)=false:=beq_eq_false_iff_ne.2 (hKK 10).symm;have d12:(255012==KK)=false:=beq_eq_false_iff_ne.2 (hKK 12).symm;have d17:(255017==KK)=false:=beq_eq_false_iff_ne.2 (hKK 17).symm;have l1:fOf a.fl k+1<11:=by omega
 have l2:fOf a.fl k<11:=by omega
 have l3:(1+fOf a.fl k+1≤24)=True:=eq_true (by omega);have l4:(11+fOf a.fl k+1≤24)=True:=eq_true (by omega);have l5:(11+(fOf a.fl k+1)+1≤24)=True:=eq_true (by omega);have wf:IntKind.i64.wrap ((fOf a.fl k:Int)+1)=((fOf a.fl k+1:Nat):Int):=by rw[aj _ (by omega) (by omega)];omega
 have hb1:=hb0;generalize hU1:aM a.cs k (fOf a.fl k+1:Nat)=U1 at *;generalize hU0:aM a.cs k (fOf a.fl k:Nat)=U0 at *;generalize hF0:fOf a.fl k=F0 at *;generalize hZ:ak ((0:Int):Rat)=Z at *;obtain⟨⟨z1,z2⟩,⟨z3,z4⟩⟩:=Z;have hrp:=yy z1 z2 z3 z4 a.cash.length (by omega);have hfold:=Iz a.cash.length ((z1,z2),(z3,z4));simp only[ad] at hcw hrp hfold;have hcl:=Eq L;simp only[go_sem,go_sem_proc,afl] at hcl;simp only[go_sem,go_sem_proc,afl,bo,hcw,FO,hrp,hfold,hb0,hlen,hf10,qf,qc,n17,l3,h17,iC,afJ,hcl,afH]
 refine ae [0,6,26,27] [] (fun (j:Nat) tm m=>j≤L.length∧tm 28 = .dat (.int .i64 j)∧tm 7 = .dat (.bool true)∧m 255017=some (0,ay ad (bY a.cash.length (shP (ab a.cash a.cs) (L.take j))))∧FrK 255 mem m) (fun j=>L.length-j) 0 (by
  refine⟨by omega,rfl,rfl,?_,(FrK.refl _ _).upd (by decide)⟩
  rw[afK,hz];simp [aA,h17,cL]) ?_
 intro vs ms hvs hms;simp only[go_sem,go_sem_proc,afl] at hvs hms;subst hvs hms;clear hcw hrp hfold hb0;rintro j tm m hk-⟨hj,e28,e7,m17,hfr⟩;simp only[go_sem,go_sem_proc,afl,List.cons.injEq] at hk;obtain⟨e0,e6,e26,e27⟩:=hk;have hb:=(hfr KK hKd).trans hb1;rcases afw (j<L.length) with hlt | hge
 ·have d1:decide ((j:Int)<(L.length:Int))=true:=decide_eq_true (by omega)
  have w3:IntKind.i64.wrap ((j:Int)+1)=((j+1:Nat):Int):=by rw[aj _ (by omega) (by omega)];omega
  obtain⟨⟨c1,c2,c3,c4⟩,hx⟩:∃ c,L[j]?=some c:=⟨_,afq hlt⟩;have hxm:=afs hx;have hrc:=hright _ (hmem _ hxm).1;dsimp only at hrc;have hia:=Ew hx;simp only[go_sem,go_sem_proc,afl] at hia;have htk:L.take (j+1)=L.take j++[(c1,c2,c3,c4)]:=by rw[afL,hx];rfl
  rcases q:decide (c2<0)
  ·have hc2:0≤c2:=by have:=of_decide_eq_false q;omega
   obtain⟨t,rfl⟩:∃ t:Nat,c2=(t:Int):=⟨c2.toNat,by omega⟩
   have hw:=hcw' _ hxm;dsimp only at hw;have hnew:=Jj (p:=c4) (q:=SI a.cs k F0) (gw (by omega) (by omega)) (gw (by omega) (by omega)) (by omega);rw[←hw] at hnew;have hof:=Ai c4 (SI a.cs k F0) ⟨gw (by omega) (by omega),gw (by omega) (by omega)⟩;rw[hnew] at hof;have z1:=hszs (L.take j) t ⟨L.drop j,(afM j L).symm⟩;have z2:=SR hs (hmem _ hxm).1;have hadd:=Em (dU z1 (by omega)) (dU z2 (by omega)) (jJ z1 z2 (by omega))
   have hvf:bY a.cash.length (shP (ab a.cash a.cs) (L.take (j+1)))=(bY a.cash.length (shP (ab a.cash a.cs) (L.take j))).set t (ak (shP (ab a.cash a.cs) (L.take j) t+(ab a.cash a.cs).w (bs (c1,(t:Int),c3,c4)))):=by
    rw[Hr];refine jp fun i _=>?_
    rw[htk,EQ]
    by_cases hi:i=t
    ·rw[if_pos hi,if_pos (by dsimp only;omega),hi]
    ·rw[if_neg hi,if_neg (by dsimp only;omega),afN]
   have wSI:IntKind.i64.wrap (U1-U0)=SI a.cs k F0:=by rw[aj _ (by omega) (by omega),hSI2]
   have hRl:(bY a.cash.length (shP (ab a.cash a.cs) (L.take j))).length=a.cash.length:=dQ _ _;have hRg:=eY (N:=a.cash.length) (shP (ab a.cash a.cs) (L.take j)) (k:=t) (by omega);clear z1 z2 hszs hcw' hnew hw;generalize ak (shP (ab a.cash a.cs) (L.take j) t+(ab a.cash a.cs).w (bs (c1,(t:Int),c3,c4)))=F1 at *;generalize ak (shP (ab a.cash a.cs) (L.take j) t)=F2 at *;generalize ak ((ab a.cash a.cs).w (bs (c1,(t:Int),c3,c4)))=F3 at *;generalize bY a.cash.length (shP (ab a.cash a.cs) (L.take j))=R at *;obtain⟨⟨a1,a2⟩,⟨a3,a4⟩⟩:=F1;obtain⟨⟨f1,f2⟩,⟨f3,f4⟩⟩:=F2;obtain⟨⟨g1,g2⟩,⟨g3,g4⟩⟩:=F3;have t1:=Fi hRg;have t2:=Gt (l:=R) (k:=t) (by omega);have t3:=Ou (l:=R) (k:=t) (by omega) a1 a2 a3 a4;have hlc:t<a.cash.length:=by omega
   simp only[ad,bE] at hof hadd;simp only[go_sem,go_sem_proc,afl,gW,lB,e0,e6,e7,e26,e27,e28,hb,m17,hia,hlen,qf,qu,qu1,wf,wSI,d1,w3,q,hof,hadd,t1,t2,t3,hlc,hf10,l1,l2,l3,l4,l5,n9,n10,n12,n17,b9,b10,b12,b17,d9,d10,d12,d17,clL,iC,afJ,beq_self_eq_true]
   repeat' (first|refine qS ?_ ?_|fail)<;>intro h<;>simp only[h,go_sem,go_sem_proc,afl,gW,lB,e0,e6,e7,e26,e27,e28,hb,m17,hia,hlen,qf,qu,qu1,wf,wSI,d1,w3,q,hof,hadd,t1,t2,t3,hlc,hf10,l1,l2,l3,l4,l5,n9,n10,n12,n17,b9,b10,b12,b17,d9,d10,d12,d17,clL,iC,afJ,beq_self_eq_true]
   refine⟨j+1,by omega,by omega,rfl,by rw[hvf],by repeat first | exact hfr | refine FrK.upd ?_ (by decide)⟩
  ·have hc2:c2<0:=of_decide_eq_true q
   have hvf:bY a.cash.length (shP (ab a.cash a.cs) (L.take (j+1)))=bY a.cash.length (shP (ab a.cash a.cs) (L.take j)):=jp fun i _=>by
    rw[htk,EQ,if_neg (by dsimp only;omega),afN]
   simp only[go_sem,go_sem_proc,afl,e0,e6,e7,e26,e27,e28,hb,m17,hia,d1,w3,q,clL,afJ]
   repeat' (first|refine qS ?_ ?_|fail)<;>intro h<;>simp only[h,go_sem,go_sem_proc,afl,e0,e6,e7,e26,e27,e28,hb,m17,hia,d1,w3,q,clL,afJ]
   refine⟨j+1,by omega,by omega,rfl,by rw[hvf],by repeat first | exact hfr | refine FrK.upd ?_ (by decide)⟩
 ·have d1:decide ((j:Int)<(L.length:Int))=false:=decide_eq_false (by omega)
  rw[afO (by omega)] at m17;have hvf:bY a.cash.length (shP (ab a.cash a.cs) L)=bY a.cash.length fun i=>(ab a.cash a.cs).W (fOf a.fl) k i:=jp fun i _=>hWe i
  rw[hvf] at m17;have hvl:(bY a.cash.length fun i=>(ab a.cash a.cs).W (fOf a.fl) k i).length=a.cash.length:=dQ _ _;have hfz:=fun (K:St→Prop) (st:St)=>bO (K:=K) (st:=st) cH 6 255017 0 (bY a.cash.length fun i=>(ab a.cash a.cs).W (fOf a.fl) k i)
  rw[hvl] at hfz;simp only[go_sem,go_sem_proc,afl,e0,e6,e7,e26,e27,e28,hb,m17,d1,hfz]
  repeat' (first|refine qS ?_ ?_|fail)<;>intro h<;>simp only[h,go_sem,go_sem_proc,afl,e0,e6,e7,e26,e27,e28,hb,m17,d1,hfz]
  exact⟨_,rfl,rfl,by repeat first | exact hfr | refine FrK.upd ?_ (by decide) | refine FrK.kill ?_ (by decide)⟩
theorem wL (N:Nat) (x:Nat→Rat):bY (N+1) x=bY N x++[ak (x N)]:=by
 unfold bY;rw[afP,afQ,afQ];rfl
theorem ns {l:List MV} {k:Nat} {y:MV} (h:l[k]?=some y):afR 1 (afS k l)=[y]:=by
 have:=zY (f:=id) h
 rwa [List.map_id] at this
def shL (n:Nat) (W:Nat→Nat→Rat) (k:Nat):List Data:=[.sl ((bY n (W k)).map ad)]
theorem Rw (T:Tab) (bo:T bp=mkE fK) (cw:T dm=mkE lT) {K:bH→St→Prop} {kk:List Todo} (mem0:Mem) (n:Nat) (hn:n≤60) (p:List Nat) (hp:p.length≤60) (W:Nat→Nat→Rat) (r i:Nat) (hi:i<n) (hW:∀ k,k<p.length→szR 30 (W (p.getD k 0) i)) (v0 v1 v10 v20 v21 v22:MV) (G gA:Nat) (c1 c2 c3 c4:MV) (x82:Option (Nat × List MV)) (tm:Nat→MV) (m:Mem)
  (e0:tm 0=v0) (e1:tm 1=v1) (e2:tm 2 = .dat (.sl (p.map gS))) (e3:tm 3 = .dat (.sl (p.map (shL n W)))) (e10:tm 10=v10) (e11:tm 11 = .dat (.int .i64 r)) (e12:tm 12 = .dat (.int .i64 i)) (e13:tm 13 = .ptr 256013 G 0) (e20:tm 20=v20) (e21:tm 21=v21) (e22:tm 22=v22) (e50:tm 50 = .dat (.int .i64 p.length)) (e51:tm 51 = .dat (.int .i64 0)) (m13:m 256013=some (G,[.ref 256076 gA 4 0 0,c1,c2,c3,c4])) (mA:m 256076=some (gA,[])) (m82:m 256082=x82) (hfr:FrK 256 mem0 m)
  (hK:∀ tm' m' gA',tm' 0=v0→tm' 1=v1→tm' 2 = .dat (.sl (p.map gS))→tm' 3 = .dat (.sl (p.map (shL n W)))→tm' 10=v10→tm' 13 = .ptr 256013 G 0→tm' 20=v20→tm' 21=v21→tm' 22=v22→m' 256013=some (G,[.ref 256076 gA' 4 0 p.length,c1,c2,c3,c4])→m' 256076=some (gA',ay ad (bY p.length fun k=>(if r=k then 1 else 0)-W (p.getD k 0) i))→m' 256082=x82→FrK 256 mem0 m'→kont T K kk (.exit 2) ⟨tm',m'⟩) :
  wp T (mf_clear_solve.body.sub [1,1,0,1,0,0,0,1,1,0,0,1,1,0,1,0]) (kont T K kk) ⟨tm,m⟩:=by
 simp only[mf_clear_solve,MCode.sub];refine ae [0,1,2,3,10,11,12,13,20,21,22,50] [256082] (fun ((k,g):Nat × Nat) tm m=>k≤p.length∧tm 51 = .dat (.int .i64 k)∧m 256013=some (G,[.ref 256076 g 4 0 k,c1,c2,c3,c4])∧m 256076=some (g,ay ad (bY k fun k=>(if r=k then 1 else 0)-W (p.getD k 0) i))∧FrK 256 mem0 m) (fun (k,_)=>p.length-k) (0,gA) (by refine⟨by omega,e51,m13,mA,hfr⟩) ?_
 intro vs ms hvs hms;simp only[go_sem,go_sem_proc,afl,e0,e1,e2,e3,e10,e11,e12,e13,e20,e21,e22,e50,m82] at hvs hms;subst hvs hms;clear e0 e1 e2 e3 e10 e11 e12 e13 e20 e21 e22 e50 e51 m13 mA m82 hfr tm m;rintro⟨k,g⟩ tm m hk hm ⟨hkn,e51,m13,mA,hfr⟩;simp only[go_sem,go_sem_proc,afl,List.cons.injEq] at hk hm;obtain⟨e0,e1,e2,e3,e10,e11,e12,e13,e20,e21,e22,e50⟩:=hk;rcases afw (k<p.length) with hlt | hge
 ·have d1:decide ((k:Int)<(p.length:Int))=true:=decide_eq_true (by omega)
  have w3:IntKind.i64.wrap ((k:Int)+1)=((k+1:Nat):Int):=by rw[aj _ (by omega) (by omega)];omega
  obtain⟨pk,hx⟩:∃ c,p[k]?=some c:=⟨_,afq hlt⟩;have hpk:p.getD k 0=pk:=by rw[afr,hx];rfl
  have hWk:=hW k hlt;have hvs:=wL k fun k=>(if r=k then 1 else 0)-W (p.getD k 0) i
  have hrl:(bY k fun k=>(if r=k then 1 else 0)-W (p.getD k 0) i).length=k:=dQ _ _;have hap:=fun (F:aU) cs hcs=>dk cH lY 256076 g 64 (bY k fun k=>(if r=k then 1 else 0)-W (p.getD k 0) i) F (cs:=cs) hcs (by omega) (by omega)
  simp only[hrl] at hap;rw[hpk] at hWk hvs;have hg:=eY (W pk) hi;generalize bY k (fun k=>(if r=k then 1 else 0)-W (p.getD k 0) i)=V at *;generalize hV2:bY (k+1) (fun k=>(if r=k then 1 else 0)-W (p.getD k 0) i)=V2 at *;clear hK hW;have key:∀ o:Int,(o=0∨o=1)→(if r=k then (1:Rat) else 0)=(o:Rat)→True:=fun _ _ _=>trivial
  rcases q:((k:Int)==(r:Int))
  ·have hrk:¬ r=k:=by have:=ne_of_beq_false q;omega
   have hw:=fz 0 qZ;have hs:=sG (ez qZ) (dU hWk (by omega)) (jJ (ng (z:=0) (b:=1) (by decide)) (nf hWk) (by omega));rw[if_neg hrk,show (0:Rat)=((0:Int):Rat) from rfl] at hvs;generalize ak ((0:Int):Rat)=Z at *;generalize ak (W pk i)=E at *;generalize ak (((0:Int):Rat)-W pk i)=X at *;obtain⟨⟨z1,z2⟩,⟨z3,z4⟩⟩:=Z;obtain⟨⟨y1,y2⟩,⟨y3,y4⟩⟩:=E;obtain⟨⟨x1,x2⟩,⟨x3,x4⟩⟩:=X;have hap':=hap ((x1,x2),(x3,x4)) _ rfl;rw[←hvs] at hap';simp only[ad,afT,afU] at hap' hw hs;refine qI ?_
   repeat' (intro h<;>simp only[h,go_sem,go_sem_proc,afl,bo,cw,e0,e1,e2,e3,e10,e11,e12,e13,e20,e21,e22,e50,e51,m13,mA,hm,d1,w3,q,hx,shL,hg,hw,hs,hap',ad,aft,afu,bne,beq_self_eq_true,afx,afV]<;>try refine qS ?_ ?_)
   exact⟨(k+1,g+1),by dsimp only;omega,by dsimp only;omega,rfl,rfl,by rw[←hV2],by repeat first | exact hfr | refine FrK.upd ?_ (by decide)⟩
  ·have hrk:r=k:=by have:=eq_of_beq q;omega
   have hw:=fz 1 Ig;have hs:=sG (ez Ig) (dU hWk (by omega)) (jJ (ng (z:=1) (b:=1) (by decide)) (nf hWk) (by omega));rw[if_pos hrk,show (1:Rat)=((1:Int):Rat) from rfl] at hvs;generalize ak ((1:Int):Rat)=Z at *;generalize ak (W pk i)=E at *;generalize ak (((1:Int):Rat)-W pk i)=X at *;obtain⟨⟨z1,z2⟩,⟨z3,z4⟩⟩:=Z;obtain⟨⟨y1,y2⟩,⟨y3,y4⟩⟩:=E;obtain⟨⟨x1,x2⟩,⟨x3,x4⟩⟩:=X;have hap':=hap ((x1,x2),(x3,x4)) _ rfl;rw[←hvs] at hap';simp only[ad,afT,afU] at hap' hw hs;refine qI ?_
   repeat' (intro h<;>simp only[h,go_sem,go_sem_proc,afl,bo,cw,e0,e1,e2,e3,e10,e11,e12,e13,e20,e21,e22,e50,e51,m13,mA,hm,d1,w3,q,hx,shL,hg,hw,hs,hap',ad,aft,afu,bne,beq_self_eq_true,afx,afV]<;>try refine qS ?_ ?_)
   exact⟨(k+1,g+1),by dsimp only;omega,by dsimp only;omega,rfl,rfl,by rw[←hV2],by repeat first | exact hfr | refine FrK.upd ?_ (by decide)⟩
 ·have d1:decide ((k:Int)<(p.length:Int))=false:=decide_eq_false (by omega)
  obtain rfl:k=p.length:=by omega
  refine qI ?_
  repeat' (intro h<;>simp only[h,go_sem,go_sem_proc,afl,e0,e1,e2,e3,e10,e11,e12,e13,e20,e21,e22,e50,e51,d1]<;>try refine qS ?_ ?_)
  refine hK _ _ g ?_ ?_ ?_ ?_ ?_ ?_ ?_ ?_ ?_ m13 mA hm hfr<;>simp only[aH,afW,if_false,e0,e1,e2,e3,e10,e13,e20,e21,e22]
structure SvQ (a:DebA) (mem:Mem):Prop where
 at_:a.At mem
 no:NoK 256 mem
 fine:a.Fine
 pay:PayG (ab a.cash a.cs) (fOf a.fl) (pOf a.P)
noncomputable def DebA.p (a:DebA):List Nat:=payers (pOf a.P) a.cash.length
noncomputable def svA (a:DebA):List MV:=[.ref 228023 a.g 1 0 a.cash.length,.dat (.sl ((fL a.cash.length fun i=>dc a.cash a.cs (fOf a.fl) i).map aa)),.dat (.sl (a.p.map gS)),.dat (.sl (a.p.map (shL a.cash.length fun k i=>(ab a.cash a.cs).W (fOf a.fl) k i)))]
noncomputable def DebA.xs (a:DebA):List aU:=bY a.p.length fun k=>(ab a.cash a.cs).lst (fOf a.fl) (pOf a.P) (a.p.getD k 0)-(ab a.cash a.cs).U (a.p.getD k 0) (fOf a.fl (a.p.getD k 0))
noncomputable def svD (a:DebA):Data:=.tup [.sl (a.xs.map ad),.bool true]
noncomputable def pZ:List MV→Mem→Option Data:=NN (fun (a:DebA) args mem=>args=svA a∧SvQ a mem) svD
theorem AW (a:DebA) (mem:Mem) (h:SvQ a mem):pZ (svA a) mem=some (svD a):=by
 refine Hz (a:=a) ?_ ⟨rfl,h⟩;rintro a b args mem ⟨e1,e2⟩ ⟨e3,e4⟩;rw[DebA.uniq e2.at_ e4.at_]
theorem Jo (T:Tab) (bo:T bp=mkE fK) (cw:T dm=mkE lT) (BW:T j0=mkE o5) (a:DebA) (mem:Mem) (ha:SvQ a mem) :
  wp T mf_clear_solve.body (pH mf_clear_solve.res fun m mem'=>toD 6 emp m=some (svD a)∧FrK 256 mem mem') ⟨ax (svA a),mem⟩:=by
 obtain⟨hat,hno,hfi,hpay⟩:=ha;have hfe:=fun i=>DebA.f_eq hat hfi (i:=i)
 obtain⟨hs,h10⟩:=hfi;have hn:=hs.n5;have hpm:=fun k=>gm (P:=pOf a.P) (n:=a.cash.length) (k:=k)
 have hsol:=zx hs hpay;have hsc:=nn hs hpay.S_pos (payers (pOf a.P) a.cash.length) fun k hk=>(gm hk).2
 have hWz:=fun k (hk:pOf a.P k) i=>(Pf hs hpay hk i).1
 have hp5:(payers (pOf a.P) a.cash.length).length≤5:=by
  unfold payers;exact afX (afI _ _) (by rw[afY];exact hn)
 have h82:mem 256082=none:=hno 256082 (by decide);unfold svA svD DebA.xs DebA.p;generalize hp:payers (pOf a.P) a.cash.length=p at *;generalize hA:(ab a.cash a.cs).smallM (fOf a.fl) p=A at *;generalize hSD:(fL a.cash.length fun i=>dc a.cash a.cs (fOf a.fl) i).map aa=SD at *;have hSD':∀ i,i<a.cash.length→SD[i]?=some [.int .i64 (dc a.cash a.cs (fOf a.fl) i)]:=fun i hi=>by rw[←hSD,afu,cR _ hi];rfl
 refine ap ?_;simp only[mf_clear_solve];simp only[go_sem,go_sem_proc,afl,h82,aft];refine ae [0,1,2,3,20,21] [] (fun ((r,g):Nat × Nat) tm m=>r≤p.length∧tm 22 = .dat (.int .i64 r)∧tm 10 = .ref 256082 g 5 0 r∧m 256082=some (g,ay ft ((dS p.length A).take r))∧FrK 256 mem m) (fun (r,_)=>p.length-r) (0,0) (by refine⟨by omega,rfl,rfl,rfl,(FrK.refl _ _).upd (by decide)⟩) ?_
 intro vs ms hvs hms;simp only[go_sem,go_sem_proc,afl,aft] at hvs hms;subst hvs hms;rintro⟨r,g⟩ tm m hk hm ⟨hrn,e22,e10,m82,hfr⟩;simp only[go_sem,go_sem_proc,afl,List.cons.injEq] at hk;obtain⟨e0,e1,e2,e3,e20,e21⟩:=hk;rcases afw (r<p.length) with hlt | hge
 ·have d1:decide ((r:Int)<(p.length:Int))=true:=decide_eq_true (by omega)
  have w3:IntKind.i64.wrap ((r:Int)+1)=((r+1:Nat):Int):=by rw[aj _ (by omega) (by omega)];omega
  obtain⟨i,hx⟩:∃ c,p[r]?=some c:=⟨_,afq hlt⟩;have hpr:p.getD r 0=i:=by rw[afr,hx];rfl
  obtain⟨hi,hPi⟩:=hpm r hlt;rw[hpr] at hi hPi;obtain⟨hfi,hf10⟩:=hfe i hi;have hrow:=(hfr.at 228023 (by omega)).trans hat.row;have hblk:=(hfr.at (228500+i) (by omega)).trans (hat.blk i hi);have hri:=ns (cR (fun i=>MV.ptr (228500+i) (a.gs.getD i 0) 0) hi);have hrl:(fL a.cash.length fun i=>MV.ptr (228500+i) (a.gs.getD i 0) 0).length=a.cash.length:=bT _ _;have hok:=a.deb_ok i;have hlen:=jL hok;have qf:=BI hok;rw[show (a.deb i).f=(fOf a.fl i:Int) from hfi] at qf;have qu:=sT hok (k:=fOf a.fl i) (z:=aM a.cs i (fOf a.fl i:Nat)) (cR _ (by omega));have hst:=hSD' i hi;have b1:=hs.steady (fOf a.fl) i;have b2:=hs.upto i (fOf a.fl i);have wS:IntKind.i64.wrap (dc a.cash a.cs (fOf a.fl) i-aM a.cs i (fOf a.fl i:Nat))=dc a.cash a.cs (fOf a.fl) i-aM a.cs i (fOf a.fl i:Nat):=by rw[aj _ (by omega) (by omega)]
  have hw:=fz (dc a.cash a.cs (fOf a.fl) i-aM a.cs i (fOf a.fl i:Nat)) (gw (by omega) (by omega))
  have hAr:A r p.length=((dc a.cash a.cs (fOf a.fl) i-aM a.cs i (fOf a.fl i:Nat):Int):Rat):=by
   rw[←hA];unfold Day.smallM;rw[if_neg (by omega),hpr,←p7 hs.right,←dA hs.right,Rat.intCast_sub]
  have hAk:∀ k,k<p.length→A r k=(if r=k then 1 else 0)-(ab a.cash a.cs).W (fOf a.fl) (p.getD k 0) i:=fun k hk=>by
   rw[←hA];unfold Day.smallM;rw[if_pos hk,hpr]
  have l1:i+1≤a.cash.length:=by omega
  have l2:fOf a.fl i<11:=by omega
  have l3:(11+fOf a.fl i+1≤24)=True:=eq_true (by omega);rw[←hAr] at hw;generalize hKd:228500+i=KK at *;generalize dD (a.deb i)=DC at *;generalize (fL a.cash.length fun i=>MV.ptr (228500+i) (a.gs.getD i 0) 0)=RW at *;generalize dc a.cash a.cs (fOf a.fl) i=S1 at *;generalize aM a.cs i (fOf a.fl i:Nat)=U1 at *;generalize fOf a.fl i=F0 at *;generalize hE:ak (A r p.length)=E at *;obtain⟨⟨y1,y2⟩,⟨y3,y4⟩⟩:=E;simp only[ad] at hw;have n13:(KK==256013)=false:=beq_eq_false_iff_ne.2 (by omega);have n13':(256013==KK)=false:=beq_eq_false_iff_ne.2 (by omega);have n13e:(KK=256013)=False:=eq_false (by omega);simp only[go_sem,go_sem_proc,afl,bo,e0,e1,e2,e3,e10,e20,e21,e22,hrow,hblk,hri,hrl,hlen,qf,qu,hst,wS,hw,hx,d1,w3,hi,l1,l2,l3,n13,n13',n13e,iC,gS,afJ,aft,afu];refine vE (kc:=256013) (g:=cL (m 256013)) (off:=0) (cs:=[.nil,.dat (.int .i64 y1),.dat (.sl (y2.map aa)),.dat (.int .i64 y3),.dat (.sl (y4.map aa))]) ?_ ?_ rfl (by decide) ?_
  ·simp only[go_sem,go_sem_proc,afl]
  ·simp [aA]
  simp only[go_sem,go_sem_proc,afl,e2,aft,afV];refine Rw T bo cw mem a.cash.length (by omega) p (by omega) (fun k i=>(ab a.cash a.cs).W (fOf a.fl) k i) r i hi (fun k hk=>hWz _ (hpm k hk).2 i) (.ref 228023 a.g 1 0 a.cash.length) (.dat (.sl SD)) (.ref 256082 g 5 0 r) (.dat (.sl (p.map gS))) (.dat (.int .i64 p.length)) (.dat (.int .i64 r)) (cL (m 256013)) (cL (m 256076)) (.dat (.int .i64 y1)) (.dat (.sl (y2.map aa))) (.dat (.int .i64 y3)) (.dat (.sl (y4.map aa))) (some (g,ay ft ((dS p.length A).take r))) _ _ ?_ ?_ ?_ ?_ ?_ ?_ ?_ ?_ ?_ ?_ ?_ ?_ ?_ ?_ ?_ ?_ ?_ ?_
  ·simp only[aH,afW,if_false];exact e0
  ·simp only[aH,afW,if_false];exact e1
  ·simp only[aH,afW,if_false];exact e2
  ·simp only[aH,afW,if_false];exact e3
  ·simp only[aH,afW,if_false];exact e10
  ·simp only[aH,afW,if_false,if_true]
  ·simp only[aH,afW,if_false,if_true]
  ·simp only[aH,afW,if_false,if_true]
  ·simp only[aH,afW,if_false];exact e20
  ·simp only[aH,afW,if_false];exact e21
  ·simp only[aH,afW,if_false];exact e22
  ·simp only[aH,afW,if_false,if_true]
  ·simp only[aH,afW,if_false,if_true]
  ·simp [aA]
  ·simp [aA]
  ·simp only[aA,afW,if_false];exact m82
  ·repeat first | exact hfr | refine FrK.upd ?_ (by decide)
  intro tm m2 gA k0 k1 k2 k3 k10 k13 k20 k21 k22 q13 qA q82 hfr2;have hvA:(bY p.length fun k=>(if r=k then 1 else 0)-(ab a.cash a.cs).W (fOf a.fl) (p.getD k 0) i)=bY p.length (A r):=jp fun k hk=>(hAk k hk).symm
  rw[hvA] at qA;clear e0 e1 e2 e3 e10 e20 e21 e22 m82 hrow hblk hri hfr;have hap:=fun cs hcs=>dk AQ Ft 256082 g 88 ((dS p.length A).take r) (bY p.length (A r),ak (A r p.length)) (cs:=cs) hcs
  have htl:((dS p.length A).take r).length=r:=by rw[List.length_take,eN];omega
  have htk:(dS p.length A).take r++[(bY p.length (A r),ak (A r p.length))]=(dS p.length A).take (r+1):=by
   rw[afL,ta A hlt];rfl
  rw[htl,htk,hE] at hap;have hvl:(bY p.length (A r)).length=p.length:=dQ _ _;generalize bY p.length (A r)=V at *;have hap':=hap _ rfl (by omega) (by omega);simp only[ad,ft,afT,afU] at hap';simp only[go_sem,go_sem_proc,afl];refine sY (kc:=256013) (gc:=cL (m 256013)) (off:=0) (cc:=[.ref 256076 gA 4 0 p.length,.dat (.int .i64 y1),.dat (.sl (y2.map aa)),.dat (.int .i64 y3),.dat (.sl (y4.map aa))]) (k:=256076) (g:=gA) (sz:=4) (o:=0) (len:=p.length) (cs:=ay ad V) (d:=.sl (V.map ad)) ?_ q13 rfl qA (uh _ _) (by decide) ?_ ?_
  ·exact k13
  ·have:=eG (n:=0) cH qA
   rw[hvl] at this;exact this
  refine qI ?_
  repeat' (intro h<;>simp only[h,go_sem,go_sem_proc,afl,k0,k1,k2,k3,k10,k13,k20,k21,k22,q82,hap',w3,afV]<;>try refine qS ?_ ?_)
  exact⟨(r+1,g+1),by dsimp only;omega,by dsimp only;omega,rfl,rfl,rfl,by repeat first | exact hfr2 | refine FrK.upd ?_ (by decide)⟩
 ·have d1:decide ((r:Int)<(p.length:Int))=false:=decide_eq_false (by omega)
  have hrn:r=p.length:=by omega
  have hlen:=eN p.length A;rw[afO (by rw[hlen];omega)] at m82;obtain⟨b1,b2⟩:=hsol;have hlim:ip (dS p.length A):=FS (by omega) fun i hi k hk=>dU (hsc.sz (by omega) hi hk) (by omega)
  have hF:=vC (dS p.length A) p.length hlim;rw[b1] at hF;dsimp only at hF;have hfz:=fun (K:St→Prop) (st:St)=>bO (K:=K) (st:=st) AQ 10 256082 g (dS p.length A)
  rw[hlen] at hfz;subst hrn;refine qI ?_
  repeat' (intro h<;>simp only[h,go_sem,go_sem_proc,afl,BW,e0,e1,e2,e3,e10,e20,e21,e22,m82,d1,hfz,hF,aft,bne,beq_self_eq_true,afx]<;>try refine qS ?_ ?_)
  exact⟨_,rfl,rfl,by repeat first | exact hfr | refine FrK.upd ?_ (by decide) | refine FrK.kill ?_ (by decide)⟩
end Go.Mini
namespace Go.Mini
open Classical
def pM (cs:List ClR) (f:Nat→Nat) (n:Nat):List ClR:=(afZ n).flatMap fun i=>(afZ (f i)).flatMap fun k=>aT cs i k
theorem JO (F:Nat→List ClR) (r n:Nat) (h:r≤n):((afZ n).flatMap fun k=>if k<r then F k else [])=(afZ r).flatMap F:=by
 induction n with
 | zero=>rw[show r=0 by omega];rfl
 | succ n ih =>
  rw[afP,af0,af1,af2,af3]
  by_cases hr:r=n+1
  ·subst hr
   rw[if_pos (by omega),afP,af0,af1,af2,af3]
   congr 1
   rw[af4,af4]
   congr 1
   exact af5 fun k hk=>if_pos (by have:=List.mem_range.1 hk;omega)
  ·rw[if_neg (by omega),af3]
   exact ih (by omega)
theorem rZ {α:Type} (l:List α) (F:α→List ClR) (p:ClR→Bool):(l.flatMap F).filter p=l.flatMap fun x=>(F x).filter p:=by
 induction l with
 | nil=>rfl
 | cons a l ih=>rw[af1,af1,af6,ih]
theorem Cw {cs:List ClR} {f:Nat→Nat} {n:Nat} (hf:∀ i,i<n→f i≤10):pM cs f n=(aE n cs).filter fun c=>decide (c.2.2.1<(f c.1.toNat:Int)):=by
 unfold pM aE;rw[rZ,af4,af4]
 congr 1
 refine af5 fun i hi=>?_
 rw[rZ,←JO (fun k=>aT cs i k) (f i) 10 (hf i (List.mem_range.1 hi)),af4,af4]
 congr 1
 refine af5 fun k _=>?_
 by_cases h:k<f i
 ·rw[if_pos h]
  refine (List.filter_eq_self.2 fun c hc=>?_).symm;obtain⟨-,h1,h2⟩:=cell_mem.1 hc;rw[h1,h2,af7];exact decide_eq_true (by omega)
 ·rw[if_neg h]
  refine (List.filter_eq_nil_iff.2 fun c hc=>?_).symm;obtain⟨-,h1,h2⟩:=cell_mem.1 hc;rw[h1,h2,af7,decide_eq_true_eq];omega
theorem AJ (cs:List ClR) (p:ClR→Prop) [DecidablePred p] (F:ClR→Int):bh (cs.filter fun c=>decide (p c)) F=bh cs fun c=>if p c then F c else 0:=by
 induction cs with
 | nil=>rfl
 | cons c l ih =>
  by_cases h:p c
  ·rw[af8 (by simpa using h)]
   simp only[bh,ih,if_pos h]
  ·rw[af9 (by simpa using h),ih]
   simp only[bh,if_neg h];omega
def toI (j:Nat) (c:ClR):Int:=if c.2.1=(j:Int) then c.2.2.2 else 0
theorem uB {cash:List Int} {cs:List ClR} {f:Nat→Nat} (hcan:cs=aE cash.length cs) (hf:∀ i,i<cash.length→f i≤10) (j:Nat):dc cash cs f j=cash.getD j 0+bh (pM cs f cash.length) (toI j):=by
 rw[Cw hf,←hcan,AJ cs (fun c=>c.2.2.1<(f c.1.toNat:Int))];unfold dc
 congr 1
 refine jv fun c _=>?_
 unfold toI
 by_cases h1:c.2.1=(j:Int)
 ·by_cases h2:c.2.2.1<(f c.1.toNat:Int)
  ·rw[if_pos ⟨h1,h2⟩,if_pos h2,if_pos h1]
  ·rw[if_neg fun h=>h2 h.2,if_neg h2]
 ·rw[if_neg fun h=>h1 h.1,if_neg h1]
  split<;>rfl
theorem LT {cs:List ClR} {f:Nat→Nat} {n:Nat} {c:ClR} (h:c∈pM cs f n):c∈cs:=by
 unfold pM at h;simp only[List.mem_flatMap] at h;obtain⟨i,-,k,-,hc⟩:=h;exact (cell_mem.1 hc).1
def ja (cs:List ClR) (f:Nat→Nat) (i k t:Nat):List ClR:=pM cs f i++(((afZ k).flatMap fun k=>aT cs i k)++(aT cs i k).take t)
theorem FW (cs:List ClR) (f:Nat→Nat):ja cs f 0 0 0=[]:=rfl
theorem Kp (cs:List ClR) (f:Nat→Nat) (i k:Nat):ja cs f i k (aT cs i k).length=ja cs f i (k+1) 0:=by
 unfold ja;rw[afz,afK,af3,afP,af0,af1,af2,af3]
theorem Il (cs:List ClR) (f:Nat→Nat) (i:Nat):ja cs f i (f i) 0=ja cs f (i+1) 0 0:=by
 unfold ja pM;rw[afK,afK,af3,afP,af0,af1,af2,af3];simp
theorem Ec (cs:List ClR) (f:Nat→Nat) (n:Nat):ja cs f n 0 0=pM cs f n:=by
 unfold ja;simp
theorem wl (cs:List ClR) (f:Nat→Nat) {n i k t:Nat} (hi:i<n) (hk:k<f i):∃ l,pM cs f n=ja cs f i k t++l:=by
 have hn:∃ m,n=i+1+m:=⟨n-(i+1),by omega⟩
 obtain⟨m,rfl⟩:=hn;have hf:∃ r,f i=k+1+r:=⟨f i-(k+1),by omega⟩
 obtain⟨r,hr⟩:=hf;have hra:∀ (a b:Nat) (F:Nat→List ClR),(afZ (a+b)).flatMap F=(afZ a).flatMap F++((afZ b).map (a+·)).flatMap F:=fun a b F=>by rw[aga,af0]
 unfold pM ja;rw[hra,afP,af0,af1,af2,af3,hr,hra,afP,af0,af1,af2,af3];refine⟨(aT cs i k).drop t++(((afZ r).map (k+1+·)).flatMap (fun k=>aT cs i k)++((afZ m).map (i+1+·)).flatMap fun i=>(afZ (f i)).flatMap fun k=>aT cs i k),?_⟩;unfold pM;simp only[agb]
 congr 1
 congr 1
 rw[←agb ((aT cs i k).take t),afM]
theorem wb {cash:List Int} {cs:List ClR} (h:SmallD cash cs) {f:Nat→Nat} (hcan:cs=aE cash.length cs) (hf:∀ i,i<cash.length→f i≤10) (j:Nat) {l l':List ClR} (hl:pM cs f cash.length=l++l'):0≤bh l (toI j)∧bh l (toI j)≤1000000536870912:=by
 have hnn:∀ m:List ClR,(∀ c∈m,c∈cs)→0≤bh m (toI j):=by
  intro m
  induction m with
  | nil=>intro _;exact Int.le_refl _
  | cons c m ih =>
   intro hm;have h1:=ih fun y hy=>hm y (List.mem_cons_of_mem _ hy)
   have h2:=((rightD_iff.1 h.right).2.2.2 c (hm c List.mem_cons_self)).2.2.2.2.2.2.1;simp only[bh,toI] at *
   split<;>omega
 have hm:∀ c∈l++l',c∈cs:=fun c hc=>LT (by rw[hl];exact hc)
 have h1:=hnn l fun c hc=>hm c (by simp [hc])
 have h2:=hnn l' fun c hc=>hm c (by simp [hc])
 have h3:=uB hcan hf j;rw[hl,jG] at h3;have h4:=h.steady f j;have h5:=h.cash j;omega
end Go.Mini
namespace Go.Mini
open Go
set_option maxRecDepth 10000
set_option maxHeartbeats 4000000
theorem iset {n c:Nat} (hc:c<n) (q:Nat→Int) (v:Int):afR c (agc iC (fL n q))++[MV.dat (.int .i64 v)]++afS (c+1) (agc iC (fL n q))=agc iC (fL n fun j=>if j=c then v else q j):=by
 rw[←nr,List.map_set,List.set_eq_take_append_cons_drop,if_pos (by rw[aft,bT];exact hc)];simp [iC]
theorem iget {n c:Nat} (hc:c<n) (q:Nat→Int):afR 1 (afS c (agc iC (fL n q)))=[.dat (.int .i64 (q c))]:=zY (f:=iC) (cR q hc)
theorem ilen (n:Nat) (q:Nat→Int):(agc iC (fL n q)).length=n:=by rw[aft,bT]
theorem kH (l:List ClR) (c:ClR) (F:ClR→Int):bh (l++[c]) F=bh l F+F c:=by
 rw[jG];simp [bh]
theorem RA (T:Tab) {K:bH→St→Prop} {kk:List Todo} (mem0:Mem) (n:Nat) (hn:n≤60) (L:List ClR) (B:Nat→Int) (hB:∀ t j,0≤B j+bh (L.take t) (toI j)∧B j+bh (L.take t) (toI j)≤4000000000000000000) (hL:∀ c∈L,c.2.1<n ∧ -1≤c.2.1) (hLl:L.length≤2000) (v0 v4 v6 v7 v8 v9 v30 v31 v32 v50 v51:MV) (G:Nat) (x94 x98:Option (Nat × List MV)) (tm:Nat→MV) (m:Mem)
  (e0:tm 0=v0) (e4:tm 4=v4) (e5:tm 5 = .ref 248029 G 1 0 n) (e6:tm 6=v6) (e7:tm 7=v7) (e8:tm 8=v8) (e9:tm 9=v9) (e30:tm 30=v30) (e31:tm 31=v31) (e32:tm 32=v32) (e50:tm 50=v50) (e51:tm 51=v51) (e59:tm 59=clM L) (e60:tm 60 = .dat (.int .i64 L.length)) (e61:tm 61 = .dat (.int .i64 0))
  (m29:m 248029=some (G,(fL n B).map iC)) (m94:m 248094=x94) (m98:m 248098=x98) (hfr:FrK 248 mem0 m)
  (hK:∀ tm' m',tm' 0=v0→tm' 4=v4→tm' 5 = .ref 248029 G 1 0 n→tm' 6=v6→tm' 7=v7→tm' 8=v8→tm' 9=v9→tm' 30=v30→tm' 31=v31→tm' 32=v32→tm' 50=v50→tm' 51=v51→m' 248029=some (G,(fL n fun j=>B j+bh L (toI j)).map iC)→m' 248094=x94→m' 248098=x98→FrK 248 mem0 m'→kont T K kk (.exit 4) ⟨tm',m'⟩) :
  wp T (mf_clear_list.body.sub [1,1,1,1,1,0,1,0,0,0,0,1,1,0,0,1,1,0,1,0,0,1,1,0,0,1,1,0]) (kont T K kk) ⟨tm,m⟩:=by
 simp only[mf_clear_list,MCode.sub]
 refine ae [0,4,5,6,7,8,9,30,31,32,50,51,59,60] [248094,248098] (fun (t:Nat) tm m=>t≤L.length∧tm 61 = .dat (.int .i64 t)∧m 248029=some (G,(fL n fun j=>B j+bh (L.take t) (toI j)).map iC)∧FrK 248 mem0 m) (fun t=>L.length-t) 0 (by
  refine⟨by omega,e61,?_,hfr⟩
  rw[m29]
  congr 3
  exact bK fun j _=>by rw[afK];simp [bh]) ?_
 intro vs ms hvs hms;simp only[go_sem,go_sem_proc,afl,e0,e4,e5,e6,e7,e8,e9,e30,e31,e32,e50,e51,e59,e60,m94,m98] at hvs hms;subst hvs hms;clear e0 e4 e5 e6 e7 e8 e9 e30 e31 e32 e50 e51 e59 e60 e61 m29 m94 m98 hfr tm m;rintro t tm m hk hm ⟨htn,e61,m29,hfr⟩;simp only[go_sem,go_sem_proc,afl,List.cons.injEq] at hk hm;obtain⟨e0,e4,e5,e6,e7,e8,e9,e30,e31,e32,e50,e51,e59,e60⟩:=hk;obtain⟨m94,m98⟩:=hm;rcases afw (t<L.length) with hlt | hge
 ·have d1:decide ((t:Int)<(L.length:Int))=true:=decide_eq_true (by omega)
  have w3:IntKind.i64.wrap ((t:Int)+1)=((t+1:Nat):Int):=by rw[aj _ (by omega) (by omega)];omega
  obtain⟨⟨c1,c2,c3,c4⟩,hx⟩:∃ c,L[t]?=some c:=⟨_,afq hlt⟩;have hrc:=hL _ (afs hx);dsimp only at hrc;have hia:=Ew hx;simp only[go_sem,go_sem_proc,afl] at hia;have htk:L.take (t+1)=L.take t++[(c1,c2,c3,c4)]:=by rw[afL,hx];rfl
  rcases q:decide (c2≥0)
  ·have hc2:c2<0:=by have:=of_decide_eq_false q;omega
   have hvf:(fL n fun j=>B j+bh (L.take (t+1)) (toI j))=fL n fun j=>B j+bh (L.take t) (toI j):=bK fun j _=>by
    rw[htk,kH];unfold toI;rw[if_neg (by dsimp only;omega)];omega
   refine qI ?_
   repeat' (intro h<;>simp only[h,go_sem,go_sem_proc,afl,e0,e4,e5,e6,e7,e8,e9,e30,e31,e32,e50,e51,e59,e60,e61,m29,m94,m98,hia,d1,w3,q,clL,afJ]<;>try refine qS ?_ ?_)
   refine⟨t+1,by omega,by omega,rfl,by rw[hvf],by repeat first | exact hfr | refine FrK.upd ?_ (by decide)⟩
  ·have hc2:0≤c2:=of_decide_eq_true q
   obtain⟨i,rfl⟩:∃ t:Nat,c2=(t:Int):=⟨c2.toNat,by omega⟩
   have hin:i<n:=by omega
   have hb1:=hB t i;have hb2:=hB (t+1) i;rw[htk,kH] at hb2;have hto:toI i (c1,(i:Int),c3,c4)=c4:=by unfold toI;rw[if_pos rfl]
   rw[hto] at hb2;have wA:IntKind.i64.wrap (B i+bh (L.take t) (toI i)+c4)=B i+bh (L.take t) (toI i)+c4:=by rw[aj _ (by omega) (by omega)]
   have hvf:(fL n fun j=>B j+bh (L.take (t+1)) (toI j))=fL n fun j=>if j=i then B i+bh (L.take t) (toI i)+c4 else B j+bh (L.take t) (toI j):=bK fun j _=>by
    rw[htk,kH]
    by_cases hj:j=i
    ·rw[if_pos hj,hj,hto];omega
    ·rw[if_neg hj]
     have:toI j (c1,(i:Int),c3,c4)=0:=by unfold toI;rw[if_neg (by dsimp only;omega)]
     rw[this];omega
   have t1:=iget hin fun j=>B j+bh (L.take t) (toI j)
   have t2:=ilen n fun j=>B j+bh (L.take t) (toI j)
   have t3:=iset hin (fun j=>B j+bh (L.take t) (toI j)) (B i+bh (L.take t) (toI i)+c4);rw[←hvf] at t3;have l1:i+1≤n:=by omega
   generalize hv:(fL n fun j=>B j+bh (L.take t) (toI j)).map iC=R at *;generalize hv2:(fL n fun j=>B j+bh (L.take (t+1)) (toI j)).map iC=R2 at *;generalize B i+bh (L.take t) (toI i)=S1 at *;refine qI ?_
   repeat' (intro h<;>simp only[h,go_sem,go_sem_proc,afl,e0,e4,e5,e6,e7,e8,e9,e30,e31,e32,e50,e51,e59,e60,e61,m29,m94,m98,hia,d1,w3,q,wA,t1,t2,t3,hin,l1,clL,afJ]<;>try refine qS ?_ ?_)
   refine⟨t+1,by omega,by omega,rfl,by rw[hv2],by repeat first | exact hfr | refine FrK.upd ?_ (by decide)⟩
 ·have d1:decide ((t:Int)<(L.length:Int))=false:=decide_eq_false (by omega)
  rw[afO (by omega)] at m29;refine qI ?_
  repeat' (intro h<;>simp only[h,go_sem,go_sem_proc,afl,e0,e4,e5,e6,e7,e8,e9,e30,e31,e32,e50,e51,e59,e60,e61,d1]<;>try refine qS ?_ ?_)
  refine hK _ _ ?_ ?_ ?_ ?_ ?_ ?_ ?_ ?_ ?_ ?_ ?_ ?_ m29 m94 m98 hfr<;>simp only[aH,afW,if_false,e0,e4,e5,e6,e7,e8,e9,e30,e31,e32,e50,e51]
theorem Bi (cs:List ClR) (f:Nat→Nat) (i k t:Nat):ja cs f i k t=ja cs f i k 0++(aT cs i k).take t:=by
 unfold ja;simp
theorem QR (T:Tab) {K:bH→St→Prop} {kk:List Todo} (mem0:Mem) (cash:List Int) (cs:List ClR) (f:Nat→Nat) (hs:SmallD cash cs) (hcan:cs=aE cash.length cs) (hf:∀ i,i<cash.length→f i≤10) (i:Nat) (hi:i<cash.length) (x:DebR) (hx:x.OK) (hcl:∀ k,k<10→x.cl[k]?=some (aT cs i k)) (B:Nat→Int) (hB:∀ j,0≤B j∧B j≤1000000000000000) (KK g:Nat) (hKd:KK / 1000≠248) (hm0:mem0 KK=some (g,dD x)) (v0 v4 v6 v7 v8 v30 v31 v32:MV) (G:Nat) (x94 x98:Option (Nat × List MV)) (tm:Nat→MV) (m:Mem)
  (e0:tm 0=v0) (e4:tm 4=v4) (e5:tm 5 = .ref 248029 G 1 0 cash.length) (e6:tm 6=v6) (e7:tm 7=v7) (e8:tm 8=v8) (e9:tm 9 = .ptr KK g 0) (e30:tm 30=v30) (e31:tm 31=v31) (e32:tm 32=v32) (e50:tm 50 = .dat (.int .i64 (f i))) (e51:tm 51 = .dat (.int .i64 0))
  (m29:m 248029=some (G,(fL cash.length fun j=>B j+bh (ja cs f i 0 0) (toI j)).map iC)) (m94:m 248094=x94) (m98:m 248098=x98) (hfr:FrK 248 mem0 m)
  (hK:∀ tm' m',tm' 0=v0→tm' 4=v4→tm' 5 = .ref 248029 G 1 0 cash.length→tm' 6=v6→tm' 7=v7→tm' 8=v8→tm' 9 = .ptr KK g 0→tm' 30=v30→tm' 31=v31→tm' 32=v32→m' 248029=some (G,(fL cash.length fun j=>B j+bh (ja cs f (i+1) 0 0) (toI j)).map iC)→m' 248094=x94→m' 248098=x98→FrK 248 mem0 m'→kont T K kk (.exit 2) ⟨tm',m'⟩) :
  wp T (mf_clear_list.body.sub [1,1,1,1,1,0,1,0,0,0,0,1,1,0,0,1,1,0,1,0]) (kont T K kk) ⟨tm,m⟩:=by
 simp only[mf_clear_list,MCode.sub];have hfi:=hf i hi;have hn:=hs.n5;refine ae [0,4,5,6,7,8,9,30,31,32,50] [248094,248098] (fun (k:Nat) tm m=>k≤f i∧tm 51 = .dat (.int .i64 k)∧m 248029=some (G,(fL cash.length fun j=>B j+bh (ja cs f i k 0) (toI j)).map iC)∧FrK 248 mem0 m) (fun k=>f i-k) 0 (by refine⟨by omega,e51,m29,hfr⟩) ?_
 intro vs ms hvs hms;simp only[go_sem,go_sem_proc,afl,e0,e4,e5,e6,e7,e8,e9,e30,e31,e32,e50,m94,m98] at hvs hms;subst hvs hms;clear e0 e4 e5 e6 e7 e8 e9 e30 e31 e32 e50 e51 m29 m94 m98 hfr tm m;rintro k tm m hk hm ⟨hkn,e51,m29,hfr⟩;simp only[go_sem,go_sem_proc,afl,List.cons.injEq] at hk hm;obtain⟨e0,e4,e5,e6,e7,e8,e9,e30,e31,e32,e50⟩:=hk;obtain⟨m94,m98⟩:=hm;rcases afw (k<f i) with hlt | hge
 ·have d1:decide ((k:Int)<(f i:Int))=true:=decide_eq_true (by omega)
  have w3:IntKind.i64.wrap ((k:Int)+1)=((k+1:Nat):Int):=by rw[aj _ (by omega) (by omega)];omega
  have hb:=(hfr KK hKd).trans hm0;have hlen:=jL hx;have qc:=Ik (x:=x) (k:=k) (l:=aT cs i k) (hcl k (by omega));have l1:k<10:=by omega
  have l3:(1+k+1≤24)=True:=eq_true (by omega);have hcln:=Eq (aT cs i k);simp only[go_sem,go_sem_proc,afl] at hcln;generalize dD x=DC at *;simp only[go_sem,go_sem_proc,afl,e0,e4,e5,e6,e7,e8,e9,e30,e31,e32,e50,e51,hb,hlen,qc,d1,l1,l3,hcln,afJ];refine RA T mem0 cash.length (by omega) (aT cs i k) (fun j=>B j+bh (ja cs f i k 0) (toI j)) (fun t j=>?_) (fun c hc=>?_) ?_ v0 v4 v6 v7 v8 (.ptr KK g 0) v30 v31 v32 (.dat (.int .i64 (f i))) (.dat (.int .i64 k)) G x94 x98 _ _ ?_ ?_ ?_ ?_ ?_ ?_ ?_ ?_ ?_ ?_ ?_ ?_ ?_ ?_ ?_ m29 m94 m98 hfr ?_
  ·obtain⟨l,hl⟩:=wl cs f (n:=cash.length) (t:=t) hi hlt
   have h1:=wb hs hcan hf j hl;rw[Bi,jG] at h1;have h2:=hB j;omega
  ·have:=(rightD_iff.1 hs.right).2.2.2 c (cell_mem.1 hc).1
   omega
  ·have h1:=afI (fun c:ClR=>c.1==(i:Int)&&c.2.2.1==(k:Int)) cs
   have h2:=hs.c12;unfold aT;omega
  all_goals first | (intro tm' m' k0 k4 k5 k6 k7 k8 k9 k30 k31 k32 k50 k51 q29 q94 q98 hfr') | (simp only[aH,afW,if_false,if_true,e0,e4,e5,e6,e7,e8,e9,e30,e31,e32,e50,e51])
  have hnx:(fL cash.length fun j=>B j+bh (ja cs f i k 0) (toI j)+bh (aT cs i k) (toI j))=fL cash.length fun j=>B j+bh (ja cs f i (k+1) 0) (toI j):=bK fun j _=>by
   rw[←Kp,Bi cs f i k (aT cs i k).length,afz,jG];omega
  rw[hnx] at q29;refine qI ?_
  repeat' (intro h<;>simp only[h,go_sem,go_sem_proc,afl,k0,k4,k5,k6,k7,k8,k9,k30,k31,k32,k50,k51,q94,q98,w3]<;>try refine qS ?_ ?_)
  refine⟨k+1,by omega,by omega,rfl,q29,hfr'⟩
 ·have d1:decide ((k:Int)<(f i:Int))=false:=decide_eq_false (by omega)
  obtain rfl:k=f i:=by omega
  rw[Il] at m29;refine qI ?_
  repeat' (intro h<;>simp only[h,go_sem,go_sem_proc,afl,e0,e4,e5,e6,e7,e8,e9,e30,e31,e32,e50,e51,d1]<;>try refine qS ?_ ?_)
  refine hK _ _ ?_ ?_ ?_ ?_ ?_ ?_ ?_ ?_ ?_ ?_ m29 m94 m98 hfr<;>simp only[aH,afW,if_false,e0,e4,e5,e6,e7,e8,e9,e30,e31,e32]
structure LsQ (a:DebA) (mem:Mem):Prop where
 at_:a.At mem
 n1:NoK 248 mem
 n2:NoK 255 mem
 n3:NoK 256 mem
 fine:a.Fine
 pay:PayG (ab a.cash a.cs) (fOf a.fl) (pOf a.P)
open Classical in
theorem sq (P:Nat→Prop) (n:Nat):payers P (n+1)=payers P n++(if P n then [n] else []):=by
 unfold payers;rw[afP,af6]
 by_cases h:P n
 ·rw[if_pos h,af8 (by simpa using h),agd]
 ·rw[if_neg h,af9 (by simpa using h),agd]
theorem uZ (P:Nat→Prop) (n:Nat):(payers P n).length≤n:=by
 unfold payers;exact afX (afI _ _) (by rw[afY];exact Nat.le_refl _)
noncomputable def DebA.W (a:DebA) (k i:Nat):Rat:=(ab a.cash a.cs).W (fOf a.fl) k i
theorem EH (n:Nat) (W:Nat→Nat→Rat) (k:Nat):(shL n W k).length=1:=rfl
theorem KO (n:Nat) (W:Nat→Nat→Rat) (k:Nat):((shL n W k).map MV.dat).all MV.one=true:=rfl
def stI (a:DebA) (i j:Nat):Int:=(if j<i then a.cash.getD j 0 else 0)+bh (ja a.cs (fOf a.fl) i 0 0) (toI j)
theorem Rx (T:Tab) (rM:T dV=mkN ow) {K:bH→St→Prop} {kk:List Todo} (a:DebA) (mem0:Mem) (ha:LsQ a mem0) (v0 v4 v30:MV) (G g6 g7:Nat) (tm:Nat→MV) (m:Mem)
  (e0:tm 0=v0) (e4:tm 4 = .dat (.int .i64 a.cash.length)) (e5:tm 5 = .ref 248029 G 1 0 a.cash.length) (e6:tm 6 = .ref 248094 g6 1 0 0) (e7:tm 7 = .ref 248098 g7 1 0 0) (e30:tm 30 = .ref 228023 a.g 1 0 a.cash.length) (e31:tm 31 = .dat (.int .i64 a.cash.length)) (e32:tm 32 = .dat (.int .i64 0))
  (m29:m 248029=some (G,(fL a.cash.length fun j=>stI a 0 j).map iC)) (m94:m 248094=some (g6,[])) (m98:m 248098=some (g7,[])) (hfr:FrK 248 mem0 m)
  (hK:∀ tm' m' g6' g7',tm' 0=v0→tm' 4 = .dat (.int .i64 a.cash.length)→tm' 5 = .ref 248029 G 1 0 a.cash.length→tm' 6 = .ref 248094 g6' 1 0 a.p.length→tm' 7 = .ref 248098 g7' 1 0 a.p.length→m' 248029=some (G,(fL a.cash.length fun j=>stI a a.cash.length j).map iC)→m' 248094=some (g6',ay gS a.p)→m' 248098=some (g7',ay (shL a.cash.length a.W) a.p)→FrK 248 mem0 m'→kont T K kk (.exit 0) ⟨tm',m'⟩) :
  wp T (mf_clear_list.body.sub [1,1,1,1,1,0,1,0,0,0]) (kont T K kk) ⟨tm,m⟩:=by
 have ha':=ha;obtain⟨hat,n1,n2,n3,hfine,hpay⟩:=ha;have hfe:=fun i=>DebA.f_eq hat hfine (i:=i)
 obtain⟨hs,h10⟩:=hfine;have hn:=hs.n5;simp only[mf_clear_list,MCode.sub];refine ae [0,4,5,30,31] [] (fun ((i,g6,g7):Nat × Nat × Nat) tm m=>i≤a.cash.length∧tm 32 = .dat (.int .i64 i)∧tm 6 = .ref 248094 g6 1 0 (payers (pOf a.P) i).length∧tm 7 = .ref 248098 g7 1 0 (payers (pOf a.P) i).length∧m 248029=some (G,(fL a.cash.length fun j=>stI a i j).map iC)∧m 248094=some (g6,ay gS (payers (pOf a.P) i))∧m 248098=some (g7,ay (shL a.cash.length a.W) (payers (pOf a.P) i))∧FrK 248 mem0 m) (fun (i,_)=>a.cash.length-i) (0,g6,g7) (by refine⟨by omega,e32,e6,e7,m29,m94,m98,hfr⟩) ?_
 intro vs ms hvs hms;simp only[go_sem,go_sem_proc,afl,e0,e4,e5,e30,e31] at hvs hms;subst hvs hms;clear e0 e4 e5 e6 e7 e30 e31 e32 m29 m94 m98 hfr tm m;rintro⟨i,g6,g7⟩ tm m hk-⟨hin,e32,e6,e7,m29,m94,m98,hfr⟩;simp only[go_sem,go_sem_proc,afl,List.cons.injEq] at hk;obtain⟨e0,e4,e5,e30,e31⟩:=hk;rcases afw (i<a.cash.length) with hi | hge
 ·have d1:decide ((i:Int)<(a.cash.length:Int))=true:=decide_eq_true (by omega)
  have w3:IntKind.i64.wrap ((i:Int)+1)=((i+1:Nat):Int):=by rw[aj _ (by omega) (by omega)];omega
  obtain⟨hfi,hf10⟩:=hfe i hi;have hrow:=(hfr.at 228023 (by omega)).trans hat.row;have hb0:=hat.blk i hi;have hblk:=(hfr.at (228500+i) (by omega)).trans hb0;have hri:=ns (cR (fun i=>MV.ptr (228500+i) (a.gs.getD i 0) 0) hi);have hrl:(fL a.cash.length fun i=>MV.ptr (228500+i) (a.gs.getD i 0) 0).length=a.cash.length:=bT _ _;have hok:=a.deb_ok i;have hlen:=jL hok;have qf:=BI hok;have qp:=Nt hok;have qca:=IH (x:=a.deb i);rw[show (a.deb i).f=(fOf a.fl i:Int) from hfi] at qf;rw[show (a.deb i).p=a.P.getD i false from rfl] at qp;rw[show (a.deb i).cash=a.cash.getD i 0 from rfl] at qca;have hcash:=hs.cash i;have hsp:=wl a.cs (fOf a.fl) (n:=a.cash.length) (i:=i) (k:=0) (t:=0) hi
  have hsI0:0≤bh (ja a.cs (fOf a.fl) i 0 0) (toI i)∧bh (ja a.cs (fOf a.fl) i 0 0) (toI i)≤1000000536870912:=by
   have:∃ l,pM a.cs (fOf a.fl) a.cash.length=ja a.cs (fOf a.fl) i 0 0++l:=by
    obtain⟨r,hr⟩:∃ r,a.cash.length=i+r:=⟨a.cash.length-i,by omega⟩
    refine⟨((afZ r).map (i+·)).flatMap fun i=>(afZ (fOf a.fl i)).flatMap fun k=>aT a.cs i k,?_⟩
    rw[Ec];unfold pM;rw[hr,aga,af0]
   obtain⟨l,hl⟩:=this;exact wb hs hat.can (fun i hi=>(hfe i hi).2) i hl
  have hst0:stI a i i=bh (ja a.cs (fOf a.fl) i 0 0) (toI i):=by unfold stI;rw[if_neg (by omega)];omega
  have wC:IntKind.i64.wrap (stI a i i+a.cash.getD i 0)=stI a i i+a.cash.getD i 0:=by rw[aj _ (by omega) (by omega)]
  have t1:=iget hi fun j=>stI a i j
  have t2:=ilen a.cash.length fun j=>stI a i j
  have t3:=iset hi (fun j=>stI a i j) (stI a i i+a.cash.getD i 0)
  have hB2:(fL a.cash.length fun j=>if j=i then stI a i i+a.cash.getD i 0 else stI a i j)=fL a.cash.length fun j=>(if j<i+1 then a.cash.getD j 0 else 0)+bh (ja a.cs (fOf a.fl) i 0 0) (toI j):=bK fun j _=>by
   by_cases hj:j=i
   ·rw[if_pos hj,hj,if_pos (by omega),hst0];omega
   ·rw[if_neg hj]
    unfold stI
    by_cases hj2:j<i
    ·rw[if_pos hj2,if_pos (by omega)]
    ·rw[if_neg hj2,if_neg (by omega)]
  rw[hB2] at t3;have l1:i+1≤a.cash.length:=by omega
  have hKd:(228500+i) / 1000≠248:=by omega
  generalize hKK:228500+i=KK at *;have n29:(KK=248029)=False:=eq_false (by omega);have b29:(KK==248029)=false:=beq_eq_false_iff_ne.2 (by omega);have b29':(248029==KK)=false:=beq_eq_false_iff_ne.2 (by omega);have hDC:dD (a.deb i)=dD (a.deb i):=rfl;generalize hR:(fL a.cash.length fun j=>stI a i j).map iC=R at *;generalize hR2:(fL a.cash.length fun j=>(if j<i+1 then a.cash.getD j 0 else 0)+bh (ja a.cs (fOf a.fl) i 0 0) (toI j)).map iC=R2 at *;generalize hRW:(fL a.cash.length fun i=>MV.ptr (228500+i) (a.gs.getD i 0) 0)=RW at *;generalize hDD:dD (a.deb i)=DC at *;simp only[go_sem,go_sem_proc,afl,e0,e4,e5,e6,e7,e30,e31,e32,hrow,hblk,hri,hrl,hlen,qf,qp,qca,m29,t1,t2,t3,wC,d1,hi,l1,n29,b29,b29',iC,bC,afJ];refine QR T mem0 a.cash a.cs (fOf a.fl) hs hat.can (fun i hi=>(hfe i hi).2) i hi (a.deb i) hok (fun k hk=>cR _ hk) (fun j=>if j<i+1 then a.cash.getD j 0 else 0) (fun j=>?_) KK (a.gs.getD i 0) hKd (by rw[hDD];exact hb0) v0 (.dat (.int .i64 a.cash.length)) (.ref 248094 g6 1 0 (payers (pOf a.P) i).length) (.ref 248098 g7 1 0 (payers (pOf a.P) i).length) (.dat (.int .i64 i)) (.ref 228023 a.g 1 0 a.cash.length) (.dat (.int .i64 a.cash.length)) (.dat (.int .i64 i)) G (some (g6,ay gS (payers (pOf a.P) i))) (some (g7,ay (shL a.cash.length a.W) (payers (pOf a.P) i))) _ _ ?_ ?_ ?_ ?_ ?_ ?_ ?_ ?_ ?_ ?_ ?_ ?_ ?_ ?_ ?_ (hfr.upd (by decide)) ?_
  ·have:=hs.cash j
   split<;>omega
  all_goals first | (intro tm' m' k0 k4 k5 k6 k7 k8 k9 k30 k31 k32 q29 q94 q98 hfr') | (simp only[aH,afW,if_false,if_true,e0,e4,e5,e6,e7,e30,e31,e32]) | (simp only[aA,afW,if_false,if_true,m94,m98]) | skip
  ·rw[←hR2]
  have hnx:(fL a.cash.length fun j=>(if j<i+1 then a.cash.getD j 0 else 0)+bh (ja a.cs (fOf a.fl) (i+1) 0 0) (toI j))=fL a.cash.length fun j=>stI a (i+1) j:=rfl
  rw[hnx] at q29;have hb2:=(hfr' KK hKd).trans hb0;have pl:=uZ (pOf a.P) i;rcases q:a.P.getD i false
  ·have hps:payers (pOf a.P) (i+1)=payers (pOf a.P) i:=by
    rw[sq,if_neg (by unfold pOf;rw[q];decide),af3]
   rw[q] at qp;refine qI ?_
   repeat' (intro h<;>simp only[h,go_sem,go_sem_proc,afl,k0,k4,k5,k6,k7,k8,k9,k30,k31,k32,q94,q98,hb2,hlen,qp,w3,bC,afJ]<;>try refine qS ?_ ?_)
   exact⟨(i+1,g6,g7),by dsimp only;omega,by dsimp only;omega,rfl,by rw[hps],by rw[hps],q29,by rw[hps],by rw[hps],hfr'⟩
  ·have hP:pOf a.P i:=q
   have hps:payers (pOf a.P) (i+1)=payers (pOf a.P) i++[i]:=by
    rw[sq,if_pos hP]
   have hf10':fOf a.fl i<10:=by
    obtain⟨h1,g,h2,h3⟩:=hpay;exact (h3.fallen i hP).2
   have hsh:=yX a i m' ⟨hat.fr hfr' (by decide) hn,n2.fr hfr' (by decide),⟨hs,h10⟩,hi,hf10',hpay.S_pos i hP⟩;rw[hKK] at hsh;have hsD:shD (a,i) = .tup [.sl ((bY a.cash.length (a.W i)).map ad),.bool true]:=rfl;rw[hsD] at hsh;have ha6:=dk ik wt 248094 g6 8 (payers (pOf a.P) i) i (cs:=[.dat (.int .i64 i)]) rfl (by omega) (by omega);have ha7:=dk (EH a.cash.length a.W) (KO a.cash.length a.W) 248098 g7 24 (payers (pOf a.P) i) i (cs:=[.dat (.sl ((bY a.cash.length (a.W i)).map ad))]) rfl (by omega) (by omega);have hl1:(payers (pOf a.P) (i+1)).length=(payers (pOf a.P) i).length+1:=by rw[hps,List.length_append];rfl
   rw[←hps] at ha6 ha7;rw[q] at qp;generalize (bY a.cash.length (a.W i)).map ad=V at *;refine qI ?_
   repeat' (intro h<;>simp only[h,go_sem,go_sem_proc,afl,rM,k0,k4,k5,k6,k7,k8,k9,k30,k31,k32,q94,q98,hb2,hlen,qp,hsh,ha6,ha7,w3,bC,afJ,afx]<;>try refine qS ?_ ?_)
   exact⟨(i+1,g6+1,g7+1),by dsimp only;omega,by dsimp only;omega,rfl,by rw[hl1],by rw[hl1],q29,rfl,rfl,by repeat first | exact hfr' | refine FrK.upd ?_ (by decide)⟩
 ·have d1:decide ((i:Int)<(a.cash.length:Int))=false:=decide_eq_false (by omega)
  obtain rfl:i=a.cash.length:=by omega
  refine qI ?_
  repeat' (intro h<;>simp only[h,go_sem,go_sem_proc,afl,e0,e4,e5,e6,e7,e30,e31,e32,d1]<;>try refine qS ?_ ?_)
  refine hK _ _ g6 g7 ?_ ?_ ?_ ?_ ?_ m29 m94 m98 hfr<;>simp only[aH,afW,if_false,e0,e4,e5,e6,e7,DebA.p]
end Go.Mini
