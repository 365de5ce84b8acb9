/- A part of the proof. -/
import Derived.Test.YtdbkjjoedjfmpaaM08
import Derived.Test.YtdbkjjoedjfmpaaM04
import Derived.Test.YtdbkjjoedjfmpaaM03
set_option linter.unusedSimpArgs false
set_option linter.unusedVariables false
open Nat renaming zero_le → aa3, sub_self → aa8, mul_one → abd, reduceEqDiff → abp, le_refl → abq, eq_zero_or_pos → abB, lt_or_ge → abJ, exists_eq_add_of_le → abT, add_sub_cancel_left → abZ, sub_zero → ab1
open Bool renaming false_eq_true → aa4
open Decidable renaming em → aa5
open List renaming getElem?_eq_getElem → aa6, getElem?_append_right → aa7, mem_of_getElem? → aa9, set_append_right → aba, set_cons_zero → abb, append_assoc → abc, getElem?_set → abe, drop_eq_nil_of_le → abf, append_nil → abg, length_append → abh, length_map → abi, length_take → abj, length_drop → abk, mem_append → abl, take_add_one → abm, map → abn, take_of_length_le → abo, length_set → abr, map_cons → abs, length → abt, getElem?_map → abu, getElem_mem → abw, map_nil → aby, getElem?_zipIdx → abz, mem_singleton → abA, mem_cons_of_mem → abC, mem_cons_self → abD, map_map → abE, mapM_cons → abF, drop_zero → abG, flatten_cons → abH, range → abI, map_append → abK, length_cons → abL, replicate → abR, map_replicate → abS, replicate_append_replicate → abU, flatten_append → abV, take_append_of_le_length → abW, drop_append → abX, nil_append → abY, replicate_succ → ab0, length_replicate → ab2, map_set → ab3
open Option renaming map_some → abv
open Prod renaming ext → abx
open Int renaming one_mul → abM, zero_mul → abN, mul_zero → abO, add_zero → abP, zero_add → abQ
open Rat renaming add_zero → ab4, mul_zero → ab5, le_refl → ab6, div_def → ab8, mul_nonneg → ab9, mul_pos → aca, le_trans → acb
open Classical renaming byContradiction → ab7
namespace Go.Mini
open Go
set_option maxRecDepth 10000
set_option maxHeartbeats 4000000
theorem Ob (T:Tab) (lQ:T gh=mkE xS) (kW:T bV=mkU mN) (eH:T dY=mkE mI) (dU:T dI=mkE lS) {K:bP→St→Prop} {kk:List Todo}
  (go N r c:Nat) (mem:Mem) (hn4:mem 168004=none) (hn6:mem 168006=none) (hN:N≤40) (hrN:r<N) (hcN':c<N+1) (dv:List MR) (hcok:MatOK N dv) (x:MR) (prow:List aM) (hcr:dv[r]?=some (x.1,x.2.1,prow)) (bd0:Bool) (tm:Nat→MV) (m:Mem)
  (e0:tm 0 = .ptr 129015 0 0) (e1:tm 1 = .dat (.int .i64 r)) (e2:tm 2 = .dat (.int .i64 c)) (e112:tm 112 = .ref 129035 go 1 0 N) (e113:tm 113 = .dat (.int .i64 N)) (e114:tm 114 = .dat (.int .i64 0)) (hps:PS mem go N dv bd0 m)
  (hK:∀ tm' m',PS mem go N (bR prow r c 0 dv bd0).1 (bR prow r c 0 dv bd0).2 m'→kont T K kk (.exit 4) ⟨tm',m'⟩) :
  wp T (mf_linear_matrix_pivot.body.sub [1,1,1,1,1,1,1,0,1,0]) (kont T K kk) ⟨tm,m⟩:=by
 simp only[mf_linear_matrix_pivot,MCode.sub]
 refine af [0,1,2,112,113] [] (fun ((i2,dn,bd):Nat × List MR × Bool) tm m=>i2≤N∧dn.length=i2∧bR prow r c 0 dv bd0=(dn++(bR prow r c i2 (dv.drop i2) bd).1,(bR prow r c i2 (dv.drop i2) bd).2)∧MatOK N (dn++dv.drop i2)∧(dn++dv.drop i2)[r]?=some (x.1,x.2.1,prow)∧tm 114 = .dat (.int .i64 i2)∧PS mem go N (dn++dv.drop i2) bd m) (fun (i2,_,_)=>N-i2) (0,[],bd0) (by
  exact⟨aa3 _,rfl,rfl,hcok,hcr,e114,hps⟩) ?_
 intro vs ms hvs hms;simp only[go_sem,go_sem_proc,aa4,e0,e1,e2,e112,e113] at hvs hms;subst hvs hms;clear e0 e1 e2 e112 e113 e114 hps tm m;rintro⟨i2,dn,bd⟩ tm m2 hk hm ⟨hi2,hdn,hel,hok2,hr2,h114,hps2⟩;simp only[go_sem,go_sem_proc,aa4,List.cons.injEq] at hk hm;obtain⟨h0,h1,h2,h112,h113⟩:=hk;have hm15':=hps2.1.m;have hm35':=hps2.1.o;have hdvl:dv.length=N:=hcok.len;rcases aa5 (i2<N) with hilt | hige
 ·obtain⟨y,hy⟩:∃ y,dv[i2]?=some y:=⟨_,aa6 (by omega)⟩
  have hdrop:dv.drop i2=y::dv.drop (i2+1):=by
   obtain⟨hl,rfl⟩:=List.getElem?_eq_some_iff.1 hy;exact List.drop_eq_getElem_cons hl
  have hyr:(dn++dv.drop i2)[i2]?=some y:=by
   rw[aa7 (by omega),hdn,aa8,List.getElem?_drop,Nat.add_zero,hy]
  obtain⟨hyl,hyo⟩:=hok2.row y (aa9 hyr);have hym:=hps2.1.r y (aa9 hyr);obtain⟨⟨⟨g1,g2⟩,⟨g3,g4⟩⟩,hg⟩:∃ f,y.2.2[c]?=some f:=⟨_,aa6 (by omega)⟩;have hgc:=tQ hg;have t1:=Fd (N:=N) hyr;have t2:=Cy (N:=N) (rows:=dn++dv.drop i2) (i:=i2) (by rw[hok2.len];exact hilt);have t3:=Ai hg;have t4:=zm (l:=y.2.2) (k:=c) (by omega);have hil:decide ((i2:Int)<(N:Int))=true:=decide_eq_true (by omega);have hw:IntKind.i64.wrap ((i2:Int)+1)=((i2+1:Nat):Int):=by rw[al _ (by omega) (by omega)];omega
  have happ:∀ z:MR,(dn++[z])++dv.drop (i2+1)=(dn++dv.drop i2).set i2 z:=fun z=>by
   rw[aba _ _ (by omega),hdn,aa8,hdrop,abb,abc];rfl
  have hself:(dn++[y])++dv.drop (i2+1)=dn++dv.drop i2:=by rw[happ];exact tc hyr
  have hskip:∀ b:Bool,(b=true→i2=r∨(g1==0)=true)→b=true→bR prow r c 0 dv bd0=((dn++[y])++(bR prow r c (i2+1) (dv.drop (i2+1)) bd).1,(bR prow r c (i2+1) (dv.drop (i2+1)) bd).2):=by
   intro b hb hbt
   have hcond:(i2==r||ic (cL y c))=true:=by
    rcases hb hbt with h | h
    ·rw[h,beq_self_eq_true];rfl
    ·rw[hgc]
     have:ic ((g1,g2),(g3,g4))=true:=h;rw[this,Bool.or_true]
   rw[hel,hdrop];simp only[bR];rw[if_pos hcond,abc]
   rfl
  rcases hir:((i2:Int)==(r:Int))
  ·have hirn:i2≠r:=by intro h;rw[h] at hir;simp at hir
   rcases hgz:(g1==0)
   ·have hgl:okF ((g1,g2),(g3,g4)):=hyo _ (aa9 hg)
    simp only[go_sem,go_sem_proc,aa4,lQ,h0,h1,h2,h112,h113,h114,hm15',hm35',hym,t1,t2,t3,t4,hilt,hil,hcN',hir,hgz,abd];refine O3 T kW eH dU go N r c i2 mem hn4 hn6 hN (dn++dv.drop i2) hok2 x y prow hyr hr2 hirn hrN bd g1 g2 g3 g4 hgl _ _ (cR (m2 148013)) ?_ ?_ ?_ ?_ ?_ ?_ ?_ ?_ ?_ ?_ ((hps2.own (.inr (.inr rfl))).own (.inr (.inr rfl))) ?_
    ·exact h0
    ·exact h1
    ·exact h2
    ·rfl
    ·rfl
    ·exact h112
    ·exact h113
    ·exact h114
    ·rfl
    ·simp [aB]
    ·intro tm' m' l b k0 k1 k2 k112 k113 k114 hlb hok3 hps3
     simp only[go_sem,go_sem_proc,aa4,h0,h1,h2,k0,k1,k2,k112,k113,k114,hw]
     repeat' (first|refine qS ?_ ?_|fail)<;>intro h<;>simp only[h,go_sem,go_sem_proc,aa4,h0,h1,h2,k0,k1,k2,k112,k113,k114,hw]
     refine⟨(i2+1,dn++[(y.1,y.2.1,l)],b),by dsimp only;omega,by dsimp only;omega,by simp [hdn],?_,by dsimp only;rw[happ];exact hok3,by dsimp only;rw[happ,abe,if_neg hirn];exact hr2,rfl,?_⟩
     ·have hcond:¬ (i2==r||ic (cL y c))=true:=by
       rw[hgc];have h1:ic ((g1,g2),(g3,g4))=false:=hgz;have h2:(i2==r)=false:=by simpa using hirn
       rw[h1,h2];simp
      rw[hel,hdrop];simp only[bR];rw[if_neg hcond,hgc,←hlb,abc]
      rfl
     ·dsimp only
      rw[happ];exact hps3
   ·simp only[go_sem,go_sem_proc,aa4,lQ,h0,h1,h2,h112,h113,h114,hm15',hm35',hym,t1,t2,t3,t4,hilt,hil,hcN',hw,hir,hgz,abd]
    repeat' (first|refine qS ?_ ?_|fail)<;>intro h<;>simp only[h,go_sem,go_sem_proc,aa4,lQ,h0,h1,h2,h112,h113,h114,hm15',hm35',hym,t1,t2,t3,t4,hilt,hil,hcN',hw,hir,hgz,abd]
    refine⟨(i2+1,dn++[y],bd),by dsimp only;omega,by dsimp only;omega,by simp [hdn],hskip true (fun _ => .inr hgz) rfl,by dsimp only;rw[hself];exact hok2,by dsimp only;rw[hself];exact hr2,rfl,?_⟩
    dsimp only;rw[hself];exact (hps2.own (.inr (.inr rfl))).own (.inr (.inr rfl))
  ·have hirn:i2=r:=by have h:=beq_iff_eq.1 hir;omega
   simp only[go_sem,go_sem_proc,aa4,lQ,h0,h1,h2,h112,h113,h114,hm15',hm35',hym,t1,t2,t3,t4,hilt,hil,hcN',hw,hir,abd]
   repeat' (first|refine qS ?_ ?_|fail)<;>intro h<;>simp only[h,go_sem,go_sem_proc,aa4,lQ,h0,h1,h2,h112,h113,h114,hm15',hm35',hym,t1,t2,t3,t4,hilt,hil,hcN',hw,hir,abd]
   refine⟨(i2+1,dn++[y],bd),by dsimp only;omega,by dsimp only;omega,by simp [hdn],hskip true (fun _ => .inl hirn) rfl,by dsimp only;rw[hself];exact hok2,by dsimp only;rw[hself];exact hr2,rfl,?_⟩
   dsimp only;rw[hself];exact (hps2.own (.inr (.inr rfl))).own (.inr (.inr rfl))
 ·have hin:i2=N:=by omega
  have hil:decide ((i2:Int)<(N:Int))=false:=decide_eq_false (by omega);have hnil:dv.drop i2=[]:=abf (by omega);rw[hnil] at hel hps2;simp only[bR,abg] at hel hps2;rw[hel] at hK;simp only[go_sem,go_sem_proc,aa4,h0,h1,h2,h112,h113,h114,hm15',hm35',hil]
  repeat' (first|refine qS ?_ ?_|fail)<;>intro h<;>simp only[h,go_sem,go_sem_proc,aa4,h0,h1,h2,h112,h113,h114,hm15',hm35',hil]
  exact hK _ _ hps2
theorem Ov (T:Tab) (kW:T bV=mkU mN) (f6:T gC=mkE px) {K:bP→St→Prop} {kk:List Todo}
  (go N r c:Nat) (mem:Mem) (hn4:mem 168004=none) (hn6:mem 168006=none) (hN:N≤40) (hrN:r<N) (sw:List MR) (hoks:MatOK N sw) (x:MR) (hswr:sw[r]?=some x) (f1:Int) (f2:List Int) (f3:Int) (f4:List Int) (hfl:okF ((f1,f2),(f3,f4))) (tm:Nat→MV) (m:Mem) (G:Nat)
  (e0:tm 0 = .ptr 129015 0 0) (e1:tm 1 = .dat (.int .i64 r)) (e2:tm 2 = .dat (.int .i64 c)) (e8:tm 8 = .ptr 148008 G 0) (e85:tm 85 = .ref (x.1+900000) x.2.1 4 0 (N+1)) (e86:tm 86 = .dat (.int .i64 ((N+1:Nat):Int))) (e87:tm 87 = .dat (.int .i64 0))
  (em:m 148008=some (G,[.dat (.int .i64 f1),.dat (.sl (f2.map aa)),.dat (.int .i64 f3),.dat (.sl (f4.map aa))])) (hps:PS mem go N sw false m)
  (hK:∀ tm' m',tm' 0 = .ptr 129015 0 0→tm' 1 = .dat (.int .i64 r)→tm' 2 = .dat (.int .i64 c)→MatOK N (sw.set r (x.1,x.2.1,(cB ((f1,f2),(f3,f4)) x.2.2).1))→PS mem go N (sw.set r (x.1,x.2.1,(cB ((f1,f2),(f3,f4)) x.2.2).1)) (cB ((f1,f2),(f3,f4)) x.2.2).2 m'→kont T K kk (.exit 2) ⟨tm',m'⟩) :
  wp T (mf_linear_matrix_pivot.body.sub [1,1,1,1,1,1,0,1,0]) (kont T K kk) ⟨tm,m⟩:=by
 simp only[mf_linear_matrix_pivot,MCode.sub];obtain⟨hxl,hxo⟩:=hoks.row x (aa9 hswr)
 have hset0:∀ l:List aM,(sw.set r (x.1,x.2.1,l))[r]?=some (x.1,x.2.1,l):=fun l=>by
  rw[abe,if_pos rfl,if_pos (by rw[hoks.len];exact hrN)]
 refine af [0,1,2,8,85,86] [148008] (fun (k:Nat) tm m=>k≤N+1∧tm 87 = .dat (.int .i64 k)∧PS mem go N (sw.set r (x.1,x.2.1,(x.2.2.take k).map (fun f=>(iY f ((f1,f2),(f3,f4))).1)++x.2.2.drop k)) ((x.2.2.take k).any fun f=>(iY f ((f1,f2),(f3,f4))).2 != 0) m) (fun k=>N+1-k) 0 (by
  refine⟨aa3 _,e87,?_⟩;have e:sw.set r (x.1,x.2.1,(x.2.2.take 0).map (fun f=>(iY f ((f1,f2),(f3,f4))).1)++x.2.2.drop 0)=sw:=tc hswr
  rw[e];exact hps) ?_
 intro vs ms hvs hms;simp only[go_sem,go_sem_proc,aa4,e0,e1,e2,e8,e85,e86,em] at hvs hms;subst hvs hms;clear e0 e1 e2 e8 e85 e86 e87 em hps tm m;rintro k tm m hk hm ⟨hkN,h87,hps⟩;simp only[go_sem,go_sem_proc,aa4,List.cons.injEq] at hk hm;obtain⟨h0,h1,h2,h8,h85,h86⟩:=hk
 have hcl:((x.2.2.take k).map (fun f=>(iY f ((f1,f2),(f3,f4))).1)++x.2.2.drop k).length=N+1:=by
  rw[abh,abi,abj,abk];omega
 have hcok:MatOK N (sw.set r (x.1,x.2.1,(x.2.2.take k).map (fun f=>(iY f ((f1,f2),(f3,f4))).1)++x.2.2.drop k)):=by
  refine hoks.set hswr hcl fun f hf=>?_
  rw[abl] at hf;rcases hf with hf | hf
  ·obtain⟨f',-,rfl⟩:=List.mem_map.1 hf
   exact Eo _ _
  ·exact hxo f (List.mem_of_mem_drop hf)
 have hcr:=hset0 ((x.2.2.take k).map (fun f=>(iY f ((f1,f2),(f3,f4))).1)++x.2.2.drop k)
 rcases aa5 (k<N+1) with hklt | hkge
 ·obtain⟨⟨⟨a1,a2⟩,⟨a3,a4⟩⟩,hfk⟩:∃ f,x.2.2[k]?=some f:=⟨_,aa6 (by omega)⟩
  have hcg:=(vh (fun f=>(iY f ((f1,f2),(f3,f4))).1) (l:=x.2.2) (k:=k)).trans hfk
  have hnew:=yR (fun f=>(iY f ((f1,f2),(f3,f4))).1) hfk
  have hany:(x.2.2.take (k+1)).any (fun f=>(iY f ((f1,f2),(f3,f4))).2 != 0)=((x.2.2.take k).any (fun f=>(iY f ((f1,f2),(f3,f4))).2 != 0)||(iY ((a1,a2),(a3,a4)) ((f1,f2),(f3,f4))).2 != 0):=by
   rw[abm,hfk,List.any_append];simp
  obtain⟨hfo1,hfo2⟩:=hxo _ (aa9 hfk);generalize (x.2.2.take k).map (fun f=>(iY f ((f1,f2),(f3,f4))).1)++x.2.2.drop k=cur at *
  generalize ((x.2.2.take k).any fun f=>(iY f ((f1,f2),(f3,f4))).2 != 0)=bd at *
  have hm15':=hps.1.m;have hm35':=hps.1.o;have hxm':=hps.1.r _ (aa9 hcr);have q4:m 168004=none:=(hps.2 _ lN).trans hn4;have q6:m 168006=none:=(hps.2 _ lF).trans hn6;have t1:=Fd (N:=N) hcr;have t2:=Cy (N:=N) (rows:=sw.set r (x.1,x.2.1,cur)) (i:=r) (by rw[hcok.len];exact hrN);have t3:=Ai hcg;have t4:=zm (l:=cur) (k:=k) (by omega);have hkl:decide ((k:Int)<((N+1:Nat):Int))=true:=decide_eq_true (by omega);have hw:IntKind.i64.wrap ((k:Int)+1)=((k+1:Nat):Int):=by rw[al _ (by omega) (by omega)];omega
  generalize hV:iY ((a1,a2),(a3,a4)) ((f1,f2),(f3,f4))=V at *;obtain⟨⟨⟨v1,v2⟩,⟨v3,v4⟩⟩,er⟩:=V;dsimp only at hnew hany;have t5:=L0 (l:=cur) (k:=k) (by omega) v1 v2 v3 v4;refine qI ?_
  repeat' (intro h<;>simp only[h,go_sem,go_sem_proc,aa4,kW,f6,h0,h1,h2,h8,h85,h86,h87,hm,hm15',hm35',hxm',q4,q6,t1,t2,t3,t4,t5,hkl,hklt,hrN,hw,hV,hfo1,hfo2,hfl.1,hfl.2,bB,ae,abd,mN,List.set_cons_succ,abb,decide_true,decide_false,Nat.reduceLeDiff,ne_eq,not_false_eq_true,and_self]<;>try refine qS ?_ ?_)
  have e1:=PS.set hcok hcr (cur.set k ((v1,v2),(v3,v4))) (((hps.own (k:=148010) (g:=cR (m 148010)) (cs:=[MV.dat (Data.int IntKind.i64 0),MV.nil,MV.dat (Data.int IntKind.i64 0),MV.nil]) (.inr (.inl rfl))).own (k:=148010) (g:=cR (m 148010)) (cs:=[MV.dat (Data.int IntKind.i64 a1),MV.dat (Data.sl (abn aa a2)),MV.dat (Data.int IntKind.i64 a3),MV.dat (Data.sl (abn aa a4))]) (.inr (.inl rfl))).flag (bd||er != 0));rw[List.set_set,hnew] at e1;refine⟨k+1,by omega,by omega,rfl,?_⟩
  show PS mem go N _ ((x.2.2.take (k+1)).any fun f=>(iY f ((f1,f2),(f3,f4))).2 != 0) _
  rw[hany,hnew];exact e1
 ·have hk':k=N+1:=by omega
  have ecur:(x.2.2.take k).map (fun f=>(iY f ((f1,f2),(f3,f4))).1)++x.2.2.drop k=(cB ((f1,f2),(f3,f4)) x.2.2).1:=by
   unfold cB;rw[abo (by omega),abf (by omega),abg]
  have ebad:((x.2.2.take k).any fun f=>(iY f ((f1,f2),(f3,f4))).2 != 0)=(cB ((f1,f2),(f3,f4)) x.2.2).2:=by
   unfold cB;rw[abo (by omega)]
  rw[ecur] at hcok hps;rw[ebad] at hps;have hkl:decide ((k:Int)<((N+1:Nat):Int))=false:=decide_eq_false (by omega);refine qI ?_
  repeat' (intro h<;>simp only[h,go_sem,go_sem_proc,aa4,h0,h1,h2,h8,h85,h86,h87,hm,hkl]<;>try refine qS ?_ ?_)
  refine hK _ _ ?_ ?_ ?_ hcok hps<;>simp only[aW,abp,if_false,h0,h1,h2]
theorem MJ (T:Tab) (lQ:T gh=mkE xS) (kW:T bV=mkU mN) (f6:T gC=mkE px) (eH:T dY=mkE mI) (dU:T dI=mkE lS)
  (go N:Nat) (rows:List MR) (r c:Nat) (mem0:Mem) (hok:MatOK N rows) (hat:MatAt go N rows false mem0) (hn4:mem0 168004=none) (hn6:mem0 168006=none) (hN:N≤40) (hrc:r≤c) (hcN:c<N) :
  wp T mf_linear_matrix_pivot.body (qU mf_linear_matrix_pivot.res fun m mem'=>m = .dat (.bool (gY rows r c).1)∧PS mem0 go N (gY rows r c).2.1 (gY rows r c).2.2 mem') ⟨az [.ptr 129015 0 0,.dat (.int .i64 r),.dat (.int .i64 c)],mem0⟩:=by
 refine aq ?_;simp only[mf_linear_matrix_pivot];simp only[go_sem,go_sem_proc,aa4];refine af [0,1,2] [] (fun (i:Nat) tm mem=>r≤i∧i≤N∧(∀ j y,r≤j→j<i→rows[j]?=some y→ic (cL y c)=true)∧tm 7 = .dat (.int .i64 i)∧mem=mem0) (fun i=>N-i) r (by refine⟨abq _,by omega,fun j y h1 h2=>by omega,rfl,rfl⟩) ?_;intro vs ms hvs hms;simp only[go_sem,go_sem_proc,aa4] at hvs hms;subst hvs hms;rintro i tm mem hk hm ⟨hri,hiN,hz,h7,rfl⟩;simp only[go_sem,go_sem_proc,aa4,List.cons.injEq] at hk hm;obtain⟨h0,h1,h2⟩:=hk;have hm15:=hat.m;have hm35:=hat.o;have hlen:=hok.len;rcases aa5 (i<N) with hlt | hge
 ·have hx:∃ x,rows[i]?=some x:=⟨_,aa6 (by omega)⟩
  obtain⟨x,hx⟩:=hx;obtain⟨hxl,hxo⟩:=hok.row x (aa9 hx);have hxm:=hat.r x (aa9 hx);have hf:∃ f,x.2.2[c]?=some f:=⟨_,aa6 (by omega)⟩;obtain⟨⟨⟨f1,f2⟩,⟨f3,f4⟩⟩,hf⟩:=hf;have hcR:=Fd (N:=N) hx;have hlR:=Cy (N:=N) (rows:=rows) (i:=i) (by omega);have hcF:=Ai hf;have hlF:=zm (l:=x.2.2) (k:=c) (by omega);have hcell:=tQ hf;have hlt':decide ((i:Int)<(N:Int))=true:=decide_eq_true (by omega);have hcN':c<N+1:=by omega
  rcases hzf:(f1==0)
  ·have hfa:cw rows r c=i:=zu hx hri hz (by rw[hcell];exact hzf)
   obtain⟨xr,hxr⟩:∃ x,rows[r]?=some x:=⟨_,aa6 (by omega)⟩
   have hpv:gY rows r c=(false,bR (cB ((f1,f2),(f3,f4)) x.2.2).1 r c 0 (((rows.set r x).set i xr).set r (x.1,x.2.1,(cB ((f1,f2),(f3,f4)) x.2.2).1)) (cB ((f1,f2),(f3,f4)) x.2.2).2):=by
    unfold gY divided;rw[if_neg (by omega),hfa];have:fp (swapped rows r i) r=x:=kY (by unfold swapped;rw[kY hx,kY hxr];exact tN hx hxr);rw[this,hcell];unfold swapped;rw[kY hx,kY hxr]
   rw[hpv];clear hpv;have hoks:MatOK N ((rows.set r x).set i xr):=hok.swap hxr hx;have hpss:PS mem go N ((rows.set r x).set i xr) false _:=PS.swap hxr hx ⟨hat,fun _ _=>rfl⟩
   have hswr:((rows.set r x).set i xr)[r]?=some x:=tN hx hxr;have hrN:r<N:=by omega
   have s1:=Fd (N:=N) hxr;have s2:=Cy (N:=N) (rows:=rows) (i:=r) (by omega);have s3:=QK (N:=N) (rows:=rows) (i:=r) (by omega) x;have s4:=Cy (N:=N) (rows:=rows.set r x) (i:=i) (by rw[abr];omega);have s5:=QK (N:=N) (rows:=rows.set r x) (i:=i) (by rw[abr];omega) xr;have s6:=Fd (N:=N) hswr;have s7:=Cy (N:=N) (rows:=(rows.set r x).set i xr) (i:=r) (by rw[abr,abr];omega);generalize hsw:(rows.set r x).set i xr=sw at *;have hfl:=hxo _ (aa9 hf);have hltr:decide ((i:Int)<(N:Int))=true:=hlt';have hineq:((i:Int)==(N:Int))=false:=by simp;omega
   simp only[go_sem,go_sem_proc,aa4,lQ,kW,h0,h1,h2,h7,hm15,hm35,hxm,hcR,hlR,hcF,hlF,hlt,hlt',hcN',hzf,abd,hrN,s1,s2,s3,s4,s5,s6,s7,hineq];refine Ov T kW f6 go N r c mem hn4 hn6 hN hrN sw hoks x hswr f1 f2 f3 f4 hfl _ _ (cR (mem 148008)) ?_ ?_ ?_ ?_ ?_ ?_ ?_ ?_ ((hpss.own (.inl rfl)).own (.inl rfl)) ?_
   ·exact h0
   ·exact h1
   ·exact h2
   ·rfl
   ·rfl
   ·rfl
   ·rfl
   ·simp [aB]
   intro tm' m' k0 k1 k2 hok2 hps2;have hm15':=hps2.1.m
   have hr2:(sw.set r (x.1,x.2.1,(cB ((f1,f2),(f3,f4)) x.2.2).1))[r]?=some (x.1,x.2.1,(cB ((f1,f2),(f3,f4)) x.2.2).1):=by
    rw[abe,if_pos rfl,if_pos (by rw[hoks.len];exact hrN)]
   simp only[go_sem,go_sem_proc,aa4,k0,k1,k2,hm15'];refine Ob T lQ kW eH dU go N r c mem hn4 hn6 hN hrN hcN' _ hok2 x _ hr2 _ _ _ ?_ ?_ ?_ ?_ ?_ ?_ hps2 ?_
   ·exact k0
   ·exact k1
   ·exact k2
   ·rfl
   ·rfl
   ·rfl
   intro tm3 m3 hps3;refine qI ?_
   repeat' (intro h<;>simp only[h,go_sem,go_sem_proc,aa4]<;>try refine qS ?_ ?_)
   exact⟨_,rfl,rfl,hps3⟩
  ·have hw:IntKind.i64.wrap ((i:Int)+1)=((i+1:Nat):Int):=by rw[al _ (by omega) (by omega)];omega
   refine qI ?_
   repeat' (intro h<;>simp only[h,go_sem,go_sem_proc,aa4,lQ,kW,h0,h1,h2,h7,hm15,hm35,hxm,hcR,hlR,hcF,hlF,hlt,hlt',hcN',hzf,hw,abd]<;>try refine qS ?_ ?_)
   refine⟨i+1,by omega,by omega,by omega,?_,rfl⟩
   intro j y hj1 hj2 hy
   by_cases hji:j=i
   ·subst hji
    rw[hx] at hy
    cases hy;rw[hcell];exact hzf
   ·exact hz j y hj1 (by omega) hy
 ·have hiN':i=N:=by omega
  subst hiN';have hlt':decide ((i:Int)<(i:Int))=false:=decide_eq_false (by omega);have hfe:=Cz (rows:=rows) (r:=r) (c:=c) (by omega) (fun j y hj hy=>hz j y hj (by have:=(List.getElem?_eq_some_iff.1 hy).1;omega) hy);have hp:gY rows r c=(true,rows,false):=by unfold gY;rw[if_pos hfe]
  rw[hp];refine qI ?_
  repeat' (intro h<;>simp only[h,go_sem,go_sem_proc,aa4,lQ,kW,h0,h1,h2,h7,hm15,hm35,hlt',beq_self_eq_true]<;>try refine qS ?_ ?_)
  exact⟨_,rfl,rfl,hat,fun _ _=>rfl⟩
structure K2 where
 go:Nat
 N:Nat
 rows:List MR
 r:Nat
 c:Nat
def JE (a:K2) (mem:Mem):Prop:=MatOK a.N a.rows∧MatAt a.go a.N a.rows false mem∧mem 168004=none∧mem 168006=none∧a.N≤40∧a.r≤a.c∧a.c<a.N
def Om (a:K2) (mem:Mem):MV→Mem→Prop:=fun m mem'=>m = .dat (.bool (gY a.rows a.r a.c).1)∧PS mem a.go a.N (gY a.rows a.r a.c).2.1 (gY a.rows a.r a.c).2.2 mem'
noncomputable def qM:List MV→Mem→Option (MV→Mem→Prop):=QQ (fun (a:K2) args mem=>args=[.ptr 129015 0 0,.dat (.int .i64 a.r),.dat (.int .i64 a.c)]∧JE a mem) Om
theorem Jx {N:Nat} {a b:List MR} (h:ce N a=ce N b):a.map (fun x=>(x.1,x.2.1))=b.map fun x=>(x.1,x.2.1):=by
 induction a generalizing b with
 | nil=>cases b with
  | nil=>rfl
  | cons y r=>simp [ce] at h
 | cons x a ih=>cases b with
  | nil=>simp [ce] at h
  | cons y b =>
   simp only[ce,abs,List.cons.injEq,MV.ref.injEq] at h;have h1:x.1=y.1:=by have:=h.1.1;simp only[Key] at this;omega
   simp only[abs,List.cons.injEq,Prod.mk.injEq];exact⟨⟨h1,h.1.2.1⟩,ih h.2⟩
theorem CK (a:K2) (mem:Mem) (h:JE a mem):qM [.ptr 129015 0 0,.dat (.int .i64 a.r),.dat (.int .i64 a.c)] mem=some (Om a mem):=by
 unfold qM;refine QC (a:=a) ?_ ⟨rfl,h⟩;rintro a b args mem ⟨h1,h2,h3,_⟩ ⟨h4,h5,h6,_⟩;rw[h1] at h4;simp only[List.cons.injEq,MV.dat.injEq,Data.int.injEq,true_and,and_true] at h4;have hm:=h3.m;rw[h6.m] at hm;simp only[Option.some.injEq,Prod.mk.injEq,List.cons.injEq,MV.ref.injEq,true_and,and_true] at hm;obtain⟨⟨hg,hn⟩,-⟩:=hm;have ho:=h3.o;rw[h6.o] at ho;simp only[Option.some.injEq,Prod.mk.injEq] at ho;obtain⟨ag,aN,ar,a1,a2⟩:=a;obtain⟨bg,bN,br,b1,b2⟩:=b;dsimp only at *;subst hg hn
 have hr:br=ar:=by
  have h7:=Jx ho.2;have hl:br.length=ar.length:=by have:=congrArg abt h7;simpa using this
  apply List.ext_getElem hl;intro i hi1 hi2;have h8:(br.map fun x=>(x.1,x.2.1))[i]?=(ar.map fun x=>(x.1,x.2.1))[i]?:=by rw[h7]
  rw[abu,abu,aa6 hi1,aa6 hi2] at h8;simp only[abv,Option.some.injEq,Prod.mk.injEq] at h8;have r1:=h6.r _ (abw hi1);have r2:=h3.r _ (abw hi2);rw[h8.1,r2] at r1;simp only[Option.some.injEq,Prod.mk.injEq] at r1;have:=H8 r1.2;exact abx h8.1 (abx h8.2 this.symm)
 subst hr;have e1:a1=b1:=by omega
 have e2:a2=b2:=by omega
 subst e1 e2
 rfl
theorem zX {args:List MV} {mem:Mem} {R:MV→Mem→Prop} (h:qM args mem=some R):∃ a,args=[.ptr 129015 0 0,.dat (.int .i64 a.r),.dat (.int .i64 a.c)]∧JE a mem∧R=Om a mem:=by
 obtain⟨a,⟨h1,h2⟩,h3⟩:=CW h;exact⟨a,h1,h2,h3⟩
theorem wb (l:List aM):((l.map ae).all fun e=>e.length==4)=true:=by simp [ae]
noncomputable def qZ:List Data→Option PRes:=FF (α:=List aM) (fun (l:List aM)=>([.sl (l.map ae)]:List Data)) (fun (l:List aM)=>aI (l.length≤1000000) (.own 4 (l.map ae)))
theorem yn:∀ a b:List aM,(fun (l:List aM)=>([.sl (l.map ae)]:List Data)) a=(fun (l:List aM)=>([.sl (l.map ae)]:List Data)) b→a=b:=by
  intro l1 l2 h;exact ah dJ _ _ (by simpa using h)
@[go_sem] theorem Ns (l:List aM) (hc:l.length≤1000000):qZ [.sl (l.map ae)]=some (.own 4 (l.map ae)):=(aZ yn l).trans (ap hc _)
theorem H4 (T:Tab)  (l:List aM) (hc:l.length≤1000000) :
  wp T mf_slices_Clone_Frac.body (bG mf_slices_Clone_Frac.res (.own 4 (l.map ae))) ⟨az [.dat (.sl (l.map ae))],emp⟩:=by
 refine aq ?_;simp only[mf_slices_Clone_Frac]
 have hap:jR 147005 0 4 0 64 l.length ((l.map ae).flatten.map .dat) (some (0,[]))=some (.ref 147005 1 4 0 l.length,some (147005,1,ay ae l)):=by
  have:=jG cr kv 147005 0 64 [] l (by simp;omega) (by simp;omega)
  simpa [ay] using this
 have hlen:(ay ae l).length=l.length*4:=di cr l;refine qI ?_
 repeat' (intro h<;>simp only[h,go_sem,go_sem_proc,aa4,wb,hap,abi]<;>try refine qS ?_ ?_)
 rintro b hb
 cases b
 ·refine qI ?_
  repeat' (intro h<;>simp only[h,go_sem,go_sem_proc,aa4,wb,hap,abi,rW,hlen]<;>try refine qS ?_ ?_)
  rw[if_pos (by omega),abo (by omega)];unfold ay;rw[kC _ fun d=>rfl]
  have:=iG (sz:=4) (l.map ae) (by intro e he;obtain⟨f,-,rfl⟩:=List.mem_map.1 he;rfl);rw[abi] at this;simp [this]
 ·cases l with
  | nil =>
       refine qI ?_
       repeat' (intro h<;>simp only[h,go_sem,go_sem_proc,aa4,rW,aby]<;>try refine qS ?_ ?_)
  | cons x r=>simp at hb
def dq (rs:List cG):List MR:=rs.zipIdx.map fun p=>(p.2,0,p.1.1++[p.1.2])
theorem mO (rs:List cG):(dq rs).length=rs.length:=by simp [dq]
theorem Eg {rs:List cG} {i:Nat} {r:cG} (h:rs[i]?=some r):(dq rs)[i]?=some (i,0,r.1++[r.2]):=by
 unfold dq;rw[abu,abz,h];simp
theorem uT {rs:List cG} {i:Nat} {r:cG} (h:rs[i]?=some r):(dq rs).take (i+1)=(dq rs).take i++[(i,0,r.1++[r.2])]:=by
 rw[abm,Eg h]
 rfl
theorem KS {rs:List cG} {i:Nat} {x:MR} (h:x∈(dq rs).take i):x.1<i∧x.2.1=0:=by
 obtain⟨j,hj⟩:=List.mem_iff_getElem?.1 h;rw[List.getElem?_take] at hj
 split at hj
 ·rename_i hji
  unfold dq at hj;rw[abu,abz] at hj
  cases hr:rs[j]? with
  | none=>rw[hr] at hj;cases hj
  | some r =>
   rw[hr] at hj;simp only[abv,Option.some.injEq] at hj;subst hj;exact⟨by simpa using hji,rfl⟩
 ·cases hj
theorem zd (N:Nat) (a b:List MR):ce N (a++b)=ce N a++ce N b:=by simp [ce]
theorem mj (N:Nat) (a:List MR):(ce N a).length=a.length:=by simp [ce]
structure BS (N:Nat) (rs:List cG) (i go:Nat) (mem:Mem):Prop where
 z:i=0→mem 129015=some (0,[.nil,.dat (.int .i64 N),.dat (.bool false)])
 p:0<i→mem 129015=some (0,[.ref 129035 go 1 0 i,.dat (.int .i64 N),.dat (.bool false)])∧mem 129035=some (go,ce N ((dq rs).take i))
 r:∀ x∈(dq rs).take i,mem (x.1+900000)=some (x.2.1,ay ae x.2.2)
 n:∀ j:Nat,i≤j→mem (j+900000)=none
 a:mem 168004=none
 b:mem 168006=none
theorem wt (l:List aM):(l.map ae).flatten.map MV.dat=ay ae l:=rfl
theorem Sw (G:Nat) (l:List aM) (v1:Int) (v2:List Int) (v3:Int) (v4:List Int) (h:l.length≤1000000):jR 129029 G 4 l.length 64 1 [.dat (.int .i64 v1),.dat (.sl (v2.map aa)),.dat (.int .i64 v3),.dat (.sl (v4.map aa))] (some (G,ay ae l))=some (.ref 129029 (G+1) 4 0 (l.length+1),some (129029,G+1,ay ae (l++[((v1,v2),(v3,v4))]))) :=
 dw cr kv 129029 G 64 l ((v1,v2),(v3,v4)) rfl (by omega) (by omega)
theorem SV (N G i g:Nat) (a:List MR) (hi:a.length=i) (h:i≤1000) (m:MV) (hm:m = .ref 129029 g 4 0 (N+1)):jR 129035 G 1 i 24 1 [m] (some (G,ce N a))=some (.ref 129035 (G+1) 1 0 (i+1),some (129035,G+1,ce N a++[m])):=by
 subst hm;unfold jR;dsimp only;rw[if_pos ⟨rfl,by rw[mj];omega,by omega,by unfold maxLen;omega,rfl⟩,abo (by rw[mj];omega)]
theorem KU {N i go go' G:Nat} {rs:List cG} {r:cG} {m m':Mem} (hb:BS N rs i go m) (hr:rs[i]?=some r) (h15:m' 129015=some (0,[.ref 129035 go' 1 0 (i+1),.dat (.int .i64 N),.dat (.bool false)])) (hf:∀ k:Nat,900000≤k∨k=168004∨k=168006→m' k=m k) :
  BS N rs (i+1) go' (aB (aB (aB m' 129029 (aC m' 129029) []) (i+900000) (aC m' (i+900000)) (ay ae (r.1++[r.2]))) 129035 go' ((ce N ((dq rs).take i)++[MV.ref 129029 G 4 0 (N+1)]).set i (MV.ref (i+900000) (aC m' (i+900000)) 4 0 (N+1)))):=by
 have hlt:=(List.getElem?_eq_some_iff.1 hr).1
 have hg:aC m' (i+900000)=0:=by
  unfold aC;rw[hf _ (.inl (by omega)),hb.n i (abq _)]
 have htl:(ce N ((dq rs).take i)).length=i:=by rw[mj,abj,mO];omega
 rw[hg]
 have hset:(ce N ((dq rs).take i)++[MV.ref 129029 G 4 0 (N+1)]).set i (.ref (i+900000) 0 4 0 (N+1))=ce N ((dq rs).take (i+1)):=by
  rw[aba _ _ (by omega),htl,aa8,abb,uT hr,zd]
  rfl
 rw[hset];have at1:∀ (k:Nat),k≠129029→k≠129035→k≠i+900000→aB (aB (aB m' 129029 (aC m' 129029) []) (i+900000) 0 (ay ae (r.1++[r.2]))) 129035 go' (ce N ((dq rs).take (i+1))) k=m' k:=fun k h1 h2 h3=>by simp [aB,h1,h2,h3]
 refine⟨fun h=>by omega,fun _=>⟨by rw[at1 _ (by omega) (by omega) (by omega)];exact h15,by simp [aB]⟩,fun x hx=>?_,fun j hj=>?_,?_,?_⟩
 ·rw[uT hr,abl,abA] at hx
  rcases hx with hx | rfl
  ·obtain⟨hx1,hx2⟩:=KS hx
   rw[at1 _ (by omega) (by omega) (by omega),hf _ (.inl (by omega))];exact hb.r x hx
  ·have h2:(i+900000:Nat)≠129035:=by omega
   simp [aB]
 ·rw[at1 _ (by omega) (by omega) (by omega),hf _ (.inl (by omega))]
  exact hb.n j (by omega)
 ·rw[at1 _ (by omega) (by omega) (by omega),hf _ (.inr (.inl rfl))]
  exact hb.a
 ·rw[at1 _ (by omega) (by omega) (by omega),hf _ (.inr (.inr rfl))]
  exact hb.b
theorem wQ {K:St→Prop} {tm:Nat→MV} {N i go:Nat} (go' G:Nat) {rs:List cG} {r:cG} {m m':Mem} (hb:BS N rs i go m) (hr:rs[i]?=some r) (h15:m' 129015=some (0,[.ref 129035 go' 1 0 (i+1),.dat (.int .i64 N),.dat (.bool false)]))
  (h35:m' 129035=some (go',ce N ((dq rs).take i)++[.ref 129029 G 4 0 (N+1)])) (h29:m' 129029=some (G,ay ae (r.1++[r.2]))) (hf:∀ k:Nat,900000≤k∨k=168004∨k=168006→m' k=m k) (h:∀ M,BS N rs (i+1) go' M→K ⟨tm,M⟩):dP K ⟨tm,m'⟩ .move:=by
 have hlt:=(List.getElem?_eq_some_iff.1 hr).1;have htl:(ce N ((dq rs).take i)).length=i:=by rw[mj,abj,mO];omega
 exact Bx 129035 i 129029 (i+900000) h35 (by rw[aa7 (by omega),htl,aa8];rfl) h29 (by omega) (show (i+900000:Nat)≠129029 by omega) (show (i+900000:Nat)≠129035 by omega) (h _ (KU hb hr h15 hf))
theorem cT {m:Mem} {k g:Nat} {cs:List MV} {j:Nat} (h:j≠k):aB m k g cs j=m j:=if_neg h
theorem Mg (T:Tab) (cA:T eP=mkE qZ) {K:bP→St→Prop} {kk:List Todo} (N:Nat) (rs:List cG) (stop:Bool) (hN:N≤40) (hlen:rs.length=N) (hrs:∀ r∈rs,r.1.length=N∧oU r) (tm:Nat→MV) (m:Mem)
  (e1:tm 1 = .dat (.int .i64 N)) (e2:tm 2 = .dat (.bool stop)) (e8:tm 8 = .ptr 129015 0 0) (e16:tm 16 = .dat (.sl (rs.map fz))) (e17:tm 17 = .dat (.int .i64 N)) (e18:tm 18 = .dat (.int .i64 0)) (hb:BS N rs 0 0 m)
  (hK:∀ tm' m' go,tm' 1 = .dat (.int .i64 N)→tm' 2 = .dat (.bool stop)→tm' 8 = .ptr 129015 0 0→BS N rs N go m'→kont T K kk (.exit 0) ⟨tm',m'⟩) :
  wp T (mf_linear_eliminated.body.sub [1,1,0,1,0]) (kont T K kk) ⟨tm,m⟩:=by
 simp only[mf_linear_eliminated,MCode.sub];refine af [1,2,8,16,17] [] (fun ((i,go):Nat × Nat) tm m=>i≤N∧tm 18 = .dat (.int .i64 i)∧BS N rs i go m) (fun (i,_)=>N-i) (0,0) (by exact⟨aa3 _,e18,hb⟩) ?_;intro vs ms hvs hms;simp only[go_sem,go_sem_proc,aa4,e1,e2,e8,e16,e17] at hvs hms;subst hvs hms;clear e1 e2 e8 e16 e17 e18 hb tm m;rintro⟨i,go⟩ tm m hk hm ⟨hiN,h18,hb⟩;simp only[go_sem,go_sem_proc,aa4,List.cons.injEq] at hk hm;obtain⟨h1,h2,h8,h16,h17⟩:=hk;rcases aa5 (i<N) with hlt | hge
 ·obtain⟨⟨A,⟨v1,v2⟩,⟨v3,v4⟩⟩,hr⟩:∃ r,rs[i]?=some r:=⟨_,aa6 (by omega)⟩
  obtain⟨hAl,⟨hAL,hAo⟩,hV1,hV2⟩:=hrs _ (aa9 hr);dsimp only at hAl hAL hAo hV1 hV2;have hil:decide ((i:Int)<(N:Int))=true:=decide_eq_true (by omega);have hw:IntKind.i64.wrap ((i:Int)+1)=((i+1:Nat):Int):=by rw[al _ (by omega) (by omega)];omega
  have hap:∀ G,jR 129029 G 4 N 64 1 _ _=_:=fun G=>hAl ▸ Sw G A v1 v2 v3 v4 hAL
  have hNL:N≤1000000:=by omega
  have hmx:(1≤maxLen)=True:=eq_true (by unfold maxLen;omega);have hta:=uT hr;have htl:((dq rs).take i).length=i:=by rw[abj,mO];omega
  rcases abB i with h0 | hpos
  ·have hm15:=hb.z h0
   refine qI ?_
   repeat' (intro h<;>simp only[h,go_sem,go_sem_proc,aa4,cA,h1,h2,h8,h16,h17,h18,hm15,hil,hr,hw,hNL,hAl,hap,hmx,wt,abi,abu,fz,ae,decide_true,decide_false,ne_eq,not_false_eq_true,and_self]<;>try refine qS ?_ ?_)
   refine wQ (cR (m 129035)) (cR (m 129029)+1) hb hr (by simp [aB,h0]) (by simp [aB,h0,ce]) (by simp [aB]) (fun k hk=>?_) fun M hB=>?_
   ·rw[cT (by omega),cT (by omega),cT (by omega),cT (by omega),cT (by omega),cT (by omega),cT (by omega)]
   ·refine qI ?_
    repeat' (intro h<;>simp only[h,go_sem,go_sem_proc,aa4,h1,h2,h8,h16,h17,h18,hw]<;>try refine qS ?_ ?_)
    exact⟨(i+1,cR (m 129035)),by dsimp only;omega,by dsimp only;omega,rfl,hB⟩
  ·obtain⟨hm15,hm35⟩:=hb.p hpos
   have hapR:=SV N go i (cR (m 129029)+1) ((dq rs).take i) htl (by omega) _ rfl;refine qI ?_
   repeat' (intro h<;>simp only[h,go_sem,go_sem_proc,aa4,cA,h1,h2,h8,h16,h17,h18,hm15,hm35,hil,hr,hw,hNL,hAl,hap,hapR,wt,abi,abu,fz,ae,decide_true,decide_false,ne_eq,not_false_eq_true,and_self]<;>try refine qS ?_ ?_)
   refine wQ (go+1) (cR (m 129029)+1) hb hr (by simp [aB]) (by simp [aB]) (by simp [aB]) (fun k hk=>?_) fun M hB=>?_
   ·rw[cT (by omega),cT (by omega),cT (by omega),cT (by omega),cT (by omega),cT (by omega),cT (by omega)]
   ·refine qI ?_
    repeat' (intro h<;>simp only[h,go_sem,go_sem_proc,aa4,h1,h2,h8,h16,h17,h18,hw]<;>try refine qS ?_ ?_)
    exact⟨(i+1,go+1),by dsimp only;omega,by dsimp only;omega,rfl,hB⟩
 ·have hil:decide ((i:Int)<(N:Int))=false:=decide_eq_false (by omega)
  obtain rfl:i=N:=by omega
  refine qI ?_
  repeat' (intro h<;>simp only[h,go_sem,go_sem_proc,aa4,h1,h2,h8,h16,h17,h18,hil]<;>try refine qS ?_ ?_)
  refine hK _ _ go ?_ ?_ ?_ hb<;>simp only[aW,abp,if_false,h1,h2,h8]
def gd (stop:Bool):Nat→Nat→List MR→List Nat→Bool→List MR × List Nat × Bool
 | 0,_,rows,free,bad=>(rows,free,bad)
 | _+1,_,rows,free,true=>(rows,free,true)
 | k+1,c,rows,free,false =>
  if (gY rows (c-free.length) c).1=true then
   (if stop=true then ((gY rows (c-free.length) c).2.1,free++[c],(gY rows (c-free.length) c).2.2) else gd stop k (c+1) (gY rows (c-free.length) c).2.1 (free++[c]) (gY rows (c-free.length) c).2.2)
  else gd stop k (c+1) (gY rows (c-free.length) c).2.1 free (gY rows (c-free.length) c).2.2
theorem wG (stop:Bool) (k c:Nat) (rows:List MR) (free:List Nat):gd stop k c rows free true=(rows,free,true):=by
 cases k<;>rfl
def gJ (n:Nat):List Data:=[.int .i64 n]
theorem ib (n:Nat):(gJ n).length=1:=rfl
theorem Bs (n:Nat):((gJ n).map MV.dat).all MV.one=true:=rfl
def OH (N:Nat) (rows:List MR) (bad:Bool):Data:=.ptr [.sl (rows.map fun x=>[.sl (x.2.2.map ae)]),.int .i64 N,.bool bad]
def wg (N:Nat) (p:List MR × List Nat × Bool):Data:=.tup [OH N p.1 p.2.2,.sl (p.2.1.map gJ)]
theorem iW (prow:List aM) (r c:Nat):∀ (i:Nat) (l:List MR) (b:Bool),(bR prow r c i l b).1.map (fun x=>(x.1,x.2.1,x.2.2.length))=l.map fun x=>(x.1,x.2.1,x.2.2.length)
 | _,[],_=>rfl
 | i,x::xs,b=>by
  unfold bR
  split
  ·simp only[abs,iW prow r c (i+1) xs b]
  ·simp only[abs,iW prow r c (i+1) xs,oY]
theorem wm (fac:aM):∀ (l p:List aM) (b:Bool),(∀ f∈l,okF f)→∀ f∈(cU fac l p b).1,okF f
 | [],p,b,h=>by rw[tH];exact h
 | f::fs,[],b,h=>by cases b<;>(simp only[cU];exact h)
 | f::fs,p::ps,true,h=>by simp only[cU];exact h
 | f::fs,p::ps,false,h=>by
  simp only[cU];intro g hg;rcases List.mem_cons.1 hg with rfl | hg
  ·exact EO _ _
  ·exact wm fac fs ps _ (fun x hx=>h x (abC _ hx)) g hg
theorem nJ (prow:List aM) (r c:Nat):∀ (i:Nat) (l:List MR) (b:Bool),(∀ x∈l,∀ f∈x.2.2,okF f)→∀ x∈(bR prow r c i l b).1,∀ f∈x.2.2,okF f
 | _,[],_,h=>h
 | i,x::xs,b,h=>by
  unfold bR
  split
  ·intro y hy
   rcases List.mem_cons.1 hy with rfl | hy
   ·exact h _ abD
   ·exact nJ prow r c (i+1) xs b (fun z hz=>h z (abC _ hz)) y hy
  ·intro y hy
   rcases List.mem_cons.1 hy with rfl | hy
   ·exact wm _ _ _ _ (h _ abD)
   ·exact nJ prow r c (i+1) xs _ (fun z hz=>h z (abC _ hz)) y hy
theorem wN (rows:List MR) (r c:Nat) (hr:r≤rows.length):r≤cw rows r c∧cw rows r c≤rows.length:=by
 unfold cw;have:=List.findIdx_le_length (p:=fun x => !ic (cL x c)) (xs:=rows.drop r);rw[abk] at this;omega
theorem MatOK.piv {N:Nat} {rows:List MR} (h:MatOK N rows) {r c:Nat} (hr:r<N):MatOK N (gY rows r c).2.1:=by
 unfold gY
 split
 ·exact h
 ·rename_i hne
  have hfl:=wN rows r c (by rw[h.len];omega);have hl:=h.len;obtain⟨x,hx⟩:∃ x,rows[cw rows r c]?=some x:=⟨_,aa6 (by omega)⟩;obtain⟨xr,hxr⟩:∃ x,rows[r]?=some x:=⟨_,aa6 (by omega)⟩
  have hsw:MatOK N (swapped rows r (cw rows r c)):=by
   unfold swapped;rw[kY hx,kY hxr];exact h.swap hxr hx
  have hswr:(swapped rows r (cw rows r c))[r]?=some x:=by
   unfold swapped;rw[kY hx,kY hxr];exact tN hx hxr
  generalize swapped rows r (cw rows r c)=sw at *;obtain⟨hxl,hxo⟩:=hsw.row x (aa9 hswr)
  have hdv:MatOK N (divided sw r c):=by
   unfold divided;rw[kY hswr];refine hsw.set hswr (by simp [cB,hxl]) fun f hf=>?_
   obtain⟨g,-,rfl⟩:=List.mem_map.1 hf;exact Eo _ _
  generalize divided sw r c=dv at *;have hsh:=iW (cB (cL (fp sw r) c) (fp sw r).2.2).1 r c 0 dv (cB (cL (fp sw r) c) (fp sw r).2.2).2;have hok:=nJ (cB (cL (fp sw r) c) (fp sw r).2.2).1 r c 0 dv (cB (cL (fp sw r) c) (fp sw r).2.2).2 fun x hx=>(hdv.row x hx).2
  dsimp only;generalize (bR (cB (cL (fp sw r) c) (fp sw r).2.2).1 r c 0 dv (cB (cL (fp sw r) c) (fp sw r).2.2).2).1=el at *;refine⟨?_,?_,fun y hy=>⟨?_,hok y hy⟩⟩
  ·have:=congrArg abt hsh
   rw[abi,abi] at this;rw[this,hdv.len]
  ·have h1:el.map (·.1)=dv.map (·.1):=by
    have:=congrArg (abn fun p:Nat × Nat × Nat=>p.1) hsh
    simpa [abE,Function.comp_def] using this
   rw[h1];exact hdv.nd
  ·have h1:el.map (fun x=>x.2.2.length)=dv.map fun x=>x.2.2.length:=by
    have:=congrArg (abn fun p:Nat × Nat × Nat=>p.2.2) hsh
    simpa [abE,Function.comp_def] using this
   have h2:y.2.2.length∈dv.map fun x=>x.2.2.length:=by rw[←h1];exact List.mem_map.2 ⟨y,hy,rfl⟩
   obtain⟨z,hz,e⟩:=List.mem_map.1 h2;rw[←e];exact (hdv.row z hz).1
theorem J5 {n k g N:Nat} {mem:Mem} {l:List aM} (hl:l.length=N+1) (hm:mem k=some (g,ay ae l)):toD (n+1) mem (.ref k g 4 0 (N+1))=some (.sl (l.map ae)):=by
 rw[←hl];exact eS cr hm
theorem Kc {n N:Nat} {mem:Mem} {rows:List MR} (h:∀ x∈rows,mem (x.1+900000)=some (x.2.1,ay ae x.2.2)) (hl:∀ x∈rows,x.2.2.length=N+1):(ce N rows).mapM (toD (n+1) mem)=some (rows.map fun x => .sl (x.2.2.map ae)):=by
 unfold ce
 induction rows with
 | nil=>rfl
 | cons x xs ih =>
  have h1:=J5 (n:=n) (hl x abD) (h x abD);have h2:=ih (fun y hy=>h y (abC _ hy)) fun y hy=>hl y (abC _ hy)
  simp only[abs,abF,h1,h2]
  rfl
theorem yM {n N go:Nat} {mem:Mem} {rows:List MR} {bad:Bool} (hok:MatOK N rows) (h:MatAt go N rows bad mem):toD (n+3) mem (.ptr 129015 0 0)=some (OH N rows bad):=by
 have h1:=Kc (n:=n) h.r fun x hx=>(hok.row x hx).1
 have h2:toD (n+2) mem (.ref 129035 go 1 0 N)=some (.sl (rows.map fun x=>[.sl (x.2.2.map ae)])):=by
  unfold toD;rw[h.o];simp only[if_true];unfold cut;rw[if_pos (by rw[mj,hok.len];omega),abG,abo (by rw[mj,hok.len];omega)];dsimp only;rw[h1];have:=iG (sz:=1) (rows.map fun x=>[Data.sl (x.2.2.map ae)]) (by intro e he;obtain⟨x,-,rfl⟩:=List.mem_map.1 he;rfl);rw[abi,hok.len] at this;simp only[abv,Option.some.injEq,Data.sl.injEq]
  have hfl:∀ l:List MR,(l.map fun x=>Data.sl (x.2.2.map ae))=(l.map fun x=>[Data.sl (x.2.2.map ae)]).flatten:=by
   intro l
   induction l with
   | nil=>rfl
   | cons x xs ih=>simp only[abs,abH,ih];rfl
  rw[hfl,this]
 unfold toD;rw[h.m];simp only[if_true,abG,abF,List.mapM_nil,h2,true_and,aa3];simp only[sN]
 rfl
theorem BS.mat {N go:Nat} {rs:List cG} {m:Mem} (hl:rs.length=N) (hN:0<N) (h:BS N rs N go m):MatAt go N (dq rs) false m:=by
 have ht:(dq rs).take N=dq rs:=abo (by rw[mO];omega);have hp:=h.p hN;rw[ht] at hp;exact⟨hp.1,hp.2,by have:=h.r;rw[ht] at this;exact this⟩
theorem MatAt.other {go N:Nat} {rows:List MR} {bad:Bool} {mem:Mem} {k g:Nat} {cs:List MV} (h:MatAt go N rows bad mem) (h1:k≠129015) (h2:k≠129035) (h3:k<900000):MatAt go N rows bad (aB mem k g cs) :=
 ⟨(cT (Ne.symm h1)).trans h.m,(cT (Ne.symm h2)).trans h.o,fun x hx=>(cT (show (x.1+900000:Nat)≠k by omega)).trans (h.r x hx)⟩
theorem Jr {N:Nat} {rs:List cG} (hl:rs.length=N) (h:∀ r∈rs,r.1.length=N∧oU r):MatOK N (dq rs):=by
 refine⟨by rw[mO,hl],?_,fun x hx=>?_⟩
 ·have:(dq rs).map (·.1)=abI rs.length:=by
   unfold dq;rw[abE];apply List.ext_getElem?;intro i;rw[abu,abz];rcases abJ i rs.length with h | h
   ·rw[aa6 h];simp [h]
   ·rw[List.getElem?_eq_none h];simp [h]
  rw[this];exact List.nodup_range
 ·unfold dq at hx
  obtain⟨⟨r,i⟩,hp,rfl⟩:=List.mem_map.1 hx;have hr:=List.fst_mem_of_mem_zipIdx hp;obtain⟨h1,h2,h3⟩:=h r hr;refine⟨by simp [h1],fun f hf=>?_⟩
  rw[abl,abA] at hf;rcases hf with hf | rfl
  ·exact h2.2 f hf
  ·exact h3
noncomputable def yG:List Data→Option PRes:=FF (α:=(List cG) × Int × Bool) (fun (rs,n,stop)=>([.sl (rs.map fz),.int .i64 n,.bool stop]:List Data)) (fun (rs,n,stop)=>aI ((rs.length:Int)=n∧rs.length≤40∧∀ r∈rs,r.1.length=rs.length∧oU r) (.same (wg rs.length (gd stop rs.length 0 (dq rs) [] false))))
theorem BZ:∀ a b:(List cG) × Int × Bool,(fun (rs,n,stop)=>([.sl (rs.map fz),.int .i64 n,.bool stop]:List Data)) a=(fun (rs,n,stop)=>([.sl (rs.map fz),.int .i64 n,.bool stop]:List Data)) b→a=b:=by
  rintro⟨rs1,n1,stop1⟩ ⟨rs2,n2,stop2⟩ h;simp only[List.cons.injEq,Data.sl.injEq,Data.int.injEq,Data.bool.injEq] at h;exact abx (ah nP _ _ h.1) (abx h.2.1.2 h.2.2.1)
@[go_sem] theorem Fw (rs:List cG) (n:Int) (stop:Bool) (hc:(rs.length:Int)=n∧rs.length≤40∧∀ r∈rs,r.1.length=rs.length∧oU r):yG [.sl (rs.map fz),.int .i64 n,.bool stop]=some (.same (wg rs.length (gd stop rs.length 0 (dq rs) [] false))):=(aZ BZ (rs,n,stop)).trans (ap hc _)
theorem ND (T:Tab) (cA:T eP=mkE qZ) (dC:T fN=mkQ qM) (rs:List cG) (n:Int) (stop:Bool) (hc:(rs.length:Int)=n∧rs.length≤40∧∀ r∈rs,r.1.length=rs.length∧oU r) :
  wp T mf_linear_eliminated.body (bG mf_linear_eliminated.res (.same (wg rs.length (gd stop rs.length 0 (dq rs) [] false)))) ⟨az [.dat (.sl (rs.map fz)),.dat (.int .i64 n),.dat (.bool stop)],emp⟩:=by
 refine aq ?_;simp only[mf_linear_eliminated];obtain⟨hn,hN,hrs⟩:=hc;subst hn;simp only[go_sem,go_sem_proc,aa4,cA,dC,abi];generalize hNe:rs.length=N at *;refine Mg T cA N rs stop hN hNe hrs _ _ rfl rfl rfl rfl rfl rfl ⟨fun _=>by simp [aB],fun h=>by omega,fun x hx=>by simp at hx,fun j _=>cT (show (j+900000:Nat)≠129015 by omega),cT (by omega),cT (by omega)⟩ ?_
 intro tm m go h1 h2 h8 hb;rcases abB N with h0 | hpos
 ·have hr0:rs=[]:=List.eq_nil_of_length_eq_zero (by omega)
  have hz:=hb.z h0;subst h0;subst hr0;simp only[go_sem,go_sem_proc,aa4,cA,dC,h1,h2,h8];refine af [1,2,8] [129015] (fun (_:Unit) tm' m'=>tm' 11 = .ref 129061 (cR (m 129061)) 1 0 0∧m' 129061=some (cR (m 129061),[])∧tm' 12 = .dat (.int .i64 0)) (fun _=>0) () (by refine⟨rfl,?_,rfl⟩;simp [aB]) ?_;intro vs ms hvs hms;simp only[go_sem,go_sem_proc,aa4,cA,dC,h1,h2,h8,hz] at hvs hms;subst hvs hms;rintro _ tm' m' hk hm ⟨k11,k61,k12⟩;simp only[go_sem,go_sem_proc,aa4,cA,dC,List.cons.injEq] at hk hm;obtain⟨k1,k2,k8⟩:=hk;simp only[go_sem,go_sem_proc,aa4,cA,dC,k1,k2,k8,hm,k11,k61,k12,show decide ((0:Int)<((0:Nat):Int))=false from rfl,toD,lG,abG]
  repeat' (first|refine qS ?_ ?_|fail)<;>intro h<;>simp only[h,go_sem,go_sem_proc,aa4,cA,dC,k1,k2,k8,hm,k11,k61,k12,show decide ((0:Int)<((0:Nat):Int))=false from rfl,toD,lG,abG]
  rfl
 ·have hmat:=hb.mat hNe hpos
  have hok:=Jr hNe hrs;have hp4:=hb.a;have hp6:=hb.b;clear hb;simp only[go_sem,go_sem_proc,aa4,cA,dC,h1,h2,h8]
  refine af [1,2,8] [] (fun ((c,rows,free,bad,g):Nat × List MR × List Nat × Bool × Nat) tm m=>c≤N∧free.length≤c∧gd stop N 0 (dq rs) [] false=gd stop (N-c) c rows free bad∧MatOK N rows∧MatAt go N rows bad m∧m 168004=none∧m 168006=none∧tm 11 = .ref 129061 g 1 0 free.length∧m 129061=some (g,ay gJ free)∧tm 12 = .dat (.int .i64 c)) (fun (c,_,_,_,_)=>N-c) (0,dq rs,[],false,cR (m 129061)) (by
   refine⟨aa3 _,abq _,rfl,hok,⟨?_,?_,fun x hx=>?_⟩,?_,?_,rfl,?_,rfl⟩
   ·rw[cT (by omega)];exact hmat.m
   ·rw[cT (by omega)];exact hmat.o
   ·rw[cT (show (x.1+900000:Nat)≠129061 by omega)];exact hmat.r x hx
   ·rw[cT (by omega)];exact hp4
   ·rw[cT (by omega)];exact hp6
   ·simp [aB,ay]) ?_
  intro vs ms hvs hms;simp only[go_sem,go_sem_proc,aa4,cA,dC,h1,h2,h8] at hvs hms;subst hvs hms;clear h1 h2 h8 hmat hp4 hp6;rintro⟨c,rows,free,bad,g⟩ tm m hk hm ⟨hcN,hfc,hel,hok,hmat,hp4,hp6,k11,k61,k12⟩;simp only[go_sem,go_sem_proc,aa4,cA,dC,List.cons.injEq] at hk hm;obtain⟨h1,h2,h8⟩:=hk;have hm15:=hmat.m
  have hexit:gd stop N 0 (dq rs) [] false=(rows,free,bad)→((toD 5 m (.ptr 129015 0 0)).bind fun d=>(toD 5 m (.ref 129061 g 1 0 free.length)).bind fun e=>some (Data.tup [d,e]))=some (wg N (gd stop N 0 (dq rs) [] false)):=by
   intro h;rw[h,yM (n:=2) hok hmat,eS ib k61]
   rfl
  have hD1:=yM (n:=2) hok hmat;have hD2:=eS (n:=4) ib k61;rcases aa5 (c<N) with hlt | hge
  ·have hcl:decide ((c:Int)<(N:Int))=true:=decide_eq_true (by omega)
   cases bad
   ·have hw1:IntKind.i64.wrap ((c:Int)-(free.length:Int))=((c-free.length:Nat):Int):=by rw[al _ (by omega) (by omega)];omega
    have hw2:IntKind.i64.wrap ((c:Int)+1)=((c+1:Nat):Int):=by rw[al _ (by omega) (by omega)];omega
    have hQ:=CK ⟨go,N,rows,c-free.length,c⟩ m ⟨hok,hmat,hp4,hp6,hN,Nat.sub_le _ _,hlt⟩;dsimp only at hQ;have hNc:N-c=(N-(c+1))+1:=by omega
    rw[hNc] at hel;simp only[gd] at hel;have hpo:=hok.piv (r:=c-free.length) (c:=c) (by omega);simp only[go_sem,go_sem_proc,aa4,cA,dC,dC,h1,h2,h8,k11,k12,hm15,hcl,hw1,hQ];intro rv m' hR;obtain⟨hrv,hps⟩:=hR;dsimp only at hrv hps;subst hrv;have q4:m' 168004=none:=(hps.2 _ lN).trans hp4;have q6:m' 168006=none:=(hps.2 _ lF).trans hp6;have q61:m' 129061=some (g,ay gJ free):=(hps.2 129061 (by unfold foreign;omega)).trans k61;have hap:jR 129061 g 1 free.length 8 1 [.dat (.int .i64 c)] (some (g,ay gJ free))=_:=dw ib Bs 129061 g 8 free c rfl (by omega) (by omega);generalize hPV:gY rows (c-free.length) c=pv at *;obtain⟨pb,prows,pbad⟩:=pv;dsimp only at *
    cases pb
    ·simp only[aa4,if_false] at hel
     simp only[go_sem,go_sem_proc,aa4,cA,dC,h1,h2,h8,k11,k12,hw2]
     repeat' (first|refine qS ?_ ?_|fail)<;>intro h<;>simp only[h,go_sem,go_sem_proc,aa4,cA,dC,h1,h2,h8,k11,k12,hw2]
     exact⟨(c+1,prows,free,pbad,g),by dsimp only;omega,by dsimp only;omega,by dsimp only;omega,hel,hpo,hps.1,q4,q6,rfl,q61,rfl⟩
    ·simp only[if_true] at hel
     have hma:=hps.1.other (k:=129061) (g:=g+1) (cs:=ay gJ (free++[c])) (by omega) (by omega) (by omega)
     cases stop
     ·simp only[aa4,if_false] at hel
      simp only[go_sem,go_sem_proc,aa4,cA,dC,h1,h2,h8,k11,k12,hw2,q61,hap]
      repeat' (first|refine qS ?_ ?_|fail)<;>intro h<;>simp only[h,go_sem,go_sem_proc,aa4,cA,dC,h1,h2,h8,k11,k12,hw2,q61,hap]
      exact⟨(c+1,prows,free++[c],pbad,g+1),by dsimp only;omega,by dsimp only;omega,by simp;omega,hel,hpo,hma,q4,q6,by simp,rfl,rfl⟩
     ·simp only[if_true] at hel
      simp only[go_sem,go_sem_proc,aa4,cA,dC,h1,h2,h8,k11,k12,hw2,q61,hap]
      repeat' (first|refine qS ?_ ?_|fail)<;>intro h<;>simp only[h,go_sem,go_sem_proc,aa4,cA,dC,h1,h2,h8,k11,k12,hw2,q61,hap]
      have hf1:free.length+1=(free++[c]).length:=by simp
      rw[yM (n:=2) hpo hma,hf1,eS (n:=4) ib (g:=g+1) (l:=free++[c]) (by simp [aB]),hel]
      rfl
   ·rw[wG] at hel
    simp only[go_sem,go_sem_proc,aa4,cA,dC,h1,h2,h8,k11,k12,hm15,hcl,hD1,hD2]
    repeat' (first|refine qS ?_ ?_|fail)<;>intro h<;>simp only[h,go_sem,go_sem_proc,aa4,cA,dC,h1,h2,h8,k11,k12,hm15,hcl,hD1,hD2]
    rw[hel]
    rfl
  ·have hcl:decide ((c:Int)<(N:Int))=false:=decide_eq_false (by omega)
   have hNc:N-c=0:=by omega
   rw[hNc] at hel;simp only[gd] at hel;simp only[go_sem,go_sem_proc,aa4,cA,dC,h1,h2,h8,k11,k12,hm15,hcl,hD1,hD2]
   repeat' (first|refine qS ?_ ?_|fail)<;>intro h<;>simp only[h,go_sem,go_sem_proc,aa4,cA,dC,h1,h2,h8,k11,k12,hm15,hcl,hD1,hD2]
   rw[hel]
   rfl
theorem rY {rs:List cG} {n:Int} (ho:it rs) (h:fB rs n=true):(rs.length:Int)=n∧rs.length≤40∧∀ r∈rs,r.1.length=rs.length∧oU r:=by
 unfold fB at h;simp only[Bool.and_eq_true,Bool.not_eq_true',decide_eq_false_iff_not,beq_iff_eq] at h;obtain⟨h1,h2,h3,h4⟩:=h;refine⟨h3,by omega,fun r hr=>⟨?_,ho.2 r hr⟩⟩
 rw[List.any_eq_false] at h4;have:=h4 r hr;unfold fG at this;simp at this;omega
theorem uI {stop:Bool} {N:Nat}:∀ (k c:Nat) (rows:List MR) (free:List Nat) (bad:Bool),c+k=N→MatOK N rows→MatOK N (gd stop k c rows free bad).1
 | 0,_,rows,_,_,_,h=>h
 | k+1,c,rows,free,true,hc,h=>h
 | k+1,c,rows,free,false,hc,h=>by
  have hp:=h.piv (r:=c-free.length) (c:=c) (by omega);unfold gd
  split
  ·split
   ·exact hp
   ·exact uI k (c+1) _ _ _ (by omega) hp
  ·exact uI k (c+1) _ _ _ (by omega) hp
def j5 (stop:Bool) (rs:List cG):List MR × List Nat × Bool:=gd stop rs.length 0 (dq rs) [] false
theorem pg (stop:Bool):∀ (k c:Nat) (rows:List MR) (free:List Nat) (bad:Bool),(gd stop k c rows free bad).2.1.length≤free.length+k
 | 0,_,_,_,_=>by simp [gd]
 | k+1,c,rows,free,true=>by simp [gd]
 | k+1,c,rows,free,false=>by
  unfold gd
  split
  ·split
   ·simp
   ·have:=pg stop k (c+1) (gY rows (c-free.length) c).2.1 (free++[c]) (gY rows (c-free.length) c).2.2
    simp at this;omega
  ·have:=pg stop k (c+1) (gY rows (c-free.length) c).2.1 free (gY rows (c-free.length) c).2.2
   omega
theorem CP (stop:Bool) (rs:List cG):(j5 stop rs).2.1.length≤rs.length:=by
 have:=pg stop rs.length 0 (dq rs) [] false;unfold j5
 simpa using this
theorem IK {rs:List cG} {stop:Bool} (h:∀ r∈rs,r.1.length=rs.length∧oU r):MatOK rs.length (j5 stop rs).1:=uI _ _ _ _ _ (by omega) (Jr rfl h)
def jU (N:Nat) (x:MR):aM:=x.2.2.getD N cb
def gX (rs:List cG) (n:Int):List aM × Int :=
 if fB rs n=true then (if (j5 true rs).2.2=true then ([],6) else if (j5 true rs).2.1.length>0 then ([],17) else ((j5 true rs).1.map (jU rs.length),0)) else ([],1)
theorem J6 {N:Nat} {x:MR} {f:aM} (h:x.2.2[N]?=some f):jU N x=f:=by
 unfold jU;rw[List.getD_eq_getElem?_getD,h]
 rfl
noncomputable def pI:List Data→Option PRes:=FF (α:=(List cG) × Int) (fun (rs,n)=>([.sl (rs.map fz),.int .i64 n]:List Data)) (fun (rs,n)=>aI (it rs) (.same (.tup [.sl ((gX rs n).1.map ae),.int .i64 (gX rs n).2])))
theorem tw:∀ a b:(List cG) × Int,(fun (rs,n)=>([.sl (rs.map fz),.int .i64 n]:List Data)) a=(fun (rs,n)=>([.sl (rs.map fz),.int .i64 n]:List Data)) b→a=b:=by
  rintro⟨rs1,n1⟩ ⟨rs2,n2⟩ h;simp only[List.cons.injEq,Data.sl.injEq,Data.int.injEq] at h;exact abx (ah nP _ _ h.1) h.2.1.2
@[go_sem] theorem vB (rs:List cG) (n:Int) (hc:it rs):pI [.sl (rs.map fz),.int .i64 n]=some (.same (.tup [.sl ((gX rs n).1.map ae),.int .i64 (gX rs n).2])):=(aZ tw (rs,n)).trans (ap hc _)
theorem Dq (T:Tab) (gy:T jY=mkE pG) (nV:T gD=mkE yG) (rs:List cG) (n:Int) (hc:it rs) :
  wp T mf_linear_Solve.body (bG mf_linear_Solve.res (.same (.tup [.sl ((gX rs n).1.map ae),.int .i64 (gX rs n).2]))) ⟨az [.dat (.sl (rs.map fz)),.dat (.int .i64 n)],emp⟩:=by
 refine aq ?_;simp only[mf_linear_Solve];unfold gX;rcases hr:fB rs n
 ·refine qI ?_
  repeat' (intro h<;>simp only[h,go_sem,go_sem_proc,aa4,gy,nV,hc,hr,aby]<;>try refine qS ?_ ?_)
 ·have hok:=IK (stop:=true) (rY hc hr).2.2
  have hF:yG [.sl (rs.map fz),.int .i64 n,.bool true]=some (.same (wg rs.length (j5 true rs))):=Fw rs n true (rY hc hr);have hfl:=CP true rs;obtain⟨hn,hN,-⟩:=rY hc hr;rcases hP:j5 true rs with ⟨rows,free,bad⟩;rw[hP] at hfl hok hF;dsimp only at hfl hok;simp only[wg,OH] at hF
  cases bad
  ·cases free with
   | nil =>
    simp only[go_sem,go_sem_proc,aa4,gy,nV,hc,hr,hF,abi,show decide (((0:Nat):Int)>0)=false from rfl,aby];rw[if_neg (by simp)];refine af [1,33,34] [] (fun ((i,g):Nat × Nat) tm m=>i≤rs.length∧tm 35 = .dat (.int .i64 i)∧tm 8 = .ref 109045 g 4 0 i∧m 109045=some (g,ay ae ((rows.take i).map (jU rs.length)))) (fun (i,_)=>rs.length-i) (0,0) (by refine⟨aa3 _,rfl,rfl,?_⟩;simp [aB,ay,aC,emp]) ?_
    intro vs ms hvs hms;simp only[go_sem,go_sem_proc,aa4,gy,nV] at hvs hms;subst hvs hms;rintro⟨i,g⟩ tm m hk hm ⟨hiN,h35,h8,hm45⟩;simp only[go_sem,go_sem_proc,aa4,gy,nV,List.cons.injEq] at hk hm;obtain⟨h1,h33,h34⟩:=hk;have hrl:=hok.len;rcases aa5 (i<rs.length) with hlt | hge
    ·obtain⟨x,hx⟩:∃ x,rows[i]?=some x:=⟨_,aa6 (by omega)⟩
     obtain⟨hxl,hxo⟩:=hok.row x (aa9 hx);obtain⟨⟨⟨a1,a2⟩,⟨a3,a4⟩⟩,hfk⟩:∃ f,x.2.2[rs.length]?=some f:=⟨_,aa6 (by omega)⟩;have hla:=J6 hfk;have htl:((rows.take i).map (jU rs.length)).length=i:=by rw[abi,abj];omega
     have hap:=dw cr kv 109045 g 64 ((rows.take i).map (jU rs.length)) ((a1,a2),(a3,a4)) (cs:=[.dat (.int .i64 a1),.dat (.sl (a2.map aa)),.dat (.int .i64 a3),.dat (.sl (a4.map aa))]) rfl (by omega) (by omega);rw[htl] at hap
     have hnt:(rows.take (i+1)).map (jU rs.length)=(rows.take i).map (jU rs.length)++[((a1,a2),(a3,a4))]:=by
      rw[abm,hx,abK];simp [hla]
     have hil:decide ((i:Int)<(rs.length:Int))=true:=decide_eq_true (by omega);have hil2:decide ((i:Int)<(rows.length:Int))=true:=decide_eq_true (by omega);have hw:IntKind.i64.wrap ((i:Int)+1)=((i+1:Nat):Int):=by rw[al _ (by omega) (by omega)];omega
     have hn0:decide (0≤n)=true:=decide_eq_true (by omega);have hix:n=((rs.length:Nat):Int):=hn.symm;refine qI ?_
     repeat' (intro h<;>simp only[h,go_sem,go_sem_proc,aa4,gy,nV,h1,h33,h34,h35,h8,hm45,hx,hfk,hap,hil,hil2,hw,hix,abi,abu,ae]<;>try refine qS ?_ ?_)
     exact⟨(i+1,g+1),by dsimp only;omega,by dsimp only;omega,rfl,rfl,by dsimp only;rw[hnt]⟩
    ·have hin:i=rs.length:=by omega
     have hil2:decide ((i:Int)<(rows.length:Int))=false:=decide_eq_false (by omega);have hall:rows.take i=rows:=abo (by omega);rw[hall] at hm45
     have hD:∀ n,toD (n+1) m (.ref 109045 g 4 0 i)=some (.sl ((rows.map (jU rs.length)).map ae)):=fun n=>by
      have:=eS (n:=n) cr hm45;rw[show (rows.map (jU rs.length)).length=i by rw[abi];omega] at this
      exact this
     have hD5:=hD 4;refine qI ?_
     repeat' (intro h<;>simp only[h,go_sem,go_sem_proc,aa4,gy,nV,h1,h33,h34,h35,h8,hil2,hD5]<;>try refine qS ?_ ?_)
   | cons f fs =>
    have hgt:decide ((((f::fs).length:Nat):Int)>0)=true:=decide_eq_true (by simp only[abL];omega);simp only[abL] at hgt;refine qI ?_
    repeat' (intro h<;>simp only[h,go_sem,go_sem_proc,aa4,gy,nV,hc,hr,hF,abi,hgt,aby]<;>try refine qS ?_ ?_)
    rw[if_pos (by omega)]
    rfl
  ·refine qI ?_
   repeat' (intro h<;>simp only[h,go_sem,go_sem_proc,aa4,gy,nV,hc,hr,hF,abi,aby]<;>try refine qS ?_ ?_)
def mf_math_bits_Mul:MFunc :=
 { n:=30,np:=2,res:=[.t 4,.t 5],body :=
 (.seq (.ops [
 ⟨some 4,none,.mv (.c (.dat (.int .u64 0)))⟩,⟨some 5,none,.mv (.c (.dat (.int .u64 0)))⟩])
 (.seq (.cond (.c (.dat (.bool false)))
 (.seq (.ops [
 Zv 11 0,⟨some 12,none,.conv .u32 (.t 11)⟩,Zv 13 1,⟨some 14,none,.conv .u32 (.t 13)⟩,⟨some 15,none,.call pD [(.t 12),(.t 14)]⟩,Zv 10 15,Zx 16 0 10,Zx 17 1 10,Zv 6 16,Zv 7 17])
 (.seq (.ops [
 Zv 18 6,⟨some 19,none,.conv .u64 (.t 18)⟩,Zv 20 7,⟨some 21,none,.conv .u64 (.t 20)⟩,Zv 4 19,Zv 5 21])
 .ret))
 .skip)
 (.seq (.ops [
 Zv 23 0,Zv 24 1,⟨some 25,none,.call iq [(.t 23),(.t 24)]⟩,Zv 22 25,Zx 26 0 22,Zx 27 1 22,Zv 8 26,Zv 9 27])
 (.seq (.ops [
 Zv 28 8,Zv 29 9,Zv 4 28,Zv 5 29])
 .ret)))) }
def mf_math_bits_Mul64:MFunc :=
 { n:=51,np:=2,res:=[.t 4,.t 5],body :=
 (.seq (.ops [
 ⟨some 4,none,.mv (.c (.dat (.int .u64 0)))⟩,⟨some 5,none,.mv (.c (.dat (.int .u64 0)))⟩])
 (.seq (.ops [
 Zv 14 0,⟨some 15,none,.bin .and (.t 14) (.c (.dat (.int .u64 4294967295)))⟩,Zv 6 15])
 (.seq (.ops [
 Zv 16 0,⟨some 17,none,.bin .shr (.t 16) (.c (.dat (.int .u64 32)))⟩,Zv 7 17])
 (.seq (.ops [
 Zv 18 1,⟨some 19,none,.bin .and (.t 18) (.c (.dat (.int .u64 4294967295)))⟩,Zv 8 19])
 (.seq (.ops [
 Zv 20 1,⟨some 21,none,.bin .shr (.t 20) (.c (.dat (.int .u64 32)))⟩,Zv 9 21])
 (.seq (.ops [
 Zv 22 6,Zv 23 8,Zo 24 .mul 22 23,Zv 10 24])
 (.seq (.ops [
 Zv 25 7,Zv 26 8,Zo 27 .mul 25 26,Zv 28 10,⟨some 29,none,.bin .shr (.t 28) (.c (.dat (.int .u64 32)))⟩,Zo 30 .add 27 29,Zv 11 30])
 (.seq (.ops [
 Zv 31 11,⟨some 32,none,.bin .and (.t 31) (.c (.dat (.int .u64 4294967295)))⟩,Zv 12 32])
 (.seq (.ops [
 Zv 33 11,⟨some 34,none,.bin .shr (.t 33) (.c (.dat (.int .u64 32)))⟩,Zv 13 34])
 (.seq (.ops [
 Zv 35 12,Zv 36 6,Zv 37 9,Zo 38 .mul 36 37,Zo 39 .add 35 38,Zv 12 39])
 (.seq (.ops [
 Zv 40 7,Zv 41 9,Zo 42 .mul 40 41,Zv 43 13,Zo 44 .add 42 43,Zv 45 12,⟨some 46,none,.bin .shr (.t 45) (.c (.dat (.int .u64 32)))⟩,Zo 47 .add 44 46,Zv 4 47])
 (.seq (.ops [
 Zv 48 0,Zv 49 1,Zo 50 .mul 48 49,Zv 5 50])
 .ret)))))))))))) }
theorem rS:∀ y:Nat,y<41→bits .and .u64 (y:Int) 4294967295=y:=by decide
theorem FN (y:Nat) (h:y<41):(y:Int).fdiv 4294967296=0:=by
 rw[Int.fdiv_eq_ediv_of_nonneg _ (by omega)];omega
noncomputable def yB:List Data→Option PRes:=FF (α:=Nat) (fun (y:Nat)=>([.int .u64 1,.int .u64 y]:List Data)) (fun (y:Nat)=>aI (y<41) (.same (.tup [.int .u64 0,.int .u64 y])))
theorem zW:∀ a b:Nat,(fun (y:Nat)=>([.int .u64 1,.int .u64 y]:List Data)) a=(fun (y:Nat)=>([.int .u64 1,.int .u64 y]:List Data)) b→a=b:=by
  intro y1 y2 h;simp only[List.cons.injEq,Data.int.injEq] at h;omega
@[go_sem] theorem Od (y:Nat) (hc:y<41):yB [.int .u64 1,.int .u64 y]=some (.same (.tup [.int .u64 0,.int .u64 y])):=(aZ zW y).trans (ap hc _)
theorem LH (T:Tab)  (y:Nat) (hc:y<41) :
  wp T mf_math_bits_Mul64.body (bG mf_math_bits_Mul64.res (.same (.tup [.int .u64 0,.int .u64 y]))) ⟨az [.dat (.int .u64 1),.dat (.int .u64 y)],emp⟩:=by
 refine aq ?_;simp only[mf_math_bits_Mul64];have h1:=rS y hc;have h2:=FN y hc;have h3:=rS 1 (by omega);have h4:=rS 0 (by omega);have h5:((1:Int)).fdiv 4294967296=0:=by decide
 have h6:((0:Int)).fdiv 4294967296=0:=by decide
 have hw:∀ x:Int,0≤x∧x<18446744073709551616→IntKind.u64.wrap x=x:=fun x h=>ke x h
 have w0:=hw 0 (by omega);have w1:=hw y (by omega);simp only[Int.natCast_zero,Int.cast_ofNat_Int,Int.natCast_one] at h3 h4;simp only[go_sem,go_sem_proc,aa4,h1,h2,h3,h4,h5,h6,w0,w1,show ((32:Int)<0)=False from by simp,if_false,show (2:Int)^min (Int.toNat 32) 64=4294967296 from rfl,abM,abN,abO,abP,abQ]
 repeat' (first|refine qS ?_ ?_|fail)<;>intro h<;>simp only[h,go_sem,go_sem_proc,aa4,h1,h2,h3,h4,h5,h6,w0,w1,show ((32:Int)<0)=False from by simp,if_false,show (2:Int)^min (Int.toNat 32) 64=4294967296 from rfl,abM,abN,abO,abP,abQ]
noncomputable def Ca:List Data→Option PRes:=FF (α:=Nat) (fun (y:Nat)=>([.int .u64 1,.int .u64 y]:List Data)) (fun (y:Nat)=>aI (y<41) (.same (.tup [.int .u64 0,.int .u64 y])))
theorem Ce:∀ a b:Nat,(fun (y:Nat)=>([.int .u64 1,.int .u64 y]:List Data)) a=(fun (y:Nat)=>([.int .u64 1,.int .u64 y]:List Data)) b→a=b:=by
  intro y1 y2 h;simp only[List.cons.injEq,Data.int.injEq] at h;omega
@[go_sem] theorem Pq (y:Nat) (hc:y<41):Ca [.int .u64 1,.int .u64 y]=some (.same (.tup [.int .u64 0,.int .u64 y])):=(aZ Ce y).trans (ap hc _)
theorem OS (T:Tab) (Mo:T iq=mkE yB) (y:Nat) (hc:y<41) :
  wp T mf_math_bits_Mul.body (bG mf_math_bits_Mul.res (.same (.tup [.int .u64 0,.int .u64 y]))) ⟨az [.dat (.int .u64 1),.dat (.int .u64 y)],emp⟩:=by
 refine aq ?_;simp only[mf_math_bits_Mul];refine qI ?_
 repeat' (intro h<;>simp only[h,go_sem,go_sem_proc,aa4,Mo,hc]<;>try refine qS ?_ ?_)
theorem ei {α:Type} {A:List α} {k:Nat} (hA:A.length=k) (n:Nat):(abR n A).flatten.length=n*k:=by
 rw[List.length_flatten,abS,hA,List.sum_replicate_nat]
theorem FC {α:Type} {A:List α} {k:Nat} (hA:A.length=k) {q j:Nat} (h:q≤j):(abR j A).flatten.take (q*k)=(abR q A).flatten:=by
 obtain⟨d,rfl⟩:=abT h;rw[←abU,abV,abW (by rw[ei hA];omega),abo (by rw[ei hA];omega)]
theorem Fu {α:Type} {A:List α} {k:Nat} (hA:A.length=k) {q j:Nat} (h:q≤j):(abR j A).flatten.drop (q*k)=(abR (j-q) A).flatten:=by
 obtain⟨d,rfl⟩:=abT h;rw[←abU,abV,abX,abf (by rw[ei hA];omega),ei hA,aa8,abG,abY,abZ]
def zeroC:List MV:=[.dat (.int .i64 0),.nil,.dat (.int .i64 0),.nil]
def nF (A:List MV) (N j:Nat):List MV:=(abR j A).flatten++(abR (N-j) zeroC).flatten
theorem Am {A:List MV} (hA:A.length=4) {N j:Nat} (h:j≤N):(nF A N j).length=N*4:=by
 unfold nF;rw[abh,ei hA,ei (show zeroC.length=4 from rfl)];omega
theorem xb {A:List MV} (hA:A.length=4) {N j q:Nat} (h:j+q≤N):(nF A N j).take (j*4)++(abR q A).flatten++(nF A N j).drop (j*4+q*4)=nF A N (j+q):=by
 unfold nF;rw[abW (by rw[ei hA];omega),abo (by rw[ei hA];omega),abX,abf (by rw[ei hA];omega),ei hA,abZ,Fu (show zeroC.length=4 from rfl) (by omega),abY,←abU (n:=j),abV,Nat.sub_sub]
theorem Hh {A:List MV} (hA:A.length=4) {N j:Nat}:(nF A N j).take (j*4)=(abR j A).flatten:=by
 unfold nF;rw[abW (by rw[ei hA];omega),abo (by rw[ei hA];omega)]
theorem Aa {A:List MV} (h:A.all MV.one=true) (q:Nat):(abR q A).flatten.all MV.one=true:=by
 induction q with
 | zero=>rfl
 | succ n ih=>rw[ab0,abH,List.all_append,h,ih];rfl
theorem Jd (f:aM) (N:Nat):nF ((ae f).map .dat) N N=ay ae (abR N f):=by
 unfold nF ay;rw[aa8,abS];simp only[List.replicate_zero,List.flatten_nil,abg]
 induction N with
 | zero=>rfl
 | succ n ih=>rw[ab0,abH,ab0,abH,abK,ih]
theorem Fi {A:List MV} (hA:A.length=4) (h1:A.all MV.one=true) (N:Nat):AV 131030 0 4 0 N 1 A (some (0,(abR N zeroC).flatten))=some (.dat (.int .i64 ((min 1 N:Nat):Int)),some (131030,0,nF A N (min 1 N))):=by
 unfold AV;dsimp only;rw[if_pos ⟨rfl,by rw[ei (show zeroC.length=4 from rfl)];omega,h1⟩]
 have h0:(abR N zeroC).flatten=nF A N 0:=by simp [nF]
 have ht:A.take (min 1 N*4)=(abR (min 1 N) A).flatten:=by
  rcases abB N with h | h
  ·subst h;simp
  ·rw[show min 1 N=1 by omega];simp [abo (Nat.le_of_eq hA)]
 have:=xb hA (N:=N) (j:=0) (q:=min 1 N) (by omega);rw[h0,ht];unfold splice;rw[ei hA];simp only[Nat.zero_mul,Nat.zero_add] at this ⊢;rw[this]
theorem Kx {A:List MV} (hA:A.length=4) (h1:A.all MV.one=true) {N j:Nat} (h:j<N):AV 131030 0 4 (j*4) (N-j) j (abR j A).flatten (some (0,nF A N j))=some (.dat (.int .i64 ((min j (N-j):Nat):Int)),some (131030,0,nF A N (j+min j (N-j)))):=by
 unfold AV;dsimp only;rw[if_pos ⟨rfl,by rw[Am hA (by omega)];omega,Aa h1 j⟩]
 rw[FC hA (show min j (N-j)≤j by omega)];have:=xb hA (N:=N) (j:=j) (q:=min j (N-j)) (by omega);unfold splice;rw[ei hA,this]
noncomputable def rh:List Data→Option PRes:=FF (α:=Int × (List Int) × Int × (List Int) × Nat) (fun (s,l,s2,l2,N)=>([.sl [[.int .i64 s,.sl (l.map aa),.int .i64 s2,.sl (l2.map aa)]],.int .i64 N]:List Data)) (fun (s,l,s2,l2,N)=>aI (N<41) (.own 4 (abR N (ae ((s,l),(s2,l2))))))
theorem vt:∀ a b:Int × (List Int) × Int × (List Int) × Nat,(fun (s,l,s2,l2,N)=>([.sl [[.int .i64 s,.sl (l.map aa),.int .i64 s2,.sl (l2.map aa)]],.int .i64 N]:List Data)) a=(fun (s,l,s2,l2,N)=>([.sl [[.int .i64 s,.sl (l.map aa),.int .i64 s2,.sl (l2.map aa)]],.int .i64 N]:List Data)) b→a=b:=by
  rintro⟨s1,l1,s21,l21,N1⟩ ⟨s2,l2,s22,l22,N2⟩ h;simp only[List.cons.injEq,Data.int.injEq,Data.sl.injEq] at h;exact abx h.1.1.1.2 (abx (ah ak _ _ h.1.1.2.1) (abx h.1.1.2.2.1.2 (abx (ah ak _ _ h.1.1.2.2.2.1) (by have:=h.2.1.2;dsimp only;omega))))
@[go_sem] theorem xZ (s:Int) (l:List Int) (s2:Int) (l2:List Int) (N:Nat) (hc:N<41):rh [.sl [[.int .i64 s,.sl (l.map aa),.int .i64 s2,.sl (l2.map aa)]],.int .i64 N]=some (.own 4 (abR N (ae ((s,l),(s2,l2))))):=(aZ vt (s,l,s2,l2,N)).trans (ap hc _)
theorem FV (T:Tab) (nb:T jo=mkE Ca) (s:Int) (l:List Int) (s2:Int) (l2:List Int) (N:Nat) (hc:N<41) :
  wp T mf_slices_Repeat_Frac.body (bG mf_slices_Repeat_Frac.res (.own 4 (abR N (ae ((s,l),(s2,l2)))))) ⟨az [.dat (.sl [[.int .i64 s,.sl (l.map aa),.int .i64 s2,.sl (l2.map aa)]]),.dat (.int .i64 N)],emp⟩:=by
 refine aq ?_;simp only[mf_slices_Repeat_Frac];have h0:decide ((N:Int)<0)=false:=decide_eq_false (by omega);have hw:IntKind.u64.wrap (N:Int)=N:=ke _ ⟨by omega,by omega⟩
 have hw':IntKind.i64.wrap (N:Int)=N:=al _ (by omega) (by omega);have hw1:IntKind.u64.wrap ((1:Nat):Int)=1:=by decide
 have hg:decide ((N:Int)>9223372036854775807)=false:=decide_eq_false (by omega);have hmk1:(64*N≤140737488355328)=True:=eq_true (by omega);have hmk2:(N≤maxLen)=True:=eq_true (by unfold maxLen;omega);have hA:((ae ((s,l),(s2,l2))).map MV.dat).length=4:=rfl;have hA1:((ae ((s,l),(s2,l2))).map MV.dat).all MV.one=true:=rfl;have hfirst:=Fi hA hA1 N;have hnext:=fun j (h:j<N)=>Kx hA hA1 h
 have hAdef:(ae ((s,l),(s2,l2))).map MV.dat=[.dat (.int .i64 s),.dat (.sl (l.map aa)),.dat (.int .i64 s2),.dat (.sl (l2.map aa))]:=rfl;simp only[zeroC] at hfirst;rw[hAdef] at hfirst;simp only[go_sem,go_sem_proc,aa4,nb] at hfirst;simp only[go_sem,go_sem_proc,aa4,nb,h0,hw,hw',hw1,hc,hg,hmk1,hmk2,show decide ((0:Int)>0)=false from rfl,hfirst];rw[hAdef] at hA hA1;have hfin:=Jd ((s,l),(s2,l2)) N;rw[hAdef] at hfin;simp only[hAdef] at hnext;clear hAdef hfirst;generalize [MV.dat (.int .i64 s),.dat (.sl (l.map aa)),.dat (.int .i64 s2),.dat (.sl (l2.map aa))]=A at *;refine af [7] [] (fun (j:Nat) tm m=>j≤N∧(0<N→0<j)∧tm 8 = .dat (.int .i64 j)∧m 131030=some (0,nF A N j)) (fun j=>N-j) (min 1 N) (by refine⟨by omega,by omega,rfl,?_⟩;simp [aB]) ?_;intro vs ms hvs hms;simp only[go_sem,go_sem_proc,aa4,nb] at hvs hms;subst hvs hms;rintro j tm m hk hm ⟨hjN,hj0,h8,hm30⟩;simp only[go_sem,go_sem_proc,aa4,nb,List.cons.injEq] at hk hm;have h7:=hk;rcases aa5 (j<N) with hlt | hge
 ·have hjl:decide ((j:Int)<(N:Int))=true:=decide_eq_true (by omega)
  have hn:=hnext j hlt;have hrow:=Hh hA (N:=N) (j:=j);have hlen:(j*4≤(nF A N j).length)=True:=eq_true (by rw[Am hA hjN];omega);have hjN':(j≤N)=True:=eq_true hjN;have hall:=Aa hA1 j;simp only[go_sem,go_sem_proc,aa4,nb,hall,hA1,hrow] at hn;have hw2:IntKind.i64.wrap ((j:Int)+((min j (N-j):Nat):Int))=((j+min j (N-j):Nat):Int):=by rw[al _ (by omega) (by omega)];omega
  simp only[go_sem,go_sem_proc,aa4,nb,h7,h8,hm30,hjl,hrow,hlen,hjN',hall,hn,hw2,abq,ab1,aa3]
  repeat' (first|refine qS ?_ ?_|fail)<;>intro h<;>simp only[h,go_sem,go_sem_proc,aa4,nb,h7,h8,hm30,hjl,hrow,hlen,hjN',hall,hn,hw2,abq,ab1,aa3]
  exact⟨j+min j (N-j),by have:=hj0 (by omega);omega,by omega,by omega,rfl,rfl⟩
 ·have hjl:decide ((j:Int)<(N:Int))=false:=decide_eq_false (by omega)
  obtain rfl:j=N:=by omega
  rw[hfin] at hm30;have hlr:=di cr (abR j ((s,l),(s2,l2)));rw[ab2] at hlr;simp only[go_sem,go_sem_proc,aa4,nb,h7,h8,hm30,hjl,rW,hlr]
  repeat' (first|refine qS ?_ ?_|fail)<;>intro h<;>simp only[h,go_sem,go_sem_proc,aa4,nb,h7,h8,hm30,hjl,rW,hlr]
  rw[if_pos (abq _),abo (by omega)];unfold ay;rw[kC _ fun d=>rfl]
  have:=iG (sz:=4) ((abR j ((s,l),(s2,l2))).map ae) (by intro e he;obtain⟨f,-,rfl⟩:=List.mem_map.1 he;rfl);rw[abi,ab2] at this;rw[abv,this,abS]
def zF:aM:=((0,[]),(1,[1]))
def N7:aM:=((1,[1]),(1,[1]))
theorem vP:aj 0=zF:=by
 unfold aj aR zF;simp [pd,f8]
theorem IX:aj 1=N7:=by
 unfold aj aR N7;simp [pd]
def H0 (rows:List MR) (f N i:Nat):List aM:=(abI N).map fun k=>if k<i then (nt zF (cL (fp rows k) f)).1 else if k=f then N7 else zF
theorem Jh (rows:List MR) (f N i:Nat):(H0 rows f N i).length=N:=by simp [H0]
def Io (rs:List cG) (n:Int):List aM × Bool :=
 if fB rs n=true then (if ((j5 true rs).2.2||(j5 true rs).2.1.length==0)=true then ([],false) else (H0 (j5 true rs).1 ((j5 true rs).2.1.headD 0) rs.length ((j5 true rs).2.1.headD 0),true)) else ([],false)



section
variable {α:Type} {op:α→aM × Int} {e:α→aM}
end
def RowsOK (N:Nat) (rows:List cG):Prop:=rows.length=N∧∀ x∈rows,x.1.length=N∧oU x
theorem RowsOK.set {N:Nat} {rows:List cG} (h:RowsOK N rows) {i:Nat} {x:cG} (hx:x.1.length=N∧oU x):RowsOK N (rows.set i x):=by
 refine⟨by rw[abr];exact h.1,fun y hy=>?_⟩
 rcases List.mem_or_eq_of_mem_set hy with hy | rfl
 ·exact h.2 y hy
 ·exact hx




set_option maxHeartbeats 1000000
def OO (r:cG):List aM:=r.1++[r.2]
def RelL (X:List MR) (R:List cG):Prop:=X.map (·.2.2)=R.map OO
theorem RelL.len {X:List MR} {R:List cG} (h:RelL X R):X.length=R.length:=by
 have:=congrArg abt h
 simpa using this
theorem RelL.at_ {X:List MR} {R:List cG} (h:RelL X R) {i:Nat} {x:MR} {r:cG} (hx:X[i]?=some x) (hr:R[i]?=some r):x.2.2=OO r:=by
 have:=congrArg (fun l:List (List aM)=>l[i]?) h;simp only[abu,hx,hr,abv,Option.some.injEq] at this;exact this
theorem RelL.set {X:List MR} {R:List cG} (h:RelL X R) {i:Nat} {x:MR} {r:cG} (hxr:x.2.2=OO r):RelL (X.set i x) (R.set i r):=by
 unfold RelL at h ⊢;rw[ab3,ab3,h,hxr]
def sumQ:Nat→(Nat→Rat)→Rat
 | 0,_=>0
 | n+1,f=>sumQ n f+f n
theorem bU {n:Nat} {f g:Nat→Rat} (h:∀ k,k<n→f k=g k):sumQ n f=sumQ n g:=by
 induction n with
 | zero=>rfl
 | succ n ih=>rw[sumQ,sumQ,ih fun k hk=>h k (by omega),h n (by omega)]
theorem kH (n:Nat) (f g:Nat→Rat):sumQ n (fun k=>f k+g k)=sumQ n f+sumQ n g:=by
 induction n with
 | zero=>simp [sumQ,ab4]
 | succ n ih=>rw[sumQ,sumQ,sumQ,ih];grind
theorem mG (n:Nat) (c:Rat) (f:Nat→Rat):sumQ n (fun k=>c*f k)=c*sumQ n f:=by
 induction n with
 | zero=>simp [sumQ,ab5]
 | succ n ih=>rw[sumQ,sumQ,ih];grind
theorem gQ {n:Nat} {f:Nat→Rat} (h:∀ k,k<n→f k=0):sumQ n f=0:=by
 induction n with
 | zero=>rfl
 | succ n ih=>rw[sumQ,ih fun k hk=>h k (by omega),h n (by omega)];exact ab4 0
theorem i5 {n:Nat} {f:Nat→Rat} {j:Nat} (hj:j<n) (h:∀ k,k<n→k≠j→f k=0):sumQ n f=f j:=by
 induction n with
 | zero=>omega
 | succ n ih =>
  rw[sumQ]
  by_cases hn:j=n
  ·subst hn
   rw[gQ fun k hk=>h k (by omega) (by omega)];grind
  ·rw[ih (by omega) fun k hk=>h k (by omega),h n (by omega) (by omega)];grind
abbrev Mat:=Nat→Nat→Rat
def kJ (N:Nat) (a y:Nat→Rat):Rat:=sumQ (N+1) fun k=>a k*y k
def Ann (N:Nat) (A:Mat) (y:Nat→Rat):Prop:=∀ i,i<N→kJ N (A i) y=0
def dc (A:Mat) (r s:Nat):Mat:=fun i=>if i=s then A r else if i=r then A s else A i
def mZ (A:Mat) (r c s:Nat):Mat:=fun i k=>if i=r then dc A r s r k / dc A r s r c else dc A r s i k-dc A r s i c*(dc A r s r k / dc A r s r c)
theorem sT (A:Mat) (r s:Nat):dc A r s r=A s:=by
 unfold dc
 by_cases h:r=s
 ·simp [h]
 ·simp [h]
theorem I6 {N r s:Nat} {A:Mat} {y:Nat→Rat} (hr:r<N) (hs:s<N):Ann N (dc A r s) y↔Ann N A y:=by
 unfold Ann dc
 constructor
 ·intro h i hi
  by_cases h1:i=r
  ·have:=h s hs;simp at this;rw[h1];exact this
  ·by_cases h2:i=s
   ·have:=h r hr
    rw[h2]
    by_cases h3:r=s
    ·omega
    ·simp [h3] at this;exact this
   ·have:=h i hi;simp [h1,h2] at this;exact this
 ·intro h i hi
  by_cases h2:i=s
  ·simp [h2];exact h r hr
  ·by_cases h1:i=r
   ·have:=h s hs
    rw[if_neg h2,if_pos h1];exact this
   ·simp [h1,h2];exact h i hi
theorem Ms (N:Nat) (a b y:Nat→Rat) (x:Rat):kJ N (fun k=>a k-x*b k) y=kJ N a y-x*kJ N b y:=by
 unfold kJ;have:(fun k=>(a k-x*b k)*y k)=fun k=>a k*y k+(-x)*(b k*y k):=by funext k;grind
 rw[this,kH,mG];grind
theorem Ew (N:Nat) (a y:Nat→Rat) (x:Rat):kJ N (fun k=>a k / x) y=kJ N a y / x:=by
 unfold kJ;have:(fun k=>(a k / x)*y k)=fun k=>(1 / x)*(a k*y k):=by funext k;grind
 rw[this,mG];grind
theorem xe {N r s c:Nat} {A:Mat} {y:Nat→Rat} (hr:r<N) (hs:s<N) (hne:A s c≠0):Ann N (mZ A r c s) y↔Ann N A y:=by
 rw[←I6 (A:=A) hr hs];have hne':dc A r s r c≠0:=by rw[sT];exact hne
 generalize hS:dc A r s=S at *
 have d1:∀ i,i≠r→kJ N (mZ A r c s i) y=kJ N (S i) y-S i c*(kJ N (S r) y / S r c):=by
  intro i hi;have:mZ A r c s i=fun k=>S i k-S i c*(S r k / S r c):=by funext k;unfold mZ;rw[hS,if_neg hi]
  rw[this,Ms N (S i) (fun k=>S r k / S r c) y (S i c),Ew]
 have d2:kJ N (mZ A r c s r) y=kJ N (S r) y / S r c:=by
  have:mZ A r c s r=fun k=>S r k / S r c:=by funext k;unfold mZ;rw[hS,if_pos rfl]
  rw[this,Ew]
 unfold Ann
 constructor
 ·intro h
  have h0:kJ N (S r) y=0:=by
   have:=h r hr;rw[d2] at this;generalize kJ N (S r) y=d at *;grind
  intro i hi
  by_cases hir:i=r
  ·rw[hir];exact h0
  ·have:=h i hi
   rw[d1 i hir,h0] at this;generalize kJ N (S i) y=d at *;grind
 ·intro h i hi
  have h0:=h r hr
  by_cases hir:i=r
  ·rw[hir,d2,h0];grind
  ·rw[d1 i hir,h0,h i hi];grind
structure Red (N:Nat) (Q:Mat) (p c:Nat) (pv:Nat→Nat):Prop where
 pc:p≤c
 lt:∀ j,j<p→pv j<c
 unit:∀ j,j<p→∀ i,i<N→Q i (pv j)=if i=j then 1 else 0
 zero:∀ i,p≤i→i<N→∀ k,k<c→Q i k=0
theorem Red.free {N p c:Nat} {Q:Mat} {pv:Nat→Nat} (h:Red N Q p c pv) (hz:∀ i,p≤i→i<N→Q i c=0):Red N Q p (c+1) pv :=
 ⟨by have:=h.pc;omega,fun j hj=>by have:=h.lt j hj;omega,h.unit,fun i hi hN k hk=>by
  by_cases hkc:k=c
  ·rw[hkc];exact hz i hi hN
  ·exact h.zero i hi hN k (by omega)⟩
theorem Red.piv {N p c s:Nat} {Q:Mat} {pv:Nat→Nat} (h:Red N Q p c pv) (hp:p<N) (hs:p≤s) (hsN:s<N) (hne:Q s c≠0):Red N (mZ Q p c s) (p+1) (c+1) (fun j=>if j=p then c else pv j):=by
 have hS:∀ i,i<N→∃ i',i'<N∧dc Q p s i=Q i'∧(i<p→i'=i)∧(p≤i→p≤i'):=by
  intro i hi;unfold dc
  by_cases h1:i=s
  ·exact⟨p,hp,by rw[if_pos h1],by omega,by omega⟩
  ·by_cases h2:i=p
   ·exact⟨s,hsN,by rw[if_neg h1,if_pos h2],by omega,by omega⟩
   ·exact⟨i,hi,by rw[if_neg h1,if_neg h2],by omega,by omega⟩
 have hSr:dc Q p s p c≠0:=by rw[sT];exact hne
 have hz:∀ i,p≤i→i<N→∀ k,k<c→dc Q p s i k=0:=by
  intro i hi hN k hk;obtain⟨i',h1,h2,-,h4⟩:=hS i hN;rw[h2];exact h.zero i' (h4 hi) h1 k hk
 refine⟨by have:=h.pc;omega,fun j hj=>?_,fun j hj i hi=>?_,fun i hi hN k hk=>?_⟩
 ·show (if j=p then c else pv j)<c+1
  split
  ·omega
  ·have:=h.lt j (by omega);omega
 ·unfold mZ
  by_cases hjp:j=p
  ·simp only[hjp,if_true]
   by_cases hip:i=p
   ·rw[if_pos hip,if_pos hip];grind
   ·rw[if_neg hip,if_neg hip];grind
  ·simp only[hjp,if_false]
   have hj':j<p:=by omega
   have e1:dc Q p s p (pv j)=0:=hz p (abq _) hp _ (h.lt j hj');rw[e1]
   by_cases hip:i=p
   ·rw[if_pos hip,if_neg (by omega)];grind
   ·rw[if_neg hip]
    obtain⟨i',h1,h2,h3,h4⟩:=hS i hi;rw[h2,h.unit j hj' i' h1];rcases abJ i p with hlt | hge
    ·rw[h3 hlt];grind
    ·rw[if_neg (by have:=h4 hge;omega),if_neg (by omega)];grind
 ·unfold mZ
  rw[if_neg (by omega)]
  by_cases hkc:k=c
  ·subst hkc;grind
  ·rw[hz i (by omega) hN k (by omega),hz p (abq _) hp k (by omega)];grind
theorem ol (N:Nat) (Q:Mat) (pv:Nat→Nat):Red N Q 0 0 pv:=⟨abq _,fun j hj=>by omega,fun j hj=>by omega,fun i hi hN k hk=>by omega⟩
end Go.Mini
namespace Go.Mini
open Classical
structure Cl where
 fr:Nat
 to:Int
 rk:Nat
 am:Rat
theorem js {a b:Rat} (h:a=b):a≤b:=by rw[h];exact ab6
def sumC:List Cl→(Cl→Rat)→Rat
 | [],_=>0
 | c::l,F=>F c+sumC l F
theorem d8 {l:List Cl} {F G:Cl→Rat} (h:∀ c∈l,F c=G c):sumC l F=sumC l G:=by
 induction l with
 | nil=>rfl
 | cons c l ih=>rw[sumC,sumC,h c abD,ih fun x hx=>h x (abC _ hx)]
theorem qv (l:List Cl) (F G:Cl→Rat):sumC l (fun c=>F c+G c)=sumC l F+sumC l G:=by
 induction l with
 | nil=>simp only[sumC];grind
 | cons c l ih=>rw[sumC,sumC,sumC,ih];grind
theorem nE (l:List Cl) (F G:Cl→Rat):sumC l (fun c=>F c-G c)=sumC l F-sumC l G:=by
 induction l with
 | nil=>simp only[sumC];grind
 | cons c l ih=>rw[sumC,sumC,sumC,ih];grind
theorem pY (l:List Cl) (a:Rat) (F:Cl→Rat):sumC l (fun c=>a*F c)=a*sumC l F:=by
 induction l with
 | nil=>simp only[sumC];grind
 | cons c l ih=>rw[sumC,sumC,ih];grind
theorem l7 {l:List Cl} {F:Cl→Rat} (h:∀ c∈l,F c=0):sumC l F=0:=by
 induction l with
 | nil=>rfl
 | cons c l ih=>rw[sumC,h c abD,ih fun x hx=>h x (abC _ hx)];grind
theorem nj {l:List Cl} {F G:Cl→Rat} (h:∀ c∈l,F c≤G c):sumC l F≤sumC l G:=by
 induction l with
 | nil=>exact ab6
 | cons c l ih =>
  have h1:=h c abD;have h2:=ih fun x hx=>h x (abC _ hx)
  rw[sumC,sumC];grind
theorem dZ {l:List Cl} {F:Cl→Rat} (h:∀ c∈l,0≤F c):0≤sumC l F:=by
 have:=nj (l:=l) (F:=fun _=>0) (G:=F) h
 rwa [l7 fun _ _=>rfl] at this
theorem rP {l:List Cl} {F:Cl→Rat} (h:∀ c∈l,0≤F c) (hs:sumC l F≤0):∀ c∈l,F c=0:=by
 induction l with
 | nil=>intro c hc;cases hc
 | cons c l ih =>
  rw[sumC] at hs;have h1:=h c abD;have h2:=dZ fun x hx=>h x (abC c hx)
  intro x hx;rcases List.mem_cons.1 hx with rfl | hx
  ·grind
  ·exact ih (fun y hy=>h y (abC _ hy)) (by grind) x hx
theorem K0 {l:List Cl} {F G:Cl→Rat} (h:∀ c∈l,F c≤G c) {c0:Cl} (hc:c0∈l) (hlt:F c0<G c0):sumC l F<sumC l G:=by
 by_cases hs:sumC l F<sumC l G
 ·exact hs
 ·have:=rP (l:=l) (F:=fun c=>G c-F c) (fun c hc=>by have:=h c hc;grind) (by rw[nE];grind) c0 hc
  grind
theorem t9 {l:List Cl} {F:Cl→Rat} (h:0<sumC l F):∃ c∈l,0<F c:=by
 apply ab7;intro hn
 have:=nj (l:=l) (F:=F) (G:=fun _=>0) fun c hc=>by
  apply ab7;intro h2;exact hn ⟨c,hc,by grind⟩
 rw[l7 (F:=fun _=>(0:Rat)) fun _ _=>rfl] at this
 grind
theorem pX {n:Nat} {f g:Nat→Rat} (h:∀ k,k<n→f k≤g k):sumQ n f≤sumQ n g:=by
 induction n with
 | zero=>exact ab6
 | succ n ih =>
  have h1:=h n (by omega);have h2:=ih fun k hk=>h k (by omega)
  rw[sumQ,sumQ];grind
theorem sh {n:Nat} {f:Nat→Rat} (h:∀ k,k<n→0≤f k):0≤sumQ n f:=by
 have:=pX (n:=n) (f:=fun _=>0) (g:=f) h
 rwa [gQ fun _ _=>rfl] at this
theorem n8 (n:Nat) (f g:Nat→Rat):sumQ n (fun k=>f k-g k)=sumQ n f-sumQ n g:=by
 induction n with
 | zero=>simp only[sumQ];grind
 | succ n ih=>rw[sumQ,sumQ,sumQ,ih];grind
theorem FM {n:Nat} {f:Nat→Rat} (h:∀ k,k<n→0≤f k) (hs:sumQ n f≤0):∀ k,k<n→f k=0:=by
 induction n with
 | zero=>intro k hk;omega
 | succ n ih =>
  rw[sumQ] at hs;have h1:=h n (by omega);have h2:=sh (n:=n) (f:=f) fun k hk=>h k (by omega)
  intro k hk
  by_cases hkn:k=n
  ·subst hkn;grind
  ·exact ih (fun k hk=>h k (by omega)) (by grind) k (by omega)
def inC (C:Nat→Prop) (c:Cl):Prop:=∃ i:Nat,c.to=i∧C i
theorem BW {n:Nat} (C:Nat→Prop) (hC:∀ i,C i→i<n) (l:List Cl) (a:Cl→Rat):sumQ n (fun i=>if C i then sumC l (fun c=>if c.to=(i:Int) then a c else 0) else 0)=sumC l (fun c=>if inC C c then a c else 0):=by
 induction l with
 | nil=>exact gQ fun k _=>by split<;>rfl
 | cons c l ih =>
  rw[sumC,←ih]
  have e:(fun i:Nat=>if C i then sumC (c::l) (fun c=>if c.to=(i:Int) then a c else 0) else 0)=fun i=>(if C i then (if c.to=(i:Int) then a c else 0) else 0)+(if C i then sumC l (fun c=>if c.to=(i:Int) then a c else 0) else 0):=by
   funext i
   split
   ·rw[sumC]
   ·grind
  rw[e,kH]
  congr 1
  by_cases h:inC C c
  ·obtain⟨i,hi,hCi⟩:=h
   rw[i5 (hC i hCi) fun k hk hki=>by
    split
    ·rw[if_neg (by omega)]
    ·rfl]
   rw[if_pos hCi,if_pos hi,if_pos ⟨i,hi,hCi⟩]
  ·rw[if_neg h]
   refine gQ fun k hk=>?_
   split
   ·rw[if_neg fun hk2=>h ⟨k,hk2,by assumption⟩]
   ·rfl
theorem De {n:Nat} {l:List Cl} (hl:∀ c∈l,c.fr<n) (b:Nat→Cl→Rat):sumQ n (fun k=>sumC l (fun c=>if c.fr=k then b k c else 0))=sumC l (fun c=>b c.fr c):=by
 induction l with
 | nil=>exact gQ fun k _=>rfl
 | cons c l ih =>
  rw[sumC,←ih fun x hx=>hl x (abC _ hx)]
  have e:(fun k:Nat=>sumC (c::l) (fun c=>if c.fr=k then b k c else 0))=fun k=>(if c.fr=k then b k c else 0)+sumC l (fun c=>if c.fr=k then b k c else 0):=rfl
  rw[e,kH]
  congr 1
  rw[i5 (hl c abD) fun k _ hk=>if_neg (Ne.symm hk),if_pos rfl]
structure Day where
 n:Nat
 cash:Nat→Rat
 cl:List Cl
structure Day.OK (d:Day):Prop where
 fr:∀ c∈d.cl,c.fr<d.n
 to:∀ c∈d.cl,c.to<d.n
 rk:∀ c∈d.cl,c.rk<10
 am:∀ c∈d.cl,0≤c.am
 cash:∀ i,i<d.n→0≤d.cash i
noncomputable def Day.U (d:Day) (k r:Nat):Rat:=sumC d.cl fun c=>if c.fr=k∧c.rk<r then c.am else 0
noncomputable def Day.S (d:Day) (k r:Nat):Rat:=sumC d.cl fun c=>if c.fr=k∧c.rk=r then c.am else 0
theorem Day.U_zero (d:Day) (k:Nat):d.U k 0=0:=l7 fun c _=>if_neg (by omega)
theorem Day.U_succ (d:Day) (k r:Nat):d.U k (r+1)=d.U k r+d.S k r:=by
 unfold Day.U Day.S;rw[←qv];refine d8 fun c _=>?_
 by_cases h1:c.fr=k∧c.rk<r
 ·rw[if_pos ⟨h1.1,by omega⟩,if_pos h1,if_neg (by omega)];grind
 ·rw[if_neg h1]
  by_cases h2:c.fr=k∧c.rk=r
  ·rw[if_pos ⟨h2.1,by omega⟩,if_pos h2];grind
  ·rw[if_neg (by omega),if_neg h2];grind
theorem Day.OK.S_nonneg {d:Day} (hd:d.OK) (k r:Nat):0≤d.S k r:=dZ fun c hc=>by
 split
 ·exact hd.am c hc
 ·exact ab6
theorem Day.OK.U_mono {d:Day} (hd:d.OK) (k:Nat) {r s:Nat} (h:r≤s):d.U k r≤d.U k s:=by
 induction s with
 | zero =>
      obtain rfl:r=0:=by omega
      exact ab6
 | succ s ih =>
  by_cases hr:r=s+1
  ·rw[hr];exact ab6
  ·have h1:=ih (by omega)
   have h2:=hd.S_nonneg k s;rw[d.U_succ];grind
theorem Day.OK.U_nonneg {d:Day} (hd:d.OK) (k r:Nat):0≤d.U k r:=by
 have:=hd.U_mono k (aa3 r)
 rwa [d.U_zero] at this
theorem Day.OK.am_le {d:Day} (hd:d.OK) {c:Cl} (hc:c∈d.cl):c.am≤d.S c.fr c.rk:=by
 have:∀ l:List Cl,(∀ x∈l,0≤x.am)→c∈l→c.am≤sumC l fun x=>if x.fr=c.fr∧x.rk=c.rk then x.am else 0:=by
  intro l
  induction l with
  | nil=>intro _ h;cases h
  | cons x l ih =>
   intro h1 h2;rw[sumC]
   have h3:0≤sumC l fun x=>if x.fr=c.fr∧x.rk=c.rk then x.am else 0:=dZ fun y hy=>by
    split
    ·exact h1 y (abC _ hy)
    ·exact ab6
   rcases List.mem_cons.1 h2 with rfl | h2
   ·rw[if_pos ⟨rfl,rfl⟩];grind
   ·have h4:=ih (fun y hy=>h1 y (abC _ hy)) h2
    have h5:=h1 x abD
    split<;>grind
 exact this d.cl hd.am hc
noncomputable def Day.w (d:Day) (c:Cl):Rat:=c.am / d.S c.fr c.rk
theorem Day.OK.w_nonneg {d:Day} (hd:d.OK) {c:Cl} (hc:c∈d.cl):0≤d.w c:=by
 unfold Day.w;have h1:=hd.am c hc;have h2:=hd.S_nonneg c.fr c.rk;rw[ab8]
 exact ab9 h1 (by
  rcases Rat.le_iff_lt_or_eq.1 h2 with h | h
  ·exact Rat.le_of_lt (Rat.inv_pos.2 h)
  ·rw[←h];exact js Rat.inv_zero.symm)
theorem Day.OK.w_pos {d:Day} (hd:d.OK) {c:Cl} (hc:c∈d.cl) (h:0<c.am):0<d.w c:=by
 unfold Day.w;have h2:=hd.am_le hc;rw[ab8];exact aca h (Rat.inv_pos.2 (by grind))
theorem Day.w_zero {d:Day} {c:Cl} (h:c.am=0):d.w c=0:=by
 unfold Day.w;rw[h,ab8,Rat.zero_mul]
theorem Day.w_S {d:Day} {c:Cl} (h:0<d.S c.fr c.rk):d.w c*d.S c.fr c.rk=c.am:=by
 unfold Day.w;grind
theorem Day.OK.sum_fr {d:Day} (hd:d.OK) (C:Nat→Prop) (f:Nat→Nat) (hS:∀ k,C k→0<d.S k (f k)) (x:Nat→Rat):sumC d.cl (fun c=>if C c.fr∧c.rk=f c.fr then d.w c*x c.fr else 0)=sumQ d.n (fun k=>if C k then x k else 0):=by
 rw[←De hd.fr fun k c=>if C k∧c.rk=f k then d.w c*x k else 0]
 refine bU fun k hk=>?_
 by_cases hC:C k
 ·rw[if_pos hC]
  have hpos:=hS k hC
  have e:sumC d.cl (fun c=>if c.fr=k then (if C k∧c.rk=f k then d.w c*x k else 0) else 0)=sumC d.cl fun c=>(x k / d.S k (f k))*(if c.fr=k∧c.rk=f k then c.am else 0):=by
   refine d8 fun c _=>?_
   by_cases h1:c.fr=k
   ·by_cases h2:c.rk=f k
    ·rw[if_pos h1,if_pos ⟨hC,h2⟩,if_pos ⟨h1,h2⟩]
     unfold Day.w;rw[h1,h2];grind
    ·rw[if_pos h1,if_neg (fun h=>h2 h.2),if_neg (fun h=>h2 h.2)];grind
   ·rw[if_neg h1,if_neg (fun h=>h1 h.1)];grind
  rw[e,pY]
  show x k / d.S k (f k)*d.S k (f k)=x k;grind
 ·rw[if_neg hC]
  exact l7 fun c _=>by
   split
   ·rw[if_neg fun h=>hC h.1]
   ·rfl
end Go.Mini
namespace Go.Mini
open Classical
noncomputable def pos (x:Rat):Rat:=if x≤0 then 0 else x
theorem iv (x:Rat):0≤pos x:=by unfold pos;split<;>grind
theorem yz (x:Rat):x≤pos x:=by unfold pos;split<;>grind
theorem p7 {x y:Rat} (h:x≤y):pos x≤pos y:=by unfold pos;split<;>split<;>grind
theorem lz {x:Rat} (h:0≤x):pos x=x:=by unfold pos;split<;>grind
theorem im {x:Rat} (h:x≤0):pos x=0:=if_pos h
theorem fU {a x y:Rat} (ha:0≤a) (h:x≤y):a*x≤a*y:=Rat.mul_le_mul_of_nonneg_left h ha
theorem dz {a x:Rat} (ha:0≤a) (h:0≤x):0≤a*x:=ab9 ha h
noncomputable def Day.q (d:Day) (f:Nat→Nat) (h:Nat→Rat) (c:Cl):Rat:=if c.rk<f c.fr then c.am else if c.rk=f c.fr then d.w c*pos (h c.fr-d.U c.fr c.rk) else 0
noncomputable def Day.l (d:Day) (f:Nat→Nat) (P:Nat→Prop) (h:Nat→Rat) (c:Cl):Rat:=if c.rk<f c.fr then c.am else if c.rk=f c.fr∧P c.fr then d.w c*(h c.fr-d.U c.fr c.rk) else 0
noncomputable def Day.into (d:Day) (a:Cl→Rat) (i:Nat):Rat:=d.cash i+sumC d.cl fun c=>if c.to=(i:Int) then a c else 0
theorem Day.into_le {d:Day} {a b:Cl→Rat} (h:∀ c∈d.cl,a c≤b c) (i:Nat):d.into a i≤d.into b i:=by
 unfold Day.into
 have:=nj (l:=d.cl) (F:=fun c=>if c.to=(i:Int) then a c else 0) (G:=fun c=>if c.to=(i:Int) then b c else 0) fun c hc=>by
  try dsimp only
  split
  ·exact h c hc
  ·exact ab6
 grind
theorem Day.into_congr {d:Day} {a b:Cl→Rat} (h:∀ c∈d.cl,a c=b c) (i:Nat):d.into a i=d.into b i:=by
 unfold Day.into
 congr 1
 exact d8 fun c hc=>by rw[h c hc]
theorem Day.into_sub (d:Day) (a b:Cl→Rat) (i:Nat):d.into a i-d.into b i=sumC d.cl fun c=>if c.to=(i:Int) then a c-b c else 0:=by
 unfold Day.into
 have:(fun c:Cl=>if c.to=(i:Int) then a c-b c else 0)=fun c=>(if c.to=(i:Int) then a c else 0)-(if c.to=(i:Int) then b c else 0):=by
  funext c;split<;>grind
 rw[this,nE];grind
noncomputable def Day.sumIn (d:Day) (C:Nat→Prop) (x:Nat→Rat):Rat:=sumQ d.n fun i=>if C i then x i else 0
theorem Day.sumIn_sub (d:Day) (C:Nat→Prop) (x y:Nat→Rat):d.sumIn C (fun i=>x i-y i)=d.sumIn C x-d.sumIn C y:=by
 unfold Day.sumIn;rw[←n8];exact bU fun k _=>by split<;>grind
theorem Day.sumIn_add (d:Day) (C:Nat→Prop) (x y:Nat→Rat):d.sumIn C (fun i=>x i+y i)=d.sumIn C x+d.sumIn C y:=by
 unfold Day.sumIn;rw[←kH];exact bU fun k _=>by split<;>grind
theorem Day.sumIn_le {d:Day} {C:Nat→Prop} {x y:Nat→Rat} (h:∀ i,i<d.n→C i→x i≤y i):d.sumIn C x≤d.sumIn C y:=by
 refine pX fun k hk=>?_
 by_cases hc:C k
 ·rw[if_pos hc,if_pos hc];exact h k hk hc
 ·rw[if_neg hc,if_neg hc];exact ab6
theorem Day.sumIn_congr {d:Day} {C:Nat→Prop} {x y:Nat→Rat} (h:∀ i,i<d.n→C i→x i=y i):d.sumIn C x=d.sumIn C y:=by
 refine bU fun k hk=>?_
 split
 ·exact h k hk (by assumption)
 ·rfl
theorem Day.sumIn_into {d:Day} {C:Nat→Prop} (hC:∀ i,C i→i<d.n) (a:Cl→Rat):d.sumIn C (d.into a)=d.sumIn C d.cash+sumC d.cl fun c=>if inC C c then a c else 0:=by
 rw[←BW C hC]
 show sumQ d.n _=sumQ d.n _+_;rw[←kH];refine bU fun k _=>?_
 unfold Day.into
 split<;>grind
def Day.closed (d:Day) (f:Nat→Nat) (C:Nat→Prop):Prop:=∀ c∈d.cl,C c.fr→c.rk=f c.fr→0<c.am→inC C c
noncomputable def Day.cap (d:Day) (f:Nat→Nat) (g:Nat→Rat) (C:Nat→Prop) (k:Nat):Rat:=if C k then d.U k (f k) else g k
section
variable {d:Day} {f:Nat→Nat} {P:Nat→Prop} {h g:Nat→Rat} {C:Nat→Prop} {c:Cl}
theorem Day.l_lt (h1:c.rk<f c.fr):d.l f P h c=c.am:=by unfold Day.l;rw[if_pos h1]
theorem Day.l_eq (h1:c.rk=f c.fr) (h2:P c.fr):d.l f P h c=d.w c*(h c.fr-d.U c.fr c.rk):=by
 unfold Day.l;rw[if_neg (by omega),if_pos ⟨h1,h2⟩]
theorem Day.l_no (h1:¬ c.rk<f c.fr) (h2:¬ (c.rk=f c.fr∧P c.fr)):d.l f P h c=0:=by
 unfold Day.l;rw[if_neg h1,if_neg h2]
theorem Day.q_lt (h1:c.rk<f c.fr):d.q f h c=c.am:=by unfold Day.q;rw[if_pos h1]
theorem Day.q_eq (h1:c.rk=f c.fr):d.q f h c=d.w c*pos (h c.fr-d.U c.fr c.rk):=by
 unfold Day.q;rw[if_neg (by omega),if_pos h1]
theorem Day.q_no (h1:¬ c.rk<f c.fr) (h2:¬ c.rk=f c.fr):d.q f h c=0:=by
 unfold Day.q;rw[if_neg h1,if_neg h2]
theorem l9 (h:¬ C c.fr):d.q f (d.cap f g C) c=d.q f g c:=by
 unfold Day.q Day.cap;rw[if_neg h]
theorem mh (h:C c.fr):d.q f (d.cap f g C) c=if c.rk<f c.fr then c.am else 0:=by
 by_cases h1:c.rk<f c.fr
 ·rw[if_pos h1,Day.q_lt h1]
 ·rw[if_neg h1]
  by_cases h2:c.rk=f c.fr
  ·rw[Day.q_eq h2]
   unfold Day.cap;rw[if_pos h,h2,im (by grind),ab5]
  ·rw[Day.q_no h1 h2]
end
structure Inv (d:Day) (f:Nat→Nat) (g:Nat→Rat):Prop where
 le:∀ i,f i≤10
 sup:∀ i,i<d.n→d.into (d.q f g) i≤g i
 lo:∀ i,i<d.n→f i<10→d.U i (f i)≤g i
 hi:∀ i,i<d.n→f i<10→g i<d.U i (f i+1)
 cl:∀ C:Nat→Prop,(∃ i,C i)→(∀ i,C i→i<d.n∧f i<10)→d.closed f C→d.sumIn C (d.into (d.q f (d.cap f g C)))<d.sumIn C fun i=>d.U i (f i)
theorem Inv.S_pos {d:Day} {f:Nat→Nat} {g:Nat→Rat} (h:Inv d f g) {i:Nat} (hi:i<d.n) (hf:f i<10):0<d.S i (f i):=by
 have h1:=h.lo i hi hf;have h2:=h.hi i hi hf;rw[d.U_succ] at h2;grind
theorem Inv.start {d:Day} (hd:d.OK):Inv d (fun _=>10) (d.into fun c=>c.am) :=
 ⟨fun _=>abq _,fun i _=>d.into_le (fun c hc=>by
  unfold Day.q;rw[if_pos (hd.rk c hc)];exact ab6) i,fun i _ h=>absurd h (by omega),fun i _ h=>absurd h (by omega),fun C ⟨i,hi⟩ h=>absurd (h i hi).2 (by omega)⟩
theorem Inv.flow {d:Day} {f:Nat→Nat} {g:Nat→Rat} (hi:Inv d f g) (hd:d.OK) {C:Nat→Prop} (h1:∃ i,C i) (h2:∀ i,C i→i<d.n∧f i<10) (h3:d.closed f C) (L:Cl→Rat) (e:Nat→Rat) (he:∀ k,k<d.n→C k→0≤e k)
  (hL:∀ c∈d.cl,inC C c→L c≤d.q f (d.cap f g C) c+if C c.fr∧c.rk=f c.fr then d.w c*e c.fr else 0):d.sumIn C (d.into L)<d.sumIn C fun i=>d.U i (f i)+e i:=by
 have k1:=hi.cl C h1 h2 h3;have hC:∀ i,C i→i<d.n:=fun i h=>(h2 i h).1
 have k2:=hd.sum_fr C f (fun k hk=>hi.S_pos (h2 k hk).1 (h2 k hk).2) e;rw[Day.sumIn_into hC] at k1 ⊢;rw[Day.sumIn_add]
 have k3:sumC d.cl (fun c=>if inC C c then L c else 0)≤sumC d.cl fun c=>(if inC C c then d.q f (d.cap f g C) c else 0)+(if C c.fr∧c.rk=f c.fr then d.w c*e c.fr else 0):=by
  refine nj fun c hc=>?_
  have h0:0≤if C c.fr∧c.rk=f c.fr then d.w c*e c.fr else 0:=by
   split
   ·exact dz (hd.w_nonneg hc) (he _ (hd.fr c hc) (by rename_i h;exact h.1))
   ·exact ab6
  by_cases hin:inC C c
  ·rw[if_pos hin,if_pos hin];exact hL c hc hin
  ·rw[if_neg hin,if_neg hin];grind
 rw[qv,k2] at k3;have k4:d.sumIn C e=sumQ d.n fun k=>if C k then e k else 0:=rfl
 rw[←k4] at k3;grind
structure Pay (d:Day) (f:Nat→Nat) (g:Nat→Rat) (P:Nat→Prop) (h:Nat→Rat):Prop where
 fallen:∀ i,P i→i<d.n∧f i<10
 open':∀ C:Nat→Prop,(∃ i,C i)→(∀ i,C i→P i)→¬ d.closed f C
 sys:∀ i,i<d.n→h i=d.into (d.l f P h) i
 le:∀ i,i<d.n→h i≤g i
 ge:∀ i,P i→d.U i (f i)<h i
theorem ml {d:Day} {f:Nat→Nat} {g:Nat→Rat} (hi:Inv d f g) (hd:d.OK) {P:Nat→Prop} (hP:∀ i,P i→i<d.n∧f i<10) (ho:∀ C:Nat→Prop,(∃ i,C i)→(∀ i,C i→P i)→¬ d.closed f C) (x:Nat→Rat)
  (hx:∀ i,i<d.n→(sumC d.cl fun c=>if c.to=(i:Int) then (if c.rk=f c.fr∧P c.fr then d.w c*x c.fr else 0) else 0)≤x i):∀ i,i<d.n→0≤x i:=by
 have key:∀ i,P i→0≤x i:=by
  intro i0 hi0;apply ab7;intro hneg;obtain⟨C,hCd⟩:∃ C:Nat→Prop,∀ i,C i↔P i∧x i<0:=⟨fun i=>P i∧x i<0,fun _=>Iff.rfl⟩
  have hC:∀ i,C i→i<d.n:=fun i h=>(hP i ((hCd i).1 h).1).1
  refine ho C ⟨i0,(hCd i0).2 ⟨hi0,by grind⟩⟩ (fun i h=>((hCd i).1 h).1) ?_
  have e1:=BW C hC d.cl fun c=>if c.rk=f c.fr∧P c.fr then d.w c*x c.fr else 0
  have e2:=hd.sum_fr C f (fun k hk=>hi.S_pos (hP k ((hCd k).1 hk).1).1 (hP k ((hCd k).1 hk).1).2) x
  have e3:sumQ d.n (fun i=>if C i then sumC d.cl (fun c=>if c.to=(i:Int) then (if c.rk=f c.fr∧P c.fr then d.w c*x c.fr else 0) else 0) else 0)≤sumQ d.n (fun k=>if C k then x k else 0):=by
   refine pX fun k hk=>?_
   by_cases hc:C k
   ·rw[if_pos hc,if_pos hc];exact hx k hk
   ·rw[if_neg hc,if_neg hc];exact ab6
  rw[e1,←e2] at e3;have e4:=rP (l:=d.cl) (F:=fun c=>(if inC C c then (if c.rk=f c.fr∧P c.fr then d.w c*x c.fr else 0) else 0)-(if C c.fr∧c.rk=f c.fr then d.w c*x c.fr else 0)) (fun c hc=>?_) (by rw[nE];grind)
  ·intro c hc hcC hrk ham
   apply ab7;intro hin;have:=e4 c hc
   try dsimp only at this
   rw[if_neg hin,if_pos ⟨hcC,hrk⟩] at this;have h1:=hd.w_pos hc ham;have h2:=((hCd _).1 hcC).2;have h3:0<d.w c*(-x c.fr):=aca h1 (by grind);grind
  ·try dsimp only
   have h1:=hd.w_nonneg hc
   have hB:((if C c.fr∧c.rk=f c.fr then d.w c*x c.fr else 0)=(if c.rk=f c.fr∧P c.fr then d.w c*x c.fr else 0)∧(if C c.fr∧c.rk=f c.fr then d.w c*x c.fr else 0)≤0)∨((if C c.fr∧c.rk=f c.fr then d.w c*x c.fr else 0)=0∧0≤(if c.rk=f c.fr∧P c.fr then d.w c*x c.fr else 0)):=by
    by_cases hcC:C c.fr∧c.rk=f c.fr
    ·left
     have h2:=(hCd _).1 hcC.1;have h3:0≤d.w c*(-x c.fr):=dz h1 (by have:=h2.2;grind);have h4:c.rk=f c.fr∧P c.fr:=⟨hcC.2,h2.1⟩;rw[if_pos hcC,if_pos h4];exact⟨rfl,by grind⟩
    ·right
     rw[if_neg hcC];refine⟨rfl,?_⟩
     split
     ·rename_i h2
      refine dz h1 ?_;apply ab7;intro h;exact hcC ⟨(hCd _).2 ⟨h2.2,by grind⟩,h2.1⟩
     ·exact ab6
   generalize (if C c.fr∧c.rk=f c.fr then d.w c*x c.fr else 0)=B at *;generalize (if c.rk=f c.fr∧P c.fr then d.w c*x c.fr else 0)=A at *;rcases hB with ⟨h2,h3⟩ | ⟨h2,h3⟩<;>split<;>grind
 intro i hin;refine acb ?_ (hx i hin);refine dZ fun c hc=>?_
 split
 ·split
  ·rename_i h
   exact dz (hd.w_nonneg hc) (key _ h.2)
  ·exact ab6
 ·exact ab6
theorem Day.l_sub (d:Day) (f:Nat→Nat) (P:Nat→Prop) (h h':Nat→Rat) (c:Cl):d.l f P h' c-d.l f P h c=if c.rk=f c.fr∧P c.fr then d.w c*(h' c.fr-h c.fr) else 0:=by
 unfold Day.l
 by_cases h1:c.rk<f c.fr
 ·rw[if_pos h1,if_pos h1,if_neg (by omega)];grind
 ·rw[if_neg h1,if_neg h1]
  split<;>grind
theorem CF {d:Day} {f:Nat→Nat} {g:Nat→Rat} (hi:Inv d f g) (hd:d.OK) {P:Nat→Prop} (hP:∀ i,P i→i<d.n∧f i<10) (ho:∀ C:Nat→Prop,(∃ i,C i)→(∀ i,C i→P i)→¬ d.closed f C) {h h':Nat→Rat}
  (e:∀ i,i<d.n→h i=d.into (d.l f P h) i) (e':∀ i,i<d.n→h' i=d.into (d.l f P h') i):∀ i,i<d.n→h i=h' i:=by
 have main:∀ h h':Nat→Rat,(∀ i,i<d.n→h i=d.into (d.l f P h) i)→(∀ i,i<d.n→h' i=d.into (d.l f P h') i)→∀ i,i<d.n→0≤h' i-h i:=by
  intro h h' e e';refine ml hi hd hP ho (fun i=>h' i-h i) fun i hin=>?_
  rw[e i hin,e' i hin,d.into_sub];refine js (d8 fun c hc=>?_);rw[d.l_sub]
 intro i hin;have h1:=main h h' e e' i hin;have h2:=main h' h e' e i hin;grind
theorem BL {d:Day} {f:Nat→Nat} {g:Nat→Rat} (hi:Inv d f g) (hd:d.OK) {P:Nat→Prop} (hP:∀ i,P i→i<d.n∧f i<10) (ho:∀ C:Nat→Prop,(∃ i,C i)→(∀ i,C i→P i)→¬ d.closed f C) (x:Nat→Rat)
  (hx:∀ i,i<d.n→x i=sumC d.cl fun c=>if c.to=(i:Int) then (if c.rk=f c.fr∧P c.fr then d.w c*x c.fr else 0) else 0):∀ i,i<d.n→x i=0:=by
 intro i hin;have h1:=ml hi hd hP ho x (fun i hin=>js (hx i hin).symm) i hin;have h2:=ml hi hd hP ho (fun i => -x i) (fun i hin=>?_) i hin
 ·grind
 ·rw[hx i hin]
  refine js ?_;have:∀ F:Cl→Rat,-(sumC d.cl F)=sumC d.cl fun c=>(-1)*F c:=fun F=>by rw[pY];grind
  rw[this];refine d8 fun c hc=>?_
  split
  ·split<;>grind
  ·grind
theorem Day.l_le_q {d:Day} (hd:d.OK) {f:Nat→Nat} {P:Nat→Prop} {h g:Nat→Rat} (hle:∀ i,i<d.n→h i≤g i) {c:Cl} (hc:c∈d.cl):d.l f P h c≤d.q f g c:=by
 unfold Day.l Day.q
 by_cases h1:c.rk<f c.fr
 ·rw[if_pos h1,if_pos h1];exact ab6
 ·rw[if_neg h1,if_neg h1]
  by_cases h2:c.rk=f c.fr
  ·rw[if_pos h2]
   have hw:=hd.w_nonneg hc
   by_cases h3:P c.fr
   ·rw[if_pos ⟨h2,h3⟩]
    refine fU hw (acb ?_ (yz _));have:=hle _ (hd.fr c hc);grind
   ·rw[if_neg fun h=>h3 h.2]
    exact dz hw (iv _)
  ·rw[if_neg fun h=>h2 h.1,if_neg h2];exact ab6
theorem Pay.start {d:Day} (hd:d.OK) {f:Nat→Nat} {g:Nat→Rat} (hi:Inv d f g) {h:Nat→Rat} (hs:∀ i,i<d.n→h i=d.into (d.l f (fun _=>False) h) i):Pay d f g (fun _=>False) h :=
 ⟨fun i h=>h.elim,fun C ⟨i,h⟩ h'=>(h' i h).elim,hs,fun i hin=>by
  rw[hs i hin];refine acb (d.into_le (b:=d.q f g) (fun c hc=>?_) i) (hi.sup i hin);unfold Day.l Day.q
  by_cases h1:c.rk<f c.fr
  ·rw[if_pos h1,if_pos h1];exact ab6
  ·rw[if_neg h1,if_neg h1,if_neg fun h=>h.2]
   split
   ·exact dz (hd.w_nonneg hc) (iv _)
   ·exact ab6,fun i h=>h.elim⟩
def lf (d:Day) (f:Nat→Nat) (P:Nat→Prop) (h:Nat→Rat) (i:Nat):Prop:=P i∨(i<d.n∧f i<10∧d.U i (f i)<h i)
theorem Pay.next_fallen {d:Day} {f:Nat→Nat} {g:Nat→Rat} {P:Nat→Prop} {h:Nat→Rat} (hp:Pay d f g P h):∀ i,lf d f P h i→i<d.n∧f i<10:=fun i hn=>hn.elim (hp.fallen i) fun h=>⟨h.1,h.2.1⟩
theorem Pay.next_gt {d:Day} {f:Nat→Nat} {g:Nat→Rat} {P:Nat→Prop} {h:Nat→Rat} (hp:Pay d f g P h):∀ i,lf d f P h i→d.U i (f i)<h i:=fun i hn=>hn.elim (hp.ge i) fun h=>h.2.2
theorem Pay.next_open {d:Day} (hd:d.OK) {f:Nat→Nat} {g:Nat→Rat} (hi:Inv d f g) {P:Nat→Prop} {h:Nat→Rat} (hp:Pay d f g P h):∀ C:Nat→Prop,(∃ i,C i)→(∀ i,C i→lf d f P h i)→¬ d.closed f C:=by
 intro C h1 h2 h3;have hf:∀ i,C i→i<d.n∧f i<10:=fun i hc=>hp.next_fallen i (h2 i hc)
 have hfl:=hi.flow hd h1 hf h3 (d.l f P h) (fun k=>if P k then h k-d.U k (f k) else 0) (fun k _ hk=>by
  try dsimp only
  split
  ·have:=hp.ge k (by assumption);grind
  ·exact ab6) fun c hc _=>by
   by_cases k3:C c.fr
   ·rw[mh k3]
    by_cases k1:c.rk<f c.fr
    ·rw[Day.l_lt k1,if_pos k1,if_neg (fun h=>by have:=h.2;omega)];grind
    ·rw[if_neg k1]
     by_cases k2:c.rk=f c.fr
     ·have k5:C c.fr∧c.rk=f c.fr:=⟨k3,k2⟩
      rw[if_pos k5]
      by_cases k4:P c.fr
      ·rw[Day.l_eq k2 k4,if_pos k4,k2];grind
      ·rw[Day.l_no k1 (fun h=>k4 h.2),if_neg k4];grind
     ·rw[Day.l_no k1 (fun h=>k2 h.1),if_neg fun h=>k2 h.2];grind
   ·rw[l9 k3,if_neg fun h=>k3 h.1]
    have:=Day.l_le_q hd (P:=P) (f:=f) hp.le hc;grind
 have e:d.sumIn C (d.into (d.l f P h))=d.sumIn C h:=Day.sumIn_congr fun i hin _=>(hp.sys i hin).symm
 rw[e] at hfl
 have:d.sumIn C (fun i=>d.U i (f i)+if P i then h i-d.U i (f i) else 0)≤d.sumIn C h:=by
  refine Day.sumIn_le fun i hin hc=>?_
  have:=hp.next_gt i (h2 i hc)
  split<;>grind
 grind
theorem Pay.next {d:Day} (hd:d.OK) {f:Nat→Nat} {g:Nat→Rat} (hi:Inv d f g) {P:Nat→Prop} {h h':Nat→Rat} (hp:Pay d f g P h) (hs:∀ i,i<d.n→h' i=d.into (d.l f (lf d f P h) h') i):Pay d f g (lf d f P h) h':=by
 have ho:=hp.next_open hd hi
 have hup:∀ i,i<d.n→0≤h' i-h i:=by
  refine ml hi hd hp.next_fallen ho (fun i=>h' i-h i) fun i hin=>?_
  rw[hs i hin,hp.sys i hin,d.into_sub];refine nj fun c hc=>?_
  have hw:=hd.w_nonneg hc
  split
  ·unfold Day.l
   by_cases h1:c.rk<f c.fr
   ·rw[if_pos h1,if_pos h1,if_neg (by omega)];grind
   ·rw[if_neg h1,if_neg h1]
    by_cases h2:c.rk=f c.fr
    ·by_cases h3:lf d f P h c.fr
     ·rw[if_pos ⟨h2,h3⟩,if_pos ⟨h2,h3⟩]
      by_cases h4:P c.fr
      ·rw[if_pos ⟨h2,h4⟩];grind
      ·rw[if_neg fun h=>h4 h.2]
       have h5:=hp.next_gt _ h3;have:=dz hw (show 0≤h c.fr-d.U c.fr c.rk by rw[h2];grind);grind
     ·rw[if_neg fun h=>h3 h.2,if_neg fun h=>h3 h.2,if_neg fun h=>h3 (.inl h.2)];grind
    ·rw[if_neg fun h=>h2 h.1,if_neg fun h=>h2 h.1,if_neg fun h=>h2 h.1];grind
  ·exact ab6
 have hle:∀ i,i<d.n→0≤g i-h' i:=by
  refine ml hi hd hp.next_fallen ho (fun i=>g i-h' i) fun i hin=>?_
  refine acb ?_ (show d.into (d.q f g) i-h' i≤g i-h' i by have:=hi.sup i hin;grind);rw[hs i hin,d.into_sub];refine nj fun c hc=>?_
  have hw:=hd.w_nonneg hc
  split
  ·unfold Day.l Day.q
   by_cases h1:c.rk<f c.fr
   ·rw[if_pos h1,if_pos h1,if_neg (by omega)];grind
   ·rw[if_neg h1,if_neg h1]
    by_cases h2:c.rk=f c.fr
    ·rw[if_pos h2]
     by_cases h3:lf d f P h c.fr
     ·rw[if_pos ⟨h2,h3⟩,if_pos ⟨h2,h3⟩]
      have:=fU hw (yz (g c.fr-d.U c.fr c.rk));grind
     ·rw[if_neg fun h=>h3 h.2,if_neg fun h=>h3 h.2]
      have:=dz hw (iv (g c.fr-d.U c.fr c.rk));grind
    ·rw[if_neg fun h=>h2 h.1,if_neg h2,if_neg fun h=>h2 h.1];grind
  ·exact ab6
 exact⟨hp.next_fallen,ho,hs,fun i hin=>by have:=hle i hin;grind,fun i hn=>by
  have h1:=hp.next_gt i hn;have h2:=hup i (hp.next_fallen i hn).1;grind⟩
theorem Pay.stop {d:Day} (hd:d.OK) {f:Nat→Nat} {g:Nat→Rat} {P:Nat→Prop} {h:Nat→Rat} (hp:Pay d f g P h) (hi:Inv d f g) (hstop:∀ i,i<d.n→f i<10→d.U i (f i)<h i→P i):∀ i,i<d.n→h i=d.into (d.q f h) i:=by
 intro i hin;rw[hp.sys i hin];refine d.into_congr (fun c hc=>?_) i;unfold Day.l Day.q
 by_cases h1:c.rk<f c.fr
 ·rw[if_pos h1,if_pos h1]
 ·rw[if_neg h1,if_neg h1]
  by_cases h2:c.rk=f c.fr
  ·rw[if_pos h2]
   by_cases h3:P c.fr
   ·rw[if_pos ⟨h2,h3⟩,lz]
    have:=hp.ge _ h3;rw[h2];grind
   ·rw[if_neg fun h=>h3 h.2,im]
    ·grind
    ·apply ab7
     intro hn;refine h3 (hstop _ (hd.fr c hc) (by rw[←h2];exact hd.rk c hc) ?_);rw[←h2];grind
  ·rw[if_neg fun h=>h2 h.1,if_neg h2]
end Go.Mini
