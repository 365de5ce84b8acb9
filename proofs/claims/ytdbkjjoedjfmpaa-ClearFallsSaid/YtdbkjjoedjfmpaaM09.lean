/- A part of the proof. -/
import Derived.Test.YtdbkjjoedjfmpaaM08
import Derived.Test.YtdbkjjoedjfmpaaM04
import Derived.Test.YtdbkjjoedjfmpaaM03
set_option linter.unusedSimpArgs false
set_option linter.unusedVariables false
open Nat renaming zero_le → aa4, sub_self → aa9, mul_one → abe, reduceEqDiff → abq, le_refl → abr, eq_zero_or_pos → abC, lt_or_ge → abK, exists_eq_add_of_le → abU, add_sub_cancel_left → ab0, sub_zero → ab2
open Bool renaming false_eq_true → aa5
open Decidable renaming em → aa6
open List renaming getElem?_eq_getElem → aa7, getElem?_append_right → aa8, mem_of_getElem? → aba, set_append_right → abb, set_cons_zero → abc, append_assoc → abd, getElem?_set → abf, drop_eq_nil_of_le → abg, append_nil → abh, length_append → abi, length_map → abj, length_take → abk, length_drop → abl, mem_append → abm, take_add_one → abn, map → abo, take_of_length_le → abp, length_set → abs, map_cons → abt, length → abu, getElem?_map → abv, getElem_mem → abx, map_nil → abz, getElem?_zipIdx → abA, mem_singleton → abB, mem_cons_of_mem → abD, mem_cons_self → abE, map_map → abF, mapM_cons → abG, drop_zero → abH, flatten_cons → abI, range → abJ, map_append → abL, length_cons → abM, replicate → abS, map_replicate → abT, replicate_append_replicate → abV, flatten_append → abW, take_append_of_le_length → abX, drop_append → abY, nil_append → abZ, replicate_succ → ab1, length_replicate → ab3, map_set → ab4
open Option renaming map_some → abw
open Prod renaming ext → aby
open Int renaming one_mul → abN, zero_mul → abO, mul_zero → abP, add_zero → abQ, zero_add → abR
open Rat renaming add_zero → ab5, mul_zero → ab6, le_refl → ab7, div_def → ab9, mul_nonneg → aca, mul_pos → acb, le_trans → acd
open Classical renaming byContradiction → ab8
namespace Go.Mini
open Go
set_option maxRecDepth 10000
set_option maxHeartbeats 4000000
theorem N4 (T:Tab) (lH:T gm=mkE xC) (kE:T bW=mkU nh) (eG:T dW=mkE mE) (dQ:T dI=mkE lC) {K:bH→St→Prop} {kk:List Todo}
  (go N r c:Nat) (mem:Mem) (hn4:mem 168004=none) (hn6:mem 168006=none) (hN:N≤40) (hrN:r<N) (hcN':c<N+1) (dv:List MR) (hcok:MatOK N dv) (x:MR) (prow:List aJ) (hcr:dv[r]?=some (x.1,x.2.1,prow)) (bd0:Bool) (tm:Nat→MV) (m:Mem)
  (e0:tm 0 = .ptr 129015 0 0) (e1:tm 1 = .dat (.int .i64 r)) (e2:tm 2 = .dat (.int .i64 c)) (e112:tm 112 = .ref 129035 go 1 0 N) (e113:tm 113 = .dat (.int .i64 N)) (e114:tm 114 = .dat (.int .i64 0)) (hps:PS mem go N dv bd0 m)
  (hK:∀ tm' m',PS mem go N (bT prow r c 0 dv bd0).1 (bT prow r c 0 dv bd0).2 m'→kont T K kk (.exit 4) ⟨tm',m'⟩) :
  wp T (mf_linear_matrix_pivot.body.sub [1,1,1,1,1,1,1,0,1,0]) (kont T K kk) ⟨tm,m⟩:=by
 simp only[mf_linear_matrix_pivot,MCode.sub]
 refine ae [0,1,2,112,113] [] (fun ((i2,dn,bd):Nat × List MR × Bool) tm m=>i2≤N∧dn.length=i2∧bT prow r c 0 dv bd0=(dn++(bT prow r c i2 (dv.drop i2) bd).1,(bT prow r c i2 (dv.drop i2) bd).2)∧MatOK N (dn++dv.drop i2)∧(dn++dv.drop i2)[r]?=some (x.1,x.2.1,prow)∧tm 114 = .dat (.int .i64 i2)∧PS mem go N (dn++dv.drop i2) bd m) (fun (i2,_,_)=>N-i2) (0,[],bd0) (by
  exact⟨aa4 _,rfl,rfl,hcok,hcr,e114,hps⟩) ?_
 intro vs ms hvs hms;simp only[go_sem,go_sem_proc,aa5,e0,e1,e2,e112,e113] at hvs hms;subst hvs hms;clear e0 e1 e2 e112 e113 e114 hps tm m;rintro⟨i2,dn,bd⟩ tm m2 hk hm ⟨hi2,hdn,hel,hok2,hr2,h114,hps2⟩;simp only[go_sem,go_sem_proc,aa5,List.cons.injEq] at hk hm;obtain⟨h0,h1,h2,h112,h113⟩:=hk;have hm15':=hps2.1.m;have hm35':=hps2.1.o;have hdvl:dv.length=N:=hcok.len;rcases aa6 (i2<N) with hilt | hige
 ·obtain⟨y,hy⟩:∃ y,dv[i2]?=some y:=⟨_,aa7 (by omega)⟩
  have hdrop:dv.drop i2=y::dv.drop (i2+1):=by
   obtain⟨hl,rfl⟩:=List.getElem?_eq_some_iff.1 hy;exact List.drop_eq_getElem_cons hl
  have hyr:(dn++dv.drop i2)[i2]?=some y:=by
   rw[aa8 (by omega),hdn,aa9,List.getElem?_drop,Nat.add_zero,hy]
  obtain⟨hyl,hyo⟩:=hok2.row y (aba hyr);have hym:=hps2.1.r y (aba hyr);obtain⟨⟨⟨g1,g2⟩,⟨g3,g4⟩⟩,hg⟩:∃ f,y.2.2[c]?=some f:=⟨_,aa7 (by omega)⟩;have hgc:=ur hg;have t1:=FA (N:=N) hyr;have t2:=C0 (N:=N) (rows:=dn++dv.drop i2) (i:=i2) (by rw[hok2.len];exact hilt);have t3:=Bn hg;have t4:=AD (l:=y.2.2) (k:=c) (by omega);have hil:decide ((i2:Int)<(N:Int))=true:=decide_eq_true (by omega);have hw:IntKind.i64.wrap ((i2:Int)+1)=((i2+1:Nat):Int):=by rw[ak _ (by omega) (by omega)];omega
  have happ:∀ z:MR,(dn++[z])++dv.drop (i2+1)=(dn++dv.drop i2).set i2 z:=fun z=>by
   rw[abb _ _ (by omega),hdn,aa9,hdrop,abc,abd];rfl
  have hself:(dn++[y])++dv.drop (i2+1)=dn++dv.drop i2:=by rw[happ];exact uI hyr
  have hskip:∀ b:Bool,(b=true→i2=r∨(g1==0)=true)→b=true→bT prow r c 0 dv bd0=((dn++[y])++(bT prow r c (i2+1) (dv.drop (i2+1)) bd).1,(bT prow r c (i2+1) (dv.drop (i2+1)) bd).2):=by
   intro b hb hbt
   have hcond:(i2==r||ic (cK y c))=true:=by
    rcases hb hbt with h | h
    ·rw[h,beq_self_eq_true];rfl
    ·rw[hgc]
     have:ic ((g1,g2),(g3,g4))=true:=h;rw[this,Bool.or_true]
   rw[hel,hdrop];simp only[bT];rw[if_pos hcond,abd]
   rfl
  rcases hir:((i2:Int)==(r:Int))
  ·have hirn:i2≠r:=by intro h;rw[h] at hir;simp at hir
   rcases hgz:(g1==0)
   ·have hgl:okF ((g1,g2),(g3,g4)):=hyo _ (aba hg)
    simp only[go_sem,go_sem_proc,aa5,lH,h0,h1,h2,h112,h113,h114,hm15',hm35',hym,t1,t2,t3,t4,hilt,hil,hcN',hir,hgz,abe];refine Ou T kE eG dQ go N r c i2 mem hn4 hn6 hN (dn++dv.drop i2) hok2 x y prow hyr hr2 hirn hrN bd g1 g2 g3 g4 hgl _ _ (cQ (m2 148013)) ?_ ?_ ?_ ?_ ?_ ?_ ?_ ?_ ?_ ?_ ((hps2.own (.inr (.inr rfl))).own (.inr (.inr rfl))) ?_
    ·exact h0
    ·exact h1
    ·exact h2
    ·rfl
    ·rfl
    ·exact h112
    ·exact h113
    ·exact h114
    ·rfl
    ·simp [az]
    ·intro tm' m' l b k0 k1 k2 k112 k113 k114 hlb hok3 hps3
     simp only[go_sem,go_sem_proc,aa5,h0,h1,h2,k0,k1,k2,k112,k113,k114,hw]
     repeat' (first|refine qS ?_ ?_|fail)<;>intro h<;>simp only[h,go_sem,go_sem_proc,aa5,h0,h1,h2,k0,k1,k2,k112,k113,k114,hw]
     refine⟨(i2+1,dn++[(y.1,y.2.1,l)],b),by dsimp only;omega,by dsimp only;omega,by simp [hdn],?_,by dsimp only;rw[happ];exact hok3,by dsimp only;rw[happ,abf,if_neg hirn];exact hr2,rfl,?_⟩
     ·have hcond:¬ (i2==r||ic (cK y c))=true:=by
       rw[hgc];have h1:ic ((g1,g2),(g3,g4))=false:=hgz;have h2:(i2==r)=false:=by simpa using hirn
       rw[h1,h2];simp
      rw[hel,hdrop];simp only[bT];rw[if_neg hcond,hgc,←hlb,abd]
      rfl
     ·dsimp only
      rw[happ];exact hps3
   ·simp only[go_sem,go_sem_proc,aa5,lH,h0,h1,h2,h112,h113,h114,hm15',hm35',hym,t1,t2,t3,t4,hilt,hil,hcN',hw,hir,hgz,abe]
    repeat' (first|refine qS ?_ ?_|fail)<;>intro h<;>simp only[h,go_sem,go_sem_proc,aa5,lH,h0,h1,h2,h112,h113,h114,hm15',hm35',hym,t1,t2,t3,t4,hilt,hil,hcN',hw,hir,hgz,abe]
    refine⟨(i2+1,dn++[y],bd),by dsimp only;omega,by dsimp only;omega,by simp [hdn],hskip true (fun _ => .inr hgz) rfl,by dsimp only;rw[hself];exact hok2,by dsimp only;rw[hself];exact hr2,rfl,?_⟩
    dsimp only;rw[hself];exact (hps2.own (.inr (.inr rfl))).own (.inr (.inr rfl))
  ·have hirn:i2=r:=by have h:=beq_iff_eq.1 hir;omega
   simp only[go_sem,go_sem_proc,aa5,lH,h0,h1,h2,h112,h113,h114,hm15',hm35',hym,t1,t2,t3,t4,hilt,hil,hcN',hw,hir,abe]
   repeat' (first|refine qS ?_ ?_|fail)<;>intro h<;>simp only[h,go_sem,go_sem_proc,aa5,lH,h0,h1,h2,h112,h113,h114,hm15',hm35',hym,t1,t2,t3,t4,hilt,hil,hcN',hw,hir,abe]
   refine⟨(i2+1,dn++[y],bd),by dsimp only;omega,by dsimp only;omega,by simp [hdn],hskip true (fun _ => .inl hirn) rfl,by dsimp only;rw[hself];exact hok2,by dsimp only;rw[hself];exact hr2,rfl,?_⟩
   dsimp only;rw[hself];exact (hps2.own (.inr (.inr rfl))).own (.inr (.inr rfl))
 ·have hin:i2=N:=by omega
  have hil:decide ((i2:Int)<(N:Int))=false:=decide_eq_false (by omega);have hnil:dv.drop i2=[]:=abg (by omega);rw[hnil] at hel hps2;simp only[bT,abh] at hel hps2;rw[hel] at hK;simp only[go_sem,go_sem_proc,aa5,h0,h1,h2,h112,h113,h114,hm15',hm35',hil]
  repeat' (first|refine qS ?_ ?_|fail)<;>intro h<;>simp only[h,go_sem,go_sem_proc,aa5,h0,h1,h2,h112,h113,h114,hm15',hm35',hil]
  exact hK _ _ hps2
theorem O7 (T:Tab) (kE:T bW=mkU nh) (fZ:T gy=mkE o5) {K:bH→St→Prop} {kk:List Todo}
  (go N r c:Nat) (mem:Mem) (hn4:mem 168004=none) (hn6:mem 168006=none) (hN:N≤40) (hrN:r<N) (sw:List MR) (hoks:MatOK N sw) (x:MR) (hswr:sw[r]?=some x) (f1:Int) (f2:List Int) (f3:Int) (f4:List Int) (hfl:okF ((f1,f2),(f3,f4))) (tm:Nat→MV) (m:Mem) (G:Nat)
  (e0:tm 0 = .ptr 129015 0 0) (e1:tm 1 = .dat (.int .i64 r)) (e2:tm 2 = .dat (.int .i64 c)) (e8:tm 8 = .ptr 148008 G 0) (e85:tm 85 = .ref (x.1+900000) x.2.1 4 0 (N+1)) (e86:tm 86 = .dat (.int .i64 ((N+1:Nat):Int))) (e87:tm 87 = .dat (.int .i64 0))
  (em:m 148008=some (G,[.dat (.int .i64 f1),.dat (.sl (f2.map aa)),.dat (.int .i64 f3),.dat (.sl (f4.map aa))])) (hps:PS mem go N sw false m)
  (hK:∀ tm' m',tm' 0 = .ptr 129015 0 0→tm' 1 = .dat (.int .i64 r)→tm' 2 = .dat (.int .i64 c)→MatOK N (sw.set r (x.1,x.2.1,(cA ((f1,f2),(f3,f4)) x.2.2).1))→PS mem go N (sw.set r (x.1,x.2.1,(cA ((f1,f2),(f3,f4)) x.2.2).1)) (cA ((f1,f2),(f3,f4)) x.2.2).2 m'→kont T K kk (.exit 2) ⟨tm',m'⟩) :
  wp T (mf_linear_matrix_pivot.body.sub [1,1,1,1,1,1,0,1,0]) (kont T K kk) ⟨tm,m⟩:=by
 simp only[mf_linear_matrix_pivot,MCode.sub];obtain⟨hxl,hxo⟩:=hoks.row x (aba hswr)
 have hset0:∀ l:List aJ,(sw.set r (x.1,x.2.1,l))[r]?=some (x.1,x.2.1,l):=fun l=>by
  rw[abf,if_pos rfl,if_pos (by rw[hoks.len];exact hrN)]
 refine ae [0,1,2,8,85,86] [148008] (fun (k:Nat) tm m=>k≤N+1∧tm 87 = .dat (.int .i64 k)∧PS mem go N (sw.set r (x.1,x.2.1,(x.2.2.take k).map (fun f=>(iY f ((f1,f2),(f3,f4))).1)++x.2.2.drop k)) ((x.2.2.take k).any fun f=>(iY f ((f1,f2),(f3,f4))).2 != 0) m) (fun k=>N+1-k) 0 (by
  refine⟨aa4 _,e87,?_⟩;have e:sw.set r (x.1,x.2.1,(x.2.2.take 0).map (fun f=>(iY f ((f1,f2),(f3,f4))).1)++x.2.2.drop 0)=sw:=uI hswr
  rw[e];exact hps) ?_
 intro vs ms hvs hms;simp only[go_sem,go_sem_proc,aa5,e0,e1,e2,e8,e85,e86,em] at hvs hms;subst hvs hms;clear e0 e1 e2 e8 e85 e86 e87 em hps tm m;rintro k tm m hk hm ⟨hkN,h87,hps⟩;simp only[go_sem,go_sem_proc,aa5,List.cons.injEq] at hk hm;obtain⟨h0,h1,h2,h8,h85,h86⟩:=hk
 have hcl:((x.2.2.take k).map (fun f=>(iY f ((f1,f2),(f3,f4))).1)++x.2.2.drop k).length=N+1:=by
  rw[abi,abj,abk,abl];omega
 have hcok:MatOK N (sw.set r (x.1,x.2.1,(x.2.2.take k).map (fun f=>(iY f ((f1,f2),(f3,f4))).1)++x.2.2.drop k)):=by
  refine hoks.set hswr hcl fun f hf=>?_
  rw[abm] at hf;rcases hf with hf | hf
  ·obtain⟨f',-,rfl⟩:=List.mem_map.1 hf
   exact EZ _ _
  ·exact hxo f (List.mem_of_mem_drop hf)
 have hcr:=hset0 ((x.2.2.take k).map (fun f=>(iY f ((f1,f2),(f3,f4))).1)++x.2.2.drop k)
 rcases aa6 (k<N+1) with hklt | hkge
 ·obtain⟨⟨⟨a1,a2⟩,⟨a3,a4⟩⟩,hfk⟩:∃ f,x.2.2[k]?=some f:=⟨_,aa7 (by omega)⟩
  have hcg:=(vA (fun f=>(iY f ((f1,f2),(f3,f4))).1) (l:=x.2.2) (k:=k)).trans hfk
  have hnew:=xa (fun f=>(iY f ((f1,f2),(f3,f4))).1) hfk
  have hany:(x.2.2.take (k+1)).any (fun f=>(iY f ((f1,f2),(f3,f4))).2 != 0)=((x.2.2.take k).any (fun f=>(iY f ((f1,f2),(f3,f4))).2 != 0)||(iY ((a1,a2),(a3,a4)) ((f1,f2),(f3,f4))).2 != 0):=by
   rw[abn,hfk,List.any_append];simp
  obtain⟨hfo1,hfo2⟩:=hxo _ (aba hfk);generalize (x.2.2.take k).map (fun f=>(iY f ((f1,f2),(f3,f4))).1)++x.2.2.drop k=cur at *
  generalize ((x.2.2.take k).any fun f=>(iY f ((f1,f2),(f3,f4))).2 != 0)=bd at *
  have hm15':=hps.1.m;have hm35':=hps.1.o;have hxm':=hps.1.r _ (aba hcr);have q4:m 168004=none:=(hps.2 _ lz).trans hn4;have q6:m 168006=none:=(hps.2 _ lL).trans hn6;have t1:=FA (N:=N) hcr;have t2:=C0 (N:=N) (rows:=sw.set r (x.1,x.2.1,cur)) (i:=r) (by rw[hcok.len];exact hrN);have t3:=Bn hcg;have t4:=AD (l:=cur) (k:=k) (by omega);have hkl:decide ((k:Int)<((N+1:Nat):Int))=true:=decide_eq_true (by omega);have hw:IntKind.i64.wrap ((k:Int)+1)=((k+1:Nat):Int):=by rw[ak _ (by omega) (by omega)];omega
  generalize hV:iY ((a1,a2),(a3,a4)) ((f1,f2),(f3,f4))=V at *;obtain⟨⟨⟨v1,v2⟩,⟨v3,v4⟩⟩,er⟩:=V;dsimp only at hnew hany;have t5:=MO (l:=cur) (k:=k) (by omega) v1 v2 v3 v4;refine qI ?_
  repeat' (intro h<;>simp only[h,go_sem,go_sem_proc,aa5,kE,fZ,h0,h1,h2,h8,h85,h86,h87,hm,hm15',hm35',hxm',q4,q6,t1,t2,t3,t4,t5,hkl,hklt,hrN,hw,hV,hfo1,hfo2,hfl.1,hfl.2,bw,ad,abe,nh,List.set_cons_succ,abc,decide_true,decide_false,Nat.reduceLeDiff,ne_eq,not_false_eq_true,and_self]<;>try refine qS ?_ ?_)
  have e1:=PS.set hcok hcr (cur.set k ((v1,v2),(v3,v4))) (((hps.own (k:=148010) (g:=cQ (m 148010)) (cs:=[MV.dat (Data.int IntKind.i64 0),MV.nil,MV.dat (Data.int IntKind.i64 0),MV.nil]) (.inr (.inl rfl))).own (k:=148010) (g:=cQ (m 148010)) (cs:=[MV.dat (Data.int IntKind.i64 a1),MV.dat (Data.sl (abo aa a2)),MV.dat (Data.int IntKind.i64 a3),MV.dat (Data.sl (abo aa a4))]) (.inr (.inl rfl))).flag (bd||er != 0));rw[List.set_set,hnew] at e1;refine⟨k+1,by omega,by omega,rfl,?_⟩
  show PS mem go N _ ((x.2.2.take (k+1)).any fun f=>(iY f ((f1,f2),(f3,f4))).2 != 0) _
  rw[hany,hnew];exact e1
 ·have hk':k=N+1:=by omega
  have ecur:(x.2.2.take k).map (fun f=>(iY f ((f1,f2),(f3,f4))).1)++x.2.2.drop k=(cA ((f1,f2),(f3,f4)) x.2.2).1:=by
   unfold cA;rw[abp (by omega),abg (by omega),abh]
  have ebad:((x.2.2.take k).any fun f=>(iY f ((f1,f2),(f3,f4))).2 != 0)=(cA ((f1,f2),(f3,f4)) x.2.2).2:=by
   unfold cA;rw[abp (by omega)]
  rw[ecur] at hcok hps;rw[ebad] at hps;have hkl:decide ((k:Int)<((N+1:Nat):Int))=false:=decide_eq_false (by omega);refine qI ?_
  repeat' (intro h<;>simp only[h,go_sem,go_sem_proc,aa5,h0,h1,h2,h8,h85,h86,h87,hm,hkl]<;>try refine qS ?_ ?_)
  refine hK _ _ ?_ ?_ ?_ hcok hps<;>simp only[aL,abq,if_false,h0,h1,h2]
theorem Mk (T:Tab) (lH:T gm=mkE xC) (kE:T bW=mkU nh) (fZ:T gy=mkE o5) (eG:T dW=mkE mE) (dQ:T dI=mkE lC)
  (go N:Nat) (rows:List MR) (r c:Nat) (mem0:Mem) (hok:MatOK N rows) (hat:MatAt go N rows false mem0) (hn4:mem0 168004=none) (hn6:mem0 168006=none) (hN:N≤40) (hrc:r≤c) (hcN:c<N) :
  wp T mf_linear_matrix_pivot.body (qq mf_linear_matrix_pivot.res fun m mem'=>m = .dat (.bool (gU rows r c).1)∧PS mem0 go N (gU rows r c).2.1 (gU rows r c).2.2 mem') ⟨ax [.ptr 129015 0 0,.dat (.int .i64 r),.dat (.int .i64 c)],mem0⟩:=by
 refine ap ?_;simp only[mf_linear_matrix_pivot];simp only[go_sem,go_sem_proc,aa5];refine ae [0,1,2] [] (fun (i:Nat) tm mem=>r≤i∧i≤N∧(∀ j y,r≤j→j<i→rows[j]?=some y→ic (cK y c)=true)∧tm 7 = .dat (.int .i64 i)∧mem=mem0) (fun i=>N-i) r (by refine⟨abr _,by omega,fun j y h1 h2=>by omega,rfl,rfl⟩) ?_;intro vs ms hvs hms;simp only[go_sem,go_sem_proc,aa5] at hvs hms;subst hvs hms;rintro i tm mem hk hm ⟨hri,hiN,hz,h7,rfl⟩;simp only[go_sem,go_sem_proc,aa5,List.cons.injEq] at hk hm;obtain⟨h0,h1,h2⟩:=hk;have hm15:=hat.m;have hm35:=hat.o;have hlen:=hok.len;rcases aa6 (i<N) with hlt | hge
 ·have hx:∃ x,rows[i]?=some x:=⟨_,aa7 (by omega)⟩
  obtain⟨x,hx⟩:=hx;obtain⟨hxl,hxo⟩:=hok.row x (aba hx);have hxm:=hat.r x (aba hx);have hf:∃ f,x.2.2[c]?=some f:=⟨_,aa7 (by omega)⟩;obtain⟨⟨⟨f1,f2⟩,⟨f3,f4⟩⟩,hf⟩:=hf;have hcR:=FA (N:=N) hx;have hlR:=C0 (N:=N) (rows:=rows) (i:=i) (by omega);have hcF:=Bn hf;have hlF:=AD (l:=x.2.2) (k:=c) (by omega);have hcell:=ur hf;have hlt':decide ((i:Int)<(N:Int))=true:=decide_eq_true (by omega);have hcN':c<N+1:=by omega
  rcases hzf:(f1==0)
  ·have hfa:cw rows r c=i:=zK hx hri hz (by rw[hcell];exact hzf)
   obtain⟨xr,hxr⟩:∃ x,rows[r]?=some x:=⟨_,aa7 (by omega)⟩
   have hpv:gU rows r c=(false,bT (cA ((f1,f2),(f3,f4)) x.2.2).1 r c 0 (((rows.set r x).set i xr).set r (x.1,x.2.1,(cA ((f1,f2),(f3,f4)) x.2.2).1)) (cA ((f1,f2),(f3,f4)) x.2.2).2):=by
    unfold gU divided;rw[if_neg (by omega),hfa];have:fp (swapped rows r i) r=x:=kU (by unfold swapped;rw[kU hx,kU hxr];exact uX hx hxr);rw[this,hcell];unfold swapped;rw[kU hx,kU hxr]
   rw[hpv];clear hpv;have hoks:MatOK N ((rows.set r x).set i xr):=hok.swap hxr hx;have hpss:PS mem go N ((rows.set r x).set i xr) false _:=PS.swap hxr hx ⟨hat,fun _ _=>rfl⟩
   have hswr:((rows.set r x).set i xr)[r]?=some x:=uX hx hxr;have hrN:r<N:=by omega
   have s1:=FA (N:=N) hxr;have s2:=C0 (N:=N) (rows:=rows) (i:=r) (by omega);have s3:=Q4 (N:=N) (rows:=rows) (i:=r) (by omega) x;have s4:=C0 (N:=N) (rows:=rows.set r x) (i:=i) (by rw[abs];omega);have s5:=Q4 (N:=N) (rows:=rows.set r x) (i:=i) (by rw[abs];omega) xr;have s6:=FA (N:=N) hswr;have s7:=C0 (N:=N) (rows:=(rows.set r x).set i xr) (i:=r) (by rw[abs,abs];omega);generalize hsw:(rows.set r x).set i xr=sw at *;have hfl:=hxo _ (aba hf);have hltr:decide ((i:Int)<(N:Int))=true:=hlt';have hineq:((i:Int)==(N:Int))=false:=by simp;omega
   simp only[go_sem,go_sem_proc,aa5,lH,kE,h0,h1,h2,h7,hm15,hm35,hxm,hcR,hlR,hcF,hlF,hlt,hlt',hcN',hzf,abe,hrN,s1,s2,s3,s4,s5,s6,s7,hineq];refine O7 T kE fZ go N r c mem hn4 hn6 hN hrN sw hoks x hswr f1 f2 f3 f4 hfl _ _ (cQ (mem 148008)) ?_ ?_ ?_ ?_ ?_ ?_ ?_ ?_ ((hpss.own (.inl rfl)).own (.inl rfl)) ?_
   ·exact h0
   ·exact h1
   ·exact h2
   ·rfl
   ·rfl
   ·rfl
   ·rfl
   ·simp [az]
   intro tm' m' k0 k1 k2 hok2 hps2;have hm15':=hps2.1.m
   have hr2:(sw.set r (x.1,x.2.1,(cA ((f1,f2),(f3,f4)) x.2.2).1))[r]?=some (x.1,x.2.1,(cA ((f1,f2),(f3,f4)) x.2.2).1):=by
    rw[abf,if_pos rfl,if_pos (by rw[hoks.len];exact hrN)]
   simp only[go_sem,go_sem_proc,aa5,k0,k1,k2,hm15'];refine N4 T lH kE eG dQ go N r c mem hn4 hn6 hN hrN hcN' _ hok2 x _ hr2 _ _ _ ?_ ?_ ?_ ?_ ?_ ?_ hps2 ?_
   ·exact k0
   ·exact k1
   ·exact k2
   ·rfl
   ·rfl
   ·rfl
   intro tm3 m3 hps3;refine qI ?_
   repeat' (intro h<;>simp only[h,go_sem,go_sem_proc,aa5]<;>try refine qS ?_ ?_)
   exact⟨_,rfl,rfl,hps3⟩
  ·have hw:IntKind.i64.wrap ((i:Int)+1)=((i+1:Nat):Int):=by rw[ak _ (by omega) (by omega)];omega
   refine qI ?_
   repeat' (intro h<;>simp only[h,go_sem,go_sem_proc,aa5,lH,kE,h0,h1,h2,h7,hm15,hm35,hxm,hcR,hlR,hcF,hlF,hlt,hlt',hcN',hzf,hw,abe]<;>try refine qS ?_ ?_)
   refine⟨i+1,by omega,by omega,by omega,?_,rfl⟩
   intro j y hj1 hj2 hy
   by_cases hji:j=i
   ·subst hji
    rw[hx] at hy
    cases hy;rw[hcell];exact hzf
   ·exact hz j y hj1 (by omega) hy
 ·have hiN':i=N:=by omega
  subst hiN';have hlt':decide ((i:Int)<(i:Int))=false:=decide_eq_false (by omega);have hfe:=B6 (rows:=rows) (r:=r) (c:=c) (by omega) (fun j y hj hy=>hz j y hj (by have:=(List.getElem?_eq_some_iff.1 hy).1;omega) hy);have hp:gU rows r c=(true,rows,false):=by unfold gU;rw[if_pos hfe]
  rw[hp];refine qI ?_
  repeat' (intro h<;>simp only[h,go_sem,go_sem_proc,aa5,lH,kE,h0,h1,h2,h7,hm15,hm35,hlt',beq_self_eq_true]<;>try refine qS ?_ ?_)
  exact⟨_,rfl,rfl,hat,fun _ _=>rfl⟩
structure L5 where
 go:Nat
 N:Nat
 rows:List MR
 r:Nat
 c:Nat
def IC (a:L5) (mem:Mem):Prop:=MatOK a.N a.rows∧MatAt a.go a.N a.rows false mem∧mem 168004=none∧mem 168006=none∧a.N≤40∧a.r≤a.c∧a.c<a.N
def Oz (a:L5) (mem:Mem):MV→Mem→Prop:=fun m mem'=>m = .dat (.bool (gU a.rows a.r a.c).1)∧PS mem a.go a.N (gU a.rows a.r a.c).2.1 (gU a.rows a.r a.c).2.2 mem'
noncomputable def qD:List MV→Mem→Option (MV→Mem→Prop):=QQ (fun (a:L5) args mem=>args=[.ptr 129015 0 0,.dat (.int .i64 a.r),.dat (.int .i64 a.c)]∧IC a mem) Oz
theorem HQ {N:Nat} {a b:List MR} (h:ce N a=ce N b):a.map (fun x=>(x.1,x.2.1))=b.map fun x=>(x.1,x.2.1):=by
 induction a generalizing b with
 | nil=>cases b with
  | nil=>rfl
  | cons y r=>simp [ce] at h
 | cons x a ih=>cases b with
  | nil=>simp [ce] at h
  | cons y b =>
   simp only[ce,abt,List.cons.injEq,MV.ref.injEq] at h;have h1:x.1=y.1:=by have:=h.1.1;simp only[Key] at this;omega
   simp only[abt,List.cons.injEq,Prod.mk.injEq];exact⟨⟨h1,h.1.2.1⟩,ih h.2⟩
theorem CZ (a:L5) (mem:Mem) (h:IC a mem):qD [.ptr 129015 0 0,.dat (.int .i64 a.r),.dat (.int .i64 a.c)] mem=some (Oz a mem):=by
 unfold qD;refine RX (a:=a) ?_ ⟨rfl,h⟩;rintro a b args mem ⟨h1,h2,h3,_⟩ ⟨h4,h5,h6,_⟩;rw[h1] at h4;simp only[List.cons.injEq,MV.dat.injEq,Data.int.injEq,true_and,and_true] at h4;have hm:=h3.m;rw[h6.m] at hm;simp only[Option.some.injEq,Prod.mk.injEq,List.cons.injEq,MV.ref.injEq,true_and,and_true] at hm;obtain⟨⟨hg,hn⟩,-⟩:=hm;have ho:=h3.o;rw[h6.o] at ho;simp only[Option.some.injEq,Prod.mk.injEq] at ho;obtain⟨ag,aN,ar,a1,a2⟩:=a;obtain⟨bg,bN,br,b1,b2⟩:=b;dsimp only at *;subst hg hn
 have hr:br=ar:=by
  have h7:=HQ ho.2;have hl:br.length=ar.length:=by have:=congrArg abu h7;simpa using this
  apply List.ext_getElem hl;intro i hi1 hi2;have h8:(br.map fun x=>(x.1,x.2.1))[i]?=(ar.map fun x=>(x.1,x.2.1))[i]?:=by rw[h7]
  rw[abv,abv,aa7 hi1,aa7 hi2] at h8;simp only[abw,Option.some.injEq,Prod.mk.injEq] at h8;have r1:=h6.r _ (abx hi1);have r2:=h3.r _ (abx hi2);rw[h8.1,r2] at r1;simp only[Option.some.injEq,Prod.mk.injEq] at r1;have:=IX r1.2;exact aby h8.1 (aby h8.2 this.symm)
 subst hr;have e1:a1=b1:=by omega
 have e2:a2=b2:=by omega
 subst e1 e2
 rfl
theorem zY {args:List MV} {mem:Mem} {R:MV→Mem→Prop} (h:qD args mem=some R):∃ a,args=[.ptr 129015 0 0,.dat (.int .i64 a.r),.dat (.int .i64 a.c)]∧IC a mem∧R=Oz a mem:=by
 obtain⟨a,⟨h1,h2⟩,h3⟩:=CP h;exact⟨a,h1,h2,h3⟩
theorem wG (l:List aJ):((l.map ad).all fun e=>e.length==4)=true:=by simp [ad]
noncomputable def pV:List Data→Option PRes:=FF (α:=List aJ) (fun (l:List aJ)=>([.sl (l.map ad)]:List Data)) (fun (l:List aJ)=>aH (l.length≤1000000) (.own 4 (l.map ad)))
theorem xS:∀ a b:List aJ,(fun (l:List aJ)=>([.sl (l.map ad)]:List Data)) a=(fun (l:List aJ)=>([.sl (l.map ad)]:List Data)) b→a=b:=by
  intro l1 l2 h;exact af dl _ _ (by simpa using h)
@[go_sem] theorem Nb (l:List aJ) (hc:l.length≤1000000):pV [.sl (l.map ad)]=some (.own 4 (l.map ad)):=(aX xS l).trans (an hc _)
theorem HR (T:Tab)  (l:List aJ) (hc:l.length≤1000000) :
  wp T mf_slices_Clone_Frac.body (bF mf_slices_Clone_Frac.res (.own 4 (l.map ad))) ⟨ax [.dat (.sl (l.map ad))],emp⟩:=by
 refine ap ?_;simp only[mf_slices_Clone_Frac]
 have hap:kY 147005 0 4 0 64 l.length ((l.map ad).flatten.map .dat) (some (0,[]))=some (.ref 147005 1 4 0 l.length,some (147005,1,aA ad l)):=by
  have:=nw bZ jm 147005 0 64 [] l (by simp;omega) (by simp;omega)
  simpa [aA] using this
 have hlen:(aA ad l).length=l.length*4:=dr bZ l;refine qI ?_
 repeat' (intro h<;>simp only[h,go_sem,go_sem_proc,aa5,wG,hap,abj]<;>try refine qS ?_ ?_)
 rintro b hb
 cases b
 ·refine qI ?_
  repeat' (intro h<;>simp only[h,go_sem,go_sem_proc,aa5,wG,hap,abj,rE,hlen]<;>try refine qS ?_ ?_)
  rw[if_pos (by omega),abp (by omega)];unfold aA;rw[lY _ fun d=>rfl]
  have:=jt (sz:=4) (l.map ad) (by intro e he;obtain⟨f,-,rfl⟩:=List.mem_map.1 he;rfl);rw[abj] at this;simp [this]
 ·cases l with
  | nil =>
       refine qI ?_
       repeat' (intro h<;>simp only[h,go_sem,go_sem_proc,aa5,rE,abz]<;>try refine qS ?_ ?_)
  | cons x r=>simp at hb
def dp (rs:List cG):List MR:=rs.zipIdx.map fun p=>(p.2,0,p.1.1++[p.1.2])
theorem mJ (rs:List cG):(dp rs).length=rs.length:=by simp [dp]
theorem Ek {rs:List cG} {i:Nat} {r:cG} (h:rs[i]?=some r):(dp rs)[i]?=some (i,0,r.1++[r.2]):=by
 unfold dp;rw[abv,abA,h];simp
theorem s9 {rs:List cG} {i:Nat} {r:cG} (h:rs[i]?=some r):(dp rs).take (i+1)=(dp rs).take i++[(i,0,r.1++[r.2])]:=by
 rw[abn,Ek h]
 rfl
theorem Lw {rs:List cG} {i:Nat} {x:MR} (h:x∈(dp rs).take i):x.1<i∧x.2.1=0:=by
 obtain⟨j,hj⟩:=List.mem_iff_getElem?.1 h;rw[List.getElem?_take] at hj
 split at hj
 ·rename_i hji
  unfold dp at hj;rw[abv,abA] at hj
  cases hr:rs[j]? with
  | none=>rw[hr] at hj;cases hj
  | some r =>
   rw[hr] at hj;simp only[abw,Option.some.injEq] at hj;subst hj;exact⟨by simpa using hji,rfl⟩
 ·cases hj
theorem zj (N:Nat) (a b:List MR):ce N (a++b)=ce N a++ce N b:=by simp [ce]
theorem mj (N:Nat) (a:List MR):(ce N a).length=a.length:=by simp [ce]
structure BS (N:Nat) (rs:List cG) (i go:Nat) (mem:Mem):Prop where
 z:i=0→mem 129015=some (0,[.nil,.dat (.int .i64 N),.dat (.bool false)])
 p:0<i→mem 129015=some (0,[.ref 129035 go 1 0 i,.dat (.int .i64 N),.dat (.bool false)])∧mem 129035=some (go,ce N ((dp rs).take i))
 r:∀ x∈(dp rs).take i,mem (x.1+900000)=some (x.2.1,aA ad x.2.2)
 n:∀ j:Nat,i≤j→mem (j+900000)=none
 a:mem 168004=none
 b:mem 168006=none
theorem wt (l:List aJ):(l.map ad).flatten.map MV.dat=aA ad l:=rfl
theorem SR (G:Nat) (l:List aJ) (v1:Int) (v2:List Int) (v3:Int) (v4:List Int) (h:l.length≤1000000):kY 129029 G 4 l.length 64 1 [.dat (.int .i64 v1),.dat (.sl (v2.map aa)),.dat (.int .i64 v3),.dat (.sl (v4.map aa))] (some (G,aA ad l))=some (.ref 129029 (G+1) 4 0 (l.length+1),some (129029,G+1,aA ad (l++[((v1,v2),(v3,v4))]))) :=
 c8 bZ jm 129029 G 64 l ((v1,v2),(v3,v4)) rfl (by omega) (by omega)
theorem S5 (N G i g:Nat) (a:List MR) (hi:a.length=i) (h:i≤1000) (m:MV) (hm:m = .ref 129029 g 4 0 (N+1)):kY 129035 G 1 i 24 1 [m] (some (G,ce N a))=some (.ref 129035 (G+1) 1 0 (i+1),some (129035,G+1,ce N a++[m])):=by
 subst hm;unfold kY;dsimp only;rw[if_pos ⟨rfl,by rw[mj];omega,by omega,by unfold maxLen;omega,rfl⟩,abp (by rw[mj];omega)]
theorem MU {N i go go' G:Nat} {rs:List cG} {r:cG} {m m':Mem} (hb:BS N rs i go m) (hr:rs[i]?=some r) (h15:m' 129015=some (0,[.ref 129035 go' 1 0 (i+1),.dat (.int .i64 N),.dat (.bool false)])) (hf:∀ k:Nat,900000≤k∨k=168004∨k=168006→m' k=m k) :
  BS N rs (i+1) go' (az (az (az m' 129029 (aD m' 129029) []) (i+900000) (aD m' (i+900000)) (aA ad (r.1++[r.2]))) 129035 go' ((ce N ((dp rs).take i)++[MV.ref 129029 G 4 0 (N+1)]).set i (MV.ref (i+900000) (aD m' (i+900000)) 4 0 (N+1)))):=by
 have hlt:=(List.getElem?_eq_some_iff.1 hr).1
 have hg:aD m' (i+900000)=0:=by
  unfold aD;rw[hf _ (.inl (by omega)),hb.n i (abr _)]
 have htl:(ce N ((dp rs).take i)).length=i:=by rw[mj,abk,mJ];omega
 rw[hg]
 have hset:(ce N ((dp rs).take i)++[MV.ref 129029 G 4 0 (N+1)]).set i (.ref (i+900000) 0 4 0 (N+1))=ce N ((dp rs).take (i+1)):=by
  rw[abb _ _ (by omega),htl,aa9,abc,s9 hr,zj]
  rfl
 rw[hset];have at1:∀ (k:Nat),k≠129029→k≠129035→k≠i+900000→az (az (az m' 129029 (aD m' 129029) []) (i+900000) 0 (aA ad (r.1++[r.2]))) 129035 go' (ce N ((dp rs).take (i+1))) k=m' k:=fun k h1 h2 h3=>by simp [az,h1,h2,h3]
 refine⟨fun h=>by omega,fun _=>⟨by rw[at1 _ (by omega) (by omega) (by omega)];exact h15,by simp [az]⟩,fun x hx=>?_,fun j hj=>?_,?_,?_⟩
 ·rw[s9 hr,abm,abB] at hx
  rcases hx with hx | rfl
  ·obtain⟨hx1,hx2⟩:=Lw hx
   rw[at1 _ (by omega) (by omega) (by omega),hf _ (.inl (by omega))];exact hb.r x hx
  ·have h2:(i+900000:Nat)≠129035:=by omega
   simp [az]
 ·rw[at1 _ (by omega) (by omega) (by omega),hf _ (.inl (by omega))]
  exact hb.n j (by omega)
 ·rw[at1 _ (by omega) (by omega) (by omega),hf _ (.inr (.inl rfl))]
  exact hb.a
 ·rw[at1 _ (by omega) (by omega) (by omega),hf _ (.inr (.inr rfl))]
  exact hb.b
theorem vO {K:St→Prop} {tm:Nat→MV} {N i go:Nat} (go' G:Nat) {rs:List cG} {r:cG} {m m':Mem} (hb:BS N rs i go m) (hr:rs[i]?=some r) (h15:m' 129015=some (0,[.ref 129035 go' 1 0 (i+1),.dat (.int .i64 N),.dat (.bool false)]))
  (h35:m' 129035=some (go',ce N ((dp rs).take i)++[.ref 129029 G 4 0 (N+1)])) (h29:m' 129029=some (G,aA ad (r.1++[r.2]))) (hf:∀ k:Nat,900000≤k∨k=168004∨k=168006→m' k=m k) (h:∀ M,BS N rs (i+1) go' M→K ⟨tm,M⟩):dN K ⟨tm,m'⟩ .move:=by
 have hlt:=(List.getElem?_eq_some_iff.1 hr).1;have htl:(ce N ((dp rs).take i)).length=i:=by rw[mj,abk,mJ];omega
 exact AO 129035 i 129029 (i+900000) h35 (by rw[aa8 (by omega),htl,aa9];rfl) h29 (by omega) (show (i+900000:Nat)≠129029 by omega) (show (i+900000:Nat)≠129035 by omega) (h _ (MU hb hr h15 hf))
theorem cT {m:Mem} {k g:Nat} {cs:List MV} {j:Nat} (h:j≠k):az m k g cs j=m j:=if_neg h
theorem Mq (T:Tab) (cz:T eP=mkE pV) {K:bH→St→Prop} {kk:List Todo} (N:Nat) (rs:List cG) (stop:Bool) (hN:N≤40) (hlen:rs.length=N) (hrs:∀ r∈rs,r.1.length=N∧oQ r) (tm:Nat→MV) (m:Mem)
  (e1:tm 1 = .dat (.int .i64 N)) (e2:tm 2 = .dat (.bool stop)) (e8:tm 8 = .ptr 129015 0 0) (e16:tm 16 = .dat (.sl (rs.map fe))) (e17:tm 17 = .dat (.int .i64 N)) (e18:tm 18 = .dat (.int .i64 0)) (hb:BS N rs 0 0 m)
  (hK:∀ tm' m' go,tm' 1 = .dat (.int .i64 N)→tm' 2 = .dat (.bool stop)→tm' 8 = .ptr 129015 0 0→BS N rs N go m'→kont T K kk (.exit 0) ⟨tm',m'⟩) :
  wp T (mf_linear_eliminated.body.sub [1,1,0,1,0]) (kont T K kk) ⟨tm,m⟩:=by
 simp only[mf_linear_eliminated,MCode.sub];refine ae [1,2,8,16,17] [] (fun ((i,go):Nat × Nat) tm m=>i≤N∧tm 18 = .dat (.int .i64 i)∧BS N rs i go m) (fun (i,_)=>N-i) (0,0) (by exact⟨aa4 _,e18,hb⟩) ?_;intro vs ms hvs hms;simp only[go_sem,go_sem_proc,aa5,e1,e2,e8,e16,e17] at hvs hms;subst hvs hms;clear e1 e2 e8 e16 e17 e18 hb tm m;rintro⟨i,go⟩ tm m hk hm ⟨hiN,h18,hb⟩;simp only[go_sem,go_sem_proc,aa5,List.cons.injEq] at hk hm;obtain⟨h1,h2,h8,h16,h17⟩:=hk;rcases aa6 (i<N) with hlt | hge
 ·obtain⟨⟨A,⟨v1,v2⟩,⟨v3,v4⟩⟩,hr⟩:∃ r,rs[i]?=some r:=⟨_,aa7 (by omega)⟩
  obtain⟨hAl,⟨hAL,hAo⟩,hV1,hV2⟩:=hrs _ (aba hr);dsimp only at hAl hAL hAo hV1 hV2;have hil:decide ((i:Int)<(N:Int))=true:=decide_eq_true (by omega);have hw:IntKind.i64.wrap ((i:Int)+1)=((i+1:Nat):Int):=by rw[ak _ (by omega) (by omega)];omega
  have hap:∀ G,kY 129029 G 4 N 64 1 _ _=_:=fun G=>hAl ▸ SR G A v1 v2 v3 v4 hAL
  have hNL:N≤1000000:=by omega
  have hmx:(1≤maxLen)=True:=eq_true (by unfold maxLen;omega);have hta:=s9 hr;have htl:((dp rs).take i).length=i:=by rw[abk,mJ];omega
  rcases abC i with h0 | hpos
  ·have hm15:=hb.z h0
   refine qI ?_
   repeat' (intro h<;>simp only[h,go_sem,go_sem_proc,aa5,cz,h1,h2,h8,h16,h17,h18,hm15,hil,hr,hw,hNL,hAl,hap,hmx,wt,abj,abv,fe,ad,decide_true,decide_false,ne_eq,not_false_eq_true,and_self]<;>try refine qS ?_ ?_)
   refine vO (cQ (m 129035)) (cQ (m 129029)+1) hb hr (by simp [az,h0]) (by simp [az,h0,ce]) (by simp [az]) (fun k hk=>?_) fun M hB=>?_
   ·rw[cT (by omega),cT (by omega),cT (by omega),cT (by omega),cT (by omega),cT (by omega),cT (by omega)]
   ·refine qI ?_
    repeat' (intro h<;>simp only[h,go_sem,go_sem_proc,aa5,h1,h2,h8,h16,h17,h18,hw]<;>try refine qS ?_ ?_)
    exact⟨(i+1,cQ (m 129035)),by dsimp only;omega,by dsimp only;omega,rfl,hB⟩
  ·obtain⟨hm15,hm35⟩:=hb.p hpos
   have hapR:=S5 N go i (cQ (m 129029)+1) ((dp rs).take i) htl (by omega) _ rfl;refine qI ?_
   repeat' (intro h<;>simp only[h,go_sem,go_sem_proc,aa5,cz,h1,h2,h8,h16,h17,h18,hm15,hm35,hil,hr,hw,hNL,hAl,hap,hapR,wt,abj,abv,fe,ad,decide_true,decide_false,ne_eq,not_false_eq_true,and_self]<;>try refine qS ?_ ?_)
   refine vO (go+1) (cQ (m 129029)+1) hb hr (by simp [az]) (by simp [az]) (by simp [az]) (fun k hk=>?_) fun M hB=>?_
   ·rw[cT (by omega),cT (by omega),cT (by omega),cT (by omega),cT (by omega),cT (by omega),cT (by omega)]
   ·refine qI ?_
    repeat' (intro h<;>simp only[h,go_sem,go_sem_proc,aa5,h1,h2,h8,h16,h17,h18,hw]<;>try refine qS ?_ ?_)
    exact⟨(i+1,go+1),by dsimp only;omega,by dsimp only;omega,rfl,hB⟩
 ·have hil:decide ((i:Int)<(N:Int))=false:=decide_eq_false (by omega)
  obtain rfl:i=N:=by omega
  refine qI ?_
  repeat' (intro h<;>simp only[h,go_sem,go_sem_proc,aa5,h1,h2,h8,h16,h17,h18,hil]<;>try refine qS ?_ ?_)
  refine hK _ _ go ?_ ?_ ?_ hb<;>simp only[aL,abq,if_false,h1,h2,h8]
def gd (stop:Bool):Nat→Nat→List MR→List Nat→Bool→List MR × List Nat × Bool
 | 0,_,rows,free,bad=>(rows,free,bad)
 | _+1,_,rows,free,true=>(rows,free,true)
 | k+1,c,rows,free,false =>
  if (gU rows (c-free.length) c).1=true then
   (if stop=true then ((gU rows (c-free.length) c).2.1,free++[c],(gU rows (c-free.length) c).2.2) else gd stop k (c+1) (gU rows (c-free.length) c).2.1 (free++[c]) (gU rows (c-free.length) c).2.2)
  else gd stop k (c+1) (gU rows (c-free.length) c).2.1 free (gU rows (c-free.length) c).2.2
theorem ww (stop:Bool) (k c:Nat) (rows:List MR) (free:List Nat):gd stop k c rows free true=(rows,free,true):=by
 cases k<;>rfl
def fQ (n:Nat):List Data:=[.int .i64 n]
theorem g5 (n:Nat):(fQ n).length=1:=rfl
theorem zP (n:Nat):((fQ n).map MV.dat).all MV.one=true:=rfl
def Ol (N:Nat) (rows:List MR) (bad:Bool):Data:=.ptr [.sl (rows.map fun x=>[.sl (x.2.2.map ad)]),.int .i64 N,.bool bad]
def wX (N:Nat) (p:List MR × List Nat × Bool):Data:=.tup [Ol N p.1 p.2.2,.sl (p.2.1.map fQ)]
theorem iM (prow:List aJ) (r c:Nat):∀ (i:Nat) (l:List MR) (b:Bool),(bT prow r c i l b).1.map (fun x=>(x.1,x.2.1,x.2.2.length))=l.map fun x=>(x.1,x.2.1,x.2.2.length)
 | _,[],_=>rfl
 | i,x::xs,b=>by
  unfold bT
  split
  ·simp only[abt,iM prow r c (i+1) xs b]
  ·simp only[abt,iM prow r c (i+1) xs,oM]
theorem wW (fac:aJ):∀ (l p:List aJ) (b:Bool),(∀ f∈l,okF f)→∀ f∈(cU fac l p b).1,okF f
 | [],p,b,h=>by rw[vi];exact h
 | f::fs,[],b,h=>by cases b<;>(simp only[cU];exact h)
 | f::fs,p::ps,true,h=>by simp only[cU];exact h
 | f::fs,p::ps,false,h=>by
  simp only[cU];intro g hg;rcases List.mem_cons.1 hg with rfl | hg
  ·exact EM _ _
  ·exact wW fac fs ps _ (fun x hx=>h x (abD _ hx)) g hg
theorem nE (prow:List aJ) (r c:Nat):∀ (i:Nat) (l:List MR) (b:Bool),(∀ x∈l,∀ f∈x.2.2,okF f)→∀ x∈(bT prow r c i l b).1,∀ f∈x.2.2,okF f
 | _,[],_,h=>h
 | i,x::xs,b,h=>by
  unfold bT
  split
  ·intro y hy
   rcases List.mem_cons.1 hy with rfl | hy
   ·exact h _ abE
   ·exact nE prow r c (i+1) xs b (fun z hz=>h z (abD _ hz)) y hy
  ·intro y hy
   rcases List.mem_cons.1 hy with rfl | hy
   ·exact wW _ _ _ _ (h _ abE)
   ·exact nE prow r c (i+1) xs _ (fun z hz=>h z (abD _ hz)) y hy
theorem wH (rows:List MR) (r c:Nat) (hr:r≤rows.length):r≤cw rows r c∧cw rows r c≤rows.length:=by
 unfold cw;have:=List.findIdx_le_length (p:=fun x => !ic (cK x c)) (xs:=rows.drop r);rw[abl] at this;omega
theorem MatOK.piv {N:Nat} {rows:List MR} (h:MatOK N rows) {r c:Nat} (hr:r<N):MatOK N (gU rows r c).2.1:=by
 unfold gU
 split
 ·exact h
 ·rename_i hne
  have hfl:=wH rows r c (by rw[h.len];omega);have hl:=h.len;obtain⟨x,hx⟩:∃ x,rows[cw rows r c]?=some x:=⟨_,aa7 (by omega)⟩;obtain⟨xr,hxr⟩:∃ x,rows[r]?=some x:=⟨_,aa7 (by omega)⟩
  have hsw:MatOK N (swapped rows r (cw rows r c)):=by
   unfold swapped;rw[kU hx,kU hxr];exact h.swap hxr hx
  have hswr:(swapped rows r (cw rows r c))[r]?=some x:=by
   unfold swapped;rw[kU hx,kU hxr];exact uX hx hxr
  generalize swapped rows r (cw rows r c)=sw at *;obtain⟨hxl,hxo⟩:=hsw.row x (aba hswr)
  have hdv:MatOK N (divided sw r c):=by
   unfold divided;rw[kU hswr];refine hsw.set hswr (by simp [cA,hxl]) fun f hf=>?_
   obtain⟨g,-,rfl⟩:=List.mem_map.1 hf;exact EZ _ _
  generalize divided sw r c=dv at *;have hsh:=iM (cA (cK (fp sw r) c) (fp sw r).2.2).1 r c 0 dv (cA (cK (fp sw r) c) (fp sw r).2.2).2;have hok:=nE (cA (cK (fp sw r) c) (fp sw r).2.2).1 r c 0 dv (cA (cK (fp sw r) c) (fp sw r).2.2).2 fun x hx=>(hdv.row x hx).2
  dsimp only;generalize (bT (cA (cK (fp sw r) c) (fp sw r).2.2).1 r c 0 dv (cA (cK (fp sw r) c) (fp sw r).2.2).2).1=el at *;refine⟨?_,?_,fun y hy=>⟨?_,hok y hy⟩⟩
  ·have:=congrArg abu hsh
   rw[abj,abj] at this;rw[this,hdv.len]
  ·have h1:el.map (·.1)=dv.map (·.1):=by
    have:=congrArg (abo fun p:Nat × Nat × Nat=>p.1) hsh
    simpa [abF,Function.comp_def] using this
   rw[h1];exact hdv.nd
  ·have h1:el.map (fun x=>x.2.2.length)=dv.map fun x=>x.2.2.length:=by
    have:=congrArg (abo fun p:Nat × Nat × Nat=>p.2.2) hsh
    simpa [abF,Function.comp_def] using this
   have h2:y.2.2.length∈dv.map fun x=>x.2.2.length:=by rw[←h1];exact List.mem_map.2 ⟨y,hy,rfl⟩
   obtain⟨z,hz,e⟩:=List.mem_map.1 h2;rw[←e];exact (hdv.row z hz).1
theorem Kx {n k g N:Nat} {mem:Mem} {l:List aJ} (hl:l.length=N+1) (hm:mem k=some (g,aA ad l)):toD (n+1) mem (.ref k g 4 0 (N+1))=some (.sl (l.map ad)):=by
 rw[←hl];exact eM bZ hm
theorem IH {n N:Nat} {mem:Mem} {rows:List MR} (h:∀ x∈rows,mem (x.1+900000)=some (x.2.1,aA ad x.2.2)) (hl:∀ x∈rows,x.2.2.length=N+1):(ce N rows).mapM (toD (n+1) mem)=some (rows.map fun x => .sl (x.2.2.map ad)):=by
 unfold ce
 induction rows with
 | nil=>rfl
 | cons x xs ih =>
  have h1:=Kx (n:=n) (hl x abE) (h x abE);have h2:=ih (fun y hy=>h y (abD _ hy)) fun y hy=>hl y (abD _ hy)
  simp only[abt,abG,h1,h2]
  rfl
theorem xT {n N go:Nat} {mem:Mem} {rows:List MR} {bad:Bool} (hok:MatOK N rows) (h:MatAt go N rows bad mem):toD (n+3) mem (.ptr 129015 0 0)=some (Ol N rows bad):=by
 have h1:=IH (n:=n) h.r fun x hx=>(hok.row x hx).1
 have h2:toD (n+2) mem (.ref 129035 go 1 0 N)=some (.sl (rows.map fun x=>[.sl (x.2.2.map ad)])):=by
  unfold toD;rw[h.o];simp only[if_true];unfold cut;rw[if_pos (by rw[mj,hok.len];omega),abH,abp (by rw[mj,hok.len];omega)];dsimp only;rw[h1];have:=jt (sz:=1) (rows.map fun x=>[Data.sl (x.2.2.map ad)]) (by intro e he;obtain⟨x,-,rfl⟩:=List.mem_map.1 he;rfl);rw[abj,hok.len] at this;simp only[abw,Option.some.injEq,Data.sl.injEq]
  have hfl:∀ l:List MR,(l.map fun x=>Data.sl (x.2.2.map ad))=(l.map fun x=>[Data.sl (x.2.2.map ad)]).flatten:=by
   intro l
   induction l with
   | nil=>rfl
   | cons x xs ih=>simp only[abt,abI,ih];rfl
  rw[hfl,this]
 unfold toD;rw[h.m];simp only[if_true,abH,abG,List.mapM_nil,h2,true_and,aa4];simp only[sM]
 rfl
theorem BS.mat {N go:Nat} {rs:List cG} {m:Mem} (hl:rs.length=N) (hN:0<N) (h:BS N rs N go m):MatAt go N (dp rs) false m:=by
 have ht:(dp rs).take N=dp rs:=abp (by rw[mJ];omega);have hp:=h.p hN;rw[ht] at hp;exact⟨hp.1,hp.2,by have:=h.r;rw[ht] at this;exact this⟩
theorem MatAt.other {go N:Nat} {rows:List MR} {bad:Bool} {mem:Mem} {k g:Nat} {cs:List MV} (h:MatAt go N rows bad mem) (h1:k≠129015) (h2:k≠129035) (h3:k<900000):MatAt go N rows bad (az mem k g cs) :=
 ⟨(cT (Ne.symm h1)).trans h.m,(cT (Ne.symm h2)).trans h.o,fun x hx=>(cT (show (x.1+900000:Nat)≠k by omega)).trans (h.r x hx)⟩
theorem IN {N:Nat} {rs:List cG} (hl:rs.length=N) (h:∀ r∈rs,r.1.length=N∧oQ r):MatOK N (dp rs):=by
 refine⟨by rw[mJ,hl],?_,fun x hx=>?_⟩
 ·have:(dp rs).map (·.1)=abJ rs.length:=by
   unfold dp;rw[abF];apply List.ext_getElem?;intro i;rw[abv,abA];rcases abK i rs.length with h | h
   ·rw[aa7 h];simp [h]
   ·rw[List.getElem?_eq_none h];simp [h]
  rw[this];exact List.nodup_range
 ·unfold dp at hx
  obtain⟨⟨r,i⟩,hp,rfl⟩:=List.mem_map.1 hx;have hr:=List.fst_mem_of_mem_zipIdx hp;obtain⟨h1,h2,h3⟩:=h r hr;refine⟨by simp [h1],fun f hf=>?_⟩
  rw[abm,abB] at hf;rcases hf with hf | rfl
  ·exact h2.2 f hf
  ·exact h3
noncomputable def xL:List Data→Option PRes:=FF (α:=(List cG) × Int × Bool) (fun (rs,n,stop)=>([.sl (rs.map fe),.int .i64 n,.bool stop]:List Data)) (fun (rs,n,stop)=>aH ((rs.length:Int)=n∧rs.length≤40∧∀ r∈rs,r.1.length=rs.length∧oQ r) (.same (wX rs.length (gd stop rs.length 0 (dp rs) [] false))))
theorem Dk:∀ a b:(List cG) × Int × Bool,(fun (rs,n,stop)=>([.sl (rs.map fe),.int .i64 n,.bool stop]:List Data)) a=(fun (rs,n,stop)=>([.sl (rs.map fe),.int .i64 n,.bool stop]:List Data)) b→a=b:=by
  rintro⟨rs1,n1,stop1⟩ ⟨rs2,n2,stop2⟩ h;simp only[List.cons.injEq,Data.sl.injEq,Data.int.injEq,Data.bool.injEq] at h;exact aby (af nR _ _ h.1) (aby h.2.1.2 h.2.2.1)
@[go_sem] theorem GO (rs:List cG) (n:Int) (stop:Bool) (hc:(rs.length:Int)=n∧rs.length≤40∧∀ r∈rs,r.1.length=rs.length∧oQ r):xL [.sl (rs.map fe),.int .i64 n,.bool stop]=some (.same (wX rs.length (gd stop rs.length 0 (dp rs) [] false))):=(aX Dk (rs,n,stop)).trans (an hc _)
theorem Oq (T:Tab) (cz:T eP=mkE pV) (dB:T fF=mkQ qD) (rs:List cG) (n:Int) (stop:Bool) (hc:(rs.length:Int)=n∧rs.length≤40∧∀ r∈rs,r.1.length=rs.length∧oQ r) :
  wp T mf_linear_eliminated.body (bF mf_linear_eliminated.res (.same (wX rs.length (gd stop rs.length 0 (dp rs) [] false)))) ⟨ax [.dat (.sl (rs.map fe)),.dat (.int .i64 n),.dat (.bool stop)],emp⟩:=by
 refine ap ?_;simp only[mf_linear_eliminated];obtain⟨hn,hN,hrs⟩:=hc;subst hn;simp only[go_sem,go_sem_proc,aa5,cz,dB,abj];generalize hNe:rs.length=N at *;refine Mq T cz N rs stop hN hNe hrs _ _ rfl rfl rfl rfl rfl rfl ⟨fun _=>by simp [az],fun h=>by omega,fun x hx=>by simp at hx,fun j _=>cT (show (j+900000:Nat)≠129015 by omega),cT (by omega),cT (by omega)⟩ ?_
 intro tm m go h1 h2 h8 hb;rcases abC N with h0 | hpos
 ·have hr0:rs=[]:=List.eq_nil_of_length_eq_zero (by omega)
  have hz:=hb.z h0;subst h0;subst hr0;simp only[go_sem,go_sem_proc,aa5,cz,dB,h1,h2,h8];refine ae [1,2,8] [129015] (fun (_:Unit) tm' m'=>tm' 11 = .ref 129061 (cQ (m 129061)) 1 0 0∧m' 129061=some (cQ (m 129061),[])∧tm' 12 = .dat (.int .i64 0)) (fun _=>0) () (by refine⟨rfl,?_,rfl⟩;simp [az]) ?_;intro vs ms hvs hms;simp only[go_sem,go_sem_proc,aa5,cz,dB,h1,h2,h8,hz] at hvs hms;subst hvs hms;rintro _ tm' m' hk hm ⟨k11,k61,k12⟩;simp only[go_sem,go_sem_proc,aa5,cz,dB,List.cons.injEq] at hk hm;obtain⟨k1,k2,k8⟩:=hk;simp only[go_sem,go_sem_proc,aa5,cz,dB,k1,k2,k8,hm,k11,k61,k12,show decide ((0:Int)<((0:Nat):Int))=false from rfl,toD,lF,abH]
  repeat' (first|refine qS ?_ ?_|fail)<;>intro h<;>simp only[h,go_sem,go_sem_proc,aa5,cz,dB,k1,k2,k8,hm,k11,k61,k12,show decide ((0:Int)<((0:Nat):Int))=false from rfl,toD,lF,abH]
  rfl
 ·have hmat:=hb.mat hNe hpos
  have hok:=IN hNe hrs;have hp4:=hb.a;have hp6:=hb.b;clear hb;simp only[go_sem,go_sem_proc,aa5,cz,dB,h1,h2,h8]
  refine ae [1,2,8] [] (fun ((c,rows,free,bad,g):Nat × List MR × List Nat × Bool × Nat) tm m=>c≤N∧free.length≤c∧gd stop N 0 (dp rs) [] false=gd stop (N-c) c rows free bad∧MatOK N rows∧MatAt go N rows bad m∧m 168004=none∧m 168006=none∧tm 11 = .ref 129061 g 1 0 free.length∧m 129061=some (g,aA fQ free)∧tm 12 = .dat (.int .i64 c)) (fun (c,_,_,_,_)=>N-c) (0,dp rs,[],false,cQ (m 129061)) (by
   refine⟨aa4 _,abr _,rfl,hok,⟨?_,?_,fun x hx=>?_⟩,?_,?_,rfl,?_,rfl⟩
   ·rw[cT (by omega)];exact hmat.m
   ·rw[cT (by omega)];exact hmat.o
   ·rw[cT (show (x.1+900000:Nat)≠129061 by omega)];exact hmat.r x hx
   ·rw[cT (by omega)];exact hp4
   ·rw[cT (by omega)];exact hp6
   ·simp [az,aA]) ?_
  intro vs ms hvs hms;simp only[go_sem,go_sem_proc,aa5,cz,dB,h1,h2,h8] at hvs hms;subst hvs hms;clear h1 h2 h8 hmat hp4 hp6;rintro⟨c,rows,free,bad,g⟩ tm m hk hm ⟨hcN,hfc,hel,hok,hmat,hp4,hp6,k11,k61,k12⟩;simp only[go_sem,go_sem_proc,aa5,cz,dB,List.cons.injEq] at hk hm;obtain⟨h1,h2,h8⟩:=hk;have hm15:=hmat.m
  have hexit:gd stop N 0 (dp rs) [] false=(rows,free,bad)→((toD 5 m (.ptr 129015 0 0)).bind fun d=>(toD 5 m (.ref 129061 g 1 0 free.length)).bind fun e=>some (Data.tup [d,e]))=some (wX N (gd stop N 0 (dp rs) [] false)):=by
   intro h;rw[h,xT (n:=2) hok hmat,eM g5 k61]
   rfl
  have hD1:=xT (n:=2) hok hmat;have hD2:=eM (n:=4) g5 k61;rcases aa6 (c<N) with hlt | hge
  ·have hcl:decide ((c:Int)<(N:Int))=true:=decide_eq_true (by omega)
   cases bad
   ·have hw1:IntKind.i64.wrap ((c:Int)-(free.length:Int))=((c-free.length:Nat):Int):=by rw[ak _ (by omega) (by omega)];omega
    have hw2:IntKind.i64.wrap ((c:Int)+1)=((c+1:Nat):Int):=by rw[ak _ (by omega) (by omega)];omega
    have hQ:=CZ ⟨go,N,rows,c-free.length,c⟩ m ⟨hok,hmat,hp4,hp6,hN,Nat.sub_le _ _,hlt⟩;dsimp only at hQ;have hNc:N-c=(N-(c+1))+1:=by omega
    rw[hNc] at hel;simp only[gd] at hel;have hpo:=hok.piv (r:=c-free.length) (c:=c) (by omega);simp only[go_sem,go_sem_proc,aa5,cz,dB,dB,h1,h2,h8,k11,k12,hm15,hcl,hw1,hQ];intro rv m' hR;obtain⟨hrv,hps⟩:=hR;dsimp only at hrv hps;subst hrv;have q4:m' 168004=none:=(hps.2 _ lz).trans hp4;have q6:m' 168006=none:=(hps.2 _ lL).trans hp6;have q61:m' 129061=some (g,aA fQ free):=(hps.2 129061 (by unfold foreign;omega)).trans k61;have hap:kY 129061 g 1 free.length 8 1 [.dat (.int .i64 c)] (some (g,aA fQ free))=_:=c8 g5 zP 129061 g 8 free c rfl (by omega) (by omega);generalize hPV:gU rows (c-free.length) c=pv at *;obtain⟨pb,prows,pbad⟩:=pv;dsimp only at *
    cases pb
    ·simp only[aa5,if_false] at hel
     simp only[go_sem,go_sem_proc,aa5,cz,dB,h1,h2,h8,k11,k12,hw2]
     repeat' (first|refine qS ?_ ?_|fail)<;>intro h<;>simp only[h,go_sem,go_sem_proc,aa5,cz,dB,h1,h2,h8,k11,k12,hw2]
     exact⟨(c+1,prows,free,pbad,g),by dsimp only;omega,by dsimp only;omega,by dsimp only;omega,hel,hpo,hps.1,q4,q6,rfl,q61,rfl⟩
    ·simp only[if_true] at hel
     have hma:=hps.1.other (k:=129061) (g:=g+1) (cs:=aA fQ (free++[c])) (by omega) (by omega) (by omega)
     cases stop
     ·simp only[aa5,if_false] at hel
      simp only[go_sem,go_sem_proc,aa5,cz,dB,h1,h2,h8,k11,k12,hw2,q61,hap]
      repeat' (first|refine qS ?_ ?_|fail)<;>intro h<;>simp only[h,go_sem,go_sem_proc,aa5,cz,dB,h1,h2,h8,k11,k12,hw2,q61,hap]
      exact⟨(c+1,prows,free++[c],pbad,g+1),by dsimp only;omega,by dsimp only;omega,by simp;omega,hel,hpo,hma,q4,q6,by simp,rfl,rfl⟩
     ·simp only[if_true] at hel
      simp only[go_sem,go_sem_proc,aa5,cz,dB,h1,h2,h8,k11,k12,hw2,q61,hap]
      repeat' (first|refine qS ?_ ?_|fail)<;>intro h<;>simp only[h,go_sem,go_sem_proc,aa5,cz,dB,h1,h2,h8,k11,k12,hw2,q61,hap]
      have hf1:free.length+1=(free++[c]).length:=by simp
      rw[xT (n:=2) hpo hma,hf1,eM (n:=4) g5 (g:=g+1) (l:=free++[c]) (by simp [az]),hel]
      rfl
   ·rw[ww] at hel
    simp only[go_sem,go_sem_proc,aa5,cz,dB,h1,h2,h8,k11,k12,hm15,hcl,hD1,hD2]
    repeat' (first|refine qS ?_ ?_|fail)<;>intro h<;>simp only[h,go_sem,go_sem_proc,aa5,cz,dB,h1,h2,h8,k11,k12,hm15,hcl,hD1,hD2]
    rw[hel]
    rfl
  ·have hcl:decide ((c:Int)<(N:Int))=false:=decide_eq_false (by omega)
   have hNc:N-c=0:=by omega
   rw[hNc] at hel;simp only[gd] at hel;simp only[go_sem,go_sem_proc,aa5,cz,dB,h1,h2,h8,k11,k12,hm15,hcl,hD1,hD2]
   repeat' (first|refine qS ?_ ?_|fail)<;>intro h<;>simp only[h,go_sem,go_sem_proc,aa5,cz,dB,h1,h2,h8,k11,k12,hm15,hcl,hD1,hD2]
   rw[hel]
   rfl
theorem re {rs:List cG} {n:Int} (ho:im rs) (h:fB rs n=true):(rs.length:Int)=n∧rs.length≤40∧∀ r∈rs,r.1.length=rs.length∧oQ r:=by
 unfold fB at h;simp only[Bool.and_eq_true,Bool.not_eq_true',decide_eq_false_iff_not,beq_iff_eq] at h;obtain⟨h1,h2,h3,h4⟩:=h;refine⟨h3,by omega,fun r hr=>⟨?_,ho.2 r hr⟩⟩
 rw[List.any_eq_false] at h4;have:=h4 r hr;unfold fG at this;simp at this;omega
theorem uj {stop:Bool} {N:Nat}:∀ (k c:Nat) (rows:List MR) (free:List Nat) (bad:Bool),c+k=N→MatOK N rows→MatOK N (gd stop k c rows free bad).1
 | 0,_,rows,_,_,_,h=>h
 | k+1,c,rows,free,true,hc,h=>h
 | k+1,c,rows,free,false,hc,h=>by
  have hp:=h.piv (r:=c-free.length) (c:=c) (by omega);unfold gd
  split
  ·split
   ·exact hp
   ·exact uj k (c+1) _ _ _ (by omega) hp
  ·exact uj k (c+1) _ _ _ (by omega) hp
def jX (stop:Bool) (rs:List cG):List MR × List Nat × Bool:=gd stop rs.length 0 (dp rs) [] false
theorem o6 (stop:Bool):∀ (k c:Nat) (rows:List MR) (free:List Nat) (bad:Bool),(gd stop k c rows free bad).2.1.length≤free.length+k
 | 0,_,_,_,_=>by simp [gd]
 | k+1,c,rows,free,true=>by simp [gd]
 | k+1,c,rows,free,false=>by
  unfold gd
  split
  ·split
   ·simp
   ·have:=o6 stop k (c+1) (gU rows (c-free.length) c).2.1 (free++[c]) (gU rows (c-free.length) c).2.2
    simp at this;omega
  ·have:=o6 stop k (c+1) (gU rows (c-free.length) c).2.1 free (gU rows (c-free.length) c).2.2
   omega
theorem Cz (stop:Bool) (rs:List cG):(jX stop rs).2.1.length≤rs.length:=by
 have:=o6 stop rs.length 0 (dp rs) [] false;unfold jX
 simpa using this
theorem J6 {rs:List cG} {stop:Bool} (h:∀ r∈rs,r.1.length=rs.length∧oQ r):MatOK rs.length (jX stop rs).1:=uj _ _ _ _ _ (by omega) (IN rfl h)
def jR (N:Nat) (x:MR):aJ:=x.2.2.getD N cb
def gV (rs:List cG) (n:Int):List aJ × Int :=
 if fB rs n=true then (if (jX true rs).2.2=true then ([],6) else if (jX true rs).2.1.length>0 then ([],17) else ((jX true rs).1.map (jR rs.length),0)) else ([],1)
theorem Jz {N:Nat} {x:MR} {f:aJ} (h:x.2.2[N]?=some f):jR N x=f:=by
 unfold jR;rw[List.getD_eq_getElem?_getD,h]
 rfl
noncomputable def px:List Data→Option PRes:=FF (α:=(List cG) × Int) (fun (rs,n)=>([.sl (rs.map fe),.int .i64 n]:List Data)) (fun (rs,n)=>aH (im rs) (.same (.tup [.sl ((gV rs n).1.map ad),.int .i64 (gV rs n).2])))
theorem tk:∀ a b:(List cG) × Int,(fun (rs,n)=>([.sl (rs.map fe),.int .i64 n]:List Data)) a=(fun (rs,n)=>([.sl (rs.map fe),.int .i64 n]:List Data)) b→a=b:=by
  rintro⟨rs1,n1⟩ ⟨rs2,n2⟩ h;simp only[List.cons.injEq,Data.sl.injEq,Data.int.injEq] at h;exact aby (af nR _ _ h.1) h.2.1.2
@[go_sem] theorem vD (rs:List cG) (n:Int) (hc:im rs):px [.sl (rs.map fe),.int .i64 n]=some (.same (.tup [.sl ((gV rs n).1.map ad),.int .i64 (gV rs n).2])):=(aX tk (rs,n)).trans (an hc _)
theorem DH (T:Tab) (gE:T jP=mkE pw) (nU:T gB=mkE xL) (rs:List cG) (n:Int) (hc:im rs) :
  wp T mf_linear_Solve.body (bF mf_linear_Solve.res (.same (.tup [.sl ((gV rs n).1.map ad),.int .i64 (gV rs n).2]))) ⟨ax [.dat (.sl (rs.map fe)),.dat (.int .i64 n)],emp⟩:=by
 refine ap ?_;simp only[mf_linear_Solve];unfold gV;rcases hr:fB rs n
 ·refine qI ?_
  repeat' (intro h<;>simp only[h,go_sem,go_sem_proc,aa5,gE,nU,hc,hr,abz]<;>try refine qS ?_ ?_)
 ·have hok:=J6 (stop:=true) (re hc hr).2.2
  have hF:xL [.sl (rs.map fe),.int .i64 n,.bool true]=some (.same (wX rs.length (jX true rs))):=GO rs n true (re hc hr);have hfl:=Cz true rs;obtain⟨hn,hN,-⟩:=re hc hr;rcases hP:jX true rs with ⟨rows,free,bad⟩;rw[hP] at hfl hok hF;dsimp only at hfl hok;simp only[wX,Ol] at hF
  cases bad
  ·cases free with
   | nil =>
    simp only[go_sem,go_sem_proc,aa5,gE,nU,hc,hr,hF,abj,show decide (((0:Nat):Int)>0)=false from rfl,abz];rw[if_neg (by simp)];refine ae [1,33,34] [] (fun ((i,g):Nat × Nat) tm m=>i≤rs.length∧tm 35 = .dat (.int .i64 i)∧tm 8 = .ref 109045 g 4 0 i∧m 109045=some (g,aA ad ((rows.take i).map (jR rs.length)))) (fun (i,_)=>rs.length-i) (0,0) (by refine⟨aa4 _,rfl,rfl,?_⟩;simp [az,aA,aD,emp]) ?_
    intro vs ms hvs hms;simp only[go_sem,go_sem_proc,aa5,gE,nU] at hvs hms;subst hvs hms;rintro⟨i,g⟩ tm m hk hm ⟨hiN,h35,h8,hm45⟩;simp only[go_sem,go_sem_proc,aa5,gE,nU,List.cons.injEq] at hk hm;obtain⟨h1,h33,h34⟩:=hk;have hrl:=hok.len;rcases aa6 (i<rs.length) with hlt | hge
    ·obtain⟨x,hx⟩:∃ x,rows[i]?=some x:=⟨_,aa7 (by omega)⟩
     obtain⟨hxl,hxo⟩:=hok.row x (aba hx);obtain⟨⟨⟨a1,a2⟩,⟨a3,a4⟩⟩,hfk⟩:∃ f,x.2.2[rs.length]?=some f:=⟨_,aa7 (by omega)⟩;have hla:=Jz hfk;have htl:((rows.take i).map (jR rs.length)).length=i:=by rw[abj,abk];omega
     have hap:=c8 bZ jm 109045 g 64 ((rows.take i).map (jR rs.length)) ((a1,a2),(a3,a4)) (cs:=[.dat (.int .i64 a1),.dat (.sl (a2.map aa)),.dat (.int .i64 a3),.dat (.sl (a4.map aa))]) rfl (by omega) (by omega);rw[htl] at hap
     have hnt:(rows.take (i+1)).map (jR rs.length)=(rows.take i).map (jR rs.length)++[((a1,a2),(a3,a4))]:=by
      rw[abn,hx,abL];simp [hla]
     have hil:decide ((i:Int)<(rs.length:Int))=true:=decide_eq_true (by omega);have hil2:decide ((i:Int)<(rows.length:Int))=true:=decide_eq_true (by omega);have hw:IntKind.i64.wrap ((i:Int)+1)=((i+1:Nat):Int):=by rw[ak _ (by omega) (by omega)];omega
     have hn0:decide (0≤n)=true:=decide_eq_true (by omega);have hix:n=((rs.length:Nat):Int):=hn.symm;refine qI ?_
     repeat' (intro h<;>simp only[h,go_sem,go_sem_proc,aa5,gE,nU,h1,h33,h34,h35,h8,hm45,hx,hfk,hap,hil,hil2,hw,hix,abj,abv,ad]<;>try refine qS ?_ ?_)
     exact⟨(i+1,g+1),by dsimp only;omega,by dsimp only;omega,rfl,rfl,by dsimp only;rw[hnt]⟩
    ·have hin:i=rs.length:=by omega
     have hil2:decide ((i:Int)<(rows.length:Int))=false:=decide_eq_false (by omega);have hall:rows.take i=rows:=abp (by omega);rw[hall] at hm45
     have hD:∀ n,toD (n+1) m (.ref 109045 g 4 0 i)=some (.sl ((rows.map (jR rs.length)).map ad)):=fun n=>by
      have:=eM (n:=n) bZ hm45;rw[show (rows.map (jR rs.length)).length=i by rw[abj];omega] at this
      exact this
     have hD5:=hD 4;refine qI ?_
     repeat' (intro h<;>simp only[h,go_sem,go_sem_proc,aa5,gE,nU,h1,h33,h34,h35,h8,hil2,hD5]<;>try refine qS ?_ ?_)
   | cons f fs =>
    have hgt:decide ((((f::fs).length:Nat):Int)>0)=true:=decide_eq_true (by simp only[abM];omega);simp only[abM] at hgt;refine qI ?_
    repeat' (intro h<;>simp only[h,go_sem,go_sem_proc,aa5,gE,nU,hc,hr,hF,abj,hgt,abz]<;>try refine qS ?_ ?_)
    rw[if_pos (by omega)]
    rfl
  ·refine qI ?_
   repeat' (intro h<;>simp only[h,go_sem,go_sem_proc,aa5,gE,nU,hc,hr,hF,abj,abz]<;>try refine qS ?_ ?_)
def mf_math_bits_Mul:MFunc :=
 { n:=30,np:=2,res:=[.t 4,.t 5],body :=
 (.seq (.ops [
 ⟨some 4,none,.mv (.c (.dat (.int .u64 0)))⟩,⟨some 5,none,.mv (.c (.dat (.int .u64 0)))⟩])
 (.seq (.cond (.c (.dat (.bool false)))
 (.seq (.ops [
 Zv 11 0,⟨some 12,none,.conv .u32 (.t 11)⟩,Zv 13 1,⟨some 14,none,.conv .u32 (.t 13)⟩,⟨some 15,none,.call po [(.t 12),(.t 14)]⟩,Zv 10 15,Zx 16 0 10,Zx 17 1 10,Zv 6 16,Zv 7 17])
 (.seq (.ops [
 Zv 18 6,⟨some 19,none,.conv .u64 (.t 18)⟩,Zv 20 7,⟨some 21,none,.conv .u64 (.t 20)⟩,Zv 4 19,Zv 5 21])
 .ret))
 .skip)
 (.seq (.ops [
 Zv 23 0,Zv 24 1,⟨some 25,none,.call it [(.t 23),(.t 24)]⟩,Zv 22 25,Zx 26 0 22,Zx 27 1 22,Zv 8 26,Zv 9 27])
 (.seq (.ops [
 Zv 28 8,Zv 29 9,Zv 4 28,Zv 5 29])
 .ret)))) }
def mf_math_bits_Mul64:MFunc :=
 { n:=51,np:=2,res:=[.t 4,.t 5],body :=
 (.seq (.ops [
 ⟨some 4,none,.mv (.c (.dat (.int .u64 0)))⟩,⟨some 5,none,.mv (.c (.dat (.int .u64 0)))⟩])
 (.seq (.ops [
 Zv 14 0,⟨some 15,none,.bin .and (.t 14) (.c (.dat (.int .u64 4294967295)))⟩,Zv 6 15])
 (.seq (.ops [
 Zv 16 0,⟨some 17,none,.bin .shr (.t 16) (.c (.dat (.int .u64 32)))⟩,Zv 7 17])
 (.seq (.ops [
 Zv 18 1,⟨some 19,none,.bin .and (.t 18) (.c (.dat (.int .u64 4294967295)))⟩,Zv 8 19])
 (.seq (.ops [
 Zv 20 1,⟨some 21,none,.bin .shr (.t 20) (.c (.dat (.int .u64 32)))⟩,Zv 9 21])
 (.seq (.ops [
 Zv 22 6,Zv 23 8,Zo 24 .mul 22 23,Zv 10 24])
 (.seq (.ops [
 Zv 25 7,Zv 26 8,Zo 27 .mul 25 26,Zv 28 10,⟨some 29,none,.bin .shr (.t 28) (.c (.dat (.int .u64 32)))⟩,Zo 30 .add 27 29,Zv 11 30])
 (.seq (.ops [
 Zv 31 11,⟨some 32,none,.bin .and (.t 31) (.c (.dat (.int .u64 4294967295)))⟩,Zv 12 32])
 (.seq (.ops [
 Zv 33 11,⟨some 34,none,.bin .shr (.t 33) (.c (.dat (.int .u64 32)))⟩,Zv 13 34])
 (.seq (.ops [
 Zv 35 12,Zv 36 6,Zv 37 9,Zo 38 .mul 36 37,Zo 39 .add 35 38,Zv 12 39])
 (.seq (.ops [
 Zv 40 7,Zv 41 9,Zo 42 .mul 40 41,Zv 43 13,Zo 44 .add 42 43,Zv 45 12,⟨some 46,none,.bin .shr (.t 45) (.c (.dat (.int .u64 32)))⟩,Zo 47 .add 44 46,Zv 4 47])
 (.seq (.ops [
 Zv 48 0,Zv 49 1,Zo 50 .mul 48 49,Zv 5 50])
 .ret)))))))))))) }
theorem rA:∀ y:Nat,y<41→bits .and .u64 (y:Int) 4294967295=y:=by decide
theorem Fz (y:Nat) (h:y<41):(y:Int).fdiv 4294967296=0:=by
 rw[Int.fdiv_eq_ediv_of_nonneg _ (by omega)];omega
noncomputable def xA:List Data→Option PRes:=FF (α:=Nat) (fun (y:Nat)=>([.int .u64 1,.int .u64 y]:List Data)) (fun (y:Nat)=>aH (y<41) (.same (.tup [.int .u64 0,.int .u64 y])))
theorem Bt:∀ a b:Nat,(fun (y:Nat)=>([.int .u64 1,.int .u64 y]:List Data)) a=(fun (y:Nat)=>([.int .u64 1,.int .u64 y]:List Data)) b→a=b:=by
  intro y1 y2 h;simp only[List.cons.injEq,Data.int.injEq] at h;omega
@[go_sem] theorem NK (y:Nat) (hc:y<41):xA [.int .u64 1,.int .u64 y]=some (.same (.tup [.int .u64 0,.int .u64 y])):=(aX Bt y).trans (an hc _)
theorem Lu (T:Tab)  (y:Nat) (hc:y<41) :
  wp T mf_math_bits_Mul64.body (bF mf_math_bits_Mul64.res (.same (.tup [.int .u64 0,.int .u64 y]))) ⟨ax [.dat (.int .u64 1),.dat (.int .u64 y)],emp⟩:=by
 refine ap ?_;simp only[mf_math_bits_Mul64];have h1:=rA y hc;have h2:=Fz y hc;have h3:=rA 1 (by omega);have h4:=rA 0 (by omega);have h5:((1:Int)).fdiv 4294967296=0:=by decide
 have h6:((0:Int)).fdiv 4294967296=0:=by decide
 have hw:∀ x:Int,0≤x∧x<18446744073709551616→IntKind.u64.wrap x=x:=fun x h=>j5 x h
 have w0:=hw 0 (by omega);have w1:=hw y (by omega);simp only[Int.natCast_zero,Int.cast_ofNat_Int,Int.natCast_one] at h3 h4;simp only[go_sem,go_sem_proc,aa5,h1,h2,h3,h4,h5,h6,w0,w1,show ((32:Int)<0)=False from by simp,if_false,show (2:Int)^min (Int.toNat 32) 64=4294967296 from rfl,abN,abO,abP,abQ,abR]
 repeat' (first|refine qS ?_ ?_|fail)<;>intro h<;>simp only[h,go_sem,go_sem_proc,aa5,h1,h2,h3,h4,h5,h6,w0,w1,show ((32:Int)<0)=False from by simp,if_false,show (2:Int)^min (Int.toNat 32) 64=4294967296 from rfl,abN,abO,abP,abQ,abR]
noncomputable def DP:List Data→Option PRes:=FF (α:=Nat) (fun (y:Nat)=>([.int .u64 1,.int .u64 y]:List Data)) (fun (y:Nat)=>aH (y<41) (.same (.tup [.int .u64 0,.int .u64 y])))
theorem DN:∀ a b:Nat,(fun (y:Nat)=>([.int .u64 1,.int .u64 y]:List Data)) a=(fun (y:Nat)=>([.int .u64 1,.int .u64 y]:List Data)) b→a=b:=by
  intro y1 y2 h;simp only[List.cons.injEq,Data.int.injEq] at h;omega
@[go_sem] theorem Pe (y:Nat) (hc:y<41):DP [.int .u64 1,.int .u64 y]=some (.same (.tup [.int .u64 0,.int .u64 y])):=(aX DN y).trans (an hc _)
theorem Of (T:Tab) (LS:T it=mkE xA) (y:Nat) (hc:y<41) :
  wp T mf_math_bits_Mul.body (bF mf_math_bits_Mul.res (.same (.tup [.int .u64 0,.int .u64 y]))) ⟨ax [.dat (.int .u64 1),.dat (.int .u64 y)],emp⟩:=by
 refine ap ?_;simp only[mf_math_bits_Mul];refine qI ?_
 repeat' (intro h<;>simp only[h,go_sem,go_sem_proc,aa5,LS,hc]<;>try refine qS ?_ ?_)
theorem et {α:Type} {A:List α} {k:Nat} (hA:A.length=k) (n:Nat):(abS n A).flatten.length=n*k:=by
 rw[List.length_flatten,abT,hA,List.sum_replicate_nat]
theorem FC {α:Type} {A:List α} {k:Nat} (hA:A.length=k) {q j:Nat} (h:q≤j):(abS j A).flatten.take (q*k)=(abS q A).flatten:=by
 obtain⟨d,rfl⟩:=abU h;rw[←abV,abW,abX (by rw[et hA];omega),abp (by rw[et hA];omega)]
theorem Hp {α:Type} {A:List α} {k:Nat} (hA:A.length=k) {q j:Nat} (h:q≤j):(abS j A).flatten.drop (q*k)=(abS (j-q) A).flatten:=by
 obtain⟨d,rfl⟩:=abU h;rw[←abV,abW,abY,abg (by rw[et hA];omega),et hA,aa9,abH,abZ,ab0]
def zeroC:List MV:=[.dat (.int .i64 0),.nil,.dat (.int .i64 0),.nil]
def nO (A:List MV) (N j:Nat):List MV:=(abS j A).flatten++(abS (N-j) zeroC).flatten
theorem Bw {A:List MV} (hA:A.length=4) {N j:Nat} (h:j≤N):(nO A N j).length=N*4:=by
 unfold nO;rw[abi,et hA,et (show zeroC.length=4 from rfl)];omega
theorem wa {A:List MV} (hA:A.length=4) {N j q:Nat} (h:j+q≤N):(nO A N j).take (j*4)++(abS q A).flatten++(nO A N j).drop (j*4+q*4)=nO A N (j+q):=by
 unfold nO;rw[abX (by rw[et hA];omega),abp (by rw[et hA];omega),abY,abg (by rw[et hA];omega),et hA,ab0,Hp (show zeroC.length=4 from rfl) (by omega),abZ,←abV (n:=j),abW,Nat.sub_sub]
theorem FS {A:List MV} (hA:A.length=4) {N j:Nat}:(nO A N j).take (j*4)=(abS j A).flatten:=by
 unfold nO;rw[abX (by rw[et hA];omega),abp (by rw[et hA];omega)]
theorem Az {A:List MV} (h:A.all MV.one=true) (q:Nat):(abS q A).flatten.all MV.one=true:=by
 induction q with
 | zero=>rfl
 | succ n ih=>rw[ab1,abI,List.all_append,h,ih];rfl
theorem KH (f:aJ) (N:Nat):nO ((ad f).map .dat) N N=aA ad (abS N f):=by
 unfold nO aA;rw[aa9,abT];simp only[List.replicate_zero,List.flatten_nil,abh]
 induction N with
 | zero=>rfl
 | succ n ih=>rw[ab1,abI,ab1,abI,abL,ih]
theorem Fq {A:List MV} (hA:A.length=4) (h1:A.all MV.one=true) (N:Nat):zW 131030 0 4 0 N 1 A (some (0,(abS N zeroC).flatten))=some (.dat (.int .i64 ((min 1 N:Nat):Int)),some (131030,0,nO A N (min 1 N))):=by
 unfold zW;dsimp only;rw[if_pos ⟨rfl,by rw[et (show zeroC.length=4 from rfl)];omega,h1⟩]
 have h0:(abS N zeroC).flatten=nO A N 0:=by simp [nO]
 have ht:A.take (min 1 N*4)=(abS (min 1 N) A).flatten:=by
  rcases abC N with h | h
  ·subst h;simp
  ·rw[show min 1 N=1 by omega];simp [abp (Nat.le_of_eq hA)]
 have:=wa hA (N:=N) (j:=0) (q:=min 1 N) (by omega);rw[h0,ht];unfold splice;rw[et hA];simp only[Nat.zero_mul,Nat.zero_add] at this ⊢;rw[this]
theorem Jh {A:List MV} (hA:A.length=4) (h1:A.all MV.one=true) {N j:Nat} (h:j<N):zW 131030 0 4 (j*4) (N-j) j (abS j A).flatten (some (0,nO A N j))=some (.dat (.int .i64 ((min j (N-j):Nat):Int)),some (131030,0,nO A N (j+min j (N-j)))):=by
 unfold zW;dsimp only;rw[if_pos ⟨rfl,by rw[Bw hA (by omega)];omega,Az h1 j⟩]
 rw[FC hA (show min j (N-j)≤j by omega)];have:=wa hA (N:=N) (j:=j) (q:=min j (N-j)) (by omega);unfold splice;rw[et hA,this]
noncomputable def rj:List Data→Option PRes:=FF (α:=Int × (List Int) × Int × (List Int) × Nat) (fun (s,l,s2,l2,N)=>([.sl [[.int .i64 s,.sl (l.map aa),.int .i64 s2,.sl (l2.map aa)]],.int .i64 N]:List Data)) (fun (s,l,s2,l2,N)=>aH (N<41) (.own 4 (abS N (ad ((s,l),(s2,l2))))))
theorem vn:∀ a b:Int × (List Int) × Int × (List Int) × Nat,(fun (s,l,s2,l2,N)=>([.sl [[.int .i64 s,.sl (l.map aa),.int .i64 s2,.sl (l2.map aa)]],.int .i64 N]:List Data)) a=(fun (s,l,s2,l2,N)=>([.sl [[.int .i64 s,.sl (l.map aa),.int .i64 s2,.sl (l2.map aa)]],.int .i64 N]:List Data)) b→a=b:=by
  rintro⟨s1,l1,s21,l21,N1⟩ ⟨s2,l2,s22,l22,N2⟩ h;simp only[List.cons.injEq,Data.int.injEq,Data.sl.injEq] at h;exact aby h.1.1.1.2 (aby (af aj _ _ h.1.1.2.1) (aby h.1.1.2.2.1.2 (aby (af aj _ _ h.1.1.2.2.2.1) (by have:=h.2.1.2;dsimp only;omega))))
@[go_sem] theorem yr (s:Int) (l:List Int) (s2:Int) (l2:List Int) (N:Nat) (hc:N<41):rj [.sl [[.int .i64 s,.sl (l.map aa),.int .i64 s2,.sl (l2.map aa)]],.int .i64 N]=some (.own 4 (abS N (ad ((s,l),(s2,l2))))):=(aX vn (s,l,s2,l2,N)).trans (an hc _)
theorem FJ (T:Tab) (mH:T je=mkE DP) (s:Int) (l:List Int) (s2:Int) (l2:List Int) (N:Nat) (hc:N<41) :
  wp T mf_slices_Repeat_Frac.body (bF mf_slices_Repeat_Frac.res (.own 4 (abS N (ad ((s,l),(s2,l2)))))) ⟨ax [.dat (.sl [[.int .i64 s,.sl (l.map aa),.int .i64 s2,.sl (l2.map aa)]]),.dat (.int .i64 N)],emp⟩:=by
 refine ap ?_;simp only[mf_slices_Repeat_Frac];have h0:decide ((N:Int)<0)=false:=decide_eq_false (by omega);have hw:IntKind.u64.wrap (N:Int)=N:=j5 _ ⟨by omega,by omega⟩
 have hw':IntKind.i64.wrap (N:Int)=N:=ak _ (by omega) (by omega);have hw1:IntKind.u64.wrap ((1:Nat):Int)=1:=by decide
 have hg:decide ((N:Int)>9223372036854775807)=false:=decide_eq_false (by omega);have hmk1:(64*N≤140737488355328)=True:=eq_true (by omega);have hmk2:(N≤maxLen)=True:=eq_true (by unfold maxLen;omega);have hA:((ad ((s,l),(s2,l2))).map MV.dat).length=4:=rfl;have hA1:((ad ((s,l),(s2,l2))).map MV.dat).all MV.one=true:=rfl;have hfirst:=Fq hA hA1 N;have hnext:=fun j (h:j<N)=>Jh hA hA1 h
 have hAdef:(ad ((s,l),(s2,l2))).map MV.dat=[.dat (.int .i64 s),.dat (.sl (l.map aa)),.dat (.int .i64 s2),.dat (.sl (l2.map aa))]:=rfl;simp only[zeroC] at hfirst;rw[hAdef] at hfirst;simp only[go_sem,go_sem_proc,aa5,mH] at hfirst;simp only[go_sem,go_sem_proc,aa5,mH,h0,hw,hw',hw1,hc,hg,hmk1,hmk2,show decide ((0:Int)>0)=false from rfl,hfirst];rw[hAdef] at hA hA1;have hfin:=KH ((s,l),(s2,l2)) N;rw[hAdef] at hfin;simp only[hAdef] at hnext;clear hAdef hfirst;generalize [MV.dat (.int .i64 s),.dat (.sl (l.map aa)),.dat (.int .i64 s2),.dat (.sl (l2.map aa))]=A at *;refine ae [7] [] (fun (j:Nat) tm m=>j≤N∧(0<N→0<j)∧tm 8 = .dat (.int .i64 j)∧m 131030=some (0,nO A N j)) (fun j=>N-j) (min 1 N) (by refine⟨by omega,by omega,rfl,?_⟩;simp [az]) ?_;intro vs ms hvs hms;simp only[go_sem,go_sem_proc,aa5,mH] at hvs hms;subst hvs hms;rintro j tm m hk hm ⟨hjN,hj0,h8,hm30⟩;simp only[go_sem,go_sem_proc,aa5,mH,List.cons.injEq] at hk hm;have h7:=hk;rcases aa6 (j<N) with hlt | hge
 ·have hjl:decide ((j:Int)<(N:Int))=true:=decide_eq_true (by omega)
  have hn:=hnext j hlt;have hrow:=FS hA (N:=N) (j:=j);have hlen:(j*4≤(nO A N j).length)=True:=eq_true (by rw[Bw hA hjN];omega);have hjN':(j≤N)=True:=eq_true hjN;have hall:=Az hA1 j;simp only[go_sem,go_sem_proc,aa5,mH,hall,hA1,hrow] at hn;have hw2:IntKind.i64.wrap ((j:Int)+((min j (N-j):Nat):Int))=((j+min j (N-j):Nat):Int):=by rw[ak _ (by omega) (by omega)];omega
  simp only[go_sem,go_sem_proc,aa5,mH,h7,h8,hm30,hjl,hrow,hlen,hjN',hall,hn,hw2,abr,ab2,aa4]
  repeat' (first|refine qS ?_ ?_|fail)<;>intro h<;>simp only[h,go_sem,go_sem_proc,aa5,mH,h7,h8,hm30,hjl,hrow,hlen,hjN',hall,hn,hw2,abr,ab2,aa4]
  exact⟨j+min j (N-j),by have:=hj0 (by omega);omega,by omega,by omega,rfl,rfl⟩
 ·have hjl:decide ((j:Int)<(N:Int))=false:=decide_eq_false (by omega)
  obtain rfl:j=N:=by omega
  rw[hfin] at hm30;have hlr:=dr bZ (abS j ((s,l),(s2,l2)));rw[ab3] at hlr;simp only[go_sem,go_sem_proc,aa5,mH,h7,h8,hm30,hjl,rE,hlr]
  repeat' (first|refine qS ?_ ?_|fail)<;>intro h<;>simp only[h,go_sem,go_sem_proc,aa5,mH,h7,h8,hm30,hjl,rE,hlr]
  rw[if_pos (abr _),abp (by omega)];unfold aA;rw[lY _ fun d=>rfl]
  have:=jt (sz:=4) ((abS j ((s,l),(s2,l2))).map ad) (by intro e he;obtain⟨f,-,rfl⟩:=List.mem_map.1 he;rfl);rw[abj,ab3] at this;rw[abw,this,abT]
def zF:aJ:=((0,[]),(1,[1]))
def O1:aJ:=((1,[1]),(1,[1]))
theorem wY:ai 0=zF:=by
 unfold ai aS zF;simp [o7,f8]
theorem I1:ai 1=O1:=by
 unfold ai aS O1;simp [o7]
def IK (rows:List MR) (f N i:Nat):List aJ:=(abJ N).map fun k=>if k<i then (nr zF (cK (fp rows k) f)).1 else if k=f then O1 else zF
theorem Ju (rows:List MR) (f N i:Nat):(IK rows f N i).length=N:=by simp [IK]
def Ie (rs:List cG) (n:Int):List aJ × Bool :=
 if fB rs n=true then (if ((jX true rs).2.2||(jX true rs).2.1.length==0)=true then ([],false) else (IK (jX true rs).1 ((jX true rs).2.1.headD 0) rs.length ((jX true rs).2.1.headD 0),true)) else ([],false)



section
variable {α:Type} {op:α→aJ × Int} {e:α→aJ}
end
def RowsOK (N:Nat) (rows:List cG):Prop:=rows.length=N∧∀ x∈rows,x.1.length=N∧oQ x
theorem RowsOK.set {N:Nat} {rows:List cG} (h:RowsOK N rows) {i:Nat} {x:cG} (hx:x.1.length=N∧oQ x):RowsOK N (rows.set i x):=by
 refine⟨by rw[abs];exact h.1,fun y hy=>?_⟩
 rcases List.mem_or_eq_of_mem_set hy with hy | rfl
 ·exact h.2 y hy
 ·exact hx




set_option maxHeartbeats 1000000
def OT (r:cG):List aJ:=r.1++[r.2]
def RelL (X:List MR) (R:List cG):Prop:=X.map (·.2.2)=R.map OT
theorem RelL.len {X:List MR} {R:List cG} (h:RelL X R):X.length=R.length:=by
 have:=congrArg abu h
 simpa using this
theorem RelL.at_ {X:List MR} {R:List cG} (h:RelL X R) {i:Nat} {x:MR} {r:cG} (hx:X[i]?=some x) (hr:R[i]?=some r):x.2.2=OT r:=by
 have:=congrArg (fun l:List (List aJ)=>l[i]?) h;simp only[abv,hx,hr,abw,Option.some.injEq] at this;exact this
theorem RelL.set {X:List MR} {R:List cG} (h:RelL X R) {i:Nat} {x:MR} {r:cG} (hxr:x.2.2=OT r):RelL (X.set i x) (R.set i r):=by
 unfold RelL at h ⊢;rw[ab4,ab4,h,hxr]
def sumQ:Nat→(Nat→Rat)→Rat
 | 0,_=>0
 | n+1,f=>sumQ n f+f n
theorem bV {n:Nat} {f g:Nat→Rat} (h:∀ k,k<n→f k=g k):sumQ n f=sumQ n g:=by
 induction n with
 | zero=>rfl
 | succ n ih=>rw[sumQ,sumQ,ih fun k hk=>h k (by omega),h n (by omega)]
theorem kW (n:Nat) (f g:Nat→Rat):sumQ n (fun k=>f k+g k)=sumQ n f+sumQ n g:=by
 induction n with
 | zero=>simp [sumQ,ab5]
 | succ n ih=>rw[sumQ,sumQ,sumQ,ih];grind
theorem lV (n:Nat) (c:Rat) (f:Nat→Rat):sumQ n (fun k=>c*f k)=c*sumQ n f:=by
 induction n with
 | zero=>simp [sumQ,ab6]
 | succ n ih=>rw[sumQ,sumQ,ih];grind
theorem gL {n:Nat} {f:Nat→Rat} (h:∀ k,k<n→f k=0):sumQ n f=0:=by
 induction n with
 | zero=>rfl
 | succ n ih=>rw[sumQ,ih fun k hk=>h k (by omega),h n (by omega)];exact ab5 0
theorem iO {n:Nat} {f:Nat→Rat} {j:Nat} (hj:j<n) (h:∀ k,k<n→k≠j→f k=0):sumQ n f=f j:=by
 induction n with
 | zero=>omega
 | succ n ih =>
  rw[sumQ]
  by_cases hn:j=n
  ·subst hn
   rw[gL fun k hk=>h k (by omega) (by omega)];grind
  ·rw[ih (by omega) fun k hk=>h k (by omega),h n (by omega) (by omega)];grind
abbrev Mat:=Nat→Nat→Rat
def kC (N:Nat) (a y:Nat→Rat):Rat:=sumQ (N+1) fun k=>a k*y k
def Ann (N:Nat) (A:Mat) (y:Nat→Rat):Prop:=∀ i,i<N→kC N (A i) y=0
def de (A:Mat) (r s:Nat):Mat:=fun i=>if i=s then A r else if i=r then A s else A i
def mI (A:Mat) (r c s:Nat):Mat:=fun i k=>if i=r then de A r s r k / de A r s r c else de A r s i k-de A r s i c*(de A r s r k / de A r s r c)
theorem sU (A:Mat) (r s:Nat):de A r s r=A s:=by
 unfold de
 by_cases h:r=s
 ·simp [h]
 ·simp [h]
theorem Hy {N r s:Nat} {A:Mat} {y:Nat→Rat} (hr:r<N) (hs:s<N):Ann N (de A r s) y↔Ann N A y:=by
 unfold Ann de
 constructor
 ·intro h i hi
  by_cases h1:i=r
  ·have:=h s hs;simp at this;rw[h1];exact this
  ·by_cases h2:i=s
   ·have:=h r hr
    rw[h2]
    by_cases h3:r=s
    ·omega
    ·simp [h3] at this;exact this
   ·have:=h i hi;simp [h1,h2] at this;exact this
 ·intro h i hi
  by_cases h2:i=s
  ·simp [h2];exact h r hr
  ·by_cases h1:i=r
   ·have:=h s hs
    rw[if_neg h2,if_pos h1];exact this
   ·simp [h1,h2];exact h i hi
theorem Lk (N:Nat) (a b y:Nat→Rat) (x:Rat):kC N (fun k=>a k-x*b k) y=kC N a y-x*kC N b y:=by
 unfold kC;have:(fun k=>(a k-x*b k)*y k)=fun k=>a k*y k+(-x)*(b k*y k):=by funext k;grind
 rw[this,kW,lV];grind
theorem EY (N:Nat) (a y:Nat→Rat) (x:Rat):kC N (fun k=>a k / x) y=kC N a y / x:=by
 unfold kC;have:(fun k=>(a k / x)*y k)=fun k=>(1 / x)*(a k*y k):=by funext k;grind
 rw[this,lV];grind
theorem xe {N r s c:Nat} {A:Mat} {y:Nat→Rat} (hr:r<N) (hs:s<N) (hne:A s c≠0):Ann N (mI A r c s) y↔Ann N A y:=by
 rw[←Hy (A:=A) hr hs];have hne':de A r s r c≠0:=by rw[sU];exact hne
 generalize hS:de A r s=S at *
 have d1:∀ i,i≠r→kC N (mI A r c s i) y=kC N (S i) y-S i c*(kC N (S r) y / S r c):=by
  intro i hi;have:mI A r c s i=fun k=>S i k-S i c*(S r k / S r c):=by funext k;unfold mI;rw[hS,if_neg hi]
  rw[this,Lk N (S i) (fun k=>S r k / S r c) y (S i c),EY]
 have d2:kC N (mI A r c s r) y=kC N (S r) y / S r c:=by
  have:mI A r c s r=fun k=>S r k / S r c:=by funext k;unfold mI;rw[hS,if_pos rfl]
  rw[this,EY]
 unfold Ann
 constructor
 ·intro h
  have h0:kC N (S r) y=0:=by
   have:=h r hr;rw[d2] at this;generalize kC N (S r) y=d at *;grind
  intro i hi
  by_cases hir:i=r
  ·rw[hir];exact h0
  ·have:=h i hi
   rw[d1 i hir,h0] at this;generalize kC N (S i) y=d at *;grind
 ·intro h i hi
  have h0:=h r hr
  by_cases hir:i=r
  ·rw[hir,d2,h0];grind
  ·rw[d1 i hir,h0,h i hi];grind
structure Red (N:Nat) (Q:Mat) (p c:Nat) (pv:Nat→Nat):Prop where
 pc:p≤c
 lt:∀ j,j<p→pv j<c
 unit:∀ j,j<p→∀ i,i<N→Q i (pv j)=if i=j then 1 else 0
 zero:∀ i,p≤i→i<N→∀ k,k<c→Q i k=0
theorem Red.free {N p c:Nat} {Q:Mat} {pv:Nat→Nat} (h:Red N Q p c pv) (hz:∀ i,p≤i→i<N→Q i c=0):Red N Q p (c+1) pv :=
 ⟨by have:=h.pc;omega,fun j hj=>by have:=h.lt j hj;omega,h.unit,fun i hi hN k hk=>by
  by_cases hkc:k=c
  ·rw[hkc];exact hz i hi hN
  ·exact h.zero i hi hN k (by omega)⟩
theorem Red.piv {N p c s:Nat} {Q:Mat} {pv:Nat→Nat} (h:Red N Q p c pv) (hp:p<N) (hs:p≤s) (hsN:s<N) (hne:Q s c≠0):Red N (mI Q p c s) (p+1) (c+1) (fun j=>if j=p then c else pv j):=by
 have hS:∀ i,i<N→∃ i',i'<N∧de Q p s i=Q i'∧(i<p→i'=i)∧(p≤i→p≤i'):=by
  intro i hi;unfold de
  by_cases h1:i=s
  ·exact⟨p,hp,by rw[if_pos h1],by omega,by omega⟩
  ·by_cases h2:i=p
   ·exact⟨s,hsN,by rw[if_neg h1,if_pos h2],by omega,by omega⟩
   ·exact⟨i,hi,by rw[if_neg h1,if_neg h2],by omega,by omega⟩
 have hSr:de Q p s p c≠0:=by rw[sU];exact hne
 have hz:∀ i,p≤i→i<N→∀ k,k<c→de Q p s i k=0:=by
  intro i hi hN k hk;obtain⟨i',h1,h2,-,h4⟩:=hS i hN;rw[h2];exact h.zero i' (h4 hi) h1 k hk
 refine⟨by have:=h.pc;omega,fun j hj=>?_,fun j hj i hi=>?_,fun i hi hN k hk=>?_⟩
 ·show (if j=p then c else pv j)<c+1
  split
  ·omega
  ·have:=h.lt j (by omega);omega
 ·unfold mI
  by_cases hjp:j=p
  ·simp only[hjp,if_true]
   by_cases hip:i=p
   ·rw[if_pos hip,if_pos hip];grind
   ·rw[if_neg hip,if_neg hip];grind
  ·simp only[hjp,if_false]
   have hj':j<p:=by omega
   have e1:de Q p s p (pv j)=0:=hz p (abr _) hp _ (h.lt j hj');rw[e1]
   by_cases hip:i=p
   ·rw[if_pos hip,if_neg (by omega)];grind
   ·rw[if_neg hip]
    obtain⟨i',h1,h2,h3,h4⟩:=hS i hi;rw[h2,h.unit j hj' i' h1];rcases abK i p with hlt | hge
    ·rw[h3 hlt];grind
    ·rw[if_neg (by have:=h4 hge;omega),if_neg (by omega)];grind
 ·unfold mI
  rw[if_neg (by omega)]
  by_cases hkc:k=c
  ·subst hkc;grind
  ·rw[hz i (by omega) hN k (by omega),hz p (abr _) hp k (by omega)];grind
theorem oi (N:Nat) (Q:Mat) (pv:Nat→Nat):Red N Q 0 0 pv:=⟨abr _,fun j hj=>by omega,fun j hj=>by omega,fun i hi hN k hk=>by omega⟩
end Go.Mini
namespace Go.Mini
open Classical
structure Cl where
 fr:Nat
 to:Int
 rk:Nat
 am:Rat
theorem jg {a b:Rat} (h:a=b):a≤b:=by rw[h];exact ab7
def sumC:List Cl→(Cl→Rat)→Rat
 | [],_=>0
 | c::l,F=>F c+sumC l F
theorem d8 {l:List Cl} {F G:Cl→Rat} (h:∀ c∈l,F c=G c):sumC l F=sumC l G:=by
 induction l with
 | nil=>rfl
 | cons c l ih=>rw[sumC,sumC,h c abE,ih fun x hx=>h x (abD _ hx)]
theorem qm (l:List Cl) (F G:Cl→Rat):sumC l (fun c=>F c+G c)=sumC l F+sumC l G:=by
 induction l with
 | nil=>simp only[sumC];grind
 | cons c l ih=>rw[sumC,sumC,sumC,ih];grind
theorem nG (l:List Cl) (F G:Cl→Rat):sumC l (fun c=>F c-G c)=sumC l F-sumC l G:=by
 induction l with
 | nil=>simp only[sumC];grind
 | cons c l ih=>rw[sumC,sumC,sumC,ih];grind
theorem p7 (l:List Cl) (a:Rat) (F:Cl→Rat):sumC l (fun c=>a*F c)=a*sumC l F:=by
 induction l with
 | nil=>simp only[sumC];grind
 | cons c l ih=>rw[sumC,sumC,ih];grind
theorem me {l:List Cl} {F:Cl→Rat} (h:∀ c∈l,F c=0):sumC l F=0:=by
 induction l with
 | nil=>rfl
 | cons c l ih=>rw[sumC,h c abE,ih fun x hx=>h x (abD _ hx)];grind
theorem na {l:List Cl} {F G:Cl→Rat} (h:∀ c∈l,F c≤G c):sumC l F≤sumC l G:=by
 induction l with
 | nil=>exact ab7
 | cons c l ih =>
  have h1:=h c abE;have h2:=ih fun x hx=>h x (abD _ hx)
  rw[sumC,sumC];grind
theorem dV {l:List Cl} {F:Cl→Rat} (h:∀ c∈l,0≤F c):0≤sumC l F:=by
 have:=na (l:=l) (F:=fun _=>0) (G:=F) h
 rwa [me fun _ _=>rfl] at this
theorem rI {l:List Cl} {F:Cl→Rat} (h:∀ c∈l,0≤F c) (hs:sumC l F≤0):∀ c∈l,F c=0:=by
 induction l with
 | nil=>intro c hc;cases hc
 | cons c l ih =>
  rw[sumC] at hs;have h1:=h c abE;have h2:=dV fun x hx=>h x (abD c hx)
  intro x hx;rcases List.mem_cons.1 hx with rfl | hx
  ·grind
  ·exact ih (fun y hy=>h y (abD _ hy)) (by grind) x hx
theorem Lx {l:List Cl} {F G:Cl→Rat} (h:∀ c∈l,F c≤G c) {c0:Cl} (hc:c0∈l) (hlt:F c0<G c0):sumC l F<sumC l G:=by
 by_cases hs:sumC l F<sumC l G
 ·exact hs
 ·have:=rI (l:=l) (F:=fun c=>G c-F c) (fun c hc=>by have:=h c hc;grind) (by rw[nG];grind) c0 hc
  grind
theorem nJ {l:List Cl} {F:Cl→Rat} (h:0<sumC l F):∃ c∈l,0<F c:=by
 apply ab8;intro hn
 have:=na (l:=l) (F:=F) (G:=fun _=>0) fun c hc=>by
  apply ab8;intro h2;exact hn ⟨c,hc,by grind⟩
 rw[me (F:=fun _=>(0:Rat)) fun _ _=>rfl] at this
 grind
theorem qe {n:Nat} {f g:Nat→Rat} (h:∀ k,k<n→f k≤g k):sumQ n f≤sumQ n g:=by
 induction n with
 | zero=>exact ab7
 | succ n ih =>
  have h1:=h n (by omega);have h2:=ih fun k hk=>h k (by omega)
  rw[sumQ,sumQ];grind
theorem sc {n:Nat} {f:Nat→Rat} (h:∀ k,k<n→0≤f k):0≤sumQ n f:=by
 have:=qe (n:=n) (f:=fun _=>0) (g:=f) h
 rwa [gL fun _ _=>rfl] at this
theorem nL (n:Nat) (f g:Nat→Rat):sumQ n (fun k=>f k-g k)=sumQ n f-sumQ n g:=by
 induction n with
 | zero=>simp only[sumQ];grind
 | succ n ih=>rw[sumQ,sumQ,sumQ,ih];grind
theorem Fv {n:Nat} {f:Nat→Rat} (h:∀ k,k<n→0≤f k) (hs:sumQ n f≤0):∀ k,k<n→f k=0:=by
 induction n with
 | zero=>intro k hk;omega
 | succ n ih =>
  rw[sumQ] at hs;have h1:=h n (by omega);have h2:=sc (n:=n) (f:=f) fun k hk=>h k (by omega)
  intro k hk
  by_cases hkn:k=n
  ·subst hkn;grind
  ·exact ih (fun k hk=>h k (by omega)) (by grind) k (by omega)
def inC (C:Nat→Prop) (c:Cl):Prop:=∃ i:Nat,c.to=i∧C i
theorem CJ {n:Nat} (C:Nat→Prop) (hC:∀ i,C i→i<n) (l:List Cl) (a:Cl→Rat):sumQ n (fun i=>if C i then sumC l (fun c=>if c.to=(i:Int) then a c else 0) else 0)=sumC l (fun c=>if inC C c then a c else 0):=by
 induction l with
 | nil=>exact gL fun k _=>by split<;>rfl
 | cons c l ih =>
  rw[sumC,←ih]
  have e:(fun i:Nat=>if C i then sumC (c::l) (fun c=>if c.to=(i:Int) then a c else 0) else 0)=fun i=>(if C i then (if c.to=(i:Int) then a c else 0) else 0)+(if C i then sumC l (fun c=>if c.to=(i:Int) then a c else 0) else 0):=by
   funext i
   split
   ·rw[sumC]
   ·grind
  rw[e,kW]
  congr 1
  by_cases h:inC C c
  ·obtain⟨i,hi,hCi⟩:=h
   rw[iO (hC i hCi) fun k hk hki=>by
    split
    ·rw[if_neg (by omega)]
    ·rfl]
   rw[if_pos hCi,if_pos hi,if_pos ⟨i,hi,hCi⟩]
  ·rw[if_neg h]
   refine gL fun k hk=>?_
   split
   ·rw[if_neg fun hk2=>h ⟨k,hk2,by assumption⟩]
   ·rfl
theorem Cp {n:Nat} {l:List Cl} (hl:∀ c∈l,c.fr<n) (b:Nat→Cl→Rat):sumQ n (fun k=>sumC l (fun c=>if c.fr=k then b k c else 0))=sumC l (fun c=>b c.fr c):=by
 induction l with
 | nil=>exact gL fun k _=>rfl
 | cons c l ih =>
  rw[sumC,←ih fun x hx=>hl x (abD _ hx)]
  have e:(fun k:Nat=>sumC (c::l) (fun c=>if c.fr=k then b k c else 0))=fun k=>(if c.fr=k then b k c else 0)+sumC l (fun c=>if c.fr=k then b k c else 0):=rfl
  rw[e,kW]
  congr 1
  rw[iO (hl c abE) fun k _ hk=>if_neg (Ne.symm hk),if_pos rfl]
structure Day where
 n:Nat
 cash:Nat→Rat
 cl:List Cl
structure Day.OK (d:Day):Prop where
 fr:∀ c∈d.cl,c.fr<d.n
 to:∀ c∈d.cl,c.to<d.n
 rk:∀ c∈d.cl,c.rk<10
 am:∀ c∈d.cl,0≤c.am
 cash:∀ i,i<d.n→0≤d.cash i
noncomputable def Day.U (d:Day) (k r:Nat):Rat:=sumC d.cl fun c=>if c.fr=k∧c.rk<r then c.am else 0
noncomputable def Day.S (d:Day) (k r:Nat):Rat:=sumC d.cl fun c=>if c.fr=k∧c.rk=r then c.am else 0
theorem Day.U_zero (d:Day) (k:Nat):d.U k 0=0:=me fun c _=>if_neg (by omega)
theorem Day.U_succ (d:Day) (k r:Nat):d.U k (r+1)=d.U k r+d.S k r:=by
 unfold Day.U Day.S;rw[←qm];refine d8 fun c _=>?_
 by_cases h1:c.fr=k∧c.rk<r
 ·rw[if_pos ⟨h1.1,by omega⟩,if_pos h1,if_neg (by omega)];grind
 ·rw[if_neg h1]
  by_cases h2:c.fr=k∧c.rk=r
  ·rw[if_pos ⟨h2.1,by omega⟩,if_pos h2];grind
  ·rw[if_neg (by omega),if_neg h2];grind
theorem Day.OK.S_nonneg {d:Day} (hd:d.OK) (k r:Nat):0≤d.S k r:=dV fun c hc=>by
 split
 ·exact hd.am c hc
 ·exact ab7
theorem Day.OK.U_mono {d:Day} (hd:d.OK) (k:Nat) {r s:Nat} (h:r≤s):d.U k r≤d.U k s:=by
 induction s with
 | zero =>
      obtain rfl:r=0:=by omega
      exact ab7
 | succ s ih =>
  by_cases hr:r=s+1
  ·rw[hr];exact ab7
  ·have h1:=ih (by omega)
   have h2:=hd.S_nonneg k s;rw[d.U_succ];grind
theorem Day.OK.U_nonneg {d:Day} (hd:d.OK) (k r:Nat):0≤d.U k r:=by
 have:=hd.U_mono k (aa4 r)
 rwa [d.U_zero] at this
theorem Day.OK.am_le {d:Day} (hd:d.OK) {c:Cl} (hc:c∈d.cl):c.am≤d.S c.fr c.rk:=by
 have:∀ l:List Cl,(∀ x∈l,0≤x.am)→c∈l→c.am≤sumC l fun x=>if x.fr=c.fr∧x.rk=c.rk then x.am else 0:=by
  intro l
  induction l with
  | nil=>intro _ h;cases h
  | cons x l ih =>
   intro h1 h2;rw[sumC]
   have h3:0≤sumC l fun x=>if x.fr=c.fr∧x.rk=c.rk then x.am else 0:=dV fun y hy=>by
    split
    ·exact h1 y (abD _ hy)
    ·exact ab7
   rcases List.mem_cons.1 h2 with rfl | h2
   ·rw[if_pos ⟨rfl,rfl⟩];grind
   ·have h4:=ih (fun y hy=>h1 y (abD _ hy)) h2
    have h5:=h1 x abE
    split<;>grind
 exact this d.cl hd.am hc
noncomputable def Day.w (d:Day) (c:Cl):Rat:=c.am / d.S c.fr c.rk
theorem Day.OK.w_nonneg {d:Day} (hd:d.OK) {c:Cl} (hc:c∈d.cl):0≤d.w c:=by
 unfold Day.w;have h1:=hd.am c hc;have h2:=hd.S_nonneg c.fr c.rk;rw[ab9]
 exact aca h1 (by
  rcases Rat.le_iff_lt_or_eq.1 h2 with h | h
  ·exact Rat.le_of_lt (Rat.inv_pos.2 h)
  ·rw[←h];exact jg Rat.inv_zero.symm)
theorem Day.OK.w_pos {d:Day} (hd:d.OK) {c:Cl} (hc:c∈d.cl) (h:0<c.am):0<d.w c:=by
 unfold Day.w;have h2:=hd.am_le hc;rw[ab9];exact acb h (Rat.inv_pos.2 (by grind))
theorem Day.w_zero {d:Day} {c:Cl} (h:c.am=0):d.w c=0:=by
 unfold Day.w;rw[h,ab9,Rat.zero_mul]
theorem Day.w_S {d:Day} {c:Cl} (h:0<d.S c.fr c.rk):d.w c*d.S c.fr c.rk=c.am:=by
 unfold Day.w;grind
theorem Day.OK.sum_fr {d:Day} (hd:d.OK) (C:Nat→Prop) (f:Nat→Nat) (hS:∀ k,C k→0<d.S k (f k)) (x:Nat→Rat):sumC d.cl (fun c=>if C c.fr∧c.rk=f c.fr then d.w c*x c.fr else 0)=sumQ d.n (fun k=>if C k then x k else 0):=by
 rw[←Cp hd.fr fun k c=>if C k∧c.rk=f k then d.w c*x k else 0]
 refine bV fun k hk=>?_
 by_cases hC:C k
 ·rw[if_pos hC]
  have hpos:=hS k hC
  have e:sumC d.cl (fun c=>if c.fr=k then (if C k∧c.rk=f k then d.w c*x k else 0) else 0)=sumC d.cl fun c=>(x k / d.S k (f k))*(if c.fr=k∧c.rk=f k then c.am else 0):=by
   refine d8 fun c _=>?_
   by_cases h1:c.fr=k
   ·by_cases h2:c.rk=f k
    ·rw[if_pos h1,if_pos ⟨hC,h2⟩,if_pos ⟨h1,h2⟩]
     unfold Day.w;rw[h1,h2];grind
    ·rw[if_pos h1,if_neg (fun h=>h2 h.2),if_neg (fun h=>h2 h.2)];grind
   ·rw[if_neg h1,if_neg (fun h=>h1 h.1)];grind
  rw[e,p7]
  show x k / d.S k (f k)*d.S k (f k)=x k;grind
 ·rw[if_neg hC]
  exact me fun c _=>by
   split
   ·rw[if_neg fun h=>hC h.1]
   ·rfl
end Go.Mini
namespace Go.Mini
open Classical
noncomputable def pos (x:Rat):Rat:=if x≤0 then 0 else x
theorem ju (x:Rat):0≤pos x:=by unfold pos;split<;>grind
theorem xZ (x:Rat):x≤pos x:=by unfold pos;split<;>grind
theorem y8 {x y:Rat} (h:x≤y):pos x≤pos y:=by unfold pos;split<;>split<;>grind
theorem kB {x:Rat} (h:0≤x):pos x=x:=by unfold pos;split<;>grind
theorem ig {x:Rat} (h:x≤0):pos x=0:=if_pos h
theorem kN {a x y:Rat} (ha:0≤a) (h:x≤y):a*x≤a*y:=Rat.mul_le_mul_of_nonneg_left h ha
theorem dy {a x:Rat} (ha:0≤a) (h:0≤x):0≤a*x:=aca ha h
noncomputable def Day.q (d:Day) (f:Nat→Nat) (h:Nat→Rat) (c:Cl):Rat:=if c.rk<f c.fr then c.am else if c.rk=f c.fr then d.w c*pos (h c.fr-d.U c.fr c.rk) else 0
noncomputable def Day.l (d:Day) (f:Nat→Nat) (P:Nat→Prop) (h:Nat→Rat) (c:Cl):Rat:=if c.rk<f c.fr then c.am else if c.rk=f c.fr∧P c.fr then d.w c*(h c.fr-d.U c.fr c.rk) else 0
noncomputable def Day.into (d:Day) (a:Cl→Rat) (i:Nat):Rat:=d.cash i+sumC d.cl fun c=>if c.to=(i:Int) then a c else 0
theorem Day.into_le {d:Day} {a b:Cl→Rat} (h:∀ c∈d.cl,a c≤b c) (i:Nat):d.into a i≤d.into b i:=by
 unfold Day.into
 have:=na (l:=d.cl) (F:=fun c=>if c.to=(i:Int) then a c else 0) (G:=fun c=>if c.to=(i:Int) then b c else 0) fun c hc=>by
  try dsimp only
  split
  ·exact h c hc
  ·exact ab7
 grind
theorem Day.into_congr {d:Day} {a b:Cl→Rat} (h:∀ c∈d.cl,a c=b c) (i:Nat):d.into a i=d.into b i:=by
 unfold Day.into
 congr 1
 exact d8 fun c hc=>by rw[h c hc]
theorem Day.into_sub (d:Day) (a b:Cl→Rat) (i:Nat):d.into a i-d.into b i=sumC d.cl fun c=>if c.to=(i:Int) then a c-b c else 0:=by
 unfold Day.into
 have:(fun c:Cl=>if c.to=(i:Int) then a c-b c else 0)=fun c=>(if c.to=(i:Int) then a c else 0)-(if c.to=(i:Int) then b c else 0):=by
  funext c;split<;>grind
 rw[this,nG];grind
noncomputable def Day.sumIn (d:Day) (C:Nat→Prop) (x:Nat→Rat):Rat:=sumQ d.n fun i=>if C i then x i else 0
theorem Day.sumIn_sub (d:Day) (C:Nat→Prop) (x y:Nat→Rat):d.sumIn C (fun i=>x i-y i)=d.sumIn C x-d.sumIn C y:=by
 unfold Day.sumIn;rw[←nL];exact bV fun k _=>by split<;>grind
theorem Day.sumIn_add (d:Day) (C:Nat→Prop) (x y:Nat→Rat):d.sumIn C (fun i=>x i+y i)=d.sumIn C x+d.sumIn C y:=by
 unfold Day.sumIn;rw[←kW];exact bV fun k _=>by split<;>grind
theorem Day.sumIn_le {d:Day} {C:Nat→Prop} {x y:Nat→Rat} (h:∀ i,i<d.n→C i→x i≤y i):d.sumIn C x≤d.sumIn C y:=by
 refine qe fun k hk=>?_
 by_cases hc:C k
 ·rw[if_pos hc,if_pos hc];exact h k hk hc
 ·rw[if_neg hc,if_neg hc];exact ab7
theorem Day.sumIn_congr {d:Day} {C:Nat→Prop} {x y:Nat→Rat} (h:∀ i,i<d.n→C i→x i=y i):d.sumIn C x=d.sumIn C y:=by
 refine bV fun k hk=>?_
 split
 ·exact h k hk (by assumption)
 ·rfl
theorem Day.sumIn_into {d:Day} {C:Nat→Prop} (hC:∀ i,C i→i<d.n) (a:Cl→Rat):d.sumIn C (d.into a)=d.sumIn C d.cash+sumC d.cl fun c=>if inC C c then a c else 0:=by
 rw[←CJ C hC]
 show sumQ d.n _=sumQ d.n _+_;rw[←kW];refine bV fun k _=>?_
 unfold Day.into
 split<;>grind
def Day.closed (d:Day) (f:Nat→Nat) (C:Nat→Prop):Prop:=∀ c∈d.cl,C c.fr→c.rk=f c.fr→0<c.am→inC C c
noncomputable def Day.cap (d:Day) (f:Nat→Nat) (g:Nat→Rat) (C:Nat→Prop) (k:Nat):Rat:=if C k then d.U k (f k) else g k
section
variable {d:Day} {f:Nat→Nat} {P:Nat→Prop} {h g:Nat→Rat} {C:Nat→Prop} {c:Cl}
theorem Day.l_lt (h1:c.rk<f c.fr):d.l f P h c=c.am:=by unfold Day.l;rw[if_pos h1]
theorem Day.l_eq (h1:c.rk=f c.fr) (h2:P c.fr):d.l f P h c=d.w c*(h c.fr-d.U c.fr c.rk):=by
 unfold Day.l;rw[if_neg (by omega),if_pos ⟨h1,h2⟩]
theorem Day.l_no (h1:¬ c.rk<f c.fr) (h2:¬ (c.rk=f c.fr∧P c.fr)):d.l f P h c=0:=by
 unfold Day.l;rw[if_neg h1,if_neg h2]
theorem Day.q_lt (h1:c.rk<f c.fr):d.q f h c=c.am:=by unfold Day.q;rw[if_pos h1]
theorem Day.q_eq (h1:c.rk=f c.fr):d.q f h c=d.w c*pos (h c.fr-d.U c.fr c.rk):=by
 unfold Day.q;rw[if_neg (by omega),if_pos h1]
theorem Day.q_no (h1:¬ c.rk<f c.fr) (h2:¬ c.rk=f c.fr):d.q f h c=0:=by
 unfold Day.q;rw[if_neg h1,if_neg h2]
theorem lX (h:¬ C c.fr):d.q f (d.cap f g C) c=d.q f g c:=by
 unfold Day.q Day.cap;rw[if_neg h]
theorem mz (h:C c.fr):d.q f (d.cap f g C) c=if c.rk<f c.fr then c.am else 0:=by
 by_cases h1:c.rk<f c.fr
 ·rw[if_pos h1,Day.q_lt h1]
 ·rw[if_neg h1]
  by_cases h2:c.rk=f c.fr
  ·rw[Day.q_eq h2]
   unfold Day.cap;rw[if_pos h,h2,ig (by grind),ab6]
  ·rw[Day.q_no h1 h2]
end
structure Inv (d:Day) (f:Nat→Nat) (g:Nat→Rat):Prop where
 le:∀ i,f i≤10
 sup:∀ i,i<d.n→d.into (d.q f g) i≤g i
 lo:∀ i,i<d.n→f i<10→d.U i (f i)≤g i
 hi:∀ i,i<d.n→f i<10→g i<d.U i (f i+1)
 cl:∀ C:Nat→Prop,(∃ i,C i)→(∀ i,C i→i<d.n∧f i<10)→d.closed f C→d.sumIn C (d.into (d.q f (d.cap f g C)))<d.sumIn C fun i=>d.U i (f i)
theorem Inv.S_pos {d:Day} {f:Nat→Nat} {g:Nat→Rat} (h:Inv d f g) {i:Nat} (hi:i<d.n) (hf:f i<10):0<d.S i (f i):=by
 have h1:=h.lo i hi hf;have h2:=h.hi i hi hf;rw[d.U_succ] at h2;grind
theorem Inv.start {d:Day} (hd:d.OK):Inv d (fun _=>10) (d.into fun c=>c.am) :=
 ⟨fun _=>abr _,fun i _=>d.into_le (fun c hc=>by
  unfold Day.q;rw[if_pos (hd.rk c hc)];exact ab7) i,fun i _ h=>absurd h (by omega),fun i _ h=>absurd h (by omega),fun C ⟨i,hi⟩ h=>absurd (h i hi).2 (by omega)⟩
theorem Inv.flow {d:Day} {f:Nat→Nat} {g:Nat→Rat} (hi:Inv d f g) (hd:d.OK) {C:Nat→Prop} (h1:∃ i,C i) (h2:∀ i,C i→i<d.n∧f i<10) (h3:d.closed f C) (L:Cl→Rat) (e:Nat→Rat) (he:∀ k,k<d.n→C k→0≤e k)
  (hL:∀ c∈d.cl,inC C c→L c≤d.q f (d.cap f g C) c+if C c.fr∧c.rk=f c.fr then d.w c*e c.fr else 0):d.sumIn C (d.into L)<d.sumIn C fun i=>d.U i (f i)+e i:=by
 have k1:=hi.cl C h1 h2 h3;have hC:∀ i,C i→i<d.n:=fun i h=>(h2 i h).1
 have k2:=hd.sum_fr C f (fun k hk=>hi.S_pos (h2 k hk).1 (h2 k hk).2) e;rw[Day.sumIn_into hC] at k1 ⊢;rw[Day.sumIn_add]
 have k3:sumC d.cl (fun c=>if inC C c then L c else 0)≤sumC d.cl fun c=>(if inC C c then d.q f (d.cap f g C) c else 0)+(if C c.fr∧c.rk=f c.fr then d.w c*e c.fr else 0):=by
  refine na fun c hc=>?_
  have h0:0≤if C c.fr∧c.rk=f c.fr then d.w c*e c.fr else 0:=by
   split
   ·exact dy (hd.w_nonneg hc) (he _ (hd.fr c hc) (by rename_i h;exact h.1))
   ·exact ab7
  by_cases hin:inC C c
  ·rw[if_pos hin,if_pos hin];exact hL c hc hin
  ·rw[if_neg hin,if_neg hin];grind
 rw[qm,k2] at k3;have k4:d.sumIn C e=sumQ d.n fun k=>if C k then e k else 0:=rfl
 rw[←k4] at k3;grind
structure Pay (d:Day) (f:Nat→Nat) (g:Nat→Rat) (P:Nat→Prop) (h:Nat→Rat):Prop where
 fallen:∀ i,P i→i<d.n∧f i<10
 open':∀ C:Nat→Prop,(∃ i,C i)→(∀ i,C i→P i)→¬ d.closed f C
 sys:∀ i,i<d.n→h i=d.into (d.l f P h) i
 le:∀ i,i<d.n→h i≤g i
 ge:∀ i,P i→d.U i (f i)<h i
theorem ml {d:Day} {f:Nat→Nat} {g:Nat→Rat} (hi:Inv d f g) (hd:d.OK) {P:Nat→Prop} (hP:∀ i,P i→i<d.n∧f i<10) (ho:∀ C:Nat→Prop,(∃ i,C i)→(∀ i,C i→P i)→¬ d.closed f C) (x:Nat→Rat)
  (hx:∀ i,i<d.n→(sumC d.cl fun c=>if c.to=(i:Int) then (if c.rk=f c.fr∧P c.fr then d.w c*x c.fr else 0) else 0)≤x i):∀ i,i<d.n→0≤x i:=by
 have key:∀ i,P i→0≤x i:=by
  intro i0 hi0;apply ab8;intro hneg;obtain⟨C,hCd⟩:∃ C:Nat→Prop,∀ i,C i↔P i∧x i<0:=⟨fun i=>P i∧x i<0,fun _=>Iff.rfl⟩
  have hC:∀ i,C i→i<d.n:=fun i h=>(hP i ((hCd i).1 h).1).1
  refine ho C ⟨i0,(hCd i0).2 ⟨hi0,by grind⟩⟩ (fun i h=>((hCd i).1 h).1) ?_
  have e1:=CJ C hC d.cl fun c=>if c.rk=f c.fr∧P c.fr then d.w c*x c.fr else 0
  have e2:=hd.sum_fr C f (fun k hk=>hi.S_pos (hP k ((hCd k).1 hk).1).1 (hP k ((hCd k).1 hk).1).2) x
  have e3:sumQ d.n (fun i=>if C i then sumC d.cl (fun c=>if c.to=(i:Int) then (if c.rk=f c.fr∧P c.fr then d.w c*x c.fr else 0) else 0) else 0)≤sumQ d.n (fun k=>if C k then x k else 0):=by
   refine qe fun k hk=>?_
   by_cases hc:C k
   ·rw[if_pos hc,if_pos hc];exact hx k hk
   ·rw[if_neg hc,if_neg hc];exact ab7
  rw[e1,←e2] at e3;have e4:=rI (l:=d.cl) (F:=fun c=>(if inC C c then (if c.rk=f c.fr∧P c.fr then d.w c*x c.fr else 0) else 0)-(if C c.fr∧c.rk=f c.fr then d.w c*x c.fr else 0)) (fun c hc=>?_) (by rw[nG];grind)
  ·intro c hc hcC hrk ham
   apply ab8;intro hin;have:=e4 c hc
   try dsimp only at this
   rw[if_neg hin,if_pos ⟨hcC,hrk⟩] at this;have h1:=hd.w_pos hc ham;have h2:=((hCd _).1 hcC).2;have h3:0<d.w c*(-x c.fr):=acb h1 (by grind);grind
  ·try dsimp only
   have h1:=hd.w_nonneg hc
   have hB:((if C c.fr∧c.rk=f c.fr then d.w c*x c.fr else 0)=(if c.rk=f c.fr∧P c.fr then d.w c*x c.fr else 0)∧(if C c.fr∧c.rk=f c.fr then d.w c*x c.fr else 0)≤0)∨((if C c.fr∧c.rk=f c.fr then d.w c*x c.fr else 0)=0∧0≤(if c.rk=f c.fr∧P c.fr then d.w c*x c.fr else 0)):=by
    by_cases hcC:C c.fr∧c.rk=f c.fr
    ·left
     have h2:=(hCd _).1 hcC.1;have h3:0≤d.w c*(-x c.fr):=dy h1 (by have:=h2.2;grind);have h4:c.rk=f c.fr∧P c.fr:=⟨hcC.2,h2.1⟩;rw[if_pos hcC,if_pos h4];exact⟨rfl,by grind⟩
    ·right
     rw[if_neg hcC];refine⟨rfl,?_⟩
     split
     ·rename_i h2
      refine dy h1 ?_;apply ab8;intro h;exact hcC ⟨(hCd _).2 ⟨h2.2,by grind⟩,h2.1⟩
     ·exact ab7
   generalize (if C c.fr∧c.rk=f c.fr then d.w c*x c.fr else 0)=B at *;generalize (if c.rk=f c.fr∧P c.fr then d.w c*x c.fr else 0)=A at *;rcases hB with ⟨h2,h3⟩ | ⟨h2,h3⟩<;>split<;>grind
 intro i hin;refine acd ?_ (hx i hin);refine dV fun c hc=>?_
 split
 ·split
  ·rename_i h
   exact dy (hd.w_nonneg hc) (key _ h.2)
  ·exact ab7
 ·exact ab7
theorem Day.l_sub (d:Day) (f:Nat→Nat) (P:Nat→Prop) (h h':Nat→Rat) (c:Cl):d.l f P h' c-d.l f P h c=if c.rk=f c.fr∧P c.fr then d.w c*(h' c.fr-h c.fr) else 0:=by
 unfold Day.l
 by_cases h1:c.rk<f c.fr
 ·rw[if_pos h1,if_pos h1,if_neg (by omega)];grind
 ·rw[if_neg h1,if_neg h1]
  split<;>grind
theorem Cq {d:Day} {f:Nat→Nat} {g:Nat→Rat} (hi:Inv d f g) (hd:d.OK) {P:Nat→Prop} (hP:∀ i,P i→i<d.n∧f i<10) (ho:∀ C:Nat→Prop,(∃ i,C i)→(∀ i,C i→P i)→¬ d.closed f C) {h h':Nat→Rat}
  (e:∀ i,i<d.n→h i=d.into (d.l f P h) i) (e':∀ i,i<d.n→h' i=d.into (d.l f P h') i):∀ i,i<d.n→h i=h' i:=by
 have main:∀ h h':Nat→Rat,(∀ i,i<d.n→h i=d.into (d.l f P h) i)→(∀ i,i<d.n→h' i=d.into (d.l f P h') i)→∀ i,i<d.n→0≤h' i-h i:=by
  intro h h' e e';refine ml hi hd hP ho (fun i=>h' i-h i) fun i hin=>?_
  rw[e i hin,e' i hin,d.into_sub];refine jg (d8 fun c hc=>?_);rw[d.l_sub]
 intro i hin;have h1:=main h h' e e' i hin;have h2:=main h' h e' e i hin;grind
theorem Ba {d:Day} {f:Nat→Nat} {g:Nat→Rat} (hi:Inv d f g) (hd:d.OK) {P:Nat→Prop} (hP:∀ i,P i→i<d.n∧f i<10) (ho:∀ C:Nat→Prop,(∃ i,C i)→(∀ i,C i→P i)→¬ d.closed f C) (x:Nat→Rat)
  (hx:∀ i,i<d.n→x i=sumC d.cl fun c=>if c.to=(i:Int) then (if c.rk=f c.fr∧P c.fr then d.w c*x c.fr else 0) else 0):∀ i,i<d.n→x i=0:=by
 intro i hin;have h1:=ml hi hd hP ho x (fun i hin=>jg (hx i hin).symm) i hin;have h2:=ml hi hd hP ho (fun i => -x i) (fun i hin=>?_) i hin
 ·grind
 ·rw[hx i hin]
  refine jg ?_;have:∀ F:Cl→Rat,-(sumC d.cl F)=sumC d.cl fun c=>(-1)*F c:=fun F=>by rw[p7];grind
  rw[this];refine d8 fun c hc=>?_
  split
  ·split<;>grind
  ·grind
theorem Day.l_le_q {d:Day} (hd:d.OK) {f:Nat→Nat} {P:Nat→Prop} {h g:Nat→Rat} (hle:∀ i,i<d.n→h i≤g i) {c:Cl} (hc:c∈d.cl):d.l f P h c≤d.q f g c:=by
 unfold Day.l Day.q
 by_cases h1:c.rk<f c.fr
 ·rw[if_pos h1,if_pos h1];exact ab7
 ·rw[if_neg h1,if_neg h1]
  by_cases h2:c.rk=f c.fr
  ·rw[if_pos h2]
   have hw:=hd.w_nonneg hc
   by_cases h3:P c.fr
   ·rw[if_pos ⟨h2,h3⟩]
    refine kN hw (acd ?_ (xZ _));have:=hle _ (hd.fr c hc);grind
   ·rw[if_neg fun h=>h3 h.2]
    exact dy hw (ju _)
  ·rw[if_neg fun h=>h2 h.1,if_neg h2];exact ab7
theorem Pay.start {d:Day} (hd:d.OK) {f:Nat→Nat} {g:Nat→Rat} (hi:Inv d f g) {h:Nat→Rat} (hs:∀ i,i<d.n→h i=d.into (d.l f (fun _=>False) h) i):Pay d f g (fun _=>False) h :=
 ⟨fun i h=>h.elim,fun C ⟨i,h⟩ h'=>(h' i h).elim,hs,fun i hin=>by
  rw[hs i hin];refine acd (d.into_le (b:=d.q f g) (fun c hc=>?_) i) (hi.sup i hin);unfold Day.l Day.q
  by_cases h1:c.rk<f c.fr
  ·rw[if_pos h1,if_pos h1];exact ab7
  ·rw[if_neg h1,if_neg h1,if_neg fun h=>h.2]
   split
   ·exact dy (hd.w_nonneg hc) (ju _)
   ·exact ab7,fun i h=>h.elim⟩
def ll (d:Day) (f:Nat→Nat) (P:Nat→Prop) (h:Nat→Rat) (i:Nat):Prop:=P i∨(i<d.n∧f i<10∧d.U i (f i)<h i)
theorem Pay.next_fallen {d:Day} {f:Nat→Nat} {g:Nat→Rat} {P:Nat→Prop} {h:Nat→Rat} (hp:Pay d f g P h):∀ i,ll d f P h i→i<d.n∧f i<10:=fun i hn=>hn.elim (hp.fallen i) fun h=>⟨h.1,h.2.1⟩
theorem Pay.next_gt {d:Day} {f:Nat→Nat} {g:Nat→Rat} {P:Nat→Prop} {h:Nat→Rat} (hp:Pay d f g P h):∀ i,ll d f P h i→d.U i (f i)<h i:=fun i hn=>hn.elim (hp.ge i) fun h=>h.2.2
theorem Pay.next_open {d:Day} (hd:d.OK) {f:Nat→Nat} {g:Nat→Rat} (hi:Inv d f g) {P:Nat→Prop} {h:Nat→Rat} (hp:Pay d f g P h):∀ C:Nat→Prop,(∃ i,C i)→(∀ i,C i→ll d f P h i)→¬ d.closed f C:=by
 intro C h1 h2 h3;have hf:∀ i,C i→i<d.n∧f i<10:=fun i hc=>hp.next_fallen i (h2 i hc)
 have hfl:=hi.flow hd h1 hf h3 (d.l f P h) (fun k=>if P k then h k-d.U k (f k) else 0) (fun k _ hk=>by
  try dsimp only
  split
  ·have:=hp.ge k (by assumption);grind
  ·exact ab7) fun c hc _=>by
   by_cases k3:C c.fr
   ·rw[mz k3]
    by_cases k1:c.rk<f c.fr
    ·rw[Day.l_lt k1,if_pos k1,if_neg (fun h=>by have:=h.2;omega)];grind
    ·rw[if_neg k1]
     by_cases k2:c.rk=f c.fr
     ·have k5:C c.fr∧c.rk=f c.fr:=⟨k3,k2⟩
      rw[if_pos k5]
      by_cases k4:P c.fr
      ·rw[Day.l_eq k2 k4,if_pos k4,k2];grind
      ·rw[Day.l_no k1 (fun h=>k4 h.2),if_neg k4];grind
     ·rw[Day.l_no k1 (fun h=>k2 h.1),if_neg fun h=>k2 h.2];grind
   ·rw[lX k3,if_neg fun h=>k3 h.1]
    have:=Day.l_le_q hd (P:=P) (f:=f) hp.le hc;grind
 have e:d.sumIn C (d.into (d.l f P h))=d.sumIn C h:=Day.sumIn_congr fun i hin _=>(hp.sys i hin).symm
 rw[e] at hfl
 have:d.sumIn C (fun i=>d.U i (f i)+if P i then h i-d.U i (f i) else 0)≤d.sumIn C h:=by
  refine Day.sumIn_le fun i hin hc=>?_
  have:=hp.next_gt i (h2 i hc)
  split<;>grind
 grind
theorem Pay.next {d:Day} (hd:d.OK) {f:Nat→Nat} {g:Nat→Rat} (hi:Inv d f g) {P:Nat→Prop} {h h':Nat→Rat} (hp:Pay d f g P h) (hs:∀ i,i<d.n→h' i=d.into (d.l f (ll d f P h) h') i):Pay d f g (ll d f P h) h':=by
 have ho:=hp.next_open hd hi
 have hup:∀ i,i<d.n→0≤h' i-h i:=by
  refine ml hi hd hp.next_fallen ho (fun i=>h' i-h i) fun i hin=>?_
  rw[hs i hin,hp.sys i hin,d.into_sub];refine na fun c hc=>?_
  have hw:=hd.w_nonneg hc
  split
  ·unfold Day.l
   by_cases h1:c.rk<f c.fr
   ·rw[if_pos h1,if_pos h1,if_neg (by omega)];grind
   ·rw[if_neg h1,if_neg h1]
    by_cases h2:c.rk=f c.fr
    ·by_cases h3:ll d f P h c.fr
     ·rw[if_pos ⟨h2,h3⟩,if_pos ⟨h2,h3⟩]
      by_cases h4:P c.fr
      ·rw[if_pos ⟨h2,h4⟩];grind
      ·rw[if_neg fun h=>h4 h.2]
       have h5:=hp.next_gt _ h3;have:=dy hw (show 0≤h c.fr-d.U c.fr c.rk by rw[h2];grind);grind
     ·rw[if_neg fun h=>h3 h.2,if_neg fun h=>h3 h.2,if_neg fun h=>h3 (.inl h.2)];grind
    ·rw[if_neg fun h=>h2 h.1,if_neg fun h=>h2 h.1,if_neg fun h=>h2 h.1];grind
  ·exact ab7
 have hle:∀ i,i<d.n→0≤g i-h' i:=by
  refine ml hi hd hp.next_fallen ho (fun i=>g i-h' i) fun i hin=>?_
  refine acd ?_ (show d.into (d.q f g) i-h' i≤g i-h' i by have:=hi.sup i hin;grind);rw[hs i hin,d.into_sub];refine na fun c hc=>?_
  have hw:=hd.w_nonneg hc
  split
  ·unfold Day.l Day.q
   by_cases h1:c.rk<f c.fr
   ·rw[if_pos h1,if_pos h1,if_neg (by omega)];grind
   ·rw[if_neg h1,if_neg h1]
    by_cases h2:c.rk=f c.fr
    ·rw[if_pos h2]
     by_cases h3:ll d f P h c.fr
     ·rw[if_pos ⟨h2,h3⟩,if_pos ⟨h2,h3⟩]
      have:=kN hw (xZ (g c.fr-d.U c.fr c.rk));grind
     ·rw[if_neg fun h=>h3 h.2,if_neg fun h=>h3 h.2]
      have:=dy hw (ju (g c.fr-d.U c.fr c.rk));grind
    ·rw[if_neg fun h=>h2 h.1,if_neg h2,if_neg fun h=>h2 h.1];grind
  ·exact ab7
 exact⟨hp.next_fallen,ho,hs,fun i hin=>by have:=hle i hin;grind,fun i hn=>by
  have h1:=hp.next_gt i hn;have h2:=hup i (hp.next_fallen i hn).1;grind⟩
theorem Pay.stop {d:Day} (hd:d.OK) {f:Nat→Nat} {g:Nat→Rat} {P:Nat→Prop} {h:Nat→Rat} (hp:Pay d f g P h) (hi:Inv d f g) (hstop:∀ i,i<d.n→f i<10→d.U i (f i)<h i→P i):∀ i,i<d.n→h i=d.into (d.q f h) i:=by
 intro i hin;rw[hp.sys i hin];refine d.into_congr (fun c hc=>?_) i;unfold Day.l Day.q
 by_cases h1:c.rk<f c.fr
 ·rw[if_pos h1,if_pos h1]
 ·rw[if_neg h1,if_neg h1]
  by_cases h2:c.rk=f c.fr
  ·rw[if_pos h2]
   by_cases h3:P c.fr
   ·rw[if_pos ⟨h2,h3⟩,kB]
    have:=hp.ge _ h3;rw[h2];grind
   ·rw[if_neg fun h=>h3 h.2,ig]
    ·grind
    ·apply ab8
     intro hn;refine h3 (hstop _ (hd.fr c hc) (by rw[←h2];exact hd.rk c hc) ?_);rw[←h2];grind
  ·rw[if_neg fun h=>h2 h.1,if_neg h2]
end Go.Mini
