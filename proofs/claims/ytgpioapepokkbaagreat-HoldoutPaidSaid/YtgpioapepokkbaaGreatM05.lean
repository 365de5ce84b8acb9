/- A part of the proof. -/
import Derived.Test.YtgpioapepokkbaaGreatM04
set_option linter.unusedSimpArgs false
set_option linter.unusedVariables false
set_option linter.defProp false
set_option maxRecDepth 100000
set_option maxHeartbeats 4000000
noncomputable section
open Bool renaming and_assoc->UM,and_eq_false_iff->DH,and_eq_true->eQ,and_false->hs,and_true->vR,eq_iff_iff->kd,false_and->fC,not_eq_true->aoS,not_eq_true'->nS,not_false->dd,not_true->cF,or_eq_true->sP,or_false->mM,or_true->s0,true_and->g4
open Decidable renaming em->dq
open Int renaming add_zero->Ay,ediv_nonneg->EW,emod_nonneg->Ig,le_trans->aoK,mul_le_mul->H9,mul_nonneg->uA,tdiv_eq_ediv_of_nonneg->Av,toNat_natCast->g9,toNat_zero->rE
open List renaming all_append->aoR,all_eq_false->acg,all_eq_true->ld,append_assoc->gr,append_nil->fG,cons_append->ky,drop->ft,drop_append->oj,drop_succ_cons->w7,drop_zero->nG,filter_append->ql,filter_cons->abM,filter_cons_of_neg->u5,filter_cons_of_pos->tr,filter_nil->qm,flatten_append->A8,getD_eq_getElem?_getD->ei,getElem?_append_left->sM,getElem?_append_right->rR,getElem?_cons_succ->yC,getElem?_eq_getElem->bn,getElem?_map->bo,getElem_mem->nC,length->D,length_append->fO,length_cons->hQ,length_eq_zero_iff->Bt,length_filter_le->nZ,length_map->ar,length_pos_iff->CA,length_range->uj,length_set->hL,length_singleton->AZ,length_take->gE,mapM_cons->kr,map_append->kh,map_congr_left->mH,map_cons->eu,map_map->mK,map_nil->cR,mem_cons_of_mem->g5,mem_iff_getElem?->uk,mem_map->ef,mem_of_getElem?->dZ,mem_range->gQ,nil_append->ik,range->dD,range_succ->m5,replicate->dH,replicate_succ'->amW,set_append_left->am4,set_append_right->FF,set_cons_succ->Nr,take->fh,take_add_one->hF,take_length->mW,take_of_length_le->dt,take_zero->l3
open List.cons renaming injEq->bh
open Nat renaming add_comm->zO,eq_zero_or_pos->jG,le_refl->bM,le_trans->eZ,mul_one->dy,reduceEqDiff->dV,sub_self->lf,zero_le->fy
open Option renaming bind_none->nr,bind_some->ng,getD_some->Hu,map_eq_some_iff->dS,map_some->iY,toList_some->aoQ
open Option.some renaming inj->mD,injEq->cl
open Prod renaming ext->ej,ext_iff->xr
open Prod.mk renaming injEq->e2
open Rat renaming intCast_add->zo
namespace Go.Mini
open Go
def aB4 (T:ba)(nV:T xm=aQ xE)(jd:T vG=aQ v9){K:eT->bc->Prop}{kk:List gG}(ez:Mem)(n:Nat)(p:List Nat)(aF:(D p)<=60)(W:Nat->Nat->Rat)(cU:Nat->Rat)(i:Nat)(J:i<n)(wH:Rat)(aV:∀t,t<=(D p)->ec 708 (wH+bD t λk=>W (p.getD k 0) i*cU k))(cQ:∀k,k<(D p)->ec 438 (W (p.getD k 0) i*cU k)/\ec 54 (W (p.getD k 0) i)/\ec 384 (cU k))(amR amS amT amU:O)(bC:Nat)(amV:Option (Nat×List O))(tm:Nat->O)(m:Mem)
  (bP:tm 6=.M (.ay (p.map iS))) (cg:tm 7=.M (.ay (p.map (tw n W)))) (tB:tm 15=.M (.ay ((dz (D p) cU).map aU))) (nX:tm 17=amR) (lQ:tm 18=.M (.int .i64 i)) (mm:tm 20=.ptr 248020 bC 0) (zy:tm 110=amS) (zz:tm 111=amT) (rb:tm 112=amU) (Ow:tm 120=.M (.int .i64 (D p))) (Ox:tm 121=.M (.int .i64 0))
  (JP:m 248020=some (bC,(aU (ax wH)).map .M)) (Oy:m 248156=amV) (bw:dA 248 ez m)
  (dM:∀tm' m',tm' 6=.M (.ay (p.map iS))->tm' 7=.M (.ay (p.map (tw n W)))->tm' 15=.M (.ay ((dz (D p) cU).map aU))->tm' 17=amR->tm' 20=.ptr 248020 bC 0->tm' 110=amS->tm' 111=amT->tm' 112=amU->m' 248020=some (bC,(aU (ax (wH+bD (D p) λk=>W (p.getD k 0) i*cU k))).map .M)->m' 248156=amV->dA 248 ez m'->cw T K kk (.exit 8) ⟨tm',m'⟩) :
  wp T (wc.body.sub [1,1,1,1,1,1,1,1,1,0,1,0,0,0,1,1,0,0,1,1,0,1,0]) (cw T K kk) ⟨tm,m⟩:=by
 simp only[wc,eh.sub]
 refine da [6,7,15,17,18,20,110,111,112,120] [248156] (λ(k:Nat) tm m=>k<=D p/\tm 121=.M (.int .i64 k)/\m 248020=some (bC,(aU (ax (wH+bD k λk=>W (p.getD k 0) i*cU k))).map .M)/\dA 248 ez m) (λk=>D p-k) 0 (by
  refine⟨by omega,Ox,?_,bw⟩
  rw[JP,bD,Rat.add_zero]) ?_
 intro vs ms aW aR;simp only[go_sem,go_sem_proc,bP,cg,tB,nX,lQ,mm,zy,zz,rb,Ow,Oy] at aW aR;subst aW aR;clear bP cg tB nX lQ mm zy zz rb Ow Ox JP Oy bw tm m;rintro k tm m I hm ⟨Jh,Ox,JP,bw⟩;simp only[go_sem,go_sem_proc,bh] at I hm;obtain⟨bP,cg,tB,nX,lQ,mm,zy,zz,rb,Ow⟩:=I;rcases dq (k<D p) with aq|ca
 ·have d1:decide ((k:Int)<(D p:Int))=true:=cX;have ct:=e0 (i:=k) (by omega);obtain⟨wD,Q⟩:∃c,p[k]?=some c:=⟨_,bn aq⟩;have k0:p.getD k 0=wD:=by rw[ei,Q];rfl
  obtain⟨fA,hl,pM⟩:=cQ k aq;have abw:=aV k (by omega);rw[k0] at fA hl;have hmul:=alv (iV hl (by omega)) (iV pM (by omega)) (aaR hl pM (by omega));have kV:=alu (iV abw (by omega)) (iV fA (by omega)) (Df abw fA (by omega))
  have X:(wH+bD (k+1) λk=>W (p.getD k 0) i*cU k)=wH+bD k (λk=>W (p.getD k 0) i*cU k)+W wD i*cU k:=by
   rw[bD,k0];grind
  have a8:=wy (W wD) J;have aB5:=wy cU aq;rw[<-X] at kV;clear abw fA hl pM cQ aV X dM;generalize ax (wH+bD k λk=>W (p.getD k 0) i*cU k)=F1 at *;generalize aB6:ax (wH+bD (k+1) λk=>W (p.getD k 0) i*cU k)=F2 at *;generalize ax (W wD i*cU k)=F3 at *;generalize ax (W wD i)=F4 at *;generalize ax (cU k)=F5 at *;obtain⟨⟨cH,cY⟩,⟨ep,fi⟩⟩:=F1;obtain⟨⟨c6,eB⟩,⟨jA,lT⟩⟩:=F2;obtain⟨⟨f1,f2⟩,⟨f3,f4⟩⟩:=F3;obtain⟨⟨cr,b6⟩,⟨ga,iQ⟩⟩:=F4;obtain⟨⟨bS,cM⟩,⟨dj,iT⟩⟩:=F5;simp only[aU,eu,cR] at hmul kV JP;refine ai ?_;repeat' (intro h<;>simp only[h,go_sem,go_sem_proc,nV,jd,bP,cg,tB,nX,lQ,mm,zy,zz,rb,Ow,Ox,JP,hm,d1,ct,Q,tw,a8,aB5,hmul,kV,aU,ar,bo,bne,beq_self_eq_true,cF]<;>try refine ah ?_ ?_)
  refine⟨k+1,by omega,by omega,rfl,by rw[aB6],by repeat first|exact bw|refine dA.eN ?_ (by decide)⟩
 ·have d1:decide ((k:Int)<(D p:Int))=false:=cA;obtain rfl:k=D p:=by omega
  refine ai ?_;repeat' (intro h<;>simp only[h,go_sem,go_sem_proc,bP,cg,tB,nX,lQ,mm,zy,zz,rb,Ow,Ox,d1]<;>try refine ah ?_ ?_)
  refine dM _ _ ?_ ?_ ?_ ?_ ?_ ?_ ?_ ?_ JP hm bw<;>simp only[e8,dV,if_false,bP,cg,tB,nX,mm,zy,zz,rb]
def TQ (a:c0):Data:=.cP [.ay ((dz (D a.cash) ((aB a.cash a.cs).fc (bG a.aP) (fw a.P))).map aU),.bool true]
def abx:List O->Mem->Option Data:=Bf (λ(a:c0) args mem=>args=[.ref 228023 a.g 1 0 (D a.cash)]/\TO a mem) TQ
def aB7 (a:c0)(mem:Mem)(h:TO a mem):abx [.ref 228023 a.g 1 0 (D a.cash)] mem=some (TQ a):=by
 refine Od (a:=a) ?_ ⟨rfl,h⟩;rintro a b args mem ⟨az,aD⟩ ⟨bX,dE⟩;rw[c0.uniq aD.at_ dE.at_]
def JQ (l:List Int):l.map bJ=a6 aC l:=by
 unfold a6
 induction l with
 |nil=>rfl
 |cons a l av=>rw[eu,eu,List.flatten_cons,kh,<-av];rfl
def aB8 (n:Nat):(dH n [O.M (.int .i64 0)]).flatten=(bA n λ_=>(0:Int)).map bJ:=by
 induction n with
 |zero=>rfl
 |succ n av=>rw[amW,A8,av];simp[bA,m5,bJ]
def aB9 (T:ba)(kG:T om=aQ ss)(abv:T QP=pL TC)(aCa:T XM=pL TG)(nV:T xm=aQ xE)(jd:T vG=aQ v9)(a:c0)(mem:Mem)(aO:TO a mem):
  wp T wc.body (me wc.res λm mem'=>b5 6 emp m=some (TQ a)/\dA 248 mem mem') ⟨iC [.ref 228023 a.g 1 0 (D a.cash)],mem⟩:=by
 have bH:=aO.at_;have X:=aO.JE.zw;have lU:=aO.hd;have aH:=X.k3;have Jd:(8*D a.cash<=140737488355328)=True:=eq_true (by omega);have C6:(D a.cash<=maxLen)=True:=eq_true (by unfold maxLen;omega);have amX:mem 248094=none:=aO.h7 248094 (by decide);have amY:mem 248098=none:=aO.h7 248098 (by decide);have Ss:mem 248029=none:=aO.h7 248029 (by decide);have aV:=aB8 (D a.cash)
 have kL:(bA (D a.cash) λj=>oA a 0 j)=bA (D a.cash) λ_=>(0:Int):=k4 λj _=>by
  unfold oA;rw[ae (by omega),aBP];rfl
 refine pf ?_;simp only[wc];simp only[go_sem,go_sem_proc,Jd,C6,amX,amY,Ss,aV];refine aBX T abv a mem aO (.ref 228023 a.g 1 0 (D a.cash)) (.ref 228023 a.g 1 0 (D a.cash)) (.ref 228023 a.g 1 0 (D a.cash)) 0 0 0 _ _ ?_ ?_ ?_ ?_ ?_ ?_ ?_ ?_ ?_ ?_ ?_ ((((dA.refl _ _).eN (by decide)).eN (by decide)).eN (by decide)) ?_
 all_goals first|(intro tm m pN lA fZ iT nv ka jP mn n6 n7 bw)|(simp only[e8,dV,if_false,if_true];done)|(simp only[e8,dV,if_false,if_true];rfl)|(simp only[a4,dV,if_false,if_true,kL])|skip
 have c9:(bA (D a.cash) λj=>oA a (D a.cash) j)=bA (D a.cash) λi=>lv a.cash a.cs (bG a.aP) i:=k4 λj ag=>by
  unfold oA;rw[ab ag,amw,amv bH.can λi J=>(c0.Om bH aO.JE J).2]
 rw[c9,JQ] at mn;have gi:∀iB,dA 248 mem iB->TG [.ref 228023 a.g 1 0 (D a.cash),.M (.ay ((bA (D a.cash) λi=>lv a.cash a.cs (bG a.aP) i).map aC)),.M (.ay (a.p.map iS)),.M (.ay (a.p.map (tw (D a.cash) a.W)))] iB=some (.cP [.ay (a.xs.map aU),.bool true]):=λiB h=>aBs a iB ⟨bH.aE h (by decide) aH,aO.x7.aE h (by decide),aO.JE,lU⟩;have amZ:(bA (D a.cash) λi=>lv a.cash a.cs (bG a.aP) i).length=D a.cash:=gY _ _;have aCb:∀i,i<(D a.cash)->(bA (D a.cash) λi=>lv a.cash a.cs (bG a.aP) i)[i]?=some (lv a.cash a.cs (bG a.aP) i):=λi J=>jh _ J;generalize aPf:(bA (D a.cash) λi=>lv a.cash a.cs (bG a.aP) i)=ST at *;have aby:=λ(K:bc->Prop) (st:bc)=>oQ (K:=K) (st:=st) iH 5 248029 0 ST;rw[amZ] at aby;have Gf:=λ(K:bc->Prop) (st:bc)=>oQ (K:=K) (st:=st) zi 6 248094 pN a.p;have TR:=λ(K:bc->Prop) (st:bc)=>oQ (K:=K) (st:=st) (amK (D a.cash) a.W) 7 248098 lA a.p;have am0:=λcr b6 ga aG c2 c3=>gi (a4 (a4 (a4 m 248029 cr aG) 248094 b6 c2) 248098 ga c3) (((bw.eN (by decide)).eN (by decide)).eN (by decide));simp only[go_sem,go_sem_proc,aCa,fZ,iT,nv,ka,jP,mn,n6,n7,aby,Gf,TR,am0,amZ,ar,cF];have nD:(D a.p)<=D a.cash:=amJ _ _;have gk:=λi (J:i<D a.cash) t (bz:t<=D a.p)=>az7 X lU J bz;have TS:=λi (J:i<D a.cash)=>lU.good.akS (d:=aB a.cash a.cs) J;have Bm:cO (fw a.P) (aB a.cash a.cs).n=a.p:=rfl;have aCc:cO (fw a.P) (D a.cash)=a.p:=rfl;have B9:a.xs=dz (D a.p) λk=>(aB a.cash a.cs).fc (bG a.aP) (fw a.P) (a.p.getD k 0)-(aB a.cash a.cs).U (a.p.getD k 0) (bG a.aP (a.p.getD k 0)):=rfl;rw[Bm] at TS;rw[aCc] at gk;rw[B9];generalize mQ:(λk=>(aB a.cash a.cs).fc (bG a.aP) (fw a.P) (a.p.getD k 0)-(aB a.cash a.cs).U (a.p.getD k 0) (bG a.aP (a.p.getD k 0)))=cU at *;have AW:∀k,(aB a.cash a.cs).fc (bG a.aP) (fw a.P) (a.p.getD k 0)-(aB a.cash a.cs).U (a.p.getD k 0) (bG a.aP (a.p.getD k 0))=cU k:=λk=>congrFun mQ k;simp only[AW] at gk TS;have JR:=λi=>N3 X.right (bG a.aP) i;have am1:=λi=>X.steady (bG a.aP) i;clear aby Gf TR gi am0 B9 mQ AW fZ iT nv ka jP mn n6 n7 amX amY Ss aV kL Jd C6
 refine da [6,7,15,110,111] [] (λ((i,g):Nat×Nat) tm iB=>i<=D a.cash/\tm 112=.M (.int .i64 i)/\tm 17=.ref 248156 g 4 0 i/\iB 248156=some (g,a6 aU (dz i ((aB a.cash a.cs).fc (bG a.aP) (fw a.P))))/\dA 248 mem iB) (λ(i,_)=>D a.cash-i) (0,gH (m 248156)) (by
  refine⟨by omega,rfl,rfl,by simp[a4];rfl,by repeat first|exact bw|refine dA.eN ?_ (by decide)⟩) ?_
 intro vs ms aW aR;simp only[go_sem,go_sem_proc] at aW aR;subst aW aR;clear bw m tm;rintro⟨i,g⟩ tm m I-⟨cn,rb,nX,Oy,bw⟩;simp only[go_sem,go_sem_proc,bh] at I;obtain⟨bP,cg,tB,zy,zz⟩:=I;rcases dq (i<D a.cash) with J|ca
 ·have d1:decide ((i:Int)<(D a.cash:Int))=true:=cX;have ct:=e0 (i:=i) (by omega);have TT:=aCb i J;have hw:=Dn _ (rn (z:=lv a.cash a.cs (bG a.aP) i) (by have:=am1 i;omega) (by have:=am1 i;omega));rw[JR] at hw;have abz:=gk i J;have aCd:=TS i J;generalize q3:(aB a.cash a.cs).st (bG a.aP) i=wH at *;generalize g7:ax wH=eS at *;obtain⟨⟨qR,nJ⟩,⟨tv,Gc⟩⟩:=eS;simp only[aU] at hw;simp only[go_sem,go_sem_proc,kG,bP,cg,tB,nX,zy,zz,rb,d1,TT,hw,aC,ar,bo];refine aB4 T nV jd mem (D a.cash) a.p (by omega) a.W cU i J wH (λt bz=>(abz t bz).1) (λk I=>⟨(abz 0 (by omega)).2.1 k I,(Te X lU (xZ I).2 i).1,(abz 0 (by omega)).2.2 k I⟩) (.ref 248156 g 4 0 i) (.M (.ay (ST.map aC))) (.M (.int .i64 (D a.cash))) (.M (.int .i64 i)) (gH (m 248020)) (some (g,a6 aU (dz i ((aB a.cash a.cs).fc (bG a.aP) (fw a.P))))) _ _ ?_ ?_ ?_ ?_ ?_ ?_ ?_ ?_ ?_ ?_ ?_ ?_ ?_ ((bw.eN (by decide)).eN (by decide)) ?_
  all_goals first|(intro tm' m' ka jP aCe aCf abr aCg aCh ZQ abA aCi x6)|(simp only[e8,dV,if_false,if_true,bP,cg,tB,nX,zy,zz,rb];done)|(simp only[a4,dV,if_false,if_true,Oy];done)|(simp only[a4,if_true];rw[g7];rfl)
  have abB:wH+(bD (D a.p) λk=>a.W (a.p.getD k 0) i*cU k)=(aB a.cash a.cs).fc (bG a.aP) (fw a.P) i:=aCd.symm;rw[abB] at abA;have aW:=amn i ((aB a.cash a.cs).fc (bG a.aP) (fw a.P));have b0:(dz i ((aB a.cash a.cs).fc (bG a.aP) (fw a.P))).length=i:=rm _ _;have dN:=λ(aL:bF) cs kt=>l8 mY Fq 248156 g 64 (dz i ((aB a.cash a.cs).fc (bG a.aP) (fw a.P))) aL (cs:=cs) kt (by omega) (by omega);simp only[b0] at dN;generalize dz i ((aB a.cash a.cs).fc (bG a.aP) (fw a.P))=V at *;generalize vZ:dz (i+1) ((aB a.cash a.cs).fc (bG a.aP) (fw a.P))=V2 at *;generalize ax ((aB a.cash a.cs).fc (bG a.aP) (fw a.P) i)=aL at *;obtain⟨⟨cH,cY⟩,⟨ep,fi⟩⟩:=aL;have tx:=dN ((cH,cY),(ep,fi)) _ rfl;rw[<-aW] at tx;simp only[aU,eu,cR] at tx abA;refine ai ?_;repeat' (intro (aw:_=_)<;>simp only[aw,go_sem,go_sem_proc,ka,jP,aCe,aCf,abr,aCg,aCh,ZQ,abA,aCi,tx,ct]<;>try refine ah ?_ ?_)
  exact⟨(i+1,g+1),by dsimp only;omega,by dsimp only;omega,rfl,rfl,by rw[<-vZ],by repeat first|exact x6|refine dA.eN ?_ (by decide)⟩
 ·have d1:decide ((i:Int)<(D a.cash:Int))=false:=cA;obtain rfl:i=D a.cash:=by omega
  have jH:(dz (D a.cash) ((aB a.cash a.cs).fc (bG a.aP) (fw a.P))).length=D a.cash:=rm _ _;have nx:=λ(K:bc->Prop) (st:bc)=>oQ (K:=K) (st:=st) mY 17 248156 g (dz (D a.cash) ((aB a.cash a.cs).fc (bG a.aP) (fw a.P)));rw[jH] at nx;refine ai ?_;repeat' (intro (aw:_=_)<;>simp only[aw,go_sem,go_sem_proc,bP,cg,tB,nX,zy,zz,rb,Oy,d1,nx]<;>try refine ah ?_ ?_)
  exact⟨_,rfl,rfl,by repeat first|exact bw|refine dA.eN ?_ (by decide)|refine dA.kill ?_ (by decide)⟩
def c0.hI (a:c0)(p:Nat->Bool):c0:={ a with P:=n2 (D a.cash) p }
def c0.TU (a:c0)(p:Nat->Bool){i:Nat}(J:i<D a.cash):(a.hI p).gO i=(a.gO i).sp (p i):=by
 have:(n2 (D a.cash) p).getD i false=p i:=by rw[ei,Tq _ J];rfl
 unfold c0.gO c0.hI oy.sp;dsimp only;rw[this]
def c0.eF.am2 {a:c0}{m:Mem}{p:Nat->Bool}(h:(a.hI p).eF m){i:Nat}(J:i<D a.cash)(b:Bool):(a.hI λj=>if j=i then b else p j).eF (a4 m (228500+i) (a.gs.getD i 0) (fF ((a.gO i).sp b))):=by
 refine⟨h.can,h.aP,Tp _ _,h.Tv,?_,λj ag=>?_⟩
 ·have:=h.row;simp only[a4];rw[ae (show ¬ ((228023:Nat)=228500+i) by omega)];exact this
 ·rw[c0.TU a _ ag];simp only[a4]
  by_cases h8:j=i
  ·subst h8;rw[ab rfl,ab rfl]
   rfl
  ·rw[ae (show ¬ ((228500+j:Nat)=228500+i) by omega),ae h8];have:=h.dr j ag;rw[c0.TU a _ ag] at this;exact this
def c0.aCj {a:c0}(h:(D a.P)=D a.cash):a.hI (λj=>a.P.getD j false)=a:=by
 have:n2 (D a.cash) (λj=>a.P.getD j false)=a.P:=by
  refine Oi (d:=false) (Tp _ _) h λj ag=>?_;rw[ei,Tq _ ag];rfl
 unfold c0.hI;rw[this]
def c0.JS (a:c0){p q:Nat->Bool}(h:∀i,i<(D a.cash)->p i=q i):a.hI p=a.hI q:=by
 unfold c0.hI;rw[aAz h]
def x8 (n:Nat)(mem m:Mem):Prop:=∀k,(∀i,i<n->k≠228500+i)->m k=mem k
def x8.eN {n i g:Nat}{cs:List O}{mem m:Mem}(h:x8 n mem m)(J:i<n):x8 n mem (a4 m (228500+i) g cs):=λk I=>by
 simp only[a4];rw[ae (I i J)];exact h k I
def x8.no {n j:Nat}{mem m:Mem}(h:x8 n mem m)(aH:n<=6)(ag:j≠228)(hm:ow j mem):ow j m:=λk I=>by
 rw[h k λi J=>by omega]
 exact hm k I
def aCk (T:ba)(kG:T om=aQ ss)(eK:T kP=aQ pz){K:eT->bc->Prop}{kk:List gG}(ez:Mem)(a:c0)(p:Nat->Bool)(wF:a.JD)(h:Nat->Rat)(jT:∀i,i<(D a.cash)->dc (h i))(tm:Nat->O)(m:Mem)
  (bH:(a.hI p).eF m) (bw:x8 (D a.cash) ez m) (bZ:tm 0=.ref 228023 a.g 1 0 (D a.cash)) (bP:tm 6=.M (.ay ((dz (D a.cash) h).map aU))) (eb:tm 8=.M (.bool false)) (wB:tm 28=.ref 228023 a.g 1 0 (D a.cash)) (Ds:tm 29=.M (.int .i64 (D a.cash))) (jE:tm 30=.M (.int .i64 0))
  (dM:∀tm' m',tm' 0=.ref 228023 a.g 1 0 (D a.cash)->tm' 6=.M (.ay ((dz (D a.cash) h).map aU))->tm' 8=.M (.bool (zu (aB a.cash a.cs) (bG a.aP) h p (D a.cash)))->(a.hI (ox (aB a.cash a.cs) (bG a.aP) h p (D a.cash))).eF m'->x8 (D a.cash) ez m'->cw T K kk (.exit 4) ⟨tm',m'⟩) :
  wp T (IA.body.sub [1,1,0,0,0,1,1,1,0,1,0]) (cw T K kk) ⟨tm,m⟩:=by
 simp only[IA,eh.sub];obtain⟨X,g3⟩:=wF;have aH:=X.k3
 refine da [0,6,28,29] [] (λ(i:Nat) tm m=>i<=D a.cash/\tm 30=.M (.int .i64 i)/\tm 8=.M (.bool (zu (aB a.cash a.cs) (bG a.aP) h p i))/\(a.hI (ox (aB a.cash a.cs) (bG a.aP) h p i)).eF m/\x8 (D a.cash) ez m) (λi=>D a.cash-i) 0 (by
  refine⟨by omega,jE,eb,?_,bw⟩
  have:a.hI (ox (aB a.cash a.cs) (bG a.aP) h p 0)=a.hI p:=a.JS λj _=>by
   unfold ox;rw[cA,fC,mM]
  rw[this];exact bH) ?_
 intro vs ms aW aR;simp only[go_sem,go_sem_proc,bZ,bP,wB,Ds] at aW aR;subst aW aR;clear bZ bP eb wB Ds jE bH bw tm m;rintro i tm m I-⟨J,jE,eb,bH,bw⟩;simp only[go_sem,go_sem_proc,bh] at I;obtain⟨bZ,bP,wB,Ds⟩:=I;rcases dq (i<D a.cash) with aq|ca
 ·have d1:decide ((i:Int)<(D a.cash:Int))=true:=cX;have ct:=e0 (i:=i) (by omega);have qn:a.aP.getD i 10=(bG a.aP i:Int)/\bG a.aP i<=10:=c0.Om (a:=a.hI (ox (aB a.cash a.cs) (bG a.aP) h p i)) bH ⟨X,g3⟩ aq;obtain⟨qn,x4⟩:=qn;have fo:m 228023=some (a.g,bA (D a.cash) λi => .ptr (228500+i) (a.gs.getD i 0) 0):=bH.row;have fQ:m (228500+i)=some (a.gs.getD i 0,fF ((a.hI (ox (aB a.cash a.cs) (bG a.aP) h p i)).gO i)):=bH.dr i aq;rw[c0.TU a _ aq,alH] at fQ;have kN:=wC (jh (λi=>O.ptr (228500+i) (a.gs.getD i 0) 0) aq);have b0:(bA (D a.cash) λi=>O.ptr (228500+i) (a.gs.getD i 0) 0).length=D a.cash:=gY _ _;have cT:((a.gO i).sp (p i)).df:=⟨(a.x3 i).de,(a.x3 i).us⟩;have hlen:=Dr cT;have o3:fh 1 (ft 22 (fF ((a.gO i).sp (p i))))=[bJ (bG a.aP i:Int)]:=(Oh cT).trans (congrArg (λx=>[bJ x]) qn);have wG:fh 1 (ft 23 (fF ((a.gO i).sp (p i))))=[n1 (p i)]:=amc cT;have Bj:=Og cT (k:=bG a.aP i) (z:=cK a.cs i (bG a.aP i:Nat)) (jh _ (by omega));have eP:_=fF ((a.gO i).sp true):=amd cT true;have nW:=bH.am2 aq true;have aR:=aAA (aB a.cash a.cs) (bG a.aP) h p i
  have yw:(p i=true\/wz (aB a.cash a.cs) (bG a.aP) h i=false)->a.hI (ox (aB a.cash a.cs) (bG a.aP) h p (i+1))=a.hI (ox (aB a.cash a.cs) (bG a.aP) h p i):=λaX=>a.JS λj _=>by
   rw[alI]
   by_cases ag:j=i
   ·subst ag;rw[ab rfl,alH];rcases aX with F|F
    ·rw[F];rfl
    ·rw[F,mM]
   ·rw[ae ag]
  have eH:i+1<=D a.cash:=by omega
  have aI:bG a.aP i<11:=by omega
  have cS:(11+bG a.aP i+1<=24)=True:=eq_true (by omega);have dk:(23+1<=24)=True:=eq_true (by omega);generalize JO:(bA (D a.cash) λi=>O.ptr (228500+i) (a.gs.getD i 0) 0)=x5 at *;have o4:228500+i=228500+i:=rfl;generalize va:228500+i=ed at *;generalize Ov:fF ((a.gO i).sp (p i))=DC at *;rcases d2:decide ((bG a.aP i:Int)<10)
  ·have lF:wz (aB a.cash a.cs) (bG a.aP) h i=false:=by
    unfold wz;rw[lZ (by have:=of_decide_eq_false d2;omega),fC]
   rw[lF,hs,mM] at aR;refine ai ?_;repeat' (intro (aw:_=_)<;>simp only[aw,go_sem,go_sem_proc,bZ,bP,eb,wB,Ds,jE,fo,fQ,kN,b0,hlen,o3,d1,d2,ct,aq,eH,bJ,n1,dy]<;>try refine ah ?_ ?_)
   exact⟨i+1,by omega,by omega,rfl,by rw[aR],by rw[yw (.inr lF)];exact bH,bw⟩
  ·rcases uc:p i
   ·rw[uc] at wG;have mg:=X.upto i (bG a.aP i);have Gg:fa (cK a.cs i (bG a.aP i:Nat)):=rn (by omega) (by omega);have hw:=Dn _ Gg;have uD:=zt (jT i aq) (rq Gg);have kx:decide (je (h i) ((cK a.cs i (bG a.aP i:Nat):Int):Rat)>0)=decide (((cK a.cs i (bG a.aP i:Nat):Int):Rat)<h i):=abd
    have bE:wz (aB a.cash a.cs) (bG a.aP) h i=decide (((cK a.cs i (bG a.aP i:Nat):Int):Rat)<h i):=by
     unfold wz;rw[u0 X.right,h2 (show bG a.aP i<10 by have:=of_decide_eq_true d2;omega),g4]
    rw[<-bE] at kx;have Oz:=wy h aq;generalize aCl:ax (h i)=hR at *;generalize mQ:ax ((cK a.cs i (bG a.aP i:Nat):Int):Rat)=cU at *;obtain⟨⟨c6,eB⟩,⟨jA,lT⟩⟩:=cU;obtain⟨⟨cH,cY⟩,⟨ep,fi⟩⟩:=hR;simp only[aU] at hw uD;rcases lF:wz (aB a.cash a.cs) (bG a.aP) h i
    ·rw[lF] at kx;rw[uc,lF,hs,mM] at aR;refine ai ?_;repeat' (intro (aw:_=_)<;>simp only[aw,go_sem,go_sem_proc,kG,eK,bZ,bP,eb,wB,Ds,jE,fo,fQ,kN,b0,hlen,o3,wG,Bj,d1,d2,ct,aq,eH,aI,cS,hw,uD,kx,Oz,aU,bJ,n1,dy,dd,cF,ar,bo]<;>try refine ah ?_ ?_)
     exact⟨i+1,by omega,by omega,rfl,by rw[aR],by rw[yw (.inr lF)];exact bH,bw⟩
    ·rw[lF] at kx;rw[uc,lF,dd,g4,s0] at aR
     have gJ:a.hI (ox (aB a.cash a.cs) (bG a.aP) h p (i+1))=a.hI λj=>if j=i then true else ox (aB a.cash a.cs) (bG a.aP) h p i j:=a.JS λj _=>by
      rw[alI,lF,s0]
     rw[<-gJ] at nW;have oz:=bw.eN (g:=a.gs.getD i 0) (cs:=fF ((a.gO i).sp true)) aq;rw[va] at oz;refine ai ?_;repeat' (intro (aw:_=_)<;>simp only[aw,go_sem,go_sem_proc,kG,eK,bZ,bP,eb,wB,Ds,jE,fo,fQ,kN,b0,hlen,o3,wG,Bj,eP,d1,d2,ct,aq,eH,aI,cS,dk,hw,uD,kx,Oz,aU,bJ,n1,dy,dd,cF,ar,bo]<;>try refine ah ?_ ?_)
     exact⟨i+1,by omega,by omega,rfl,by rw[aR],nW,oz⟩
   ·rw[uc] at wG;rw[uc,cF,fC,mM] at aR;refine ai ?_;repeat' (intro (aw:_=_)<;>simp only[aw,go_sem,go_sem_proc,bZ,bP,eb,wB,Ds,jE,fo,fQ,kN,b0,hlen,o3,wG,d1,d2,ct,aq,eH,bJ,n1,dy,cF]<;>try refine ah ?_ ?_)
    exact⟨i+1,by omega,by omega,rfl,by rw[aR],by rw[yw (.inl uc)];exact bH,bw⟩
 ·have d1:decide ((i:Int)<(D a.cash:Int))=false:=cA;obtain rfl:i=D a.cash:=by omega
  refine ai ?_;repeat' (intro (aw:_=_)<;>simp only[aw,go_sem,go_sem_proc,bZ,bP,eb,wB,Ds,jE,d1]<;>try refine ah ?_ ?_)
  refine dM _ _ ?_ ?_ ?_ bH bw<;>simp only[e8,dV,if_false,bZ,bP,eb]
structure abC (a:c0) (mem:Mem):Prop where
 at_:a.eF mem
 h7:ow 248 mem
 iZ:ow 255 mem
 x7:ow 256 mem
 JE:a.JD
 inv:∃g,Inv (aB a.cash a.cs) (bG a.aP) g
def TV (a:c0)(mem:Mem):O->Mem->Prop:=λm mem'=>m=.cP [.M (.ay ((dz (D a.cash) ((aB a.cash a.cs).top (bG a.aP))).map aU)),.M (.bool true)]/\∃p,(a.hI p).eF mem'/\x8 (D a.cash) mem mem'
def Gh:List O->Mem->Option (O->Mem->Prop):=uR (λ(a:c0) args mem=>args=[.ref 228023 a.g 1 0 (D a.cash)]/\abC a mem) TV
def aCm (a:c0)(mem:Mem)(h:abC a mem):Gh [.ref 228023 a.g 1 0 (D a.cash)] mem=some (TV a mem):=by
 refine aly (a:=a) ?_ ⟨rfl,h⟩;rintro a b args mem ⟨az,aD⟩ ⟨bX,dE⟩;rw[c0.uniq aD.at_ dE.at_]
def aCn (T:ba)(aCo:T XJ=pL abx)(kG:T om=aQ ss)(eK:T kP=aQ pz)(a:c0)(mem:Mem)(aO:abC a mem):
  wp T IA.body (me IA.res (TV a mem)) ⟨iC [.ref 228023 a.g 1 0 (D a.cash)],mem⟩:=by
 obtain⟨am3,h7,iZ,x7,wF,Ei,hinv⟩:=aO;have X:=wF.zw;have aH:=X.k3;have Y:=X.ok;refine pf ?_;simp only[IA];simp only[go_sem,go_sem_proc]
 refine da [0,11,12] [] (λ(i:Nat) tm m=>i<=D a.cash/\tm 13=.M (.int .i64 i)/\(a.hI λj=>if j<i then false else a.P.getD j false).eF m/\x8 (D a.cash) mem m) (λi=>D a.cash-i) 0 (by
  refine⟨by omega,rfl,?_,λ_ _=>rfl⟩
  have:(a.hI λj=>if j<0 then false else a.P.getD j false)=a:=(a.JS λj _=>by rw[ae (by omega)]).trans (c0.aCj am3.pl);rw[this];exact am3) ?_
 intro vs ms aW aR;simp only[go_sem,go_sem_proc] at aW aR;subst aW aR;rintro i tm m I-⟨J,gL,bH,bw⟩;simp only[go_sem,go_sem_proc,bh] at I;obtain⟨bZ,jU,fU⟩:=I;rcases dq (i<D a.cash) with aq|ca
 ·have d1:decide ((i:Int)<(D a.cash:Int))=true:=cX;have ct:=e0 (i:=i) (by omega);have fo:m 228023=some (a.g,bA (D a.cash) λi => .ptr (228500+i) (a.gs.getD i 0) 0):=bH.row;have fQ:m (228500+i)=some (a.gs.getD i 0,_):=bH.dr i aq;rw[c0.TU a _ aq] at fQ;have kN:=wC (jh (λi=>O.ptr (228500+i) (a.gs.getD i 0) 0) aq);have b0:(bA (D a.cash) λi=>O.ptr (228500+i) (a.gs.getD i 0) 0).length=D a.cash:=gY _ _;have cT:((a.gO i).sp (if i<i then false else a.P.getD i false)).df:=⟨(a.x3 i).de,(a.x3 i).us⟩;have hlen:=Dr cT;have eP:_=fF ((a.gO i).sp false):=amd cT false;have nW:=bH.am2 aq false;have oz:=bw.eN (g:=a.gs.getD i 0) (cs:=fF ((a.gO i).sp false)) aq
  have gJ:(a.hI λj=>if j<i+1 then false else a.P.getD j false)=a.hI λj=>if j=i then false else if j<i then false else a.P.getD j false:=a.JS λj _=>by
   by_cases F:j=i
   ·rw[ab F,ab (by omega)]
   ·rw[ae F]
    by_cases G:j<i
    ·rw[ab G,ab (by omega)]
    ·rw[ae G,ae (by omega)]
  rw[<-gJ] at nW;have eH:i+1<=D a.cash:=by omega
  have dk:(23+1<=24)=True:=eq_true (by omega);generalize JO:(bA (D a.cash) λi=>O.ptr (228500+i) (a.gs.getD i 0) 0)=x5 at *;generalize va:228500+i=ed at *;generalize Ov:fF ((a.gO i).sp (if i<i then false else a.P.getD i false))=DC at *;refine ai ?_;repeat' (intro (aw:_=_)<;>simp only[aw,go_sem,go_sem_proc,bZ,jU,fU,gL,fo,fQ,kN,b0,hlen,eP,d1,ct,aq,eH,dk,bJ,n1,dy]<;>try refine ah ?_ ?_)
  exact⟨i+1,by omega,by omega,rfl,nW,oz⟩
 ·have d1:decide ((i:Int)<(D a.cash:Int))=false:=cA;obtain rfl:i=D a.cash:=by omega
  have gJ:(a.hI λj=>if j<(D a.cash) then false else a.P.getD j false)=a.hI λ_=>false:=a.JS λj ag=>by rw[ab ag]
  rw[gJ] at bH;simp only[go_sem,go_sem_proc,bZ,jU,fU,gL,d1]
  refine da [0] [] (λ(p:Nat->Bool) tm m=>(a.hI p).eF m/\x8 (D a.cash) mem m/\tt (aB a.cash a.cs) (bG a.aP) (fw (n2 (D a.cash) p))) (λp=>m4 (D a.cash) λi=>if p i then 0 else 1) (λ_=>false) (by
   refine⟨bH,bw,?_⟩;rw[aAC];exact⟨Y,Ei,hinv,iv.first Y hinv⟩) ?_
  intro vs ms aW aR;simp only[go_sem,go_sem_proc,bZ] at aW aR;subst aW aR;clear bZ jU fU gL bw bH;rintro p tm m bZ-⟨bH,bw,lU⟩;simp only[go_sem,go_sem_proc,bh] at bZ;have gi:=aB7 (a.hI p) m ⟨bH,bw.no aH (by decide) h7,bw.no aH (by decide) iZ,bw.no aH (by decide) x7,⟨wF.zw,wF.g3⟩,lU⟩;have ha:TQ (a.hI p)=.cP [.ay ((dz (D a.cash) ((aB a.cash a.cs).fc (bG a.aP) (fw (n2 (D a.cash) p)))).map aU),.bool true]:=rfl;rw[ha,show (a.hI p).g=a.g from rfl,show (a.hI p).cash=a.cash from rfl] at gi;simp only[go_sem,go_sem_proc,aCo,bZ,gi,cF];refine aCk T kG eK m a p wF ((aB a.cash a.cs).fc (bG a.aP) (fw (n2 (D a.cash) p))) (λi J=>iV (ak9 X lU J) (by omega)) _ _ bH (λ_ _=>rfl) ?_ ?_ ?_ ?_ ?_ ?_ ?_
  all_goals first|(intro OA cv fZ ka kU z1 oz)|(simp only[e8,dV,if_false,if_true,bZ];done)
  obtain⟨cT,cr,rQ,Rl⟩:=lU;rcases hm:zu (aB a.cash a.cs) (bG a.aP) ((aB a.cash a.cs).fc (bG a.aP) (fw (n2 (D a.cash) p))) p (D a.cash)
  ·rw[hm] at kU;have ago:=Rl.akU Y rQ λi J F G=>Tr.2 ⟨J,aAE hm J F G⟩;rw[Jv (N:=D a.cash) ago] at ka;refine ai ?_;repeat' (intro (aw:_=_)<;>simp only[aw,go_sem,go_sem_proc,fZ,ka,kU,dd]<;>try refine ah ?_ ?_)
   exact⟨_,rfl,rfl,_,z1,λk I=>(oz k I).trans (bw k I)⟩
  ·rw[hm] at kU;refine ai ?_;repeat' (intro (aw:_=_)<;>simp only[aw,go_sem,go_sem_proc,fZ,ka,kU,cF]<;>try refine ah ?_ ?_)
   refine⟨_,aAD hm,z1,λk I=>(oz k I).trans (bw k I),?_⟩;have uO:=aAB (d:=aB a.cash a.cs) (f:=bG a.aP) (h:=(aB a.cash a.cs).fc (bG a.aP) (fw (n2 (D a.cash) p))) (p:=p);have kz:(aB a.cash a.cs).n=D a.cash:=rfl;rw[kz] at uO;rw[uO];exact⟨Y,cr,rQ,Rl.succ Y rQ⟩
def hP (c:Int)(q:Nat->O)(us:Nat->Int)(f:Int)(p:Bool):List O:=bJ c::(bA 10 q++((bA 11 us).map bJ++[bJ f,n1 p]))
def TW (c:Int)(q:Nat->O)(us:Nat->Int)(f:Int)(p:Bool):(hP c q us f p).length=24:=by
 simp[hP,gY]
def abD {c:Int}{q:Nat->O}{us:Nat->Int}{f:Int}{p:Bool}{k:Nat}(I:k<10):(hP c q us f p)[1+k]?=some (q k):=by
 unfold hP;rw[zO,yC,sM (by rw[gY];exact I)];exact jh q I
def aCp {c:Int}{q:Nat->O}{us:Nat->Int}{f:Int}{p:Bool}{k:Nat}(I:k<10):fh 1 (ft (1+k) (hP c q us f p))=[q k]:=wC (abD I)
def aCq {c:Int}{q:Nat->O}{us:Nat->Int}{f:Int}{p:Bool}{k:Nat}(I:k<11):fh 1 (ft (11+k) (hP c q us f p))=[.M (.int .i64 (us k))]:=by
 refine wC ?_;unfold hP;rw[show 11+k=(10+k)+1 by omega,yC,rR (by rw[gY];omega),gY,sM (by rw[ar,gY];omega),show 10+k-10=k by omega,bo,jh us I]
 rfl
def TX {l:List O}{k:Nat}{v:O}(I:k<D l):fh k l++[v]++ft (k+1) l=l.set k v:=by
 rw[List.set_eq_take_append_cons_drop,ab I];simp
def abE {c:Int}{q:Nat->O}{us:Nat->Int}{f:Int}{p:Bool}{k:Nat}(I:k<10)(v:O):(hP c q us f p).set (1+k) v=hP c (λj=>if j=k then v else q j) us f p:=by
 unfold hP;rw[zO,Nr,am4 _ _ (by rw[gY];exact I),Bi]
def aCr {c:Int}{q:Nat->O}{us:Nat->Int}{f:Int}{p:Bool}{k:Nat}(I:k<11)(v:Int):(hP c q us f p).set (11+k) (.M (.int .i64 v))=hP c q (λj=>if j=k then v else us j) f p:=by
 unfold hP;rw[show 11+k=(10+k)+1 by omega,Nr,FF _ _ (by rw[gY];omega),gY,am4 _ _ (by rw[ar,gY];omega),show 10+k-10=k by omega,<-Bi,List.map_set]
 rfl
def Bn {c:Int}{q uC:Nat->O}{us am5:Nat->Int}{f:Int}{p:Bool}(h:∀k,k<10->q k=uC k)(cj:∀k,k<11->us k=am5 k):hP c q us f p=hP c uC am5 f p:=by
 unfold hP;rw[k4 h,k4 cj]
def am6 (T:ba){K:eT->bc->Prop}{kk:List gG}(gq:Mem)(ed TY TZ:Nat)(c:Int)(q:Nat->O)(us:Nat->Int)(aG c2:Int)(r:Nat)(am:Int)(aa:r<10)(ad:∀j,0<=us j/\us j<=4000000000000000000)(uZ:0<=am/\am<=1000000000000000)(o4:ed≠228009)(am7 Dt am8 am9:O)(tm:Nat->O)(m:Mem)
  (c8:tm 5=am7) (fI:tm 9=.ptr 228009 TZ 0) (eJ:tm 10=.ptr ed TY 0) (jU:tm 11=.M (.int .i64 (r+1:Nat))) (ix:tm 25=Dt) (km:tm 26=am8) (lz:tm 27=am9) (aCs:gq 228009=some (TZ,[.M (.int .i64 aG),.M (.int .i64 c2),.M (.int .i64 r),.M (.int .i64 am)])) (JT:m ed=some (TY,hP c q us 10 false)) (bw:∀k,k≠ed->m k=gq k)
  (dM:∀tm' m',tm' 5=am7->tm' 25=Dt->tm' 26=am8->tm' 27=am9->m' ed=some (TY,hP c q (λj=>us j+if r<j then am else 0) 10 false)->(∀k,k≠ed->m' k=gq k)->cw T K kk (.exit 4) ⟨tm',m'⟩) :
  wp T (CM.body.sub [1,1,1,0,1,0,0,1,1,0,0,1,1,1,1,0]) (cw T K kk) ⟨tm,m⟩:=by
 simp only[CM,eh.sub]
 refine da [5,9,10,25,26,27] [] (λ(k:Nat) tm m=>r<k/\k<=11/\tm 11=.M (.int .i64 k)/\m ed=some (TY,hP c q (λj=>us j+if r<j/\j<k then am else 0) 10 false)/\∀k,k≠ed->m k=gq k) (λk=>11-k) (r+1) (by
  refine⟨by omega,by omega,jU,?_,bw⟩
  rw[JT]
  congr 2
  exact Bn (λ_ _=>rfl) λj _=>by rw[ae (by omega)];omega) ?_
 intro vs ms aW aR;simp only[go_sem,go_sem_proc,c8,fI,eJ,ix,km,lz] at aW aR;subst aW aR;clear c8 fI eJ jU ix km lz JT bw tm m;rintro k tm m I-⟨gy,aPg,jU,JT,bw⟩;simp only[go_sem,go_sem_proc,bh] at I;obtain⟨c8,fI,eJ,ix,km,lz⟩:=I;have aCt:=(bw 228009 (Ne.symm o4)).trans aCs;rcases dq (k<=10) with aq|ca
 ·have d1:decide ((k:Int)<=10)=true:=cX;have ct:=e0 (i:=k) (by omega);have hlen:=TW c q (λj=>us j+if r<j/\j<k then am else 0) 10 false;have a8:=aCq (c:=c) (q:=q) (us:=λj=>us j+if r<j/\j<k then am else 0) (f:=10) (p:=false) (k:=k) (by omega);have c9:=(TX (l:=hP c q (λj=>us j+if r<j/\j<k then am else 0) 10 false) (k:=11+k) (v:=.M (.int .i64 (us k+am))) (by rw[TW];omega)).trans (aCr (by omega) (us k+am))
  have gJ:hP c q (λj=>if j=k then us k+am else us j+if r<j/\j<k then am else 0) 10 false=hP c q (λj=>us j+if r<j/\j<k+1 then am else 0) 10 false:=Bn (λ_ _=>rfl) λj _=>by
   by_cases ag:j=k
   ·rw[ab ag,ag,ab ⟨gy,by omega⟩]
   ·rw[ae ag]
    by_cases G:r<j/\j<k
    ·rw[ab G,ab ⟨G.1,by omega⟩]
    ·rw[ae G,ae (by omega)]
  rw[gJ] at c9;rw[ae (by omega),Ay] at a8;have Ou:IntKind.i64.wrap (us k+am)=us k+am:=by have:=ad k;rw[ev _]
  have aI:k<11:=by omega
  have cS:(11+k+1<=24)=True:=eq_true (by omega);have JF:(ed==228009)=false:=beq_eq_false_iff_ne.2 o4;have T0:(228009==ed)=false:=beq_eq_false_iff_ne.2 (Ne.symm o4);generalize hP c q (λj=>us j+if r<j/\j<k then am else 0) 10 false=D1 at *;generalize Sw:hP c q (λj=>us j+if r<j/\j<k+1 then am else 0) 10 false=D2 at *;refine ai ?_;repeat' (intro h<;>simp only[h,go_sem,go_sem_proc,c8,fI,eJ,jU,ix,km,lz,aCt,JT,d1,ct,hlen,a8,c9,Ou,aI,cS,JF,T0,dy]<;>try refine ah ?_ ?_)
  refine⟨k+1,by omega,by omega,by omega,rfl,by rw[Sw],λj ag=>?_⟩
  simp only[a4,ag,if_false];exact bw j ag
 ·have d1:decide ((k:Int)<=10)=false:=cA;obtain rfl:k=11:=by omega
  have gJ:hP c q (λj=>us j+if r<j/\j<11 then am else 0) 10 false=hP c q (λj=>us j+if r<j then am else 0) 10 false:=Bn (λ_ _=>rfl) λj ag=>by
   by_cases G:r<j
   ·rw[ab ⟨G,ag⟩,ab G]
   ·rw[ae (by omega),ae G]
  rw[gJ] at JT;refine ai ?_;repeat' (intro h<;>simp only[h,go_sem,go_sem_proc,c8,fI,eJ,jU,ix,km,lz,d1]<;>try refine ah ?_ ?_)
  refine dM _ _ ?_ ?_ ?_ ?_ JT bw<;>simp only[e8,dV,if_false,c8,ix,km,lz]
def oB (l:List ao)(e1:Nat->Nat->Nat)(i k:Nat):O:=if c7 l i k=[] then .nil else .ref (228600+10*i+k) (e1 i k) 4 0 (c7 l i k).length
structure zA (cash:List Int) (l:List ao) (g:Nat) (gs:Nat->Nat) (e1:Nat->Nat->Nat) (m:Mem):Prop where
 row:m 228023=some (g,bA (D cash) λi => .ptr (228500+i) (gs i) 0)
 dr:∀i,i<(D cash)->m (228500+i)=some (gs i,hP (cash.getD i 0) (oB l e1 i) (λk=>cK l i (k:Nat)) 10 false)
 Gi:∀i k,i<(D cash)->k<10->c7 l i k≠[]->m (228600+10*i+k)=some (e1 i k,a6 bW (c7 l i k))
def aCu (l:List ao)(c:ao)(i k:Nat):c7 (l++[c]) i k=if c.1=(i:Int)/\c.2.2.1=(k:Int) then c7 l i k++[c] else c7 l i k:=by
 unfold c7;rw[ql]
 by_cases h:c.1=(i:Int)/\c.2.2.1=(k:Int)
 ·rw[ab h,tr (by simp[h.1,h.2]),qm]
 ·rw[ae h,u5 (by simpa using h),qm,fG]
def OB (l:List ao)(aG c2 c3 c4:Int)(i k:Nat):c7 (l++[(aG,c2,c3,c4)]) i k=if aG=(i:Int)/\c3=(k:Int) then c7 l i k++[(aG,c2,c3,c4)] else c7 l i k:=aCu l _ i k
def aCv (l:List ao)(c:ao)(i r:Int):cK (l++[c]) i r=cK l i r+if c.1=i/\c.2.2.1<r then c.2.2.2 else 0:=by
 unfold cK;rw[TI]
def ana (l:List ao)(aG c2 c3 c4 i r:Int):cK (l++[(aG,c2,c3,c4)]) i r=cK l i r+if aG=i/\c3<r then c4 else 0:=aCv l _ i r
def zA.next {cash:List Int}{l:List ao}{g:Nat}{gs:Nat->Nat}{e1:Nat->Nat->Nat}{m m':Mem}(h:zA cash l g gs e1 m)(aH:(D cash)<=6){aG c3:Nat}{c2 c4:Int}(hC:aG<D cash)(sa:c3<10)(rr:Nat)
  (fo:m' 228023=m 228023) (aCw:∀i,i<(D cash)->i≠aG->m' (228500+i)=m (228500+i)) (fQ:m' (228500+aG)=some (gs aG,hP (cash.getD aG 0) (λk=>if k=c3 then .ref (228600+10*aG+c3) rr 4 0 ((c7 l aG c3).length+1) else oB l e1 aG k) (λk=>cK l aG (k:Nat)+if c3<k then c4 else 0) 10 false))
  (T1:m' (228600+10*aG+c3)=some (rr,a6 bW (c7 l aG c3++[((aG:Int),c2,(c3:Int),c4)]))) (aCx:∀i k,i<(D cash)->k<10->¬ (i=aG/\k=c3)->m' (228600+10*i+k)=m (228600+10*i+k)):zA cash (l++[((aG:Int),c2,(c3:Int),c4)]) g gs (λi k=>if i=aG/\k=c3 then rr else e1 i k) m':=by
 refine⟨by rw[fo];exact h.row,λi J=>?_,λi k J I bE=>?_⟩
 ·by_cases hic:i=aG
  ·subst hic;rw[fQ]
   congr 2
   refine Bn (λk I=>?_) λk I=>?_
   ·unfold oB
    by_cases CR:k=c3
    ·subst CR;have az:c7 (l++[((i:Int),c2,(k:Int),c4)]) i k=c7 l i k++[((i:Int),c2,(k:Int),c4)]:=by rw[OB,ab ⟨rfl,rfl⟩]
     rw[az,ab rfl,ae (by simp),fO];simp
    ·have az:c7 (l++[((i:Int),c2,(c3:Int),c4)]) i k=c7 l i k:=by rw[OB,ae (by omega)]
     rw[ae CR,az];dsimp only;rw[ae (show ¬ (i=i/\k=c3) by omega)]
   ·rw[ana]
    by_cases gF:c3<k
    ·rw[ab gF,ab (by omega)]
    ·rw[ae gF,ae (by omega)]
  ·rw[aCw i J hic,h.dr i J]
   congr 2
   refine Bn (λk I=>?_) λk I=>?_
   ·unfold oB;have az:c7 (l++[((aG:Int),c2,(c3:Int),c4)]) i k=c7 l i k:=by rw[OB,ae (by omega)]
    rw[az];dsimp only;rw[ae (show ¬ (i=aG/\k=c3) by omega)]
   ·rw[ana,ae (by omega),Ay]
 ·by_cases hic:i=aG/\k=c3
  ·obtain⟨rfl,rfl⟩:=hic;have az:c7 (l++[((i:Int),c2,(k:Int),c4)]) i k=c7 l i k++[((i:Int),c2,(k:Int),c4)]:=by rw[OB,ab ⟨rfl,rfl⟩]
   rw[az,ab ⟨rfl,rfl⟩];exact T1
  ·have az:c7 (l++[((aG:Int),c2,(c3:Int),c4)]) i k=c7 l i k:=by rw[OB,ae (by omega)]
   rw[az] at bE ⊢;rw[ae hic,aCx i k J I hic];exact h.Gi i k J I bE
def abF {K:bc->Prop}{tm:Nat->O}{mem mem':Mem}(h:sI mem mem')(dM:∀bb,bb=mem'->K ⟨tm,bb⟩):lC K ⟨tm,mem⟩ .many:=⟨mem',.step h (.refl _),dM _ rfl⟩
def abG {K:bc->Prop}{tm:Nat->O}{mem:Mem}(dM:∀bb,bb=mem->K ⟨tm,bb⟩):lC K ⟨tm,mem⟩ .many:=⟨mem,.refl _,dM _ rfl⟩
def iy {m:Mem}{k g:Nat}{cs:List O}:a4 m k g cs k=some (g,cs):=by simp[a4]
def c1 {m:Mem}{k j g:Nat}{cs:List O}(h:k≠j):a4 m j g cs k=m k:=by
 simp only[a4];rw[ae h]
def wI (mem m:Mem):Prop:=∀k:Nat,k<200000\/300000<=k->m k=mem k
def wI.refl (m:Mem):wI m m:=λ_ _=>rfl
def wI.trans {a b c:Mem}(h:wI a b)(cj:wI b c):wI a c:=λk I=>(cj k I).trans (h k I)
def dA.outs {n:Nat}{mem m:Mem}(h:dA n mem m)(aH:200<=n/\n<300:=by decide):wI mem m:=λk I=>h k (by omega)
structure ru (v:O) (cs:List ao) (mem:Mem):Prop where
 len:pb v=some (D cs)
 at_:∀t c,cs[t]?=some c->∃p,vm 4 t v=some p/\∀m,wI mem m->pc m 4 true p=some (.agg ((bW c).map .M))
def aCy (cs:List ao)(mem:Mem):ru (.M (.ay (cs.map bW))) cs mem:=⟨by simp[pb],λt c H=>by
 refine⟨.M (.ptr (bW c)),?_,λm _=>rfl⟩;simp only[vm,bo,H,iY]
 rfl⟩
def ru.aE {v:O}{cs:List ao}{mem m:Mem}(h:ru v cs mem)(he:wI mem m):ru v cs m:=⟨h.len,λt c H=>by
 obtain⟨p,F,G⟩:=h.at_ t c H;exact⟨p,F,λm' hm=>G m' (he.trans hm)⟩⟩
def ru.uniq {v:O}{cs jo:List ao}{mem:Mem}(h:ru v cs mem)(cj:ru v jo mem):cs=jo:=by
 have ak:(D cs)=D jo:=by
  have:=h.len.symm.trans cj.len
  simpa using this
 apply List.ext_getElem ak;intro t F G;obtain⟨p,cH,cY⟩:=h.at_ t _ (bn F);obtain⟨q,c6,eB⟩:=cj.at_ t _ (bn G);rw[cH] at c6
 cases c6;have:=(cY mem (wI.refl _)).symm.trans (eB mem (wI.refl _));have e:(bW cs[t]).map O.M=(bW jo[t]).map O.M:=by simpa using this
 exact u7 _ _ (map_inj (λ_ _ h=>by injection h) _ _ e)
def aCz (T:ba){K:eT->bc->Prop}{kk:List gG}(ez:Mem)(cash:List Int)(cs:List ao)(X:fv cash cs)(g:Nat)(gs:Nat->Nat)(e1:Nat->Nat->Nat)(tm:Nat->O)(m:Mem)
  (c8:tm 5=.ref 228023 g 1 0 (D cash)) (Dt:O) (oR:ru Dt cs ez) (ix:tm 25=Dt) (km:tm 26=.M (.int .i64 (D cs))) (lz:tm 27=.M (.int .i64 0)) (bH:zA cash [] g gs e1 m) (bw:dA 228 ez m)
  (dM:∀tm' m' aCA,tm' 5=.ref 228023 g 1 0 (D cash)->zA cash cs g gs aCA m'->dA 228 ez m'->cw T K kk (.exit 2) ⟨tm',m'⟩) :
  wp T (CM.body.sub [1,1,1,0,1,0]) (cw T K kk) ⟨tm,m⟩:=by
 simp only[CM,eh.sub];have aH:=X.k3;have aa:=(gN.1 X.right).2.2.2;have ht:=X.ts;refine da [5,25,26] [] (λ((t,e1):Nat×(Nat->Nat->Nat)) tm m=>t<=D cs/\tm 27=.M (.int .i64 t)/\zA cash (cs.take t) g gs e1 m/\dA 228 ez m) (λ(t,_)=>D cs-t) (0,e1) (by refine⟨by omega,lz,by rw[l3];exact bH,bw⟩) ?_;intro vs ms aW aR;simp only[go_sem,go_sem_proc,c8,ix,km] at aW aR;subst aW aR;clear c8 ix km lz bH bw tm m;rintro⟨t,e1⟩ tm m I-⟨bz,lz,bH,bw⟩;simp only[go_sem,go_sem_proc,bh] at I;obtain⟨c8,ix,km⟩:=I;rcases dq (t<D cs) with aq|ca
 ·have d1:decide ((t:Int)<(D cs:Int))=true:=cX;have ct:=e0 (i:=t) (by omega);obtain⟨⟨aG,c2,c3,c4⟩,Q⟩:∃c,cs[t]?=some c:=⟨_,bn aq⟩;have mC:=aa _ (dZ Q);dsimp only at mC;obtain⟨aPh,oX,abH⟩:=oR.at_ t _ Q;have Gj:=abH m bw.outs;simp only[go_sem,go_sem_proc,bW,eu,cR] at oX Gj;obtain⟨aG,rfl⟩:∃k:Nat,aG=(k:Int):=⟨aG.toNat,by omega⟩
  obtain⟨c3,rfl⟩:∃k:Nat,c3=(k:Int):=⟨c3.toNat,by omega⟩
  have gx:cs.take (t+1)=cs.take t++[((aG:Int),c2,(c3:Int),c4)]:=by rw[hF,Q];rfl
  generalize ak:cs.take t=l at *;have OC:(D l)<=12:=by rw[<-ak,gE];omega
  have hC:aG<D cash:=by omega
  have sa:c3<10:=by omega
  have fo:=bH.row;have fQ:=bH.dr aG hC;have kN:=wC (jh (λi=>O.ptr (228500+i) (gs i) 0) hC);have b0:(bA (D cash) λi=>O.ptr (228500+i) (gs i) 0).length=D cash:=gY _ _;have hlen:=TW (cash.getD aG 0) (oB l e1 aG) (λk=>cK l aG (k:Nat)) 10 false;have jD:=aCp (c:=cash.getD aG 0) (q:=oB l e1 aG) (us:=λk=>cK l aG (k:Nat)) (f:=10) (p:=false) sa;have eP:=λv=>(TX (l:=hP (cash.getD aG 0) (oB l e1 aG) (λk=>cK l aG (k:Nat)) 10 false) (k:=1+c3) (v:=v) (by rw[TW];omega)).trans (abE sa v);have eH:aG+1<=D cash:=by omega
  have cS:(1+c3+1<=24)=True:=eq_true (by omega);have w1:=e0 (i:=c3) (by omega);generalize JO:(bA (D cash) λi=>O.ptr (228500+i) (gs i) 0)=x5 at *;generalize Ov:hP (cash.getD aG 0) (oB l e1 aG) (λk=>cK l aG (k:Nat)) 10 false=DC at *;generalize va:228500+aG=ed at *;have TD:(ed=228009)=False:=eq_false (by omega);have anb:(ed=228048)=False:=eq_false (by omega);have JF:(ed==228009)=false:=beq_eq_false_iff_ne.2 (by omega);have T0:(228009==ed)=false:=beq_eq_false_iff_ne.2 (by omega);have anc:(ed==228048)=false:=beq_eq_false_iff_ne.2 (by omega);have ane:(228048==ed)=false:=beq_eq_false_iff_ne.2 (by omega);have hD:(1<=maxLen)=True:=eq_true (by decide);have aPi:=λj=>(alg X.right).upto aG j
  have Fi:∀j:Nat,0<=cK l aG (j:Nat)/\cK l aG (j:Nat)<=4000000000000000000:=λj=>by
   have:=(alg X.right).sum (λc=>c.1=(aG:Int)/\c.2.2.1<(j:Int)) t;rw[ak] at this;unfold cK;omega
  generalize T2:228600+10*aG+c3=kI at *;have cH:(228009=ed)=False:=eq_false (by omega);have cY:(228009=kI)=False:=eq_false (by omega);have ep:(228048=kI)=False:=eq_false (by omega);have fi:(228048=ed)=False:=eq_false (by omega);have o2:(kI=ed)=False:=eq_false (by omega);have tu:(ed=kI)=False:=eq_false (by omega);have alC:(kI=228009)=False:=eq_false (by omega);have aCB:(kI=228048)=False:=eq_false (by omega);have anf:(228009=228048)=False:=eq_false (by omega)
  have tail:∀(tm':Nat->O) (M2:Mem) (rr TZ:Nat),tm' 5=.ref 228023 g 1 0 (D cash)->tm' 25=Dt->tm' 26=.M (.int .i64 (D cs))->tm' 27=.M (.int .i64 t)->M2 ed=some (gs aG,hP (cash.getD aG 0) (λk=>if k=c3 then .ref kI rr 4 0 ((c7 l aG c3).length+1) else oB l e1 aG k) (λk=>cK l aG (k:Nat)  + if c3<k then c4 else 0) 10 false)->M2 kI=some (rr,a6 bW (c7 l aG c3++[((aG:Int),c2,(c3:Int),c4)]))->(∀k:Nat,k≠228009->k≠228048->k≠ed->k≠kI->M2 k=m k)->zA cash (cs.take (t+1)) g gs (λi k=>if i=aG/\k=c3 then rr else e1 i k) M2/\dA 228 ez M2:=by
   intro tm' M2 rr TZ nv JU JV JW Gk OD m6;rw[gx];refine⟨zA.next bH aH hC sa rr ?_ (λi J bE=>?_) ?_ ?_ λi k J I bE=>?_,λk I=>?_⟩
   ·exact m6 228023 (by omega) (by omega) (by omega) (by omega)
   ·exact m6 (228500+i) (by omega) (by omega) (by omega) (by omega)
   ·rw[va,T2];exact Gk
   ·rw[T2];exact OD
   ·exact m6 (228600+10*i+k) (by omega) (by omega) (by omega) (by omega)
   ·rw[m6 k (by omega) (by omega) (by omega) (by omega)];exact bw k I
  by_cases ia:c7 l aG c3=[]
  ·have hq:oB l e1 aG c3=.nil:=by unfold oB;rw[ab ia]
   rw[hq] at jD;simp only[go_sem,go_sem_proc,hD,c8,ix,km,lz,oX,Gj,fo,fQ,kN,b0,hlen,jD,eP,d1,eH,cS,hC,sa,TD,anb,JF,T0,anc,ane,bW,dy,ar,bo];refine abF (sI.PX ed (gs aG) _ (1+c3) 228048 (gH (m 228048)) 4 0 1 _ kI iy (abD sa |>.trans (by rw[ab rfl])) ((c1 (by omega)).trans iy) (by show (228048:Nat)≠ed;omega) (by show kI≠(228048:Nat);omega) (by show kI≠ed;omega)) ?_;intro M2 hb;rw[abE sa] at hb
   have OE:M2 228009=some (gH (m 228009),[.M (.int .i64 aG),.M (.int .i64 c2),.M (.int .i64 c3),.M (.int .i64 c4)]):=by
    rw[hb];simp only[B2,cH,cY,anf,if_false,if_true]
   have Gk:∃rr,M2 ed=some (gs aG,hP (cash.getD aG 0) (λk=>if k=c3 then .ref kI rr 4 0 ((c7 l aG c3).length+1) else oB l e1 aG k) (λk=>cK l aG (k:Nat)) 10 false)/\M2 kI=some (rr,a6 bW (c7 l aG c3++[((aG:Int),c2,(c3:Int),c4)])):=by
    rw[ia];apply Exists.intro;apply And.intro
    rotate_left
    ·rw[hb];simp only[B2,o2,if_false,if_true];rfl
    ·rw[hb];simp only[B2,if_true]
     congr 2
     refine Bn (λk _=>?_) λ_ _=>rfl
     by_cases I:k=c3
     ·rw[ab I,ab I];rfl
     ·rw[ae I,ae I,ae I]
   obtain⟨rr,Gk,OD⟩:=Gk
   have m6:∀k:Nat,k≠228009->k≠228048->k≠ed->k≠kI->M2 k=m k:=λk F G af aS=>by
    rw[hb];simp only[B2,F,G,af,aS,if_false]
   clear hb;simp only[go_sem,go_sem_proc,OE,w1,cH];refine am6 T M2 ed (gs aG) (gH (m 228009)) (cash.getD aG 0) (λk=>if k=c3 then .ref kI rr 4 0 ((c7 l aG c3).length+1) else oB l e1 aG k) (λk=>cK l aG (k:Nat)) aG c2 c3 c4 sa Fi (by omega) (by omega) (.ref 228023 g 1 0 (D cash)) Dt (.M (.int .i64 (D cs))) (.M (.int .i64 t)) _ _ ?_ ?_ ?_ ?_ ?_ ?_ ?_ OE Gk (λ_ _=>rfl) ?_
   all_goals first|(intro tm' m' nv JU JV JW abI Bo)|(simp only[e8,dV,if_false,if_true,c8,ix,km,lz];done)
   have iJ:=tail tm' m' rr 0 nv JU JV JW abI (by rw[Bo kI (by omega)];exact OD) λk F G af aS=>by rw[Bo k af];exact m6 k F G af aS
   refine ai ?_;repeat' (intro h<;>simp only[h,go_sem,go_sem_proc,nv,JU,JV,JW,ct]<;>try refine ah ?_ ?_)
   exact⟨(t+1,λi k=>if i=aG/\k=c3 then rr else e1 i k),by dsimp only;omega,by dsimp only;omega,rfl,iJ.1,iJ.2⟩
  ·have hq:oB l e1 aG c3=.ref kI (e1 aG c3) 4 0 (c7 l aG c3).length:=by unfold oB;rw[ae ia,T2]
   rw[hq] at jD;have T1:=bH.Gi aG c3 hC sa ia;rw[T2] at T1;have ee:(c7 l aG c3).length<=12:=eZ (nZ _ _) OC;have dN:=l8 n0 Th kI (e1 aG c3) 32 (c7 l aG c3) ((aG:Int),c2,(c3:Int),c4) (cs:=[.M (.int .i64 aG),.M (.int .i64 c2),.M (.int .i64 c3),.M (.int .i64 c4)]) rfl (by omega) (by omega);have alE:(kI==228009)=false:=beq_eq_false_iff_ne.2 (by omega);have aCC:(228009==kI)=false:=beq_eq_false_iff_ne.2 (by omega);have aCD:(kI==ed)=false:=beq_eq_false_iff_ne.2 (by omega);have aCE:(ed==kI)=false:=beq_eq_false_iff_ne.2 (by omega);simp only[go_sem,go_sem_proc,hD,c8,ix,km,lz,oX,Gj,fo,fQ,kN,b0,hlen,jD,eP,d1,eH,cS,hC,sa,TD,anb,JF,T0,anc,ane,ep,o2,tu,alC,aCB,alE,aCC,aCD,aCE,T1,dN,bW,dy,ar,bo];refine abG ?_;intro M2 hb
   have OE:M2 228009=some (gH (m 228009),[.M (.int .i64 aG),.M (.int .i64 c2),.M (.int .i64 c3),.M (.int .i64 c4)]):=by
    rw[hb];simp only[B2,cH,cY,anf,if_false,if_true]
   have Gk:M2 ed=some (gs aG,hP (cash.getD aG 0) (λk=>if k=c3 then .ref kI (e1 aG c3+1) 4 0 ((c7 l aG c3).length+1) else oB l e1 aG k) (λk=>cK l aG (k:Nat)) 10 false):=by
    rw[hb];simp only[B2,if_true]
   have OD:M2 kI=some (e1 aG c3+1,a6 bW (c7 l aG c3++[((aG:Int),c2,(c3:Int),c4)])):=by
    rw[hb];simp only[B2,o2,if_false,if_true]
   have m6:∀k:Nat,k≠228009->k≠228048->k≠ed->k≠kI->M2 k=m k:=λk F G af aS=>by
    rw[hb];simp only[B2,F,af,aS,if_false]
   clear hb;simp only[go_sem,go_sem_proc,OE,w1,cH];refine am6 T M2 ed (gs aG) (gH (m 228009)) (cash.getD aG 0) (λk=>if k=c3 then .ref kI (e1 aG c3+1) 4 0 ((c7 l aG c3).length+1) else oB l e1 aG k) (λk=>cK l aG (k:Nat)) aG c2 c3 c4 sa Fi (by omega) (by omega) (.ref 228023 g 1 0 (D cash)) Dt (.M (.int .i64 (D cs))) (.M (.int .i64 t)) _ _ ?_ ?_ ?_ ?_ ?_ ?_ ?_ OE Gk (λ_ _=>rfl) ?_
   all_goals first|(intro tm' m' nv JU JV JW abI Bo)|(simp only[e8,dV,if_false,if_true,c8,ix,km,lz];done)
   have iJ:=tail tm' m' (e1 aG c3+1) 0 nv JU JV JW abI (by rw[Bo kI (by omega)];exact OD) λk F G af aS=>by rw[Bo k af];exact m6 k F G af aS
   refine ai ?_;repeat' (intro h<;>simp only[h,go_sem,go_sem_proc,nv,JU,JV,JW,ct]<;>try refine ah ?_ ?_)
   exact⟨(t+1,λi k=>if i=aG/\k=c3 then e1 aG c3+1 else e1 i k),by dsimp only;omega,by dsimp only;omega,rfl,iJ.1,iJ.2⟩
 ·have d1:decide ((t:Int)<(D cs:Int))=false:=cA;rw[dt (by omega)] at bH;refine ai ?_;repeat' (intro h<;>simp only[h,go_sem,go_sem_proc,c8,ix,km,lz,d1]<;>try refine ah ?_ ?_)
  refine dM _ _ e1 ?_ bH bw;simp only[e8,dV,if_false,c8]
def tQ.trans {a b c:Mem}(h:tQ a b)(cj:tQ b c):tQ a c:=by
 induction h with
 |refl=>exact cj
 |step F _ av=>exact .step F (av cj)
def ang {K:bc->Prop}{tm:Nat->O}{mem mem':Mem}(h:tQ mem mem')(dM:K ⟨tm,mem'⟩):lC K ⟨tm,mem⟩ .many:=⟨mem',h,dM⟩
def wJ (l:List ao)(e1:Nat->Nat->Nat)(d i k:Nat):O:=if 10*i+k<d then kl (c7 l i k) else oB l e1 i k
structure x9 (cash:List Int) (l:List ao) (g:Nat) (gs:Nat->Nat) (e1:Nat->Nat->Nat) (d:Nat) (m:Mem):Prop where
 row:m 228023=some (g,bA (D cash) λi => .ptr (228500+i) (gs i) 0)
 dr:∀i,i<(D cash)->m (228500+i)=some (gs i,hP (cash.getD i 0) (wJ l e1 d i) (λk=>cK l i (k:Nat)) 10 false)
 Gi:∀i k,i<(D cash)->k<10->d<=10*i+k->c7 l i k≠[]->m (228600+10*i+k)=some (e1 i k,a6 bW (c7 l i k))
def x9.step {cash:List Int}{l:List ao}{g:Nat}{gs:Nat->Nat}{e1:Nat->Nat->Nat}{d:Nat}{m:Mem}(h:x9 cash l g gs e1 d m)(aH:(D cash)<=6)(Y:d<10*D cash):∃m',tQ m m'/\x9 cash l g gs e1 (d+1) m'/\dA 228 m m':=by
 obtain⟨i,k,J,I,rfl⟩:∃i k,i<D cash/\k<10/\d=10*i+k:=⟨d/10,d%10,by omega,by omega,by omega⟩
 have abJ:∀j r,j<(D cash)->r<10->¬ (j=i/\r=k)->wJ l e1 (10*i+k+1) j r=wJ l e1 (10*i+k) j r:=λj r ag aa bE=>by
  unfold wJ
  by_cases F:10*j+r<10*i+k
  ·rw[ab F,ab (by omega)]
  ·rw[ae F,ae (by omega)]
 by_cases H:c7 l i k=[]
 ·refine⟨m,.refl m,⟨h.row,λj ag=>?_,λj r ag aa Y bE=>h.Gi j r ag aa (by omega) bE⟩,dA.refl _ _⟩;rw[h.dr j ag]
  congr 2
  refine Bn (λr aa=>?_) λ_ _=>rfl
  by_cases NV:j=i/\r=k
  ·obtain⟨rfl,rfl⟩:=NV;unfold wJ;rw[ae (by omega),ab (by omega)];unfold oB kl;rw[ab H,ab H]
  ·exact (abJ j r ag aa NV).symm
 ·have ad:=h.dr i J;have ee:=h.Gi i k J I (bM _) H
  have YE:wJ l e1 (10*i+k) i k=.ref (228600+10*i+k) (e1 i k) 4 0 (c7 l i k).length:=by
   unfold wJ;rw[ae (by omega)];unfold oB;rw[ae H]
  have kR:=abD (c:=cash.getD i 0) (q:=wJ l e1 (10*i+k) i) (us:=λk=>cK l i (k:Nat)) (f:=10) (p:=false) I;rw[YE] at kR;have s7:b5 1 m (.ref (228600+10*i+k) (e1 i k) 4 0 (c7 l i k).length)=some (.ay ((c7 l i k).map bW)):=pj (n:=0) n0 ee;refine⟨_,.step (sI.PY (228500+i) (gs i) _ (1+k) (228600+10*i+k) (e1 i k) 4 0 (c7 l i k).length _ (.ay ((c7 l i k).map bW)) ad kR ee (by show (228600+10*i+k:Nat)≠228500+i;omega) s7) (.refl _),⟨?_,λj ag=>?_,λj r ag aa Y bE=>?_⟩,λx Q=>?_⟩
  ·rw[c1 (by show (228023:Nat)≠228500+i;omega)];unfold kill;rw[c1 (by show (228023:Nat)≠228600+10*i+k;omega)];exact h.row
  ·by_cases h8:j=i
   ·subst h8;rw[iy,abE I]
    congr 2
    refine Bn (λr aa=>?_) λ_ _=>rfl
    by_cases gy:r=k
    ·subst gy;rw[ab rfl];unfold wJ;rw[ab (by omega)];unfold kl;rw[ae H]
    ·rw[ae gy];exact (abJ j r ag aa (by omega)).symm
   ·rw[c1 (by show (228500+j:Nat)≠228500+i;omega)];unfold kill;rw[c1 (by show (228500+j:Nat)≠228600+10*i+k;omega),h.dr j ag]
    congr 2
    refine Bn (λr aa=>(abJ j r ag aa (by omega)).symm) λ_ _=>rfl
  ·rw[c1 (by show (228600+10*j+r:Nat)≠228500+i;omega)];unfold kill;rw[c1 (by show (228600+10*j+r:Nat)≠228600+10*i+k;omega)];exact h.Gi j r ag aa (by omega) bE
  ·have vB:x/1000≠228:=Q;rw[c1 (by show x≠228500+i;omega)];unfold kill;rw[c1 (by show x≠228600+10*i+k;omega)]
def x9.all {cash:List Int}{l:List ao}{g:Nat}{gs:Nat->Nat}{e1:Nat->Nat->Nat}(aH:(D cash)<=6):∀r d m,d+r=10*(D cash)->x9 cash l g gs e1 d m->∃m',tQ m m'/\x9 cash l g gs e1 (10*D cash) m'/\dA 228 m m'
 |0,d,m,Y,h=>⟨m,.refl m,by rw[<-Y];exact h,dA.refl _ _⟩
 |r+1,d,m,Y,h=>by
  obtain⟨dw,F,G,af⟩:=h.step aH (by omega);obtain⟨cv,bS,cM,dj⟩:=x9.all aH r (d+1) dw (by omega) G;exact⟨cv,F.trans bS,cM,λx Q=>(dj x Q).trans (af x Q)⟩
def zA.aCF {cash:List Int}{l:List ao}{g:Nat}{gs:Nat->Nat}{e1:Nat->Nat->Nat}{m:Mem}(h:zA cash l g gs e1 m):x9 cash l g gs e1 0 m :=
 ⟨h.row,λi J=>by
  rw[h.dr i J]
  congr 2,λi k J I _ bE=>h.Gi i k J I bE⟩
def zB (cash:List Int)(cs:List ao)(g:Nat)(gs:Nat->Nat):c0:=⟨cash,dm (D cash) cs,bA (D cash) λ_=>10,n2 (D cash) λ_=>false,g,bA (D cash) gs⟩
def aCG {cash:List Int}{cs:List ao}(h:fv cash cs)(i r:Nat):cK (dm (D cash) cs) i r=cK cs i r:=by
 have F:=u0 h.right i r;have G:=u0 (abb h).right i r;rw[<-(alq h.right).U,<-F] at G;exact_mod_cast G
def Bp {α:Type}{n i:Nat}(q:Nat->α)(d:α)(h:i<n):(bA n q).getD i d=q i:=by
 rw[ei,jh q h];rfl
def x9.at {cash:List Int}{cs:List ao}(X:fv cash cs){g:Nat}{gs:Nat->Nat}{e1:Nat->Nat->Nat}{m:Mem}(h:x9 cash cs g gs e1 (10*D cash) m):(zB cash cs g gs).eF m:=by
 refine⟨(aAl _ _).symm,gY _ _,Tp _ _,gY _ _,?_,λi J=>?_⟩
 ·refine h.row.trans ?_
  congr 2
  exact k4 λi J=>by
   show O.ptr (228500+i) (gs i) 0=O.ptr (228500+i) ((bA (D cash) gs).getD i 0) 0;rw[Bp gs 0 J]
 ·have ku:i<D cash:=J;refine (h.dr i ku).trans ?_;have az:(zB cash cs g gs).gs.getD i 0=gs i:=Bp gs 0 ku;rw[az]
  congr 2
  have aD:(bA (D cash) λ_=>(10:Int)).getD i 10=10:=Bp _ _ ku;have bX:(n2 (D cash) λ_=>false).getD i false=false:=by rw[ei,Tq _ ku];rfl
  have dE:fF ((zB cash cs g gs).gO i)=bJ (cash.getD i 0)::((bA 10 λk=>c7 (dm (D cash) cs) i k).map kl++((bA 11 λk=>cK (dm (D cash) cs) i (k:Nat)).map bJ++[bJ ((bA (D cash) λ_=>(10:Int)).getD i 10),n1 ((n2 (D cash) λ_=>false).getD i false)])):=rfl;rw[dE,aD,bX];unfold hP
  have c8:(bA 10 λk=>c7 (dm (D cash) cs) i k).map kl=bA 10 (wJ cs e1 (10*D cash) i):=by
   unfold bA;rw[mK];refine mH λk I=>?_;have Ns:=gQ.1 I;show kl (c7 (dm (D cash) cs) i k)=wJ cs e1 (10*D cash) i k;rw[alm cs ku Ns];unfold wJ;rw[ab (by omega)]
  have bP:(bA 11 λk=>cK (dm (D cash) cs) i (k:Nat))=bA 11 λk=>cK cs i (k:Nat):=k4 λk _=>aCG X i k;rw[c8,bP]
def anh {α:Type}(n:Nat)(q:Nat->α):bA (n+1) q=bA n q++[q n]:=by
 unfold bA;rw[m5,kh];rfl
structure abK (x:List Int×List ao×O) (mem:Mem):Prop where
 zw:fv x.1 x.2.1
 no:ow 228 mem
 rd:ru x.2.2 x.2.1 mem
def abL (x:List Int×List ao×O)(mem:Mem):O->Mem->Prop:=λm mem'=>∃g gs,m=.ref 228023 g 1 0 x.1.length/\(zB x.1 x.2.1 g gs).eF mem'/\dA 228 mem mem'
def OG:List O->Mem->Option (O->Mem->Prop):=uR (λ(x:List Int×List ao×O) args mem=>args=[.M (.ay (x.1.map aC)),x.2.2]/\abK x mem) abL
def aCH (cash:List Int)(cs:List ao)(v:O)(mem:Mem)(h:abK (cash,cs,v) mem):OG [.M (.ay (cash.map aC)),v] mem=some (abL (cash,cs,v) mem):=by
 refine aly (a:=(cash,cs,v)) ?_ ⟨rfl,h⟩;rintro⟨a,b,w⟩ ⟨c,d,aT⟩ args mem ⟨az,bS⟩ ⟨bX,dj⟩;rw[az] at bX;simp only[bh,O.M.injEq,Data.ay.injEq,and_true] at bX;obtain⟨F,G⟩:=bX
 try dsimp only at F G
 subst G;obtain rfl:b=d:=bS.rd.uniq dj.rd;rw[map_inj fq _ _ F]
def ani (_:Nat):O:=.nil
def anj (_:Nat):Int:=0
def aCI (T:ba)(cash:List Int)(cs:List ao)(v:O)(mem:Mem)(aO:abK (cash,cs,v) mem):
  wp T CM.body (me CM.res (abL (cash,cs,v) mem)) ⟨iC [.M (.ay (cash.map aC)),v],mem⟩:=by
 obtain⟨X,fp,oR⟩:=aO;dsimp only at X oR;have jH:=oR.len;simp only[go_sem,go_sem_proc] at jH;have aH:=X.k3;have aCJ:mem 228023=none:=fp 228023 (by decide);refine pf ?_;simp only[CM];simp only[go_sem,go_sem_proc,aCJ,ar]
 refine da [1,12,13] [] (λ((i,g,gs):Nat×Nat×(Nat->Nat)) tm m=>i<=D cash/\tm 14=.M (.int .i64 i)/\tm 5=.ref 228023 g 1 0 i/\m 228023=some (g,bA i λj => .ptr (228500+j) (gs j) 0)/\(∀j,j<i->m (228500+j)=some (gs j,hP (cash.getD j 0) ani anj 10 false))/\dA 228 mem m) (λ(i,_)=>D cash-i) (0,0,λ_=>0) (by
  refine⟨by omega,rfl,rfl,by simp[a4];rfl,λj ag=>by omega,(dA.refl _ _).eN (by decide)⟩) ?_
 intro vs ms aW aR;simp only[go_sem,go_sem_proc] at aW aR;subst aW aR;rintro⟨i,g,gs⟩ tm m I-⟨J,pF,c8,fo,fQ,bw⟩;simp only[go_sem,go_sem_proc,bh] at I;obtain⟨az,fU,gL⟩:=I;rcases dq (i<D cash) with aq|ca
 ·have d1:decide ((i:Int)<(D cash:Int))=true:=cX;have ct:=e0 (i:=i) (by omega);obtain⟨y,al⟩:∃y,cash[i]?=some y:=⟨_,bn aq⟩;have xI:cash.getD i 0=y:=by rw[ei,al];rfl
  have b0:(bA i λj=>O.ptr (228500+j) (gs j) 0).length=i:=gY _ _;have gx:fh i (bA i λj=>O.ptr (228500+j) (gs j) 0)=bA i λj=>O.ptr (228500+j) (gs j) 0:=dt (by omega);have eH:((i+1)*8<=140737488355328)=True:=eq_true (by omega);have aI:(i+1<=maxLen)=True:=eq_true (by unfold maxLen;omega);have cS:(i<=i)=True:=eq_true (bM _)
  have dN:mA 228023 g 1 i 8 1 [.ptr 228021 (gH (m 228021)) 0] (some (g,bA i λj=>O.ptr (228500+j) (gs j) 0))=some (.ref 228023 (g+1) 1 0 (i+1),some (228023,g+1,(bA i λj=>O.ptr (228500+j) (gs j) 0)++[.ptr 228021 (gH (m 228021)) 0])):=by
   unfold mA;dsimp only;rw[ab ⟨rfl,by rw[gY];omega,by omega,by unfold maxLen;omega,rfl⟩,dy,gx]
  generalize JO:(bA i λj=>O.ptr (228500+j) (gs j) 0)=x5 at *;simp only[go_sem,go_sem_proc,az,c8,fU,gL,pF,fo,al,b0,dN,d1,aC,dy,ar,bo]
  have T3:(x5++[O.ptr 228021 (gH (m 228021)) 0])[i]?=some (.ptr 228021 (gH (m 228021)) 0):=by
   rw[rR (by omega),b0];simp
  have cH:(228021=228022)=False:=eq_false (by decide);refine abF (sI.ac5 228023 (g+1) _ i 228021 (gH (m 228021)) 0 _ (228500+i) iy T3 ((c1 (by decide)).trans ((c1 (by decide)).trans iy)) (by decide) (by show (228500+i:Nat)≠228021;omega) (by show (228500+i:Nat)≠228023;omega)) ?_;intro M2 hb
  have nW:∀p,(x5++[O.ptr 228021 (gH (m 228021)) 0]).set i p=x5++[p]:=λp=>by
   rw[FF _ _ (by omega),b0,lf];rfl
  rw[nW] at hb
  obtain⟨JX,ank,aCK⟩:∃JX,M2 228023=some (g+1,x5++[.ptr (228500+i) JX 0])/\M2 (228500+i)=some (JX,hP y ani anj 10 false):=by
   apply Exists.intro;apply And.intro
   rotate_left
   ·rw[hb,c1 (by show (228500+i:Nat)≠228023;omega),iy];rfl
   ·rw[hb,iy]
  have m6:∀k:Nat,k≠228021->k≠228022->k≠228023->k≠228500+i->M2 k=m k:=λk F G af aS=>by
   rw[hb,c1 af,c1 aS,c1 F,c1 af,c1 G,c1 F]
  clear hb
  have gJ:x5++[O.ptr (228500+i) JX 0]=bA (i+1) λj => .ptr (228500+j) (if j=i then JX else gs j) 0:=by
   rw[anh,ab rfl,<-JO]
   congr 1
   exact k4 λj ag=>by rw[ae (by omega)]
  rw[gJ] at ank;refine ai ?_;repeat' (intro h<;>simp only[h,go_sem,go_sem_proc,az,fU,gL,pF,ct]<;>try refine ah ?_ ?_)
  refine⟨(i+1,g+1,λj=>if j=i then JX else gs j),by dsimp only;omega,by dsimp only;omega,rfl,rfl,ank,λj ag=>?_,λk I=>?_⟩
  ·by_cases h8:j=i
   ·subst h8;dsimp only;rw[ab rfl,aCK,xI]
   ·dsimp only;rw[ae h8,m6 (228500+j) (by omega) (by omega) (by omega) (by omega)];exact fQ j (by dsimp only at ag;omega)
  ·rw[m6 k (by omega) (by omega) (by omega) (by omega)];exact bw k I
 ·have d1:decide ((i:Int)<(D cash:Int))=false:=cA;obtain rfl:i=D cash:=by omega
  simp only[go_sem,go_sem_proc,az,c8,fU,gL,pF,d1,jH,ar];refine aCz T mem cash cs X g gs (λ_ _=>0) _ _ ?_ v oR ?_ ?_ ?_ ⟨fo,λj ag=>?_,λj k ag I bE=>absurd rfl bE⟩ bw ?_
  all_goals first|(intro tm' m' e1 nv bH x6)|(simp only[e8,dV,if_false,if_true,az,c8];done)|skip
  ·rw[fQ j ag]
   congr 2
  obtain⟨cv,F,G,af⟩:=x9.all aH (10*D cash) 0 m' (by omega) bH.aCF;simp only[go_sem,go_sem_proc];refine ang F ?_;refine ai ?_;repeat' (intro h<;>simp only[h,go_sem,go_sem_proc,nv]<;>try refine ah ?_ ?_)
  exact⟨_,rfl,g,gs,rfl,G.at X,λk I=>(af k I).trans (x6 k I)⟩
def anl:bu:=bT 40 1 [.t 2,.t 3] (R [db 1 341001 0,eo 2,bk 3 0] (.seq (R [bd 9 5 1,dp 10 yN 9,e4 11 10] (cx 11 [eo 2,bk 3 1])) (eR [a0 13 0 1,aJ 14 1 13,bd 15 5 1,aM 16 (.call EM [.t 15,.c (.M (.int .i64 (-1)))]),bV 17 uu 14 16,E 12 17,bl 18 0 12,bl 19 1 12,cL 4 341004 xq,bf 3 4 18,E 5 19] [[],[],[],[],[],[],[],[],[1,2],[],[]] (.seq (R [E 20 5,a5 21 .neq 20 0] (cx 21 [E 22 5,eo 2,E 3 22])) (R [eo 6] (.seq (R [a0 23 2 1,aJ 24 1 23,b9 25 24,bk 26 0] (.block 0 (.ghost (.oa 6 341037 4) (.loop  (R [bm 27 .lss 26 25] (.seq (du 27 0) (.seq (.block 1 (R [bs 28 1 24 26,aJ 29 1 28,E 8 29] (.ops [E 30 6,a0 31 1 4,aJ 32 1 31,E 33 8,bs 34 4 32 33,bd 35 4 34,aM 36 (.ff 341036 false dT 4 1 [(0,4,.t 35)]),aM 37 (.app 341037 dT 64 (.t 30) (.t 36)),E 6 37]))) (.ops [a5 38 .add 26 1,E 26 38])))))))) (.seq (.ghost (.freeze 6) (.ops [E 39 6,E 2 39,bk 3 0])) .ret)))))))
def anm:bu:=bT 44 2 [.cell 4 4 true,.t 5] (R [db 2 343002 0,cL 4 343004 dT,bk 5 0] (.seq (.block 0 (R [bd 9 5 2,dp 10 yN 9,e4 11 10,E 8 11] (eC 8 (R [aM 12 (.build dT []),bf 4 4 12,bk 5 1] .ret) (R [E 14 1,a0 15 2 2,aJ 16 1 15,b9 17 16,a5 18 .sub 17 1,aM 19 (.call sZ [.t 14,.c (bB 0),.t 18]),e4 20 19,E 13 20] (cx 13 [aM 21 (.build dT []),bf 4 4 21,bk 5 4]))))) (eR [a0 23 0 2,aJ 24 1 23,bd 25 5 2,E 26 1,bV 27 EM 25 26,bV 28 uu 24 27,E 22 28,bl 29 0 22,bl 30 1 22,cL 6 343006 xq,bf 3 6 29,E 7 30] [[],[],[],[],[],[],[],[],[],[1,2],[],[]] (.seq (R [E 31 7,a5 32 .neq 31 0] (cx 32 [aM 33 (.build dT []),E 34 7,bf 4 4 33,E 5 34])) (eR [a0 35 1 6,aJ 36 1 35,a0 37 2 2,aJ 38 1 37,E 39 1,bs 40 1 38 39,aJ 41 1 40,bs 42 4 36 41,bd 43 4 42,bf 4 4 43,bk 5 0] EP .ret)))))
def ann:bu:=bT 85 1 [.t 2] (R [db 1 346001 0,cd 2 false] (.seq (R [a0 6 0 1,aJ 7 1 6,a0 8 1 1,aJ 9 1 8,bV 10 X7 7 9,e4 11 10,E 12 11,fg 13 12 2 1,ew 14 12 1 13,ln 15 12 14,gu 16 12 .eql 15 0,c5 17 12 16,E 18 17,fg 19 18 3 1,ew 20 18 1 19,fH 21 18 (.call sZ [.t 20,.c (bB 0),.c (bB 10000)]),jb 22 18 21,c5 23 18 22,E 24 23,fg 25 24 4 1,ew 26 24 1 25,fH 27 24 (.call sZ [.t 26,.c (bB 0),.c (bB 9)]),jb 28 24 27,c5 29 24 28] (cx 29 [cd 2 false])) (.seq (R [a0 30 2 1,aJ 31 1 30,b9 32 31,bk 33 0] (dY 0 (R [bm 34 .lss 33 32] (.seq (du 34 0) (.seq (.block 1 (R [E 35 33,bs 36 1 31 33,aJ 37 1 36,E 3 35,E 4 37] (.seq (R [E 38 4,a0 39 1 1,aJ 40 1 39,b9 41 40,a5 42 .sub 41 1,aM 43 (.call sZ [.t 38,.c (bB 0),.t 42]),e4 44 43,E 45 44,fY 46 45 3,gu 47 45 .gtr 46 0,fY 48 45 47,dv 49 48 4,lo 50 48 2 1,hr 51 48 1 50,dv 52 48 3,hG 53 48 .sub 52 1,qO 54 48 1 51 53,hr 55 48 1 54,vP 56 48 .leq 49 55,fH 57 45 (.pick (.t 48) (.t 56) (.c (.M (.bool false)))),c5 58 45 57] (cx 58 [cd 2 false])) (R [a0 59 1 1,aJ 60 1 59,E 61 4,bs 62 4 60 61,bd 63 4 62,cL 5 346005 lp,bf 4 5 63] (eR [a0 64 0 5,aJ 65 1 64,a0 66 1 1,aJ 67 1 66,a0 68 2 1,aJ 69 1 68,aM 70 (.qu 1 (.t 69) (.c (bB 0))),aJ 71 1 70,bs 72 4 67 71,a0 73 0 72,aJ 74 1 73,bm 75 .neq 65 74,E 76 75,lG 77 76 5 1,lG 78 76 4 5,fH 79 76 (.call L8 [.t 77,.t 78]),fH 80 76 (.BM 3 1 false (.t 79)),fH 81 76 (.call sZ [.t 80,.c (bB 0),.c (bB 1000000000000000)]),jb 82 76 81,c5 83 76 82] at8 (cx 83 [cd 2 false])))))) (.ops [a5 84 .add 33 1,E 33 84])))))) (R [cd 2 true] .ret))))
def ano:bu:=bT 48 2 [.t 4,.cell 5 4 true,.t 6] (R [db 2 348002 0,cd 4 false,cL 5 348005 dT,bk 6 0] (R [bd 12 5 2,E 13 1,bV 14 EK 12 13,E 11 14,bl 15 0 11,bl 16 1 11,cL 7 348007 dT,bf 4 7 15,E 8 16] (.seq (R [E 17 8,a5 18 .neq 17 0] (cx 18 [aM 19 (.build dT []),E 20 8,cd 4 false,bf 4 5 19,E 6 20])) (R [bd 22 5 2,dp 23 Ak 22,E 21 23,bl 24 0 21,bl 25 1 21,E 9 24,E 8 25] (.seq (R [E 26 8,a5 27 .neq 26 0] (cx 27 [aM 28 (.build dT []),E 29 8,cd 4 false,bf 4 5 28,E 6 29])) (eR [bd 31 4 7,E 32 9,E 33 1,bs 34 4 32 33,bd 35 4 34,bV 36 vH 31 35,E 30 36,bl 37 0 30,bl 38 1 30,cL 10 348010 dT,bf 4 10 37,E 8 38] [[],[],[],[],[],[],[],[],[],[0,4],[],[]] (.seq (R [E 39 8,a5 40 .neq 39 0] (cx 40 [aM 41 (.build dT []),E 42 8,cd 4 false,bf 4 5 41,E 6 42])) (eR [a0 43 0 10,a0 44 0 43,aJ 45 1 44,a5 46 .gtr 45 0,bd 47 4 10,E 4 46,bf 4 5 47,bk 6 0] ae8 .ret))))))))
def anp:bu:=bT 72 2 [.t 4,.t 5] (R [db 2 350002 0,bk 4 0,bk 5 0] (R [bd 14 5 2,E 15 1,bV 16 EL 14 15,E 13 16,bl 17 0 13,bl 18 1 13,bl 19 2 13,cL 7 350007 dT,E 6 17,bf 4 7 18,E 8 19] (.seq (R [E 20 8,a5 21 .neq 20 0,E 22 21,fY 23 22 6,jb 24 22 23,c5 25 22 24] (cx 25 [E 26 8,bk 4 0,E 5 26])) (R [bd 28 5 2,dp 29 Ak 28,E 27 29,bl 30 0 27,bl 31 1 27,E 9 30,E 10 31] (R [bd 32 5 2,E 33 1,aM 34 (.m8 350034 4 EM [.t 32,.t 33]),E 11 34] (eR [E 35 11,a0 36 2 2,aJ 37 1 36,E 38 1,bs 39 1 37 38,aJ 40 1 39,a0 41 4 2,aJ 42 1 41,bs 43 4 35 40,a0 44 2 43,bf 1 44 42] EP (.seq (.ghost (.freeze 11) (.ops [a0 46 0 2,aJ 47 1 46,E 48 11,bV 49 uu 47 48,E 45 49,bl 50 0 45,bl 51 1 45,cL 12 350012 xq,bf 3 12 50,E 8 51])) (.seq (.block 0 (R [E 53 8,a5 54 .neq 53 0,E 52 54] (eC 52 (R [E 55 8,bk 4 0,E 5 55] .ret) (eR [a0 57 1 12,aJ 58 1 57,a0 59 2 2,aJ 60 1 59,E 61 1,bs 62 1 60 61,aJ 63 1 62,bs 64 4 58 63,bd 65 4 64,E 66 9,E 67 1,bs 68 4 66 67,bd 69 4 68,bV 70 kP 65 69,a5 71 .leq 70 0,E 56 71] ER (cx 56 [bk 4 1,bk 5 0]))))) (R [bk 4 2,bk 5 0] .ret)))))))))
def anq:bu:=bT 33 2 [.t 4] (R [db 2 354002 0,eo 4] (R [a0 8 1 2,aJ 9 1 8,aM 10 (.m8 354010 4 X9 [.t 9]),E 5 10] (.seq (R [a0 11 2 2,aJ 12 1 11,b9 13 12,bk 14 0] (dY 0 (R [bm 15 .lss 14 13] (.seq (du 15 0) (.seq (.block 1 (R [E 16 14,bs 17 1 12 14,aJ 18 1 17,E 6 16,E 7 18] (R [E 19 6,E 20 1,bm 21 .neq 19 20] (eC 21 (.mz [E 22 5,E 23 7,bd 24 5 2,E 25 5,E 26 7,bs 27 4 25 26,bd 28 4 27,bV 29 L8 24 28,bs 30 4 22 23,bf 4 30 29] HX) .skip)))) (.ops [a5 31 .add 14 1,E 14 31])))))) (R [E 32 5,E 4 32] .ret))))
def anr:bu:=bT 15 3 [.t 6] (R [cd 6 false] (R [E 7 1,E 8 0,bm 9 .leq 7 8,E 10 9,dv 11 10 0,dv 12 10 2,vP 13 10 .leq 11 12,e9 14 10 13,E 6 14] .ret))
def ans:bu:=bT 30 2 [.t 4] (R [cd 4 false] (R [E 8 0,b9 9 8,aM 5 (.alloc 356005 [bB 0]),bf 1 5 9] (R [aM 6 (.alloc 356006 [.M .tN]),⟨none,none,.store 1 (.t 6) (.c (.fx xo []))⟩] (R [aM 10 (.pa EN [.t 5,.t 6]),E 7 10] (R [aJ 11 1 5,a5 12 .leq 11 60,E 13 12,dv 14 13 1,Ma 15 13 14,hG 16 13 .leq 15 2000,e9 17 13 16,E 18 17,dv 19 18 0,hr 20 18 1 6,gv 21 18 (.call EE [.t 19,.t 20]),xp 22 18 21,e9 23 18 22,E 24 23,dv 25 24 1,dv 26 24 7,gv 27 24 (.call Aj [.t 25,.t 26]),xp 28 24 27,e9 29 24 28,E 4 29] .ret)))))
def ant:bu:=bT 24 2 [.cell 4 4 true] (R [db 2 357002 0,db 3 357003 1,cL 4 357004 lp] (eR [a0 5 4 2,aJ 6 1 5,a0 7 3 3,aJ 8 1 7,a5 9 .quo 8 1000,a0 10 3 2,aJ 11 1 10,bm 12 .mul 9 11,a0 13 3 3,aJ 14 1 13,a5 15 .rem 14 1000,a0 16 3 2,aJ 17 1 16,bm 18 .mul 15 17,a5 19 .quo 18 1000,bm 20 .add 12 19,a0 21 2 3,bf 1 21 6,a0 22 3 3,bf 1 22 20] [[],[],[],[],[],[],[],[],[],[],[],[],[],[],[],[],[],[6,12],[],[]] (R [bd 23 4 3,bf 4 4 23] .ret)))
def anu:bu:=bT 6 1 [.t 2] (R [cd 2 false] (R [E 3 0,aM 4 (.call sZ [.t 3,.c (bB 0),.c (bB 1000000000000000)]),e4 5 4,E 2 5] .ret))
def anv:bu:=bT 31 3 [.t 4] (R [db 3 362003 0,cd 4 false] (R [a0 5 0 3,aJ 6 1 5,aJ 7 1 1,a5 8 .sub 7 1,aM 9 (.call sZ [.t 6,.c (bB 0),.t 8]),e4 10 9,E 11 10,fg 12 11 1 3,ew 13 11 1 12,ew 14 11 1 1,gu 15 11 .sub 14 1,fH 16 11 (.call sZ [.t 13,.c (.M (.int .i64 (-1))),.t 15]),jb 17 11 16,c5 18 11 17,E 19 18,fg 20 19 2 3,ew 21 19 1 20,fH 22 19 (.call sZ [.t 21,.c (bB 0),.c (bB 9)]),jb 23 19 22,c5 24 19 23,E 25 24,ew 26 25 1 2,fg 27 25 3 3,ew 28 25 1 27,fH 29 25 (.jV (.t 26) [.t 28]),c5 30 25 29,E 4 30] .ret))
def vb (l:List Int):List Data:=[.ay (l.map aC)]
def anw:∀a b:List Int,vb a=vb b->a=b:=by
 intro a b h;simp only[vb,bh,Data.ay.injEq,and_true] at h;exact map_inj fq _ _ h
def aCL (a:List (List Int)):Prop:=D a<=1000000/\∀l∈a,D l<=1000000
def gh {α:Type}:List ao->List α->Int->List α
 |c::cs,p::ps,di=>if c.1==di then p::gh cs ps di else gh cs ps di
 |_,_,_=>[]
def anx {α:Type}:∀(cs:List ao) (ps:List α) (c:ao) (p:α) (di:Int),D cs=(D ps)->gh (cs++[c]) (ps++[p]) di=gh cs ps di++if c.1==di then [p] else []
 | [],[],c,p,di,_=>by simp only[ik,gh]
 | [],_::_,_,_,_,h=>by simp at h
 |_::_,[],_,_,_,h=>by simp at h
 |a::cs,b::ps,c,p,di,h=>by
  have av:=anx cs ps c p di (by simpa using h);simp only[ky,gh,av]
  split<;>rfl
def aCM {α:Type}(cs:List ao)(aL:ao->α)(di:Int):gh cs (cs.map aL) di=(cE cs di).map aL:=by
 unfold cE
 induction cs with
 |nil=>rfl
 |cons c cs av =>
  rw[eu,gh,av]
  by_cases h:(c.1==di)=true
  ·rw[ab h,abM,ab h];rfl
  ·rw[ae h,abM,ae h]
def anz {α:Type}:∀(cs:List ao) (ps:List α) (di:Int),(gh cs ps di).length<=D cs
 | [],_,_=>by simp[gh]
 |_::_,[],_=>by simp[gh]
 |a::cs,b::ps,di=>by
  have av:=anz cs ps di;rw[gh]
  split<;>simp<;>omega
def abN {α β:Type}(f:α->β):∀(cs:List ao) (ps:List α) (di:Int),gh cs (ps.map f) di=(gh cs ps di).map f
 | [],_,_=>by simp[gh]
 |_::_,[],_=>by simp[gh]
 |a::cs,b::ps,di=>by
  have av:=abN f cs ps di;rw[eu,gh,gh,av]
  split<;>simp
def abO {α:Type}:∀(cs:List ao) (ps:List α) (di:Int),D ps=(D cs)->(gh cs ps di).length=(cE cs di).length
 | [],_,_,_=>by simp[gh,cE]
 |_::_,[],_,h=>by simp at h
 |a::cs,b::ps,di,h=>by
  have av:=abO cs ps di (by simpa using h);unfold cE at av ⊢;rw[gh,abM]
  split<;>simp[av]
def T4 {α:Type}{x:α}:∀{cs:List ao} {ps:List α} {di:Int},x∈gh cs ps di->x∈ps
 | [],_,_,h=>by simp[gh] at h
 |_::_,[],_,h=>by simp[gh] at h
 |a::cs,b::ps,di,h=>by
  rw[gh] at h
  split at h
  ·rcases List.mem_cons.1 h with rfl|h
   ·simp
   ·exact g5 _ (T4 h)
  ·exact g5 _ (T4 h)
def ih (l:List ao)(q:Nat->Rat):Nat->Int
 |0=>10
 |k+1=>match l[k]? with
  |some c=>if q k<(c.2.2.2:Rat) then min (ih l q k) c.2.2.1 else ih l q k
  |none=>ih l q k
def anA {l:List ao}{q:Nat->Rat}(h:∀c∈l,0<=c.2.2.1/\c.2.2.1<10)(k:Nat):0<=ih l q k/\ih l q k<=10:=by
 induction k with
 |zero=>exact⟨show (0:Int)<=10 by decide,show (10:Int)<=10 by decide⟩
 |succ k av =>
  unfold ih
  split
  ·rename_i c H;have:=h c (dZ H)
   split<;>omega
  ·exact av
def aCN {l:List ao}{q:Nat->Rat}(h:∀c∈l,0<=c.2.2.1/\c.2.2.1<10)(k:Nat):ih l q k<10↔∃i,i<k/\∃c,l[i]?=some c/\q i<(c.2.2.2:Rat):=by
 induction k with
 |zero=>exact⟨λh=>absurd h (show ¬ (10:Int)<10 by decide),fun⟨i,h,_⟩=>by omega⟩
 |succ k av =>
  unfold ih
  split
  ·rename_i c H;have ad:=h c (dZ H);have I:=anA (q:=q) h k
   by_cases aY:q k<(c.2.2.2:Rat)
   ·rw[ab aY];exact⟨λ_=>⟨k,by omega,c,H,aY⟩,λ_=>by omega⟩
   ·rw[ae aY,av]
    constructor
    ·rintro⟨i,F,G⟩;exact⟨i,by omega,G⟩
    ·rintro⟨i,F,c',G,af⟩
     by_cases abP:i=k
     ·subst abP;rw[H] at G;cases G;exact absurd af aY
     ·exact⟨i,by omega,c',G,af⟩
  ·rename_i H;rw[av]
   constructor
   ·rintro⟨i,F,G⟩;exact⟨i,by omega,G⟩
   ·rintro⟨i,F,c',G,af⟩
    by_cases abP:i=k
    ·subst abP;rw[H] at G;cases G
    ·exact⟨i,by omega,c',G,af⟩
structure anB (l:List ao) (q:List Rat):Prop where
 own:ly l
 len:(D q)=D l
 Dl:∀x∈q,dc x
def T5 (l:List ao)(q:List Rat):Data:=if ih l (λi=>q.getD i 0) (D l)<10 then .cP [.int .i64 (ih l (λi=>q.getD i 0) (D l)),.bool true] else .cP [.int .i64 0,.bool false]
def pO (cs:List ao)(ps:List Rat)(i:Int):Int:=ih (cE cs i) (λk=>(gh cs ps i).getD k 0) (cE cs i).length
def tC (cs:List ao)(ps:List Rat)(i:Int):Int:=if pO cs ps i<10 then pO cs ps i else 0
def aCO (cs:List ao)(ps:List Rat)(i:Int):T5 (cE cs i) (gh cs ps i)=.cP [.int .i64 (tC cs ps i),.bool (decide (pO cs ps i<10))]:=by
 unfold T5 tC pO
 split
 ·rename_i h;rw[h2 h]
 ·rename_i h;rw[lZ h]
def wK (cs:List ao)(ps:List Rat)(set:List Int)(i:Int):Bool:=cs.any λc=>c.1==i&&(c.2.2.1==tC cs ps i&&(decide (c.2.2.2>0) && !decide (c.2.1∈set)))
structure wL (cash:List Int) (cs:List ao) (ps:List Rat):Prop where
 len:(D ps)=D cs
 l:(D cs)<=2000
 n:(D cash)<=60
 own:∀i:Int,ly (cE cs i)
 Dl:∀x∈ps,dc x
def wL.short {cash:List Int}{cs:List ao}{ps:List Rat}(h:wL cash cs ps)(i:Int):anB (cE cs i) (gh cs ps i):=⟨h.own i,abO cs ps i h.len,λx Q=>h.Dl x (T4 Q)⟩
def gz (cash:List Int)(cs:List ao)(aA cy:List bF)(aP:List (List Int)):List Data:=[.ay (cash.map aC),.ay (cs.map bW),.ay (aA.map aU),.ay (cy.map aU),.ay (aP.map vb)]
def Bq {cash Bg:List Int}{cs jo:List ao}{aA nb cy zq:List bF}{aP JB:List (List Int)}(h:gz cash cs aA cy aP=gz Bg jo nb zq JB):cash=Bg/\cs=jo/\aA=nb/\cy=zq/\aP=JB:=by
 simp only[gz,bh,Data.ay.injEq,and_true] at h;exact⟨map_inj fq _ _ h.1,map_inj u7 _ _ h.2.1,map_inj nq _ _ h.2.2.1,map_inj nq _ _ h.2.2.2.1,map_inj anw _ _ h.2.2.2.2⟩
abbrev T6:Int×(List bF)×Nat->List Data:=λ(z,h,i)=>[.int .i64 z,.ptr [.ay (h.map aU)],.ptr [.int .i64 i]]
def T7:=bU T6 λ(z,h,i)=>cp (fa z/\i<D h/\mZ h) (.same (.bool (decide (py (h.getD i eA) (ax (z:Rat))<0))))
def aCP:∀a b,T6 a=T6 b->a=b:=by
  rintro⟨fA,F,i1⟩ ⟨hl,G,i2⟩ h;simp only[bh,Data.int.injEq,Data.ptr.injEq,Data.ay.injEq,and_true,true_and] at h;exact ej h.1 (ej (map_inj nq _ _ h.2.1) (by have:=h.2.2;dsimp only;omega))
@[go_sem] def aCQ (z h i):=cz T7 rfl aCP (z,h,i) rfl
def aCR (T:ba)(kG:T om=aQ ss)(eK:T kP=aQ pz):WF T ahz T7:=by
 refine cf λ(z,h,i)=>cG λH=>⟨rfl,b7 ?_⟩;simp only[ahz,T6,b1];obtain⟨aV,J,cT⟩:=H;have hw:=Dn z aV;obtain⟨x,Q⟩:∃x,h[i]?=some x:=⟨_,bn J⟩;have jO:h.getD i eA=x:=by rw[ei,Q];rfl
 obtain⟨Du,Dv⟩:=cT.2 x (dZ Q);obtain⟨Dw,Dx⟩:=m1 (rq aV);rw[jO];generalize ax (z:Rat)=Z at *;obtain⟨⟨cH,cY⟩,⟨ep,fi⟩⟩:=Z;obtain⟨⟨c6,eB⟩,⟨jA,lT⟩⟩:=x;have kS:=ahp c6 eB jA lT cH cY ep fi ⟨Du,Dv,Dw,Dx⟩;simp only[aU] at hw;refine ai ?_;repeat' (intro (aw:_=_)<;>simp only[aw,go_sem,go_sem_proc,kG,eK,hw,Q,kS,aU,ar,bo]<;>try refine ah ?_ ?_)
def OH:=bU oo λ(x:Int)=>some (.same (.bool (gW x)))
@[go_sem] def aPj (x):=pk OH rfl An x rfl
def aCS (T:ba):WF T amg OH:=by
 refine cf λx=>⟨rfl,b7 ?_⟩;simp only[amg,oo,b1];unfold gW;rcases aG:decide (0<=x)
 ·have c2:decide (x>=0)=false:=aG;refine ai ?_;repeat' (intro h<;>simp only[h,go_sem,go_sem_proc,aG,c2,fC]<;>try refine ah ?_ ?_)
 ·have c2:decide (x>=0)=true:=aG;refine ai ?_;repeat' (intro h<;>simp only[h,go_sem,go_sem_proc,aG,c2,g4]<;>try refine ah ?_ ?_)
def T8:=bU oo λ(x:Int)=>some (.same (.bool (!gW x)))
@[go_sem] def aCT (x):=pk T8 rfl An x rfl
def aCU (T:ba)(OI:T L2=aQ OH):WF T amf T8:=by
 refine cf λx=>⟨rfl,b7 ?_⟩;simp only[amf,oo,b1];refine ai ?_;repeat' (intro h<;>simp only[h,go_sem,go_sem_proc,OI]<;>try refine ah ?_ ?_)
def Gl:=bU zv λ(x,a,b)=>some (.same (.bool (decide (a<=x)&&decide (x<=b))))
@[go_sem] def aPk (x a b):=pk Gl rfl Tw (x,a,b) rfl
def aCV (T:ba):WF T anr Gl:=by
 refine cf λ(x,a,b)=>⟨rfl,b7 ?_⟩;simp only[anr,zv,b1];rcases aG:decide (a<=x)
 ·refine ai ?_;repeat' (intro h<;>simp only[h,go_sem,go_sem_proc,aG,fC]<;>try refine ah ?_ ?_)
 ·refine ai ?_;repeat' (intro h<;>simp only[h,go_sem,go_sem_proc,aG,g4]<;>try refine ah ?_ ?_)
def OJ:=bU oo λ(x:Int)=>some (.same (.bool (!gW x)))
@[go_sem] def aCW (x):=pk OJ rfl An x rfl
def aCX (T:ba)(mo:T sZ=aQ Gl):WF T anu OJ:=by
 refine cf λx=>⟨rfl,b7 ?_⟩;simp only[anu,oo,b1];unfold gW;refine ai ?_;repeat' (intro h<;>simp only[h,go_sem,go_sem_proc,mo]<;>try refine ah ?_ ?_)
def OK:=bU zv λ(x,a,b)=>some (.same (.bool (decide (a<=x)&&decide (x<=b))))
@[go_sem] def aPl (x a b):=pk OK rfl Tw (x,a,b) rfl
def aCY (T:ba):WF T ahJ OK:=by
 refine cf λ(x,a,b)=>⟨rfl,b7 ?_⟩;simp only[ahJ,zv,b1];rcases aG:decide (a<=x)
 ·refine ai ?_;repeat' (intro h<;>simp only[h,go_sem,go_sem_proc,aG,fC]<;>try refine ah ?_ ?_)
 ·refine ai ?_;repeat' (intro h<;>simp only[h,go_sem,go_sem_proc,aG,g4]<;>try refine ah ?_ ?_)
def OL:=bU oo λ(x:Int)=>some (.same (.bool (gW x)))
@[go_sem] def aPm (x):=pk OL rfl An x rfl
def aCZ (T:ba)(abQ:T EF=aQ OK):WF T ahI OL:=by
 refine cf λx=>⟨rfl,b7 ?_⟩;simp only[ahI,oo,b1];unfold gW;refine ai ?_;repeat' (intro h<;>simp only[h,go_sem,go_sem_proc,abQ]<;>try refine ah ?_ ?_)
abbrev T9:Int->List Data:=λ(x:Int)=>[.int .i64 x,.ptr [.fn xn []]]
def Ua:=bU T9 λ(x:Int)=>some (.same (.bool (!gW x)))
def aC0:∀a b,T9 a=T9 b->a=b:=by
  intro gR fS h;simp only[bh,Data.int.injEq,Data.agg.injEq,Data.ay.injEq,Data.bool.injEq,Data.str.injEq,Data.ptr.injEq,Data.cP.injEq,e2,true_and,and_true] at h ⊢
  first|exact h|simpa [xr,and_assoc] using h|grind
@[go_sem] def aC1 (x):=pk Ua rfl aC0 x rfl
def aC2 (T:ba)(abR:T xn=aQ OL):WF T ahU Ua:=by
 refine cf λx=>⟨rfl,b7 ?_⟩;simp only[ahU,T9,b1];refine ai ?_;repeat' (intro h<;>simp only[h,go_sem,go_sem_proc,abR]<;>try refine ah ?_ ?_)
abbrev Ub:Int×(List Int)×(List ao)×(List bF)×(List Rat)×(List (List Int))×(List Int)->List Data:=λ(x,cash,cs,aA,ps,aP,set)=>[.int .i64 x,.ptr (gz cash cs aA (ps.map ax) aP),.ptr [.ay (set.map aC)]]
def Gm:=bU Ub λ(x,cash,cs,aA,ps,aP,set)=>cp (wL cash cs ps/\D set<=1000000) (.same (.bool (wK cs ps set x)))
def aC3:∀a b,Ub a=Ub b->a=b:=by
  rintro⟨gR,tD,vc,pW,OM,Gn,anC⟩ ⟨fS,tE,oh,pX,ON,Gp,anD⟩ h;simp only[bh,Data.int.injEq,Data.ptr.injEq,Data.ay.injEq,and_true,true_and] at h;obtain⟨F,cr,G⟩:=h;obtain⟨rfl,rfl,rfl,b6,rfl⟩:=Bq cr;rw[F,map_inj fq _ _ G,map_inj (λ_ _ aX=>se aX) _ _ b6]
@[go_sem] def anE (x cash cs aA ps aP set):=cz Gm rfl aC3 (x,cash,cs,aA,ps,aP,set) rfl
def JY (T:ba)(id:FuncId)(eM:List Data)(aL:List Data->Option dx)(cQ:T id=aQ aL)(p:Int->Bool)(l:List Int)(ak:(D l)<=1000000)(eW:∀x∈l,aL (.int .i64 x::eM)=some (.same (.bool (p x)))):WP T QW (.same (.int .i64 (oW p l))) [.M (.ay (l.map aC)),.M (.fn id eM)]:=by
 refine b7 ?_;simp only[QW];simp only[go_sem,go_sem_proc,ar];refine da [0,1,7] [] (λ(i:Nat) tm mem=>i<=D l/\(∀x∈l.take i,p x=false)/\tm 8=.M (.int .i64 i)) (λi=>D l-i) 0 (by refine⟨fy _,by simp,rfl⟩) ?_;intro vs ms aW aR;simp only[go_sem,go_sem_proc,ar] at aW aR;subst aW aR;rintro i tm mem I hm ⟨J,en,cN⟩;simp only[go_sem,go_sem_proc,bh] at I hm;obtain⟨au,F,cb⟩:=I;have kS:∀m:Mem,(eM.map O.M).mapM (b5 6 m)=some eM:=λm=>r1 (b5 6 m) (λd=>rfl) eM;rcases dq (i<D l) with aq|ca
 ·have Q:=bn aq;have qf:=eW _ (nC aq);have bH:=λh=>M0 (p:=p) en Q h;have gJ:=λh=>RS (p:=p) en Q h;generalize l[i]=x at *;have kY:decide ((i:Int)<(D l:Int))=true:=cX;have hw:=e0 (i:=i) (by omega);rcases ad:p x
  ·rw[ad] at qf;refine ai ?_;repeat' (intro (aw:_=_)<;>simp only[aw,go_sem,go_sem_proc,cQ,au,F,cb,cN,Q,kY,hw,qf,kS,aC,ar,bo,ng]<;>try refine ah ?_ ?_)
   exact⟨i+1,by omega,by omega,gJ ad,rfl⟩
  ·rw[ad] at qf;rw[bH ad];refine ai ?_;repeat' (intro (aw:_=_)<;>simp only[aw,go_sem,go_sem_proc,cQ,au,F,cb,cN,Q,kY,hw,qf,kS,aC,ar,bo,ng]<;>try refine ah ?_ ?_)
 ·have kY:decide ((i:Int)<(D l:Int))=false:=cA;obtain rfl:i=D l:=by omega
  rw[mW] at en;rw[RR en];refine ai ?_;repeat' (intro (aw:_=_)<;>simp only[aw,go_sem,go_sem_proc,au,F,cb,cN,kY,ar]<;>try refine ah ?_ ?_)
inductive OO where
 |right
 |day
 |hold
 |solve (h:List bF) (i:Nat)
 |sw
 |Dy (cash:List Int) (cs:List ao) (aA:List bF) (ps:List Rat) (aP:List (List Int)) (set:List Int)
def wM:OO->Data
 |.right => .fn LZ [.ptr [.fn Cg []]]
 |.day => .fn HR []
 |.hold => .fn xo []
 |.solve h i => .fn ED [.ptr [.ay (h.map aU)],.ptr [.int .i64 i]]
 |.sw => .fn Ch [.ptr [.fn xn []]]
 |.Dy cash cs aA ps aP set => .fn uw [.ptr (gz cash cs aA (ps.map ax) aP),.ptr [.ay (set.map aC)]]
def aC4:∀a b:OO,wM a=wM b->a=b:=by
 intro a b e
 cases a<;>cases b
 all_goals first|rfl|(simp[wM,LZ,HR,ED,xo,Ch,uw] at e;done)|skip
 ·simp only[wM,Data.fn.injEq,bh,Data.ptr.injEq,Data.ay.injEq,Data.int.injEq,and_true,true_and] at e;rw[map_inj nq _ _ e.1,Int.ofNat.inj e.2]
 ·simp only[wM,Data.fn.injEq,bh,Data.ptr.injEq,Data.ay.injEq,and_true,true_and] at e;obtain⟨cr,G⟩:=e;obtain⟨rfl,rfl,rfl,b6,rfl⟩:=Bq cr;rw[map_inj fq _ _ G,map_inj (λ_ _ aX=>se aX) _ _ b6]
def tF:OO->Int->Bool
 |.right,x => !gW x
 |.day,x => !gW x
 |.hold,x => !gW x
 |.solve h i,x=>decide (py (h.getD i eA) (ax (x:Rat))<0)
 |.sw,x => !gW x
 |.Dy _ cs _ ps _ set,x=>wK cs ps set x
def anF (l:List Int):OO->Prop
 |.right=>True
 |.day=>HR<900000
 |.hold=>xo<900000
 |.solve h i=>ED<900000/\i<D h/\mZ h/\∀x∈l,fa x
 |.sw=>Ch<900000
 |.Dy cash cs _ ps _ set=>uw<900000/\wL cash cs ps/\D set<=1000000
abbrev JZ:(List Int)×OO->List Data:=λ(l,c)=>[.ay (l.map aC),wM c]
def wN:=bU JZ λ(l,c)=>cp (D l<=1000000/\anF l c) (.same (.int .i64 (oW (tF c) l)))
def anG:∀a b,JZ a=JZ b->a=b:=by
  rintro⟨eH,aG⟩ ⟨aI,c2⟩ h;simp only[bh,Data.ay.injEq,and_true] at h;exact ej (map_inj fq _ _ h.1) (aC4 _ _ h.2)
@[go_sem] def anH (l c):=cz wN rfl anG (l,c) rfl
def aC5 (T:ba)(aC6:T LZ=aQ Ty)(aC7:HR<900000->T HR=aQ T8)(abS:xo<900000->T xo=aQ OJ)(aC8:ED<900000->T ED=aQ T7)(aC9:Ch<900000->T Ch=aQ Ua)(OP:uw<900000->T uw=aQ Gm):WF T QW wN:=by
 refine cf λ(l,c)=>cG λH=>⟨rfl,b7 ?_⟩;simp only[QW,JZ,b1];obtain⟨ak,cT⟩:=H
 cases c with
 |right=>exact qe (JY T _ _ _ aC6 (tF .right) l ak λx _=>aA6 x)
 |day=>exact qe (JY T _ _ _ (aC7 cT) (tF .day) l ak λx _=>aCT x)
 |hold=>exact qe (JY T _ _ _ (abS cT) (tF .hold) l ak λx _=>aCW x)
 |solve h k=>exact qe (JY T _ _ _ (aC8 cT.1) (tF (.solve h k)) l ak λx Q=>aCQ x h k ⟨cT.2.2.2 x Q,cT.2.1,cT.2.2.1⟩)
 |sw=>exact qe (JY T _ _ _ (aC9 cT) (tF .sw) l ak λx _=>aC1 x)
 |Dy cash cs aA ps aP set=>exact qe (JY T _ _ _ (OP cT.1) (tF (.Dy cash cs aA ps aP set)) l ak λx _=>anE x cash cs aA ps aP set cT.2)
def J0:=bU JZ λ(l,c)=>cp (D l<=1000000/\anF l c) (.same (.bool (l.any (tF c))))
@[go_sem] def abT (l c):=cz J0 rfl anG (l,c) rfl
def aDa (T:ba)(rv:T uv=aQ wN):WF T afB J0:=by
 refine cf λ(l,c)=>cG λH=>⟨rfl,b7 ?_⟩;simp only[afB,JZ,b1];rw[<-M3];refine ai ?_;repeat' (intro h<;>simp only[h,go_sem,go_sem_proc,rv,H]<;>try refine ah ?_ ?_)
abbrev Uc:Int×Int×Int×Int×(List Int)->List Data:=λ(a,b,k,x,cash)=>[.agg [.int .i64 a,.int .i64 b,.int .i64 k,.int .i64 x],.ptr [.ay (cash.map aC)]]
def Ud:=bU Uc λ(a,b,k,x,cash)=>cp (D cash<=1000000) (.same (.bool (!iw (D cash) (a,b,k,x))))
def aDb:∀a b,Uc a=Uc b->a=b:=by
  rintro⟨cH,c6,bS,gR,tD⟩ ⟨cY,eB,cM,fS,tE⟩ h;simp only[bh,Data.agg.injEq,Data.int.injEq,Data.ptr.injEq,Data.ay.injEq,and_true,true_and] at h;obtain⟨⟨F,G,af,aS⟩,bt⟩:=h;rw[F,G,af,aS,map_inj fq _ _ bt]
@[go_sem] def aDc (a b k x cash):=cz Ud rfl aDb (a,b,k,x,cash) rfl
def aDd (T:ba)(OI:T L2=aQ OH):WF T amh Ud:=by
 refine cf λ(a,b,k,x,cash)=>cG λH=>⟨rfl,b7 ?_⟩;simp only[amh,Uc,b1]
 by_cases aa:iw (D cash) (a,b,k,x)=true
 ·have BV:=F8.1 aa;dsimp only at BV;have aG:decide (a<0)=false:=cA;have c2:decide (a>=(D cash:Int))=false:=cA;have c3:decide (b < -1)=false:=cA;have c4:decide (b>=(D cash:Int))=false:=cA;have Oj:decide (k<0)=false:=cA;have Ok:decide (k>=10)=false:=cA;have Gq:gW x=true:=F9.2 (by omega);refine ai ?_;repeat' (intro h<;>simp only[h,go_sem,go_sem_proc,OI,aa,aG,c2,c3,c4,Oj,Ok,Gq,ar,cF]<;>try refine ah ?_ ?_)
 ·have aK:iw (D cash) (a,b,k,x)=false:=by simpa using aa
  rw[F8] at aa;dsimp only at aa;rcases Gq:gW x
  ·refine ai ?_;repeat' (intro h<;>simp only[h,go_sem,go_sem_proc,OI,aK,Gq,ar,cF,dd]<;>try refine ah ?_ ?_)
  ·have aPn:=F9.1 Gq;refine ai ?_;repeat' (intro h<;>simp only[h,go_sem,go_sem_proc,OI,aK,Gq,ar,cF,dd]<;>try refine ah ?_ ?_)
   all_goals (exfalso;simp only[decide_eq_false_iff_not] at *;omega)
abbrev Ue:Int×Int×Int×Int×Int->List Data:=λ(a,b,k,x,n)=>[.agg [.int .i64 a,.int .i64 b,.int .i64 k,.int .i64 x],.ptr [.int .i64 n],.ptr [.fn xo []]]
def Uf:=bU Ue λ(a,b,k,x,n)=>cp (0<=n/\n<=1000000) (.same (.bool (!iw n (a,b,k,x))))
def aDe:∀a b,Ue a=Ue b->a=b:=by
  rintro⟨cH,c6,bS,gR,h7⟩ ⟨cY,eB,cM,fS,iZ⟩ h;simp only[bh,Data.int.injEq,Data.agg.injEq,Data.ay.injEq,Data.bool.injEq,Data.str.injEq,Data.ptr.injEq,Data.cP.injEq,e2,true_and,and_true] at h ⊢
  first|exact h|simpa [xr,and_assoc] using h|grind
@[go_sem] def aDf (a b k x n):=cz Uf rfl aDe (a,b,k,x,n) rfl
def aDg (T:ba)(mo:T sZ=aQ Gl)(abS:T xo=aQ OJ):WF T anv Uf:=by
 refine cf λ(a,b,k,x,n)=>cG λH=>⟨rfl,b7 ?_⟩;simp only[anv,Ue,b1];have w:IntKind.i64.wrap (n-1)=n-1:=by rw[ev _]
 have e:iw n (a,b,k,x)=((decide (0<=a)&&decide (a<=n-1))&&((decide (-1<=b)&&decide (b<=n-1))&&((decide (0<=k)&&decide (k<=9))&&gW x))):=by
  rw[kd,F8];simp only[eQ,decide_eq_true_eq,F9];omega
 rw[e];rcases aG:(decide (0<=a)&&decide (a<=n-1))<;>rcases c2:(decide (-1<=b)&&decide (b<=n-1))<;>rcases c3:(decide (0<=k)&&decide (k<=9))<;>rcases c4:gW x
 all_goals
      refine ai ?_;repeat' (intro h<;>simp only[h,go_sem,go_sem_proc,mo,abS,w,aG,c2,c3,c4]<;>try refine ah ?_ ?_)
abbrev Ug:Int×Int×Int×Int×Int->List Data:=λ(a,b,k,x,n)=>[.agg [.int .i64 a,.int .i64 b,.int .i64 k,.int .i64 x],.ptr [.int .i64 n],.ptr [.fn xn []]]
def Uh:=bU Ug λ(a,b,k,x,n)=>cp (0<=n/\n<=1000000) (.same (.bool (iw n (a,b,k,x))))
def aDh:∀a b,Ug a=Ug b->a=b:=by
  rintro⟨cH,c6,bS,gR,h7⟩ ⟨cY,eB,cM,fS,iZ⟩ h;simp only[bh,Data.int.injEq,Data.agg.injEq,Data.ay.injEq,Data.bool.injEq,Data.str.injEq,Data.ptr.injEq,Data.cP.injEq,e2,true_and,and_true] at h ⊢
  first|exact h|simpa [xr,and_assoc] using h|grind
@[go_sem] def aPo (a b k x n):=cz Uh rfl aDh (a,b,k,x,n) rfl
def aDi (T:ba)(abQ:T EF=aQ OK)(abR:T xn=aQ OL):WF T ahK Uh:=by
 refine cf λ(a,b,k,x,n)=>cG λH=>⟨rfl,b7 ?_⟩;simp only[ahK,Ug,b1];have w:IntKind.i64.wrap (n-1)=n-1:=by rw[ev _]
 have e:iw n (a,b,k,x)=((decide (0<=a)&&decide (a<=n-1))&&((decide (-1<=b)&&decide (b<=n-1))&&((decide (0<=k)&&decide (k<=9))&&gW x))):=by
  rw[kd,F8];simp only[eQ,decide_eq_true_eq,F9];omega
 rw[e];rcases aG:(decide (0<=a)&&decide (a<=n-1))<;>rcases c2:(decide (-1<=b)&&decide (b<=n-1))<;>rcases c3:(decide (0<=k)&&decide (k<=9))<;>rcases c4:gW x
 all_goals
      refine ai ?_;repeat' (intro h<;>simp only[h,go_sem,go_sem_proc,abQ,abR,w,aG,c2,c3,c4]<;>try refine ah ?_ ?_)
abbrev Ui:Int×Int×Int×Int×Int->List Data:=λ(a,b,k,x,n)=>[.agg [.int .i64 a,.int .i64 b,.int .i64 k,.int .i64 x],.ptr [.fn HU [.ptr [.int .i64 n],.ptr [.fn xn []]]]]
def Uj:=bU Ui λ(a,b,k,x,n)=>cp (0<=n/\n<=1000000) (.same (.bool (!iw n (a,b,k,x))))
def aDj:∀a b,Ui a=Ui b->a=b:=by
  rintro⟨cH,c6,bS,gR,h7⟩ ⟨cY,eB,cM,fS,iZ⟩ h;simp only[bh,Data.int.injEq,Data.agg.injEq,Data.ay.injEq,Data.bool.injEq,Data.str.injEq,Data.ptr.injEq,Data.cP.injEq,e2,true_and,and_true] at h ⊢
  first|exact h|simpa [xr,and_assoc] using h|grind
@[go_sem] def aDk (a b k x n):=cz Uj rfl aDj (a,b,k,x,n) rfl
def aDl (T:ba)(aDm:T HU=aQ Uh):WF T ahV Uj:=by
 refine cf λ(a,b,k,x,n)=>cG λH=>⟨rfl,b7 ?_⟩;simp only[ahV,Ui,b1];refine ai ?_;repeat' (intro h<;>simp only[h,go_sem,go_sem_proc,aDm,H]<;>try refine ah ?_ ?_)
abbrev Uk:Int×Int×Int×Int×Int×Int×(List Int)->List Data:=λ(a,b,k,x,i,e,set)=>[.agg [.int .i64 a,.int .i64 b,.int .i64 k,.int .i64 x],.ptr [.int .i64 i],.ptr [.int .i64 e],.ptr [.ay (set.map aC)]]
def Ul:=bU Uk λ(a,b,k,x,i,e,set)=>cp (D set<=1000000) (.same (.bool (a==i&&(k==e&&(decide (x>0) && !decide (b∈set))))))
def aDn:∀a b,Uk a=Uk b->a=b:=by
  rintro⟨cH,c6,bS,gR,i1,az,anC⟩ ⟨cY,eB,cM,fS,i2,aD,anD⟩ h;simp only[bh,Data.agg.injEq,Data.int.injEq,Data.ptr.injEq,Data.ay.injEq,and_true,true_and] at h;obtain⟨⟨F,G,af,aS⟩,bt,b2,cb⟩:=h;rw[F,G,af,aS,bt,b2,map_inj fq _ _ cb]
@[go_sem] def aDo (a b k x i e set):=cz Ul rfl aDn (a,b,k,x,i,e,set) rfl
def OQ (T:ba)(id:FuncId)(eM:List Data)(aL:List Data->Option dx)(cQ:T id=aQ aL)(p:ao->Bool)(l:List ao)(ak:(D l)<=1000000)(eW:∀a b k z,(a,b,k,z)∈l->aL (.agg [.int .i64 a,.int .i64 b,.int .i64 k,.int .i64 z]::eM)=some (.same (.bool (p (a,b,k,z))))):WP T QY (.same (.int .i64 (oW p l))) [.M (.ay (l.map bW)),.M (.fn id eM)]:=by
 refine b7 ?_;simp only[QY];simp only[go_sem,go_sem_proc,ar];refine da [0,1,7] [] (λ(i:Nat) tm mem=>i<=D l/\(∀x∈l.take i,p x=false)/\tm 8=.M (.int .i64 i)) (λi=>D l-i) 0 (by refine⟨fy _,by simp,rfl⟩) ?_;intro vs ms aW aR;simp only[go_sem,go_sem_proc,ar] at aW aR;subst aW aR;rintro i tm mem I hm ⟨J,en,cN⟩;simp only[go_sem,go_sem_proc,bh] at I hm;obtain⟨au,F,cb⟩:=I;have kS:∀m:Mem,(eM.map O.M).mapM (b5 6 m)=some eM:=λm=>r1 (b5 6 m) (λd=>rfl) eM;rcases dq (i<D l) with aq|ca
 ·have Q:=bn aq;have CY:=nC aq;have bH:=λh=>M0 (p:=p) en Q h;have gJ:=λh=>RS (p:=p) en Q h;generalize l[i]=x at *;obtain⟨a,b,k,z⟩:=x;have qf:=eW a b k z CY;have kY:decide ((i:Int)<(D l:Int))=true:=cX;have hw:=e0 (i:=i) (by omega);rcases ad:p (a,b,k,z)
  ·rw[ad] at qf;refine ai ?_;repeat' (intro (aw:_=_)<;>simp only[aw,go_sem,go_sem_proc,cQ,au,F,cb,cN,Q,kY,hw,qf,kS,bW,ar,bo,ng]<;>try refine ah ?_ ?_)
   exact⟨i+1,by omega,by omega,gJ ad,rfl⟩
  ·rw[ad] at qf;rw[bH ad];refine ai ?_;repeat' (intro (aw:_=_)<;>simp only[aw,go_sem,go_sem_proc,cQ,au,F,cb,cN,Q,kY,hw,qf,kS,bW,ar,bo,ng]<;>try refine ah ?_ ?_)
 ·have kY:decide ((i:Int)<(D l:Int))=false:=cA;obtain rfl:i=D l:=by omega
  rw[mW] at en;rw[RR en];refine ai ?_;repeat' (intro (aw:_=_)<;>simp only[aw,go_sem,go_sem_proc,au,F,cb,cN,kY,ar]<;>try refine ah ?_ ?_)
inductive OR where
 |right (n:Int)
 |day (cash:List Int)
 |hold (n:Int)
 |sw (n:Int)
 |Gr (i e:Int) (set:List Int)
def Br:OR->Data
 |.right n => .fn L0 [.ptr [.fn Cg []],.ptr [.int .i64 n]]
 |.day cash => .fn HS [.ptr [.ay (cash.map aC)]]
 |.hold n => .fn EN [.ptr [.int .i64 n],.ptr [.fn xo []]]
 |.sw n => .fn EH [.ptr [.fn HU [.ptr [.int .i64 n],.ptr [.fn xn []]]]]
 |.Gr i e set => .fn EJ [.ptr [.int .i64 i],.ptr [.int .i64 e],.ptr [.ay (set.map aC)]]
def aDp:∀a b:OR,Br a=Br b->a=b:=by
 intro a b e
 cases a<;>cases b
 all_goals first|(simp[Br,L0,HS,EN,EH,EJ] at e;done)|simp only[Br,Data.fn.injEq,bh,Data.ptr.injEq,Data.ay.injEq,Data.int.injEq,and_true,true_and] at e
 ·rw[e]
 ·rw[map_inj fq _ _ e]
 ·rw[e]
 ·rw[e]
 ·rw[e.1,e.2.1,map_inj fq _ _ e.2.2]
def ya:OR->ao->Bool
 |.right n,c => !iw n c
 |.day cash,c => !iw (D cash) c
 |.hold n,c => !iw n c
 |.sw n,c => !iw n c
 |.Gr i e set,c=>c.1==i&&(c.2.2.1==e&&(decide (c.2.2.2>0) && !decide (c.2.1∈set)))
def anI:OR->Prop
 |.right n=>0<=n/\n<=1000000
 |.day cash=>HS<900000/\D cash<=1000000
 |.hold n=>EN<900000/\0<=n/\n<=1000000
 |.sw n=>EH<900000/\0<=n/\n<=1000000
 |.Gr _ _ set=>EJ<900000/\D set<=1000000
abbrev J1:(List ao)×OR->List Data:=λ(l,c)=>[.ay (l.map bW),Br c]
def Um:=bU J1 λ(l,c)=>cp (D l<=1000000/\anI c) (.same (.int .i64 (oW (ya c) l)))
def anJ:∀a b,J1 a=J1 b->a=b:=by
  rintro⟨eH,aG⟩ ⟨aI,c2⟩ h;simp only[bh,Data.ay.injEq,and_true] at h;exact ej (map_inj u7 _ _ h.1) (aDp _ _ h.2)
@[go_sem] def aPp (l c):=cz Um rfl anJ (l,c) rfl
def aDq (T:ba)(aDr:T L0=aQ TA)(aDs:HS<900000->T HS=aQ Ud)(aDt:EN<900000->T EN=aQ Uf)(aDu:EH<900000->T EH=aQ Uj)(aDv:EJ<900000->T EJ=aQ Ul):WF T QY Um:=by
 refine cf λ(l,c)=>cG λH=>⟨rfl,b7 ?_⟩;simp only[QY,J1,b1];obtain⟨ak,cT⟩:=H
 cases c with
 |right n=>exact qe (OQ T _ _ _ aDr (ya (.right n)) l ak λa b k z _=>aA9 a b k z n cT)
 |day cash=>exact qe (OQ T _ _ _ (aDs cT.1) (ya (.day cash)) l ak λa b k z _=>aDc a b k z cash cT.2)
 |hold n=>exact qe (OQ T _ _ _ (aDt cT.1) (ya (.hold n)) l ak λa b k z _=>aDf a b k z n cT.2)
 |sw n=>exact qe (OQ T _ _ _ (aDu cT.1) (ya (.sw n)) l ak λa b k z _=>aDk a b k z n cT.2)
 |Gr i e set=>exact qe (OQ T _ _ _ (aDv cT.1) (ya (.Gr i e set)) l ak λa b k z _=>aDo a b k z i e set cT.2)
def Gs:=bU J1 λ(l,c)=>cp (D l<=1000000/\anI c) (.same (.bool (l.any (ya c))))
@[go_sem] def Un (l c):=cz Gs rfl anJ (l,c) rfl
def aDw (T:ba)(aDx:T XK=aQ Um):WF T afC Gs:=by
 refine cf λ(l,c)=>cG λH=>⟨rfl,b7 ?_⟩;simp only[afC,J1,b1];rw[<-M3];refine ai ?_;repeat' (intro h<;>simp only[h,go_sem,go_sem_proc,aDx,H]<;>try refine ah ?_ ?_)
def Gt {α:Type}(l:List α)(p:α->Bool):l.any (λx => !p x) = !l.all p:=by
 induction l with
 |nil=>rfl
 |cons a l av=>rw[List.any_cons,List.all_cons,av];cases p a<;>rfl
abbrev zC:(List Int)×(List ao)->List Data:=λ(cash,cs)=>[.ay (cash.map aC),.ay (cs.map bW)]
def Gu:=bU zC λ(cash,cs)=>cp (D cash<=1000000/\D cs<=1000000) (.same (.bool (hY cash cs)))
def Uo:∀a b,zC a=zC b->a=b:=by
  rintro⟨tD,vc⟩ ⟨tE,oh⟩ h;simp only[bh,Data.ay.injEq,and_true] at h;exact ej (map_inj fq _ _ h.1) (map_inj u7 _ _ h.2)
@[go_sem] def aPq (cash cs):=cz Gu rfl Uo (cash,cs) rfl
def aDy (T:ba)(OS:T EE=aQ J0)(Gv:T Aj=aQ Gs):WF T ahx Gu:=by
 refine cf λ(cash,cs)=>cG λH=>⟨rfl,b7 ?_⟩;simp only[ahx,zC,b1];obtain⟨F,G⟩:=H;rw[abc];have dn:=abT cash .right ⟨F,trivial⟩;have fz:=Un cs (.right (D cash)) ⟨G,by show (0:Int)<=(D cash:Int);omega,by show (D cash:Int)<=1000000;omega⟩
 have az:cash.any (tF .right) = !cash.all gW:=Gt cash gW;have aD:cs.any (ya (.right (D cash))) = !cs.all (iw (D cash)):=Gt cs _;rw[az] at dn;rw[aD] at fz;simp only[wM] at dn;simp only[Br] at fz;have d1:decide (D cash<=60)=decide ((D cash:Int)<=60):=by rw[kd,decide_eq_true_iff,decide_eq_true_iff];omega
 have d2:decide (D cs<=2000)=decide ((D cs:Int)<=2000):=by rw[kd,decide_eq_true_iff,decide_eq_true_iff];omega
 rw[d1,d2];rcases fu:decide ((D cash:Int)<=60)<;>rcases eg:decide ((D cs:Int)<=2000)<;>rcases jg:cash.all gW<;>rcases jR:cs.all (iw (D cash))
 all_goals rw[jg] at dn
 all_goals rw[jR] at fz
 all_goals
      refine ai ?_;repeat' (intro h<;>simp only[h,go_sem,go_sem_proc,OS,Gv,dn,fz,fu,eg,ar,cF,dd,vR,hs,b5,pU,nr,scalar]<;>try refine ah ?_ ?_)
def ry (l:List ao)(r:Int):Int:=cJ l λc=>if c.2.2.1<r then c.2.2.2 else 0
def g0 (l:List ao)(r:Int):Int:=cJ l λc=>if c.2.2.1=r then c.2.2.2 else 0
def anK (l:List ao)(r:Int):ry l (r+1)=ry l r+g0 l r:=by
 unfold ry g0;rw[<-abi];refine Jo λc _=>?_
 by_cases F:c.2.2.1<r
 ·rw[ab F,ab (by omega),ae (by omega)];omega
 ·by_cases G:c.2.2.1=r
  ·rw[ab (by omega),ae F,ab G];omega
  ·rw[ae (by omega),ae F,ae G];rfl
def hf (l:List ao)(x:Rat)(k:Nat):Rat:=pos (x-((ry l k:Int):Rat))
def ly.abU {l:List ao}(h:ly l)(r:Int):0<=g0 l r/\g0 l r<=12000000000000000:=h.bound λc=>c.2.2.1=r
def ly.aDz {l:List ao}(h:ly l)(r:Int):0<=ry l r/\ry l r<=12000000000000000:=h.bound λc=>c.2.2.1<r
def aDA (l:List ao)(x:Rat)(k:Nat):0<=hf l x k:=Jj _
def aDB {l:List ao}(h:ly l){x:Rat}(Q:0<=x):hf l x 0=x:=by
 have:ry l (0:Nat)=0:=by
  unfold ry
  have:(cJ l λc=>if c.2.2.1<((0:Nat):Int) then c.2.2.2 else 0)=cJ l λ_=>0:=Jo λc H=>by
   have:=(h.c c H).2.2.2.2.1;rw[ae (by omega)]
  rw[this];clear h this
  induction l with
  |nil=>rfl
  |cons c l av=>simp only[cJ,av];omega
 unfold hf;rw[this,tl]<;>grind
def aDC {l:List ao}(h:ly l){x:Rat}{k:Nat}(he:((g0 l k:Int):Rat)<=hf l x k):hf l x (k+1)=hf l x k-((g0 l k:Int):Rat):=by
 have F:=anK l k;have au:=(h.abU k).1;have aPr:(0:Rat)<=((g0 l k:Int):Rat):=by exact_mod_cast au
 unfold hf at *;rw[show ((k+1:Nat):Int)=(k:Int)+1 by omega,F,zo]
 by_cases aF:x-((ry l k:Int):Rat)<=0
 ·have az:=wq aF;rw[az] at he ⊢;rw[wq (by grind)];grind
 ·have az:=tl (x:=x-((ry l k:Int):Rat)) (by grind);rw[az] at he ⊢;rw[tl (by grind)];grind
def aDD {l:List ao}{x:Rat}{k:Nat}(he:¬ ((g0 l k:Int):Rat)<=hf l x k):hf l x (k+1)=0:=by
 have F:=anK l k;have G:=SK (x-((ry l k:Int):Rat));unfold hf at *;rw[show ((k+1:Nat):Int)=(k:Int)+1 by omega,F,zo,wq (by grind)]
section
variable {l:List ao} (h:ly l) {x:Rat} {k:Nat} {c:ao} (H:c∈l) (I:c.2.2.1=k)
include h H I
def anL:cK l c.1 c.2.2.1=ry l k/\kF l c.1 c.2.2.1=g0 l k:=by
 rw[I];exact⟨(h.less H k).symm,(h.same H k).symm⟩
def aDE (he:((g0 l k:Int):Rat)<=hf l x k):fK l x c=(c.2.2.2:Rat):=by
 obtain⟨az,aD⟩:=anL h H I;have aH:∀c∈l,0<=c.2.2.2:=λc H=>(h.c c H).2.2.2.2.2.2.1
 by_cases aF:x-((ry l k:Int):Rat)<=0
 ·have au:hf l x k=0:=wq aF;rw[au] at he;have cB:g0 l k<=0:=by exact_mod_cast he
  have aO:=alP aH H;rw[aD] at aO;have aPs:=aH c H;rw[alQ aH H (by rw[az];exact aF),show c.2.2.2=0 by omega];rfl
 ·refine aAH ?_;rw[az,aD];unfold hf at he;rwa [tl (by grind)] at he
def aDF (he:¬ ((g0 l k:Int):Rat)<=hf l x k):fK l x c=(c.2.2.2:Rat)*hf l x k/((g0 l k:Int):Rat):=by
 obtain⟨az,aD⟩:=anL h H I;have aH:∀c∈l,0<=c.2.2.2:=λc H=>(h.c c H).2.2.2.2.2.2.1
 by_cases aF:x-((ry l k:Int):Rat)<=0
 ·have au:hf l x k=0:=wq aF;rw[alQ aH H (by rw[az];exact aF),au,Rat.mul_zero,Rat.div_def,Rat.zero_mul]
 ·have au:hf l x k=x-((ry l k:Int):Rat):=tl (by grind);rw[alR (by rw[az];grind) (by rw[az,aD,<-au];grind),az,aD,au]
end
def anM {l:List ao}{x:Rat}(h:Ts l x)(k:Nat):ec 515 (hf l x k):=by
 have ha:=h.own.aDz k;unfold hf pos
 split
 ·exact (show ec 1 0 from⟨by decide,by decide⟩).mono (by omega)
 ·rw[Rat.sub_eq_add_neg];exact (aaT h.sz (Dg (Bh (z:=ry l k) (b:=54) (by omega)))).mono (by omega)
def Up:=bU zv λ(x,a,b)=>some (.same (.bool (decide (a<=x)&&decide (x<=b))))
@[go_sem] def aPt (x a b):=pk Up rfl Tw (x,a,b) rfl
def aDG (T:ba):WF T alf Up:=by
 refine cf λ(x,a,b)=>⟨rfl,b7 ?_⟩;simp only[alf,zv,b1];rcases aG:decide (a<=x)
 ·have c2:decide (x>=a)=false:=aG;refine ai ?_;repeat' (intro h<;>simp only[h,go_sem,go_sem_proc,aG,c2,fC]<;>try refine ah ?_ ?_)
 ·have c2:decide (x>=a)=true:=aG;refine ai ?_;repeat' (intro h<;>simp only[h,go_sem,go_sem_proc,aG,c2,g4]<;>try refine ah ?_ ?_)
abbrev J2:List ao->List Data:=λ(l:List ao)=>[.ay (l.map bW)]
def OT:=bU J2 λ(l:List ao)=>cp (ly l) (.same (.bool true))
def anN:∀a b,J2 a=J2 b->a=b:=by
  intro eH aI h;simp only[bh,Data.ay.injEq,and_true] at h;exact map_inj u7 _ _ h
@[go_sem] def aPu (l):=cz OT rfl anN l rfl
def aDH (T:ba)(OU:T HT=aQ Up):WF T ald OT:=by
 refine cf λl=>cG λH=>⟨rfl,b7 ?_⟩;simp only[ald,J2,b1];have ak:=H.len;simp only[go_sem,go_sem_proc,OU,ar];refine da [0,5,6] [] (λ(i:Nat) tm mem=>i<=D l/\tm 7=.M (.int .i64 i)) (λi=>D l-i) 0 (by refine⟨by omega,rfl⟩) ?_;intro vs ms aW aR;simp only[go_sem,go_sem_proc,OU,ar] at aW aR;subst aW aR;rintro i tm mem I hm ⟨J,cb⟩;simp only[go_sem,go_sem_proc,OU,bh] at I hm;obtain⟨au,bt,b2⟩:=I;rcases dq (i<D l) with aq|ca
 ·have d1:decide ((i:Int)<(D l:Int))=true:=cX;have ct:=e0 (i:=i) (by omega);obtain⟨⟨aG,c2,c3,c4⟩,Q⟩:∃c,l[i]?=some c:=⟨_,bn aq⟩;obtain⟨⟨cH,cY,ep,fi⟩,iN⟩:∃c,l[0]?=some c:=⟨_,bn (by omega)⟩;have hE:=H.c _ (dZ Q);have yB:=H.one _ (dZ Q) _ (dZ iN);dsimp only at hE yB;subst yB;have fu:(decide (0<=aG)&&decide (aG<=59))=true:=by simp only[eQ,decide_eq_true_eq];omega
  have eg:(decide (-1<=c2)&&decide (c2<=59))=true:=by simp only[eQ,decide_eq_true_eq];omega
  have jg:(decide (0<=c3)&&decide (c3<=9))=true:=by simp only[eQ,decide_eq_true_eq];omega
  have jR:(decide (0<=c4)&&decide (c4<=1000000000000000))=true:=by simp only[eQ,decide_eq_true_eq];omega
  refine ai ?_;repeat' (intro h<;>simp only[h,go_sem,go_sem_proc,OU,au,bt,b2,cb,Q,iN,d1,ct,fu,eg,jg,jR,bW,bne,beq_self_eq_true,cF,ar,bo]<;>try refine ah ?_ ?_)
  exact⟨i+1,by omega,by omega,rfl⟩
 ·have d1:decide ((i:Int)<(D l:Int))=false:=cA;have d2:decide ((D l:Int)<=2000)=true:=cX;refine ai ?_;repeat' (intro h<;>simp only[h,go_sem,go_sem_proc,OU,au,bt,b2,cb,d1,d2,ar]<;>try refine ah ?_ ?_)
def aDI (T:ba){K:eT->bc->Prop}{kk:List gG}(l:List ao)(ak:ly l)(k:Nat)(v1 v6 sv:O)(Gw:O)(fS Uq anO:Option (Nat×List O))(tm:Nat->O)(m:Mem)
  (az:tm 1=v1) (bP:tm 6=v6) (cg:tm 7=sv) (eb:tm 8=.M (.int .i64 k)) (fI:tm 9=.M (.int .i64 0)) (oC:tm 37=Gw) (J3:tm 40=.M (.ay (l.map bW))) (J4:tm 41=.M (.int .i64 (D l))) (J5:tm 42=.M (.int .i64 0)) (cv:m 249002=fS) (lr:m 249007=Uq) (o5:m 249035=anO)
  (dM:∀tm' m',tm' 1=v1->tm' 6=v6->tm' 7=sv->tm' 8=.M (.int .i64 k)->tm' 9=.M (.int .i64 (g0 l k))->tm' 37=Gw->m' 249002=fS->m' 249007=Uq->m' 249035=anO->cw T K kk (.exit 2) ⟨tm',m'⟩) :
  wp T (Jx.body.sub [1,1,1,1,0,1,0,0,1,1,0,0,1,1,0,1,0]) (cw T K kk) ⟨tm,m⟩:=by
 simp only[Jx,eh.sub];have ad:=λt=>ak.cs.sum (λc=>c.2.2.1=(k:Int)) t;have hlen:=ak.len;refine da [1,6,7,8,37,40,41] [249002,249007,249035] (λ(t:Nat) tm m=>t<=D l/\tm 42=.M (.int .i64 t)/\tm 9=.M (.int .i64 (g0 (l.take t) k))) (λt=>D l-t) 0 (by refine⟨by omega,J5,fI⟩) ?_;intro vs ms aW aR;simp only[go_sem,go_sem_proc,az,bP,cg,eb,oC,J3,J4,cv,lr,o5] at aW aR;subst aW aR;clear az bP cg eb fI oC J3 J4 J5 cv lr o5 tm m;rintro t tm m I hm ⟨bz,J5,fI⟩;simp only[go_sem,go_sem_proc,bh] at I hm;obtain⟨az,bP,cg,eb,oC,J3,J4⟩:=I;obtain⟨cv,lr,o5⟩:=hm;rcases dq (t<D l) with aq|ca
 ·have d1:decide ((t:Int)<(D l:Int))=true:=cX;have ct:=e0 (i:=t) (by omega);obtain⟨⟨aG,c2,c3,c4⟩,Q⟩:∃c,l[t]?=some c:=⟨_,bn aq⟩
  have c9:g0 (l.take (t+1)) k=g0 (l.take t) k+if c3=(k:Int) then c4 else 0:=by
   unfold g0;rw[aAb Q]
  have F:=ad t;have G:=ad (t+1);have ags:g0 (l.take t) k=cJ (l.take t) λc=>if c.2.2.1=(k:Int) then c.2.2.2 else 0:=rfl;have aDJ:g0 (l.take (t+1)) k=cJ (l.take (t+1)) λc=>if c.2.2.1=(k:Int) then c.2.2.2 else 0:=rfl;rw[<-ags] at F;rw[<-aDJ] at G;rcases q:(c3==(k:Int))
  ·rw[ae (by have:=ne_of_beq_false q;omega),Ay] at c9;refine ai ?_;repeat' (intro h<;>simp only[h,go_sem,go_sem_proc,az,bP,cg,eb,fI,oC,J3,J4,J5,cv,lr,o5,Q,d1,ct,q,bW,ar,bo]<;>try refine ah ?_ ?_)
   exact⟨t+1,by omega,by omega,rfl,by rw[c9]⟩
  ·rw[ab (by have:=eq_of_beq q;omega)] at c9;have Ou:IntKind.i64.wrap (g0 (l.take t) k+c4)=g0 (l.take (t+1)) k:=by rw[c9,wrap64 _ (by omega) (by omega)]
   refine ai ?_;repeat' (intro h<;>simp only[h,go_sem,go_sem_proc,az,bP,cg,eb,fI,oC,J3,J4,J5,cv,lr,o5,Q,d1,ct,q,Ou,bW,ar,bo]<;>try refine ah ?_ ?_)
   exact⟨t+1,by omega,by omega,rfl,rfl⟩
 ·have d1:decide ((t:Int)<(D l:Int))=false:=cA;rw[dt (by omega)] at fI;refine ai ?_;repeat' (intro h<;>simp only[h,go_sem,go_sem_proc,az,bP,cg,eb,fI,oC,J3,J4,J5,d1]<;>try refine ah ?_ ?_)
  refine dM _ _ ?_ ?_ ?_ ?_ ?_ ?_ cv lr o5<;>simp only[e8,dV,if_false,az,bP,cg,eb,fI,oC]
def lW (l:List ao)(x:Rat)(k t j:Nat):Option bF:=if (l.getD j ji).2.2.1<(k:Int)\/((l.getD j ji).2.2.1=(k:Int)/\j<t) then some (Ga l x j) else none
def aDK (l:List ao)(h:ly l)(x:Rat):(bA (D l) λj=>lW l x 0 0 j)=bA (D l) λ_=>none:=k4 λj ag=>by
 have:=(h.c _ (dZ (bn ag))).2.2.2.2.1;have e:l.getD j ji=l[j]:=by rw[ei,bn ag];rfl
 unfold lW;rw[e,ae (by omega)]
def aDL (l:List ao)(x:Rat)(k:Nat):(bA (D l) λj=>lW l x k (D l) j)=bA (D l) λj=>lW l x (k+1) 0 j:=k4 λj ag=>by
 unfold lW
 by_cases h:(l.getD j ji).2.2.1<((k+1:Nat):Int)
 ·rw[ab (by omega),ab (.inl h)]
 ·rw[ae (by omega),ae (by omega)]
def aDM (l:List ao)(h:ly l)(x:Rat):(bA (D l) λj=>lW l x 10 0 j)=bA (D l) λj=>some (Ga l x j):=k4 λj ag=>by
 have:=(h.c _ (dZ (bn ag))).2.2.2.2.2.1;have e:l.getD j ji=l[j]:=by rw[ei,bn ag];rfl
 unfold lW;rw[e,ab (.inl (by omega))]
def OV {n:Int}(h:fa n):FZ [.int .i64 n]=some (.same (.agg (aU (ax (n:Rat))))):=aAd n h
def aDN (T:ba)(oD:T vN=aQ FZ)(nV:T xm=aQ xE)(sj:T EA=aQ CI){K:eT->bc->Prop}{kk:List gG}(l:List ao)(x:Rat)(ja:Ts l x)(k:Nat)(bC lA:Nat)(v1 Gw:O)(fS:Option (Nat×List O))(tm:Nat->O)(m:Mem)
  (az:tm 1=v1) (bP:tm 6=.ref 249035 bC 4 0 (D l)) (cg:tm 7=.ptr 249007 lA 0) (eb:tm 8=.M (.int .i64 k)) (fI:tm 9=.M (.int .i64 (g0 l k))) (fU:tm 12=.M (.bool (decide (((g0 l k:Int):Rat)<=hf l x k)))) (oC:tm 37=Gw) (lV:tm 60=.M (.ay (l.map bW))) (tA:tm 61=.M (.int .i64 (D l))) (Gx:tm 62=.M (.int .i64 0)) (cv:m 249002=fS) (lr:m 249007=some (lA,(aU (ax (hf l x k))).map .M)) (o5:m 249035=some (bC,ml rp (bA (D l) λj=>lW l x k 0 j)))
  (dM:∀tm' m',tm' 1=v1->tm' 6=.ref 249035 bC 4 0 (D l)->tm' 7=.ptr 249007 lA 0->tm' 9=.M (.int .i64 (g0 l k))->tm' 12=.M (.bool (decide (((g0 l k:Int):Rat)<=hf l x k)))->tm' 37=Gw->m' 249002=fS->m' 249007=some (lA,(aU (ax (hf l x k))).map .M)->m' 249035=some (bC,ml rp (bA (D l) λj=>lW l x (k+1) 0 j))->cw T K kk (.exit 4) ⟨tm',m'⟩) :
  wp T (Jx.body.sub [1,1,1,1,0,1,0,0,1,1,0,0,1,1,1,1,0,1,0]) (cw T K kk) ⟨tm,m⟩:=by
 simp only[Jx,eh.sub];have how:=ja.own;have hlen:=how.len;refine da [1,6,7,8,9,12,37,60,61] [249002,249007] (λ(t:Nat) tm m=>t<=D l/\tm 62=.M (.int .i64 t)/\m 249035=some (bC,ml rp (bA (D l) λj=>lW l x k t j))) (λt=>D l-t) 0 (by refine⟨by omega,Gx,o5⟩) ?_;intro vs ms aW aR;simp only[go_sem,go_sem_proc,az,bP,cg,eb,fI,fU,oC,lV,tA,cv,lr] at aW aR;subst aW aR;clear az bP cg eb fI fU oC lV tA Gx cv lr o5 tm m;rintro t tm m I hm ⟨bz,Gx,o5⟩;simp only[go_sem,go_sem_proc,bh] at I hm;obtain⟨az,bP,cg,eb,fI,fU,oC,lV,tA⟩:=I;obtain⟨cv,lr⟩:=hm;rcases dq (t<D l) with aq|ca
 ·have d1:decide ((t:Int)<(D l:Int))=true:=cX;have ct:=e0 (i:=t) (by omega);obtain⟨⟨aG,c2,c3,c4⟩,Q⟩:∃c,l[t]?=some c:=⟨_,bn aq⟩;have hq:=dZ Q;have l4:=how.c _ hq;dsimp only at l4;have w6:l.getD t ji=(aG,c2,c3,c4):=by rw[ei,Q];rfl
  have Ur:=abg (q:=λj=>lW l x k t j) aq;rcases q:(c3==(k:Int))
  ·have bE:c3≠(k:Int):=ne_of_beq_false q
   have gJ:(bA (D l) λj=>lW l x k (t+1) j)=bA (D l) λj=>lW l x k t j:=k4 λj _=>by
    unfold lW
    by_cases ag:j=t
    ·subst ag;rw[w6];dsimp only
     by_cases F:c3<(k:Int)
     ·rw[ab (.inl F),ab (.inl F)]
     ·rw[ae (by omega),ae (by omega)]
    ·by_cases F:(l.getD j ji).2.2.1<(k:Int)\/((l.getD j ji).2.2.1=(k:Int)/\j<t)
     ·rw[ab F,ab (by omega)]
     ·rw[ae F,ae (by omega)]
   refine ai ?_;repeat' (intro h<;>simp only[h,go_sem,go_sem_proc,az,bP,cg,eb,fI,fU,oC,lV,tA,Gx,cv,lr,Q,d1,ct,q,bW,bne,dd,ar,bo]<;>try refine ah ?_ ?_)
   exact⟨t+1,by omega,by omega,rfl,by rw[gJ];exact o5⟩
  ·have abV:c3=(k:Int):=eq_of_beq q;have nW:=λa b c d=>abh (q:=λj=>lW l x k t j) aq a b c d
   have vz:∀aL:bF,aL=Ga l x t->(bA (D l) λj=>if j=t then some aL else lW l x k t j)=bA (D l) λj=>lW l x k (t+1) j:=by
    intro aL eW;refine k4 λj _=>?_
    by_cases ag:j=t
    ·subst ag;rw[ab rfl];unfold lW;rw[w6,ab (.inr ⟨abV,by omega⟩),eW]
    ·rw[ae ag];unfold lW
     by_cases F:(l.getD j ji).2.2.1<(k:Int)\/((l.getD j ji).2.2.1=(k:Int)/\j<t)
     ·rw[ab F,ab (by omega)]
     ·rw[ae F,ae (by omega)]
   have anP:Ga l x t=ax (fK l x (aG,c2,c3,c4)):=by unfold Ga;rw[w6]
   have anQ:fa c4:=rn (by omega) (by omega);have Us:=OV anQ;rcases cM:decide (((g0 l k:Int):Rat)<=hf l x k)
   ·have aDO:=of_decide_eq_false cM;have aDP:=how.abU k;have J6:fa (g0 l k):=rn (by omega) (by omega);have J7:=OV J6;have Dz:=anM ja k;have Gy:ec 54 ((c4:Int):Rat):=Bh (by omega);have J8:ec 54 ((g0 l k:Int):Rat):=Bh (by omega);have aDQ:((g0 l k:Int):Rat)≠0:=by have:=aDA l x k;grind
    have f1:=alv (rq anQ) (iV Dz (by omega)) (aaR Gy Dz (by omega));have f2:=aAn (iV (NX Gy Dz) (by omega)) (rq J6) aDQ (aks (NX Gy Dz) J8 (by omega));have lU:=aDF how hq abV aDO;dsimp only at lU;have aDR:=λa b c d=>abh (q:=λj=>if j=t then some ((a,b),(c,d)) else lW l x k t j) aq;have aDS:=λa b c d=>abg (q:=λj=>if j=t then some ((a,b),(c,d)) else lW l x k t j) aq;have aH:=vz (ax (((c4:Int):Rat)*hf l x k/((g0 l k:Int):Rat))) (by rw[anP,lU])
    have aDT:∀aL anR:bF,(bA (D l) λj=>if j=t then some aL else if j=t then some anR else lW l x k t j)=bA (D l) λj=>if j=t then some aL else lW l x k t j:=λaL anR=>k4 λj _=>by
     by_cases ag:j=t
     ·rw[ab ag,ab ag]
     ·rw[ae ag,ae ag,ae ag]
    clear Dz Gy J8;generalize ax (((c4:Int):Rat)*hf l x k/((g0 l k:Int):Rat))=G1 at *;generalize ax (((c4:Int):Rat)*hf l x k)=G2 at *;generalize ax ((g0 l k:Int):Rat)=G3 at *;generalize abW:ax (hf l x k)=G4 at *;generalize ax ((c4:Int):Rat)=G5 at *;obtain⟨⟨cr,b6⟩,⟨ga,iQ⟩⟩:=G1;obtain⟨⟨F,G⟩,⟨af,aS⟩⟩:=G2;obtain⟨⟨i1,i2⟩,⟨i3,i4⟩⟩:=G3;obtain⟨⟨J9,yG⟩,⟨aDU,Si⟩⟩:=G4;obtain⟨⟨h7,iZ⟩,⟨x7,tg⟩⟩:=G5;simp only[aU,eu,cR] at Us J7 f1 f2 lr;have c9:=nW h7 iZ x7 tg;have Tg:=aDR h7 iZ x7 tg cr b6 ga iQ;have aDV:=aDS h7 iZ x7 tg;rw[aDT,aH] at Tg;refine ai ?_;repeat' (intro h<;>simp only[h,go_sem,go_sem_proc,oD,nV,sj,az,bP,cg,eb,fI,fU,oC,lV,tA,Gx,cv,lr,o5,Q,d1,ct,aq,q,cM,Us,J7,f1,f2,Ur,aDV,c9,Tg,bW,ar,bo,bne,beq_self_eq_true,cF,dd]<;>try refine ah ?_ ?_)
    exact⟨t+1,by omega,rfl,by omega,rfl,rfl⟩
   ·have lU:=aDE how hq abV (of_decide_eq_true cM);dsimp only at lU;have aH:=vz (ax ((c4:Int):Rat)) (by rw[anP,lU]);generalize ax ((c4:Int):Rat)=G5 at *;obtain⟨⟨h7,iZ⟩,⟨x7,tg⟩⟩:=G5;simp only[aU] at Us;have c9:=nW h7 iZ x7 tg;rw[aH] at c9;refine ai ?_;repeat' (intro h<;>simp only[h,go_sem,go_sem_proc,oD,az,bP,cg,eb,fI,fU,oC,lV,tA,Gx,cv,lr,o5,Q,d1,ct,aq,q,cM,Us,Ur,c9,bW,ar,bo,bne,beq_self_eq_true,cF,dd]<;>try refine ah ?_ ?_)
    exact⟨t+1,by omega,by omega,rfl,rfl⟩
 ·have d1:decide ((t:Int)<(D l:Int))=false:=cA;obtain rfl:t=D l:=by omega
  rw[aDL] at o5;refine ai ?_;repeat' (intro h<;>simp only[h,go_sem,go_sem_proc,az,bP,cg,eb,fI,fU,oC,lV,tA,Gx,d1]<;>try refine ah ?_ ?_)
  refine dM _ _ ?_ ?_ ?_ ?_ ?_ ?_ cv lr o5<;>simp only[e8,dV,if_false,az,bP,cg,fI,fU,oC]
abbrev Ut:Rat×(List ao)->List Data:=λ(x,l)=>[.agg (aU (ax x)),.ay (l.map bW)]
def OW:=bU Ut λ(x,l)=>cp (Ts l x) (.same (.cP [.ay ((l.map λc=>ax (fK l x c)).map aU),.int .i64 0]))
def aDW:∀a b,Ut a=Ut b->a=b:=by
  rintro⟨gR,eH⟩ ⟨fS,aI⟩ h;simp only[bh,Data.ay.injEq,Data.agg.injEq,and_true] at h;exact ej (se (nq _ _ h.1)) (map_inj u7 _ _ h.2)
@[go_sem] def anS (x l):=cz OW rfl aDW (x,l) rfl
def aDX (T:ba)(fV:T ma=aQ uJ)(eK:T kP=aQ pz)(oD:T vN=aQ FZ)(rz:T LY=aQ OT)(nV:T xm=aQ xE)(sj:T EA=aQ CI)(m2:T vH=aQ xD):WF T Jx OW:=by
 refine cf λ(x,l)=>cG λH=>⟨rfl,b7 ?_⟩;simp only[Jx,Ut,b1];have hE:=H;obtain⟨how,iN,B9⟩:=H;have jT:=iV B9 (by omega);have hlen:=how.len;have aDY:=Jw jT;have T3:=zt jT (rq Of);have OX:decide (je x ((0:Int):Rat)<0)=false:=by rw[N9];exact lZ (by have:((0:Int):Rat)=0:=rfl;grind)
 have bx:=m1 jT;have ja:=aAI l x;have f0:=OV Of;have p7:=aDB how iN;have gk:=aDK l how x;have aV:=alL (D l);rw[<-gk] at aV;have yI:(64*D l<=140737488355328)=True:=eq_true (by omega);have C6:(D l<=maxLen)=True:=eq_true (by unfold maxLen;omega);generalize eW:ax x=aL at *;generalize On:ax ((0:Int):Rat)=Z at *;obtain⟨⟨cH,cY⟩,⟨ep,fi⟩⟩:=aL;obtain⟨⟨fA,hl⟩,⟨pM,zx⟩⟩:=Z;simp only[aU] at f0 T3;simp only[go_sem,go_sem_proc,fV,eK,oD,rz,nV,sj,m2,aU,aDY,bx.1,bx.2,f0,T3,OX,how,yI,C6,aV,ar,cF,dd];refine da [1,6,7] [249002] (λ(k:Nat) tm m=>k<=10/\tm 37=.M (.int .i64 k)/\m 249007=some (0,(aU (ax (hf l x k))).map .M)/\m 249035=some (0,ml rp (bA (D l) λj=>lW l x k 0 j))) (λk=>10-k) 0 (by refine⟨by omega,rfl,by rw[p7,eW];rfl,rfl⟩) ?_;intro vs ms aW aR;simp only[go_sem,go_sem_proc,fV,eK,oD,rz,nV,sj,m2,aU,ar] at aW aR;subst aW aR;rintro k tm m I hm ⟨aPv,oC,lr,o5⟩;simp only[go_sem,go_sem_proc,fV,eK,oD,rz,nV,sj,m2,bh] at I hm;obtain⟨az,bP,cg⟩:=I;rcases dq (k<10) with aq|ca
 ·have d1:decide ((k:Int)<10)=true:=cX;have ct:=e0 (i:=k) (by omega);simp only[go_sem,go_sem_proc,fV,eK,oD,rz,nV,sj,m2,az,bP,cg,oC,hm,d1,ar];refine aDI T l how k (.M (.ay (l.map bW))) (.ref 249035 0 4 0 (D l)) (.ptr 249007 0 0) (.M (.int .i64 k)) _ (some (0,(aU (ax (hf l x k))).map .M)) (some (0,ml rp (bA (D l) λj=>lW l x k 0 j))) _ _ ?_ ?_ ?_ ?_ ?_ ?_ ?_ ?_ ?_ hm lr o5 ?_
  all_goals first|(intro tm' m' bS ka jP kU qZ anT eg rA anU)|(simp only[e8,dV,if_false,if_true,az,bP,cg,oC];done)
  have aDP:=how.abU k;have J6:fa (g0 l k):=rn (by omega) (by omega);have J7:=OV J6;have Dz:=anM hE k;have CL:=iV Dz (by omega);have J8:ec 54 ((g0 l k:Int):Rat):=Bh (by omega);have kS:=zt CL (rq J6);have Il:decide (je (hf l x k) ((g0 l k:Int):Rat)>=0)=decide (((g0 l k:Int):Rat)<=hf l x k):=alx;have nn:=Tk CL (rq J6) (Df Dz (Dg J8) (by omega));have anV:=λ(K:eT->bc->Prop) (kk:List gG) bC lA v1 Gw fS tm m=>aDN T oD nV sj (K:=K) (kk:=kk) l x hE k bC lA v1 Gw fS tm m;have aaQ:((g0 l k:Int):Rat)<=hf l x k->ax (hf l x (k+1))=ax (hf l x k-((g0 l k:Int):Rat)):=λh=>by rw[aDC how h]
  have fp:¬ ((g0 l k:Int):Rat)<=hf l x k->ax (hf l x (k+1))=((fA,hl),(pM,zx)):=λh=>by rw[aDD h,<-On];rfl
  generalize ax (hf l x k-((g0 l k:Int):Rat))=G1 at *;generalize aPw:ax (hf l x k)=G2 at *;generalize ax ((g0 l k:Int):Rat)=G3 at *;generalize abW:ax (hf l x (k+1))=G4 at *;obtain⟨⟨cr,b6⟩,⟨ga,iQ⟩⟩:=G1;obtain⟨⟨F,G⟩,⟨af,aS⟩⟩:=G2;obtain⟨⟨i1,i2⟩,⟨i3,i4⟩⟩:=G3;simp only[aU,eu,cR] at J7 kS nn rA;simp only[go_sem,go_sem_proc,fV,eK,oD,rz,nV,sj,m2,bS,ka,jP,kU,qZ,anT,eg,rA,anU,J7,kS,Il,ar];refine anV _ _ 0 0 (.M (.ay (l.map bW))) (.M (.int .i64 k)) _ _ _ ?_ ?_ ?_ ?_ ?_ ?_ ?_ ?_ ?_ ?_ eg ?_ anU ?_
  all_goals first|(intro OA cv J9 IZ anW anX Uu anY ey Bs anZ)|(simp only[e8,dV,if_false,if_true,bS,ka,jP,kU,qZ,anT];done)|(rw[rA];rfl)
  simp only[aU,eu,cR] at Bs;clear anV;rcases q:decide (((g0 l k:Int):Rat)<=hf l x k)
  ·have he:=fp (of_decide_eq_false q);rw[q] at Uu;refine ai ?_;repeat' (intro (aw:_=_)<;>simp only[aw,go_sem,go_sem_proc,fV,eK,oD,rz,nV,sj,m2,J9,IZ,anW,anX,Uu,anY,ey,Bs,anZ,f0,ct,dd,cF]<;>try refine ah ?_ ?_)
   exact⟨k+1,by omega,by omega,rfl,by rw[abW,he];rfl,rfl⟩
  ·have he:=aaQ (of_decide_eq_true q);rw[q] at Uu;refine ai ?_;repeat' (intro (aw:_=_)<;>simp only[aw,go_sem,go_sem_proc,fV,eK,oD,rz,nV,sj,m2,J9,IZ,anW,anX,Uu,anY,ey,Bs,anZ,J7,nn,ct,bne,beq_self_eq_true,dd,cF]<;>try refine ah ?_ ?_)
   exact⟨k+1,by omega,by omega,rfl,by rw[abW,he];rfl,rfl⟩
 ·have d1:decide ((k:Int)<10)=false:=cA;obtain rfl:k=10:=by omega
  rw[aDM l how x,ja,alN] at o5;have nx:=λ(K:bc->Prop) (st:bc)=>oQ (K:=K) (st:=st) mY 6 249035 0 (l.map λc=>ax (fK l x c));rw[ar] at nx;refine ai ?_;repeat' (intro (aw:_=_)<;>simp only[aw,go_sem,go_sem_proc,fV,eK,oD,rz,nV,sj,m2,az,bP,cg,oC,hm,d1,o5,nx,ar]<;>try refine ah ?_ ?_)
def Uv {fP g6 n:Nat}(key:Nat->Nat)(uC:Nat->O)(Uw:∀i,i<n->key i≠fP)(D3:∀i j,i<n->j<n->key i=key j->i=j):∀r d (q:Nat->O) (m:Mem),d+r=n->m fP=some (g6,bA n q)->(∀i,i<d->q i=uC i) ->
  (∀i,d<=i->i<n->q i=uC i\/∃g sz len cs x,q i=.ref (key i) g sz 0 len/\m (key i)=some (g,cs)/\(∀cv:Mem,cv (key i)=some (g,cs)->b5 1 cv (.ref (key i) g sz 0 len)=some x)/\uC i=.M x) ->
  ∃m',tQ m m'/\m' fP=some (g6,bA n uC)/\∀k:Nat,k≠fP->(∀i,i<n->k≠key i)->m' k=m k
 |0,d,q,m,Y,F,G,_=>⟨m,.refl m,by rw[F,k4 λi J=>G i (by omega)],λ_ _ _=>rfl⟩
 |r+1,d,q,m,Y,F,G,af=>by
  rcases af d (bM _) (by omega) with he|⟨g,sz,len,cs,x,az,aD,bX,dE⟩
  ·obtain⟨m',bS,cM,dj⟩:=Uv key uC Uw D3 r (d+1) q m (by omega) F (λi J=>by
    by_cases k8:i=d
    ·rw[k8];exact he
    ·exact G i (by omega)) λi J cn=>af i (by omega) cn
   exact⟨m',bS,cM,dj⟩
  ·have kz:d<n:=by omega
   have kR:(bA n q)[d]?=some (.ref (key d) g sz 0 len):=by rw[jh q kz,az]
   have rT:=sI.PY fP g6 _ d (key d) g sz 0 len cs x F kR aD (Uw d kz) (bX m aD);have lF:a4 (kill m (key d)) fP g6 ((bA n q).set d (.M x)) fP=some (g6,bA n λj=>if j=d then .M x else q j):=by rw[iy,Bi]
   obtain⟨m',bS,cM,dj⟩:=Uv key uC Uw D3 r (d+1) (λj=>if j=d then .M x else q j) _ (by omega) lF (λi J=>by
    by_cases k8:i=d
    ·rw[ab k8,k8,dE]
    ·rw[ae k8];exact G i (by omega)) λi J cn=>by
     rw[ae (by omega)];rcases af i (by omega) cn with he|⟨cV,et,Wm,jo,ju,f1,f2,f3,f4⟩
     ·exact .inl he
     ·refine .inr ⟨cV,et,Wm,jo,ju,f1,?_,f3,f4⟩;rw[c1 (Uw i cn)];unfold kill;rw[c1 λaX=>by have:=D3 i d cn kz aX;omega]
      exact f2
   refine⟨m',.step rT bS,cM,λk I qH=>?_⟩;rw[dj k I qH,c1 I];unfold kill;rw[c1 (qH d kz)]
def gm (l:List ao)(i:Nat):List Nat:=(dD (D l)).filter λj=>(l.getD j ji).1==(i:Int)
def abX (l:List ao)(c:ao)(i:Nat):gm (l++[c]) i=if c.1=(i:Int) then gm l i++[D l] else gm l i:=by
 unfold gm;have az:(l++[c]).getD (D l) ji=c:=by rw[ei,rR (bM _),lf];rfl
 have aD:(dD (D l)).filter (λj=>((l++[c]).getD j ji).1==(i:Int))=(dD (D l)).filter λj=>(l.getD j ji).1==(i:Int):=List.filter_congr λj ag=>by
  rw[ei,sM (gQ.1 ag),<-ei]
 rw[fO,AZ,m5,ql,aD]
 by_cases h:c.1=(i:Int)
 ·rw[ab h,tr (by rw[az];simpa using h),qm]
 ·rw[ae h,u5 (by rw[az];simpa using h),qm,fG]
def abY {l:List ao}{i j:Nat}:j∈gm l i↔j<D l/\(l.getD j ji).1=(i:Int):=by
 unfold gm;rw[List.mem_filter,gQ,beq_iff_eq]
def abZ (l:List ao)(c:ao)(i:Nat):cE (l++[c]) i=if c.1=(i:Int) then cE l i++[c] else cE l i:=by
 unfold cE;rw[ql]
 by_cases h:c.1=(i:Int)
 ·rw[ab h,tr (by simpa using h),qm]
 ·rw[ae h,u5 (by simpa using h),qm,fG]
def an0 (l:List ao)(i:Nat):cE l i=(gm l i).map λj=>l.getD j ji:=by
 have:∀n (l:List ao),D l=n->cE l i=(gm l i).map λj=>l.getD j ji:=by
  intro n
  induction n with
  |zero =>
   intro l ak;have:l=[]:=Bt.1 ak;subst this;rfl
  |succ n av =>
   intro l ak;rcases List.eq_nil_or_concat l with au|⟨fR,c,rfl⟩
   ·subst au;cases ak
   ·rw[List.concat_eq_append] at *;simp only[fO,AZ] at ak;have az:(fR++[c]).getD (D fR) ji=c:=by rw[ei,rR (bM _),lf];rfl
    have aD:(gm fR i).map (λj=>(fR++[c]).getD j ji)=(gm fR i).map λj=>fR.getD j ji:=mH λj ag=>by
     rw[ei,sM (abY.1 ag).1,<-ei]
    rw[abZ,abX]
    by_cases h:c.1=(i:Int)
    ·rw[ab h,ab h,kh,aD,av fR (by omega)];show _=_++[(fR++[c]).getD (D fR) ji];rw[az]
    ·rw[ae h,ae h,aD,av fR (by omega)]
 exact this _ l rfl
def Ux (l:List ao)(i:Nat):(gm l i).length=(cE l i).length:=by rw[an0,ar]
def aDZ (l:List ao)(i:Nat):(gm l i).length<=D l:=by
 unfold gm;exact eZ (nZ _ _) (by rw[uj];exact bM _)
def l5 (l:List ao)(gc:Nat->Nat)(i:Nat):O:=if cE l i=[] then .nil else .ref (233600+i) (gc i) 4 0 (cE l i).length
def pp (l:List ao)(gX:Nat->Nat)(i:Nat):O:=if cE l i=[] then .nil else .ref (233700+i) (gX i) 1 0 (cE l i).length
structure Ka (n:Nat) (l:List ao) (gc gX:Nat->Nat) (m:Mem):Prop where
 eU:m 233019=some (0,bA n (l5 l gc))
 ey:m 233022=some (0,bA n (pp l gX))
 bS:∀i,i<n->cE l i≠[]->m (233600+i)=some (gc i,a6 bW (cE l i))
 cM:∀i,i<n->cE l i≠[]->m (233700+i)=some (gX i,a6 iS (gm l i))
def Ka.next {n:Nat}{l:List ao}{gc gX:Nat->Nat}{m m':Mem}(h:Ka n l gc gX m)(aH:n<=6){aG:Nat}{c2 c3 c4:Int}(cr b6:Nat)
  (F:m' 233019=some (0,bA n λi=>if i=aG then .ref (233600+aG) cr 4 0 ((cE l aG).length+1) else l5 l gc i)) (G:m' 233022=some (0,bA n λi=>if i=aG then .ref (233700+aG) b6 1 0 ((cE l aG).length+1) else pp l gX i))
  (af:m' (233600+aG)=some (cr,a6 bW (cE l aG++[((aG:Int),c2,c3,c4)]))) (aS:m' (233700+aG)=some (b6,a6 iS (gm l aG++[D l])))
  (bx:∀i,i<n->i≠aG->m' (233600+i)=m (233600+i)/\m' (233700+i)=m (233700+i)):Ka n (l++[((aG:Int),c2,c3,c4)]) (λi=>if i=aG then cr else gc i) (λi=>if i=aG then b6 else gX i) m':=by
 have Uy:∀i:Nat,i≠aG->cE (l++[((aG:Int),c2,c3,c4)]) i=cE l i:=λi J=>by rw[abZ,ae (by show ¬ ((aG:Int)=(i:Int));omega)]
 have Rf:∀i:Nat,i≠aG->gm (l++[((aG:Int),c2,c3,c4)]) i=gm l i:=λi J=>by rw[abX,ae (by show ¬ ((aG:Int)=(i:Int));omega)]
 have so:cE (l++[((aG:Int),c2,c3,c4)]) aG=cE l aG++[((aG:Int),c2,c3,c4)]:=by rw[abZ,ab rfl]
 have sp:gm (l++[((aG:Int),c2,c3,c4)]) aG=gm l aG++[D l]:=by rw[abX,ab rfl]
 refine⟨?_,?_,λi J bE=>?_,λi J bE=>?_⟩
 ·rw[F]
  congr 2
  refine k4 λi J=>?_;unfold l5
  by_cases H:i=aG
  ·subst H;rw[so,ab rfl,ae (by simp),fO];dsimp only;rw[ab rfl];rfl
  ·rw[Uy i H,ae H];dsimp only;rw[ae H]
 ·rw[G]
  congr 2
  refine k4 λi J=>?_;unfold pp
  by_cases H:i=aG
  ·subst H;rw[so,ab rfl,ae (by simp),fO];dsimp only;rw[ab rfl];rfl
  ·rw[Uy i H,ae H];dsimp only;rw[ae H]
 ·by_cases H:i=aG
  ·subst H;rw[ab rfl,so];exact af
  ·rw[Uy i H] at bE ⊢;rw[ae H,(bx i J H).1];exact h.bS i J bE
 ·by_cases H:i=aG
  ·subst H;rw[ab rfl,sp];exact aS
  ·rw[Uy i H] at bE;rw[Rf i H,ae H,(bx i J H).2];exact h.cM i J bE
structure Gz (cs:List ao) (h:List Rat):Prop where
 len:(D cs)<=12
 n:(D h)<=6
 c:∀c∈cs,0<=c.1/\c.1<(D h) /\ -1<=c.2.1/\c.2.1<60/\0<=c.2.2.1/\c.2.2.1<10/\0<=c.2.2.2/\c.2.2.2<=1000000000000000
 x:∀x∈h,0<=x/\ec 460 x
def aD0 {K:bc->Prop}{tm:Nat->O}{mem K2 mem':Mem}(h:sI mem K2)(G:sI K2 mem')(dM:∀bb,bb=mem'->K ⟨tm,bb⟩):lC K ⟨tm,mem⟩ .many:=⟨mem',.step h (.step G (.refl _)),dM _ rfl⟩
def aD1 (T:ba){K:eT->bc->Prop}{kk:List gG}(cs:List ao)(h:List Rat)(aF:Gz cs h)(v0 v1:O)(gq:Mem)(oR:ru v0 cs gq)(tm:Nat->O)(m:Mem)
  (bZ:tm 0=v0) (az:tm 1=v1) (bP:tm 6=.ref 233019 0 1 0 (D h)) (cg:tm 7=.ref 233022 0 1 0 (D h)) (DA:tm 23=v0) (yb:tm 24=.M (.int .i64 (D cs))) (ix:tm 25=.M (.int .i64 0)) (kn:m 233057=none) (gc gX:Nat->Nat) (bH:Ka (D h) [] gc gX m) (bw:dA 233 gq m)
  (dM:∀tm' m' K3 Tm,tm' 0=v0->tm' 1=v1->tm' 6=.ref 233019 0 1 0 (D h)->tm' 7=.ref 233022 0 1 0 (D h)->m' 233057=none->Ka (D h) cs K3 Tm m'->dA 233 gq m'->cw T K kk (.exit 0) ⟨tm',m'⟩) :
  wp T (CN.body.sub [1,1,1,0,1,0]) (cw T K kk) ⟨tm,m⟩:=by
 simp only[CN,eh.sub];have aH:=aF.n;have ht:=aF.len;refine da [0,1,6,7,23,24] [233057] (λ((t,gc,gX):Nat×(Nat->Nat)×(Nat->Nat)) tm m=>t<=D cs/\tm 25=.M (.int .i64 t)/\Ka (D h) (cs.take t) gc gX m/\dA 233 gq m) (λ(t,_)=>D cs-t) (0,gc,gX) (by refine⟨by omega,ix,by rw[l3];exact bH,bw⟩) ?_;intro vs ms aW aR;simp only[go_sem,go_sem_proc,bZ,az,bP,cg,DA,yb,kn] at aW aR;subst aW aR;clear bZ az bP cg DA yb ix kn bH bw tm m;rintro⟨t,gc,gX⟩ tm m I kn ⟨bz,ix,bH,bw⟩;simp only[go_sem,go_sem_proc,bh] at I kn;obtain⟨bZ,az,bP,cg,DA,yb⟩:=I;rcases dq (t<D cs) with aq|ca
 ·have d1:decide ((t:Int)<(D cs:Int))=true:=cX;have ct:=e0 (i:=t) (by omega);obtain⟨⟨aG,c2,c3,c4⟩,Q⟩:∃c,cs[t]?=some c:=⟨_,bn aq⟩;have mC:=aF.c _ (dZ Q);dsimp only at mC;obtain⟨aPx,oX,abH⟩:=oR.at_ t _ Q;have Gj:=abH m bw.outs;simp only[go_sem,go_sem_proc,bW,eu,cR] at oX Gj;obtain⟨aG,rfl⟩:∃k:Nat,aG=(k:Int):=⟨aG.toNat,by omega⟩
  have gx:cs.take (t+1)=cs.take t++[((aG:Int),c2,c3,c4)]:=by rw[hF,Q];rfl
  have ti:(cs.take t).length=t:=by rw[gE];omega
  generalize ak:cs.take t=l at *;have hC:aG<D h:=by omega
  have eU:=bH.eU;have ey:=bH.ey;have cr:=wC (jh (l5 l gc) hC);have b6:=wC (jh (pp l gX) hC);have h7:(bA (D h) (l5 l gc)).length=D h:=gY _ _;have iZ:(bA (D h) (pp l gX)).length=D h:=gY _ _;have s1:=λv=>(TX (l:=bA (D h) (l5 l gc)) (k:=aG) (v:=v) (by rw[gY];exact hC)).trans (Bi (l5 l gc) v);have s2:=λv=>(TX (l:=bA (D h) (pp l gX)) (k:=aG) (v:=v) (by rw[gY];exact hC)).trans (Bi (pp l gX) v);have eH:aG+1<=D h:=by omega
  have hD:(1<=maxLen)=True:=eq_true (by decide);have Hp:(cE l aG).length<=12:=eZ (nZ _ _) (by omega);have nD:=Ux l aG;have Uz:∀i,i<(D h)->233600+i≠233009/\233600+i≠233019/\233600+i≠233022/\233600+i≠233043/\233600+i≠233051/\233600+i≠233700+aG/\233600+i≠233057:=λi J=>by omega
  have UA:∀i,i<(D h)->233700+i≠233009/\233700+i≠233019/\233700+i≠233022/\233700+i≠233043/\233700+i≠233051/\233700+i≠233600+aG/\233700+i≠233057:=λi J=>by omega
  by_cases ia:cE l aG=[]
  ·have ab0:l5 l gc aG=.nil:=by unfold l5;rw[ab ia]
   have ab1:pp l gX aG=.nil:=by unfold pp;rw[ab ia]
   have Bm:gm l aG=[]:=Bt.1 (by rw[nD,ia];rfl);rw[ab0] at cr;rw[ab1] at b6;simp only[go_sem,go_sem_proc,hD,bZ,az,bP,cg,DA,yb,ix,oX,Gj,eU,ey,cr,b6,h7,iZ,s1,s2,d1,eH,hC,bW,dy,ar,bo];obtain⟨f11,f12,f13,f14,f15,f16,f17⟩:=Uz aG hC;obtain⟨f21,f22,f23,f24,f25,f26,f27⟩:=UA aG hC
   refine aD0 (sI.PX 233019 0 _ aG 233043 (gH (m 233043)) 4 0 1 _ (233600+aG) ((c1 (by decide)).trans iy) ((jh _ hC).trans (by rw[ab rfl])) ((c1 (by decide)).trans ((c1 (by decide)).trans ((c1 (by decide)).trans iy))) (by decide) f14 f12)
    (sI.PX 233022 0 _ aG 233051 (gH (m 233051)) 1 0 1 _ (233700+aG) ((c1 (by decide)).trans ((c1 (Ne.symm f13)).trans ((c1 (by decide)).trans iy))) ((jh _ hC).trans (by rw[ab rfl])) ((c1 (by decide)).trans ((c1 (Ne.symm f15)).trans ((c1 (by decide)).trans ((c1 (by decide)).trans ((c1 (by decide)).trans iy))))) (by decide) f25 f23) ?_
   intro M2 hb
   have m6:∀k:Nat,k≠233009->k≠233019->k≠233022->k≠233043->k≠233051->k≠233600+aG->k≠233700+aG->M2 k=m k:=λk jL xy xw an1 an2 aD2 aD3=>by
    rw[hb,c1 xw,c1 aD3,c1 an2,c1 xy,c1 aD2,c1 an1,c1 xw,c1 xy,c1 an2,c1 an1,c1 jL,c1 jL]
   obtain⟨UB,xS,FV⟩:∃UB,M2 233019=some (0,bA (D h) λi=>if i=aG then .ref (233600+aG) UB 4 0 ((cE l aG).length+1) else l5 l gc i)/\M2 (233600+aG)=some (UB,a6 bW (cE l aG++[((aG:Int),c2,c3,c4)])):=by
    rw[ia];apply Exists.intro;apply And.intro
    rotate_left
    ·rw[hb,c1 f13,c1 f16,c1 f15,c1 f12,iy];rfl
    ·rw[hb,c1 (by decide),c1 (Ne.symm f22),c1 (by decide),iy,Bi]
     congr 2
     refine k4 λi _=>?_
     by_cases J:i=aG
     ·rw[ab J,ab J];rfl
     ·rw[ae J,ae J,ae J]
   obtain⟨UC,OY,Ge⟩:∃UC,M2 233022=some (0,bA (D h) λi=>if i=aG then .ref (233700+aG) UC 1 0 ((cE l aG).length+1) else pp l gX i)/\M2 (233700+aG)=some (UC,a6 iS (gm l aG++[D l])):=by
    rw[ia,Bm,ti];apply Exists.intro;apply And.intro
    rotate_left
    ·rw[hb,c1 f23,iy];rfl
    ·rw[hb,iy,Bi]
     congr 2
     refine k4 λi _=>?_
     by_cases J:i=aG
     ·rw[ab J,ab J];rfl
     ·rw[ae J,ae J,ae J]
   have iJ:=bH.next (m':=M2) aH UB UC xS OY FV Ge λi J bE=>⟨by
    obtain⟨cH,cY,ep,fi,o2,tu,-⟩:=Uz i J;exact m6 _ cH cY ep fi o2 (by omega) tu,by
    obtain⟨cH,cY,ep,fi,o2,tu,-⟩:=UA i J;exact m6 _ cH cY ep fi o2 tu (by omega)⟩
   have ab2:M2 233057=none:=(m6 233057 (by decide) (by decide) (by decide) (by decide) (by decide) (Ne.symm f17) (Ne.symm f27)).trans kn;have oz:dA 233 gq M2:=λk I=>(m6 k (by omega) (by omega) (by omega) (by omega) (by omega) (by omega) (by omega)).trans (bw k I);clear hb m6 xS FV OY Ge;refine ai ?_;repeat' (intro (aw:_=_)<;>simp only[aw,go_sem,go_sem_proc,bZ,az,bP,cg,DA,yb,ix,ct,ab2]<;>try refine ah ?_ ?_)
   exact⟨(t+1,_,_),by dsimp only;omega,by dsimp only;omega,rfl,by rw[gx];exact iJ,oz⟩
  ·have ab0:l5 l gc aG=.ref (233600+aG) (gc aG) 4 0 (cE l aG).length:=by unfold l5;rw[ae ia]
   have ab1:pp l gX aG=.ref (233700+aG) (gX aG) 1 0 (gm l aG).length:=by unfold pp;rw[ae ia,nD]
   rw[ab0] at cr;rw[ab1] at b6;have bS:=bH.bS aG hC ia;have cM:=bH.cM aG hC ia;have Xb:=l8 n0 Th (233600+aG) (gc aG) 32 (cE l aG) ((aG:Int),c2,c3,c4) (cs:=[.M (.int .i64 aG),.M (.int .i64 c2),.M (.int .i64 c3),.M (.int .i64 c4)]) rfl (by omega) (by omega);have HE:=l8 zi ajq (233700+aG) (gX aG) 8 (gm l aG) (D l) (cs:=[.M (.int .i64 t)]) (by rw[ti];rfl) (by omega) (by omega);obtain⟨f11,f12,f13,f14,f15,f16,f17⟩:=Uz aG hC;obtain⟨f21,f22,f23,f24,f25,f26,f27⟩:=UA aG hC;have aPy:(233600+aG)=233600+aG:=rfl;generalize dn:233600+aG=A at *;generalize fz:233700+aG=B at *;have OZ:A≠B:=f16;have fu:(A==233009)=false:=beq_eq_false_iff_ne.2 f11;have aD4:(233009==A)=false:=beq_eq_false_iff_ne.2 (Ne.symm f11);have eg:(A==233019)=false:=beq_eq_false_iff_ne.2 f12;have aD5:(233019==A)=false:=beq_eq_false_iff_ne.2 (Ne.symm f12);have jg:(A==233022)=false:=beq_eq_false_iff_ne.2 f13;have aD6:(233022==A)=false:=beq_eq_false_iff_ne.2 (Ne.symm f13);have jR:(A==233043)=false:=beq_eq_false_iff_ne.2 f14;have aD7:(233043==A)=false:=beq_eq_false_iff_ne.2 (Ne.symm f14);have vd:(A==233051)=false:=beq_eq_false_iff_ne.2 f15;have aD8:(233051==A)=false:=beq_eq_false_iff_ne.2 (Ne.symm f15);have CW:(A==B)=false:=beq_eq_false_iff_ne.2 OZ;have aD9:(B==A)=false:=beq_eq_false_iff_ne.2 (Ne.symm OZ);have iG:(B==233009)=false:=beq_eq_false_iff_ne.2 f21;have aEa:(233009==B)=false:=beq_eq_false_iff_ne.2 (Ne.symm f21);have h9:(B==233019)=false:=beq_eq_false_iff_ne.2 f22;have aEb:(233019==B)=false:=beq_eq_false_iff_ne.2 (Ne.symm f22);have kC:(B==233022)=false:=beq_eq_false_iff_ne.2 f23;have aEc:(233022==B)=false:=beq_eq_false_iff_ne.2 (Ne.symm f23);have kZ:(B==233043)=false:=beq_eq_false_iff_ne.2 f24;have aEd:(233043==B)=false:=beq_eq_false_iff_ne.2 (Ne.symm f24);have DB:(B==233051)=false:=beq_eq_false_iff_ne.2 f25;have aEe:(233051==B)=false:=beq_eq_false_iff_ne.2 (Ne.symm f25);have gR:(A=233009)=False:=eq_false f11;have fS:(B=233009)=False:=eq_false f21;have kA:(B=A)=False:=eq_false (Ne.symm OZ);have q7:(233019=A)=False:=eq_false (Ne.symm f12);have al9:(233019=B)=False:=eq_false (Ne.symm f22);have aEf:(233022=A)=False:=eq_false (Ne.symm f13);have Uq:(233022=B)=False:=eq_false (Ne.symm f23);have aEg:(233009=A)=False:=eq_false (Ne.symm f11);have aEh:(233009=B)=False:=eq_false (Ne.symm f21);have aEi:(A=B)=False:=eq_false OZ;simp only[go_sem,go_sem_proc,hD,bZ,az,bP,cg,DA,yb,ix,oX,Gj,eU,ey,cr,b6,h7,iZ,s1,s2,d1,eH,hC,bS,cM,Xb,HE,fu,aD4,eg,aD5,jg,aD6,jR,aD7,vd,aD8,CW,aD9,iG,aEa,h9,aEb,kC,aEc,kZ,aEd,DB,aEe,gR,fS,kA,q7,al9,aEf,Uq,aEg,aEh,aEi,bW,dy,ar,bo];refine abG ?_;intro M2 hb
   have m6:∀k:Nat,k≠233009->k≠233019->k≠233022->k≠A->k≠B->M2 k=m k:=λk jL xy xw dn fz=>by
    rw[hb,c1 xw,c1 xy,c1 fz,c1 dn,c1 jL,c1 jL]
   have xS:M2 233019=some (0,bA (D h) λi=>if i=aG then .ref A (gc aG+1) 4 0 ((cE l aG).length+1) else l5 l gc i):=by
    rw[hb,c1 (by decide),iy]
   have FV:M2 A=some (gc aG+1,a6 bW (cE l aG++[((aG:Int),c2,c3,c4)])):=by
    rw[hb,c1 f13,c1 f12,c1 OZ,iy]
   have OY:M2 233022=some (0,bA (D h) λi=>if i=aG then .ref B (gX aG+1) 1 0 ((cE l aG).length+1) else pp l gX i):=by
    rw[hb,iy,nD]
   have Ge:M2 B=some (gX aG+1,a6 iS (gm l aG++[D l])):=by
    rw[hb,c1 f23,c1 f22,iy]
   have iJ:=bH.next (m':=M2) aH (c2:=c2) (c3:=c3) (c4:=c4) (gc aG+1) (gX aG+1) (by rw[dn];exact xS) (by rw[fz];exact OY) (by rw[dn];exact FV) (by rw[fz];exact Ge) λi J bE=>⟨by
    obtain⟨cH,cY,ep,fi,o2,tu,-⟩:=Uz i J;exact m6 _ cH cY ep (by omega) tu,by
    obtain⟨cH,cY,ep,fi,o2,tu,-⟩:=UA i J;exact m6 _ cH cY ep tu (by omega)⟩
   have ab2:M2 233057=none:=(m6 233057 (by decide) (by decide) (by decide) (Ne.symm f17) (Ne.symm f27)).trans kn;have oz:dA 233 gq M2:=λk I=>(m6 k (by omega) (by omega) (by omega) (by omega) (by omega)).trans (bw k I);clear hb m6 xS FV OY Ge;refine ai ?_;repeat' (intro (aw:_=_)<;>simp only[aw,go_sem,go_sem_proc,bZ,az,bP,cg,DA,yb,ix,ct,ab2]<;>try refine ah ?_ ?_)
   exact⟨(t+1,_,_),by dsimp only;omega,by dsimp only;omega,rfl,by rw[gx];exact iJ,oz⟩
 ·have d1:decide ((t:Int)<(D cs:Int))=false:=cA;rw[dt (by omega)] at bH;refine ai ?_;repeat' (intro (aw:_=_)<;>simp only[aw,go_sem,go_sem_proc,bZ,az,bP,cg,DA,yb,ix,d1]<;>try refine ah ?_ ?_)
  refine dM _ _ gc gX ?_ ?_ ?_ ?_ kn bH bw<;>simp only[e8,dV,if_false,bZ,az,bP,cg]
def zD (l:List Nat):O:=if l=[] then .nil else .M (.ay (l.map iS))
def aEj (l:List Nat):pb (zD l)=some (D l):=by
 unfold zD
 split
 ·rename_i h;rw[h];rfl
 ·simp[pb]
def aEk {l:List Nat}{n y:Nat}(h:l[n]?=some y):vm 1 n (zD l)=some (.M (.ptr (iS y))):=by
 unfold zD
 split
 ·rename_i ak;rw[ak] at h;cases h
 ·simp only[vm,bo,h,iY]
  rfl
def aEl (l:List ao)(n:Nat)(m:Mem):b5 n m (kl l)=some (.ay (l.map bW)):=by
 unfold kl
 split
 ·rename_i h;rw[h];exact atf n
 ·exact LA n _
def Kb (cs:List ao)(h:List Rat)(j:Nat):bF:=ax (fK cs (h.getD (cs.getD j ji).1.toNat 0) (cs.getD j ji))
def qp (cs:List ao)(h:List Rat)(i t j:Nat):Option bF:=if (cs.getD j ji).1<(i:Int)\/((cs.getD j ji).1=(i:Int)/\j∈(gm cs i).take t) then some (Kb cs h j) else none
def aEm (cs:List ao)(h:List Rat)(i:Nat):(bA (D cs) λj=>qp cs h i (gm cs i).length j)=bA (D cs) λj=>qp cs h (i+1) 0 j:=k4 λj ag=>by
 unfold qp;rw[mW,l3];have hm:=abY (l:=cs) (i:=i) (j:=j)
 by_cases F:(cs.getD j ji).1<(i:Int)
 ·rw[ab (.inl F),ab (.inl (by omega))]
 ·by_cases G:(cs.getD j ji).1=(i:Int)
  ·rw[ab (.inr ⟨G,hm.2 ⟨ag,G⟩⟩),ab (.inl (by omega))]
  ·rw[ae (λaX=>aX.elim F λx=>G x.1),ae (λaX=>aX.elim (by omega) λx=>by simpa using x.2)]
def aEn (cs:List ao)(h:List Rat)(aF:Gz cs h):(bA (D cs) λj=>qp cs h 0 0 j)=bA (D cs) λ_=>none:=k4 λj ag=>by
 have:=(aF.c _ (dZ (bn ag))).1;have e:cs.getD j ji=cs[j]:=by rw[ei,bn ag];rfl
 unfold qp;rw[e,l3,ae (λaX=>aX.elim (by omega) λx=>by simpa using x.2)]
def aEo (cs:List ao)(h:List Rat)(aF:Gz cs h):(bA (D cs) λj=>qp cs h (D h) 0 j)=(cs.map λc=>ax (fK cs (h.getD c.1.toNat 0) c)).map some:=by
 refine (abf (by simp) λj ag=>?_).symm;have:=(aF.c _ (dZ (bn ag))).2.1;have e:cs.getD j ji=cs[j]:=by rw[ei,bn ag];rfl
 unfold qp;rw[bo,bo,bn ag,e,ab (.inl this)];unfold Kb;rw[e];rfl
def aEp (T:ba){K:eT->bc->Prop}{kk:List gG}(cs:List ao)(h:List Rat)(aF:Gz cs h)(i:Nat)(J:i<D h)(v1 sv an3 an4 an5:O)(an6 an7:Option (Nat×List O))(tm:Nat->O)(m:Mem)
  (az:tm 1=v1) (cg:tm 7=sv) (eJ:tm 10=.ref 233057 0 4 0 (D cs)) (gL:tm 13=.M (.ay (((cE cs i).map λc=>ax (fK cs (h.getD i 0) c)).map aU))) (zE:tm 58=an3) (qo:tm 59=an4) (lV:tm 60=an5) (O0:tm 79=zD (gm cs i)) (O1:tm 80=.M (.int .i64 (gm cs i).length)) (O2:tm 81=.M (.int .i64 0)) (DD:m 233019=an6) (DE:m 233022=an7) (kn:m 233057=some (0,ml rp (bA (D cs) λj=>qp cs h i 0 j))) (gq:Mem) (bw:dA 233 gq m)
  (dM:∀tm' m',tm' 1=v1->tm' 7=sv->tm' 10=.ref 233057 0 4 0 (D cs)->tm' 58=an3->tm' 59=an4->tm' 60=an5->m' 233019=an6->m' 233022=an7->m' 233057=some (0,ml rp (bA (D cs) λj=>qp cs h (i+1) 0 j))->dA 233 gq m'->cw T K kk (.exit 4) ⟨tm',m'⟩) :
  wp T (CN.body.sub [1,1,1,1,1,0,1,0,0,1,1,0,0,1,1,1,1,0]) (cw T K kk) ⟨tm,m⟩:=by
 simp only[CN,eh.sub];have ht:=aF.len;have nD:=aDZ cs i;refine da [1,7,10,13,58,59,60,79,80] [233019,233022] (λ(k:Nat) tm m=>k<=(gm cs i).length/\tm 81=.M (.int .i64 k)/\m 233057=some (0,ml rp (bA (D cs) λj=>qp cs h i k j))/\dA 233 gq m) (λk=>(gm cs i).length-k) 0 (by refine⟨by omega,O2,kn,bw⟩) ?_;intro vs ms aW aR;simp only[go_sem,go_sem_proc,az,cg,eJ,gL,zE,qo,lV,O0,O1,DD,DE] at aW aR;subst aW aR;clear az cg eJ gL zE qo lV O0 O1 O2 DD DE kn bw tm m;rintro k tm m I hm ⟨wh,O2,kn,bw⟩;simp only[go_sem,go_sem_proc,bh] at I hm;obtain⟨az,cg,eJ,gL,zE,qo,lV,O0,O1⟩:=I;obtain⟨DD,DE⟩:=hm;rcases dq (k<(gm cs i).length) with aq|ca
 ·have d1:decide ((k:Int)<((gm cs i).length:Int))=true:=cX;have ct:=e0 (i:=k) (by omega);obtain⟨y,al⟩:∃y,(gm cs i)[k]?=some y:=⟨_,bn aq⟩;obtain⟨BS,an8⟩:=abY.1 (dZ al);have oX:=aEk al;simp only[go_sem,go_sem_proc,dy] at oX
  have aEq:((cE cs i).map λc=>ax (fK cs (h.getD i 0) c))[k]?=some (Kb cs h y):=by
   rw[an0,bo,bo,al];unfold Kb;rw[an8,g9];rfl
  have Ur:=abg (q:=λj=>qp cs h i k j) BS;have nW:=λa b c d=>abh (q:=λj=>qp cs h i k j) BS a b c d
  have gJ:∀aL:bF,aL=Kb cs h y->(bA (D cs) λj=>if j=y then some aL else qp cs h i k j)=bA (D cs) λj=>qp cs h i (k+1) j:=λaL eW=>k4 λj _=>by
   have gx:(gm cs i).take (k+1)=(gm cs i).take k++[y]:=by rw[hF,al];rfl
   by_cases ag:j=y
   ·subst ag;rw[ab rfl];unfold qp;rw[gx,ab (.inr ⟨an8,by simp⟩),eW]
   ·rw[ae ag];unfold qp;rw[gx]
    by_cases F:(cs.getD j ji).1<(i:Int)\/((cs.getD j ji).1=(i:Int)/\j∈(gm cs i).take k)
    ·rw[ab F,ab (F.imp id λx=>⟨x.1,by simp[x.2]⟩)]
    ·rw[ae F,ae λaX=>F (aX.imp id λx=>⟨x.1,by simpa [ag] using x.2⟩)]
  have aH:=gJ _ rfl;clear dM;generalize ((cE cs i).map λc=>ax (fK cs (h.getD i 0) c))=yc at *;generalize Kb cs h y=aL at *;obtain⟨⟨cH,cY⟩,⟨ep,fi⟩⟩:=aL;have c9:=nW cH cY ep fi;rw[aH] at c9;refine ai ?_;repeat' (intro (aw:_=_)<;>simp only[aw,go_sem,go_sem_proc,az,cg,eJ,gL,zE,qo,lV,O0,O1,O2,DD,DE,kn,d1,ct,oX,aEq,Ur,c9,BS,iS,aU,dy,ar,bo]<;>try refine ah ?_ ?_)
  exact⟨k+1,by omega,by omega,rfl,rfl,bw.eN (by decide)⟩
 ·have d1:decide ((k:Int)<((gm cs i).length:Int))=false:=cA;obtain rfl:k=(gm cs i).length:=by omega
  rw[aEm] at kn;refine ai ?_;repeat' (intro (aw:_=_)<;>simp only[aw,go_sem,go_sem_proc,az,cg,eJ,gL,zE,qo,lV,O0,O1,O2,d1]<;>try refine ah ?_ ?_)
  refine dM _ _ ?_ ?_ ?_ ?_ ?_ ?_ DD DE kn bw<;>simp only[e8,dV,if_false,az,cg,eJ,zE,qo,lV]
def aEr (n:Nat):(dH n [O.nil]).flatten=bA n λ_ => .nil:=by
 induction n with
 |zero=>rfl
 |succ n av=>rw[amW,A8,av,anh];rfl
def aEs {a b:List Rat}(h:(a.map ax).map aU=(b.map ax).map aU):a=b:=map_inj (λ_ _ h=>se h) _ _ (map_inj nq _ _ h)
structure an9 (x:List ao×List Rat×O) (mem:Mem):Prop where
 ok:Gz x.1 x.2.1
 no:ow 233 mem
 rd:ru x.2.2 x.1 mem
def ab3 (x:List ao×List Rat×O):Data:=.cP [.ay ((x.1.map λc=>ax (fK x.1 (x.2.1.getD c.1.toNat 0) c)).map aU),.bool true]
def Kc:List O->Mem->Option Data:=Bf (λx args mem=>args=[x.2.2,.M (.ay ((x.2.1.map ax).map aU))]/\an9 x mem) ab3
def aEt (cs:List ao)(h:List Rat)(v:O)(mem:Mem)(aF:Gz cs h)(fp:ow 233 mem)(oR:ru v cs mem):Kc [v,.M (.ay ((h.map ax).map aU))] mem=some (.cP [.ay ((cs.map λc=>ax (fK cs (h.getD c.1.toNat 0) c)).map aU),.bool true]):=by
 refine Od (a:=(cs,h,v)) ?_ ⟨rfl,⟨aF,fp,oR⟩⟩;rintro⟨a,b,w⟩ ⟨c,d,aT⟩ args mem ⟨az,bS⟩ ⟨bX,dj⟩;rw[az] at bX;simp only[bh,O.M.injEq,Data.ay.injEq,and_true] at bX;obtain⟨F,G⟩:=bX
 try dsimp only at F G
 subst F;obtain rfl:a=c:=bS.rd.uniq dj.rd;obtain rfl:b=d:=aEs G
 rfl
def aEu (T:ba)(yd:T L1=aQ OW)(x:List ao×List Rat×O)(mem:Mem)(aO:an9 x mem):
  wp T CN.body (me CN.res λm mem'=>b5 6 emp m=some (ab3 x)/\∀j,¬ j/1000=233->mem' j=mem j) ⟨iC [x.2.2,.M (.ay ((x.2.1.map ax).map aU))],mem⟩:=by
 obtain⟨cs,h,v⟩:=x;obtain⟨H,fp,oR⟩:=aO;dsimp only at H oR;unfold ab3;dsimp only;refine pf ?_;simp only[CN];have aEv:mem 233019=none:=fp 233019 (by decide);have aEw:mem 233022=none:=fp 233022 (by decide);have ab4:mem 233057=none:=fp 233057 (by decide);have jH:=oR.len;simp only[go_sem,go_sem_proc] at jH;have aH:=H.n;have ht:=H.len;have Jd:(24*D h<=140737488355328)=True:=eq_true (by omega);have C6:(D h<=maxLen)=True:=eq_true (by unfold maxLen;omega);have aEx:(64*D cs<=140737488355328)=True:=eq_true (by omega);have aEy:(D cs<=maxLen)=True:=eq_true (by unfold maxLen;omega);have aV:=aEr (D h);have aoa:=alL (D cs);rw[<-aEn cs h H] at aoa;simp only[go_sem,go_sem_proc,Jd,C6,aV,jH,aEv,aEw,ar];refine aD1 T cs h H v (.M (.ay ((h.map ax).map aU))) mem oR _ _ ?_ ?_ ?_ ?_ ?_ ?_ ?_ ?_ (λ_=>0) (λ_=>0) ⟨?_,?_,λi J bE=>absurd rfl bE,λi J bE=>absurd rfl bE⟩ ?_ ?_
 all_goals first|(intro tm m gc gX fZ bS ka jP kn bH bw)|exact ((dA.refl _ _).eN (by decide)).eN (by decide)|(simp only[a4,dV,if_false];exact ab4)|(simp only[e8,dV,if_false,if_true];done)|(simp only[e8,dV,if_false,if_true];rfl)|(simp only[a4,dV,if_false,if_true];rfl)|skip
 obtain⟨dw,F,G,af⟩:=Uv (λi=>233600+i) (λi=>kl (cE cs i)) (λi J=>by omega) (λi j _ _ he=>by omega) (D h) 0 (l5 cs gc) m (by omega) bH.eU (λi J=>by omega) λi _ J=>by
  by_cases ia:cE cs i=[]
  ·refine .inl ?_;unfold l5 kl;rw[ab ia,ab ia]
  ·refine .inr ⟨gc i,4,(cE cs i).length,a6 bW (cE cs i),.ay ((cE cs i).map bW),?_,bH.bS i J ia,λcv nN=>pj (n:=0) n0 nN,?_⟩
   ·unfold l5;rw[ae ia]
   ·unfold kl;rw[ae ia]
 have xw:dw 233022=some (0,bA (D h) (pp cs gX)):=(af 233022 (by decide) λi J=>by omega).trans bH.ey;have aob:dw 233057=none:=(af 233057 (by decide) λi J=>by omega).trans kn
 obtain⟨cv,cr,b6,ga⟩:=Uv (λi=>233700+i) (λi=>zD (gm cs i)) (λi J=>by omega) (λi j _ _ he=>by omega) (D h) 0 (pp cs gX) dw (by omega) xw (λi J=>by omega) λi _ J=>by
  by_cases ia:cE cs i=[]
  ·refine .inl ?_;have Bm:gm cs i=[]:=Bt.1 (by rw[Ux,ia];rfl);unfold pp zD;rw[ab ia,ab Bm]
  ·have Bm:gm cs i≠[]:=λaX=>ia (Bt.1 (by rw[<-Ux,aX];rfl));refine .inr ⟨gX i,1,(cE cs i).length,a6 iS (gm cs i),.ay ((gm cs i).map iS),?_,?_,λcv nN=>by rw[<-Ux];exact pj (n:=0) zi nN,?_⟩
   ·unfold pp;rw[ae ia]
   ·exact (af (233700+i) (by omega) λj ag=>by omega).trans (bH.cM i J ia)
   ·unfold zD;rw[ae Bm]
 have UD:cv 233019=some (0,bA (D h) λi=>kl (cE cs i)):=(ga 233019 (by decide) λi J=>by omega).trans G;have Bu:cv 233057=none:=(ga 233057 (by decide) λi J=>by omega).trans aob;simp only[go_sem,go_sem_proc];have aoc:dA 233 mem cv:=λk I=>(ga k (by rintro rfl;exact I (by decide)) λi J=>by rintro rfl;omega).trans ((af k (by rintro rfl;exact I (by decide)) λi J=>by rintro rfl;omega).trans (bw k I));refine ang (F.trans cr) ?_;clear F G af cr ga xw aob bH kn bw;simp only[go_sem,go_sem_proc,fZ,bS,ka,jP,jH,aEx,aEy,aoa,Bu,ar];refine da [1,7,10,58,59] [233019,233022] (λ(i:Nat) tm m=>i<=D h/\tm 60=.M (.int .i64 i)/\m 233057=some (0,ml rp (bA (D cs) λj=>qp cs h i 0 j))/\dA 233 mem m) (λi=>D h-i) 0 (by refine⟨by omega,rfl,by simp[a4],aoc.eN (by decide)⟩) ?_;intro vs ms aW aR;simp only[go_sem,go_sem_proc,bS,jP,UD,b6,ar] at aW aR;subst aW aR;clear fZ bS ka jP UD Bu b6 aoc tm m dw cv;rintro i tm m I hm ⟨J,lV,kn,bw⟩;simp only[go_sem,go_sem_proc,bh] at I hm;obtain⟨az,cg,eJ,zE,qo⟩:=I;obtain⟨DD,DE⟩:=hm;rcases dq (i<D h) with aq|ca
 ·have d1:decide ((i:Int)<(D h:Int))=true:=cX;have ct:=e0 (i:=i) (by omega);obtain⟨x,Q⟩:∃x,h[i]?=some x:=⟨_,bn aq⟩;have jO:h.getD i 0=x:=by rw[ei,Q];rfl
  have iN:=H.x x (dZ Q)
  have p1:ly (cE cs i):=⟨eZ (nZ _ _) ht,λc hq=>by
   have F:=H.c c (n3.1 hq).1;omega,λc hq c' aEz=>by rw[(n3.1 hq).2,(n3.1 aEz).2]⟩
  have eW:=anS x (cE cs i) ⟨p1,iN.1,iN.2⟩;rw[aAT,<-jO] at eW;rw[<-jO] at Q;have eU:=wC (jh (λi=>kl (cE cs i)) aq);have ey:=wC (jh (λi=>zD (gm cs i)) aq);have h7:(bA (D h) λi=>kl (cE cs i)).length=D h:=gY _ _;have iZ:(bA (D h) λi=>zD (gm cs i)).length=D h:=gY _ _;have eH:i+1<=D h:=by omega
  have s7:=aEl (cE cs i) 6;have aod:=aEj (gm cs i);simp only[go_sem,go_sem_proc] at aod;generalize mQ:ax (h.getD i 0)=cU at *;obtain⟨⟨cH,cY⟩,⟨ep,fi⟩⟩:=cU;simp only[aU] at eW;simp only[go_sem,go_sem_proc,yd,az,cg,eJ,zE,qo,lV,DD,DE,kn,d1,eU,ey,h7,iZ,eH,aq,Q,mQ,s7,eW,aod,aU,dy,ar,bo,bne,beq_self_eq_true,cF];refine aEp T cs h H i aq (.M (.ay ((h.map ax).map aU))) (.ref 233022 0 1 0 (D h)) (.ref 233019 0 1 0 (D h)) (.M (.int .i64 (D h))) (.M (.int .i64 i)) _ _ _ _ ?_ ?_ ?_ ?_ ?_ ?_ ?_ ?_ ?_ ?_ DD DE kn mem bw ?_
  all_goals first|(intro tm' m' bS jP r9 aEA aEB aEC UD aED Bu o3)|(simp only[e8,dV,if_false,if_true,az,cg,eJ,zE,qo,lV];done)
  refine ai ?_;repeat' (intro (aw:_=_)<;>simp only[aw,go_sem,go_sem_proc,bS,jP,r9,aEA,aEB,aEC,UD,aED,Bu,ct]<;>try refine ah ?_ ?_)
  exact⟨i+1,by omega,by omega,rfl,rfl,o3⟩
 ·have d1:decide ((i:Int)<(D h:Int))=false:=cA;obtain rfl:i=D h:=by omega
  rw[aEo cs h H,alN] at kn;have nx:=λ(K:bc->Prop) (st:bc)=>oQ (K:=K) (st:=st) mY 10 233057 0 (cs.map λc=>ax (fK cs (h.getD c.1.toNat 0) c));rw[ar] at nx;simp only[go_sem,go_sem_proc,az,cg,eJ,zE,qo,lV,d1,kn,nx,ar];exact⟨_,rfl,rfl,λj ag=>(ae (by rintro rfl;exact ag (by decide))).trans (bw j ag)⟩
def aEE {α:Type}(p:α->Bool)(l:List α)(k:Nat)(I:k<D l)(h:∀j (ag:j<k),p (l[j]'(by omega))=false)(G:p l[k]=true):oW p l=k :=
 M0 (λx Q=>by
  obtain⟨j,ag⟩:=uk.1 Q;rw[List.getElem?_take] at ag
  by_cases dL:j<k
  ·rw[ab dL,bn (by omega),cl] at ag;rw[<-ag];exact h j dL
  ·rw[ae dL] at ag;cases ag) (bn I) G
def aoe {d:Day}{h:Nat->Rat}{i:Nat}:∀k,k<=10->d.jS h i k<10->(∀j,10-k<=j->j<d.jS h i k->d.U i (j+1)<=h i)/\h i<d.U i (d.jS h i k+1)/\10-k<=d.jS h i k
 |0,_,F=>by rw[Day.jS] at F;omega
 |k+1,I,F=>by
  rw[Day.jS] at F ⊢
  by_cases H:h i<d.U i (10-(k+1)+1)
  ·rw[ab H] at F ⊢;exact⟨λj G af=>by omega,H,bM _⟩
  ·rw[ae H] at F ⊢;obtain⟨bS,cM,dj⟩:=aoe k (by omega) F;refine⟨λj G af=>?_,cM,by omega⟩
   by_cases ag:j=10-(k+1)
   ·rw[ag];grind
   ·exact bS j (by omega) af
def aEF {cash:List Int}{cs:List ao}(X:fv cash cs)(h:Nat->Rat)(n i:Nat)(J:i<n)(jT:dc (h i))(aK:(aB cash cs).jS h i 10<10):oW (tF (.solve (dz n h) i)) (bA 10 λk=>cK cs i (k+1:Nat))=((aB cash cs).jS h i 10:Int):=by
 obtain⟨F,G,af⟩:=aoe 10 (bM _) aK;have mg:=λk:Nat=>X.upto i k
 have aF:∀k:Nat,tF (.solve (dz n h) i) (cK cs i (k+1:Nat))=decide (h i<(aB cash cs).U i (k+1)):=λk=>by
  have Y:(dz n h).getD i eA=ax (h i):=by rw[ei,wy h J];rfl
  have Gg:fa (cK cs i (k+1:Nat)):=rn (by have:=mg (k+1);omega) (by have:=mg (k+1);omega);simp only[tF];rw[Y,RH jT (rq Gg),N9,u0 X.right]
 refine aEE _ _ _ (by rw[gY];exact aK) (λj ag=>?_) ?_
 ·have e:=jh (λk=>cK cs i (k+1:Nat)) (show j<10 by omega);rw[bn (by rw[gY];omega),cl] at e;rw[e,aF];exact lZ (by have:=F j (by omega) ag;grind)
 ·have e:=jh (λk=>cK cs i (k+1:Nat)) aK;rw[bn (by rw[gY];omega),cl] at e;rw[e,aF];exact h2 G
def c0.wf (a:c0)(f:Nat->Nat):c0:={ a with aP:=bA (D a.cash) λi=>(f i:Int) }
def c0.ab5 (a:c0)(f:Nat->Nat){i:Nat}(J:i<D a.cash):(a.wf f).gO i=(a.gO i).x2 (f i):=by
 have:(bA (D a.cash) λi=>(f i:Int)).getD i 10=(f i:Int):=Bp _ _ J;unfold c0.gO c0.wf oy.x2;dsimp only;rw[this]
def c0.eF.aEG {a:c0}{m:Mem}{f:Nat->Nat}(h:(a.wf f).eF m){i:Nat}(J:i<D a.cash)(r:Nat):(a.wf λj=>if j=i then r else f j).eF (a4 m (228500+i) (a.gs.getD i 0) (fF ((a.gO i).x2 r))):=by
 refine⟨h.can,gY _ _,h.pl,h.Tv,?_,λj ag=>?_⟩
 ·have:=h.row;simp only[a4];rw[ae (show ¬ ((228023:Nat)=228500+i) by omega)];exact this
 ·rw[c0.ab5 a _ ag];simp only[a4]
  by_cases h8:j=i
  ·subst h8;rw[ab rfl,ab rfl]
   rfl
  ·rw[ae (show ¬ ((228500+j:Nat)=228500+i) by omega),ae h8];have:=h.dr j ag;rw[c0.ab5 a _ ag] at this;exact this
def c0.UE (a:c0){p q:Nat->Nat}(h:∀i,i<(D a.cash)->p i=q i):a.wf p=a.wf q:=by
 unfold c0.wf;rw[k4 λi J=>by rw[h i J]]
def aEH {n i:Nat}(f:Nat->Nat)(h:i<n):bG (bA n λi=>(f i:Int)) i=f i:=by
 unfold bG;rw[Bp _ _ h,g9]
def aEI {x:oy}(h:x.df){k g:Nat}{m:Mem}(hm:m k=some (g,fF x))(n:Nat):b5 (n+1) m (.ref k g 1 12 10)=some (.ay (x.us.tail.map aC)):=by
 have e:cut (fF x) 12 10=some (x.us.tail.map bJ):=by
  unfold cut;rw[ab (by rw[Dr h];omega)]
  congr 1
  obtain⟨c,de,us,f,p⟩:=x;obtain⟨F,G⟩:=h;dsimp only at F G
  cases us with
  |nil=>cases G
  |cons u us =>
   have ak:(D us)=10:=by simpa using G
   unfold fF;dsimp only;rw[w7,oj,List.drop_eq_nil_of_le (by rw[ar];omega),ar,F,ik,eu];rw[show 11-10=1 from rfl,ky,w7,nG,List.take_append_of_le_length (by rw[ar];omega),dt (by rw[ar];omega)]
   rfl
 have aD:∀l:List Int,(l.map bJ).mapM (b5 n m)=some (l.map λz=>Data.int .i64 z):=by
  intro l
  induction l with
  |nil=>rfl
  |cons a l av =>
   rw[eu,kr,av];rw[show b5 n m (bJ a)=some (.int .i64 a) from LA n _]
   rfl
 have bX:∀l:List Int,chunk 1 (D l) (l.map λz=>Data.int .i64 z)=l.map aC:=by
  intro l
  induction l with
  |nil=>rfl
  |cons a l av=>simp only[hQ,eu,chunk,List.take_succ_cons,l3,w7,nG,av];rfl
 have ak:(D x.us.tail)=10:=by rw[List.length_tail,h.us]
 unfold b5;rw[hm];dsimp only;rw[ab rfl,dy,e];dsimp only;rw[aD];have:=bX x.us.tail;rw[ak] at this;rw[iY,this]
def c0.eF.up {a:c0}{m:Mem}(h:a.eF m)(aH:(D a.cash)<=6){k g:Nat}{cs:List O}(I:k/1000≠228):a.eF (a4 m k g cs) :=
 ⟨h.can,h.aP,h.pl,h.Tv,by rw[c1 (by omega)];exact h.row,λi J=>by rw[c1 (by omega)];exact h.dr i J⟩
def aEJ {α:Type}(n:Nat)(q:Nat->α):(bA (n+1) q).tail=bA n λk=>q (k+1):=by
 unfold bA;rw[List.range_succ_eq_map,eu,List.tail_cons,mK]
 rfl
def aof {m:Mem}{k g:Nat}{d:Data}(hm:m k=some (g,[.M d]))(n:Nat):b5 (n+1) m (.ptr k g 0)=some (.ptr [d]):=by
 unfold b5;rw[hm];dsimp only;rw[ab ⟨rfl,fy _⟩,nG,kr,LA]
 rfl
def aog (n k g sz o l:Nat):b5 (n+1) emp (.ref k g sz o l)=none:=by
 unfold b5;rfl
def wO (d:Day)(f:Nat->Nat)(h:Nat->Rat)(i j:Nat):Nat:=if j<i then d.gM f h j else f j
def aEK (T:ba)(kG:T om=aQ ss)(eK:T kP=aQ pz)(rv:T uv=aQ wN){K:eT->bc->Prop}{kk:List gG}(a:c0)(X:fv a.cash a.cs)(f:Nat->Nat)(aK:∀i,i<(D a.cash)->f i<=10)(h:Nat->Rat)(jT:∀i,i<(D a.cash)->dc (h i))(au:∀i,i<(D a.cash)->0<=h i)(gq:Mem)(v1 v4 sv:O)(O3 ab6:Nat)(tm:Nat->O)(m:Mem)
  (az:tm 1=v1) (dE:tm 4=v4) (bP:tm 6=.ref 228023 a.g 1 0 (D a.cash)) (cg:tm 7=sv) (eb:tm 8=.ptr 217008 O3 0) (eJ:tm 10=.ref 217057 ab6 1 0 0) (hy:tm 31=.ref 228023 a.g 1 0 (D a.cash)) (hz:tm 32=.M (.int .i64 (D a.cash))) (rB:tm 33=.M (.int .i64 0))
  (bH:(a.wf f).eF m) (Fp:gq 217008=some (O3,[.M (.ay ((dz (D a.cash) h).map aU))])) (kn:m 217057=some (ab6,[])) (bw:∀k,k/1000≠228->k≠217011->k≠217057->m k=gq k)
  (dM:∀tm' m' cV,tm' 1=v1->tm' 4=v4->tm' 6=.ref 228023 a.g 1 0 (D a.cash)->tm' 7=sv->tm' 8=.ptr 217008 O3 0->tm' 10=.ref 217057 cV 1 0 (u9 (aB a.cash a.cs) f h (D a.cash)).length->m' 217057=some (cV,a6 iS (u9 (aB a.cash a.cs) f h (D a.cash)))->(a.wf ((aB a.cash a.cs).gM f h)).eF m'->(∀k,k/1000≠228->k≠217011->k≠217057->m' k=gq k)->cw T K kk (.exit 2) ⟨tm',m'⟩) :
  wp T (wb.body.sub [1,1,1,1,0,0,0,0,1,1,1,0,1,0,0]) (cw T K kk) ⟨tm,m⟩:=by
 simp only[wb,eh.sub];have aH:=X.k3;have Y:=X.ok
 refine da [1,4,6,7,8,31,32] [] (λ((i,g):Nat×Nat) tm m=>i<=D a.cash/\tm 33=.M (.int .i64 i)/\tm 10=.ref 217057 g 1 0 (u9 (aB a.cash a.cs) f h i).length/\m 217057=some (g,a6 iS (u9 (aB a.cash a.cs) f h i))/\(a.wf (wO (aB a.cash a.cs) f h i)).eF m/\∀k,k/1000≠228->k≠217011->k≠217057->m k=gq k) (λ(i,_)=>D a.cash-i) (0,ab6) (by
  refine⟨by omega,rB,eJ,kn,?_,bw⟩
  rw[a.UE (q:=f) λj _=>by unfold wO;rw[ae (by omega)]]
  exact bH) ?_
 intro vs ms aW aR;simp only[go_sem,go_sem_proc,az,dE,bP,cg,eb,hy,hz] at aW aR;subst aW aR;clear az dE bP cg eb eJ hy hz rB bH kn bw tm m;rintro⟨i,g⟩ tm m I-⟨J,rB,eJ,kn,bH,bw⟩;simp only[go_sem,go_sem_proc,bh] at I;obtain⟨az,dE,bP,cg,eb,hy,hz⟩:=I;rcases dq (i<D a.cash) with aq|ca
 ·have d1:decide ((i:Int)<(D a.cash:Int))=true:=cX;have ct:=e0 (i:=i) (by omega);have x4:=aK i aq;have qn:wO (aB a.cash a.cs) f h i i=f i:=by unfold wO;rw[ae (by omega)]
  have fo:m 228023=some (a.g,bA (D a.cash) λi => .ptr (228500+i) (a.gs.getD i 0) 0):=bH.row;have fQ:m (228500+i)=some (a.gs.getD i 0,_):=bH.dr i aq;rw[c0.ab5 a _ aq,qn] at fQ;have O4:=(bw 217008 (by decide) (by decide) (by decide)).trans Fp;have kN:=wC (jh (λi=>O.ptr (228500+i) (a.gs.getD i 0) 0) aq);have b0:(bA (D a.cash) λi=>O.ptr (228500+i) (a.gs.getD i 0) 0).length=D a.cash:=gY _ _;have cT:((a.gO i).x2 (f i)).df:=⟨(a.x3 i).de,(a.x3 i).us⟩;have hlen:=Dr cT;have o3:fh 1 (ft 22 (fF ((a.gO i).x2 (f i))))=[bJ (f i:Int)]:=Oh cT;have Bj:=Og cT (k:=f i) (z:=cK a.cs i (f i:Nat)) (jh _ (by omega));have eP:_=fF ((a.gO i).x2 ((aB a.cash a.cs).jS h i 10)):=aA3 cT ((aB a.cash a.cs).jS h i 10:Nat);have eH:i+1<=D a.cash:=by omega
  have aI:f i<11:=by omega
  have cS:(11+f i+1<=24)=True:=eq_true (by omega);have mg:=X.upto i (f i);have Gg:fa (cK a.cs i (f i:Nat)):=rn (by omega) (by omega);have hw:=Dn _ Gg;have uD:=zt (jT i aq) (rq Gg);have JR:=u0 X.right i (f i);have Il:decide (je (h i) ((cK a.cs i (f i:Nat):Int):Rat)>=0)=decide (((cK a.cs i (f i:Nat):Int):Rat)<=h i):=alx;have GA:=aAU (aB a.cash a.cs) f h i;rw[<-JR] at GA;have Oz:=wy h aq;have aEL:=aAV (aB a.cash a.cs) f h i;have dN:=l8 zi al5 217057 g 8 (u9 (aB a.cash a.cs) f h i) i (cs:=[.M (.int .i64 i)]) rfl (by omega) (by omega);have aoh:=λ(cv:Mem) (nN:cv (228500+i)=some (a.gs.getD i 0,fF ((a.gO i).x2 (f i)))) n=>aEI cT nN n;have aEM:((a.gO i).x2 (f i)).us.tail=bA 10 λk=>cK a.cs i (k+1:Nat):=aEJ 10 _;simp only[aEM] at aoh
  have aEN:¬ h i<((cK a.cs i (f i:Nat):Int):Rat)->a.wf (wO (aB a.cash a.cs) f h (i+1))=a.wf (wO (aB a.cash a.cs) f h i):=λaX=>a.UE λj _=>by
   unfold wO
   by_cases ag:j=i
   ·subst ag;rw[ab (by omega),ae (by omega)];unfold Day.gM;rw[ae (by rw[<-JR];exact λx=>aX x.2)]
   ·by_cases vA:j<i
    ·rw[ab vA,ab (by omega)]
    ·rw[ae vA,ae (by omega)]
  have aEO:h i<((cK a.cs i (f i:Nat):Int):Rat)->a.wf (wO (aB a.cash a.cs) f h (i+1))=a.wf (λj=>if j=i then (aB a.cash a.cs).jS h i 10 else wO (aB a.cash a.cs) f h i j):=λaX=>a.UE λj _=>by
   unfold wO
   by_cases ag:j=i
   ·subst ag;rw[ab (by omega),ab rfl];unfold Day.gM;rw[ab ⟨aq,by rw[<-JR];exact aX⟩]
   ·rw[ae ag]
    by_cases vA:j<i
    ·rw[ab vA,ab (by omega)]
    ·rw[ae vA,ae (by omega)]
  have nW:=λ(bb:Mem) (kT:(a.wf (wO (aB a.cash a.cs) f h i)).eF bb)=>kT.aEG aq ((aB a.cash a.cs).jS h i 10)
  have ou:h i<((cK a.cs i (f i:Nat):Int):Rat)->(aB a.cash a.cs).jS h i 10<10:=λaX=>by
   rw[JR] at aX;have:=Y.uW i x4;rcases aay Y (h:=h) (i:=i) 10 (bM _) (by rw[lf,Day.SH];exact au i aq) with ⟨-,e⟩|⟨-,e,-⟩
   ·grind
   ·exact e
  have aEP:=λaX=>aEF X h (D a.cash) i aq (jT i aq) (ou aX)
  have zj:=anH (bA 10 λk=>cK a.cs i (k+1:Nat)) (.solve (dz (D a.cash) h) i) ⟨by rw[gY];omega,by decide,by rw[rm];exact aq,aa0 (by omega) jT,λx Q=>by
   obtain⟨k,-,rfl⟩:=ef.1 Q;have:=X.upto i (k+1:Nat);exact rn (by omega) (by omega)⟩
  simp only[wM] at zj;generalize aPz:(bA 10 λk=>cK a.cs i (k+1:Nat))=SL at *;generalize JO:(bA (D a.cash) λi=>O.ptr (228500+i) (a.gs.getD i 0) 0)=x5 at *;have aEQ:(228500+i)/1000=228:=by omega
  generalize va:228500+i=ed at *;generalize Ov:fF ((a.gO i).x2 (f i))=DC at *;have aoi:(ed=217011)=False:=eq_false (by omega);have ab4:(ed=217057)=False:=eq_false (by omega);have aER:(217057=ed)=False:=eq_false (by omega);have aPA:ax (h i)=ax (h i):=rfl;generalize aCl:ax (h i)=hR at *;generalize mQ:ax ((cK a.cs i (f i:Nat):Int):Rat)=cU at *;obtain⟨⟨c6,eB⟩,⟨jA,lT⟩⟩:=cU;obtain⟨⟨cH,cY⟩,⟨ep,fi⟩⟩:=hR;simp only[aU] at hw uD;rcases fu:decide (((cK a.cs i (f i:Nat):Int):Rat)<=h i)
  ·have aX:h i<((cK a.cs i (f i:Nat):Int):Rat):=by have:=of_decide_eq_false fu;grind
   rw[ab aX] at GA;rw[<-GA] at dN;rw[aEP aX] at zj;simp only[<-aEO aX] at nW;have cm:(u9 (aB a.cash a.cs) f h (i+1)).length=(u9 (aB a.cash a.cs) f h i).length+1:=by rw[GA,fO];rfl
   have aES:∀cv:Mem,cv 217008=some (O3,[.M (.ay ((dz (D a.cash) h).map aU))])->b5 5 cv (.ptr 217008 O3 0)=some (.ptr [.ay ((dz (D a.cash) h).map aU)]):=λcv nN=>aof nN 4;have aET:∀(cv:Mem) (g:Nat),cv 217011=some (g,[.M (.int .i64 i)])->b5 5 cv (.ptr 217011 g 0)=some (.ptr [.int .i64 i]):=λcv g nN=>aof nN 4;have aEU:=aog 5 ed (a.gs.getD i 0) 1 12 10;refine ai ?_;repeat' (intro (aw:_=_)<;>simp only[aw,go_sem,go_sem_proc,kG,eK,rv,az,dE,bP,cg,eb,eJ,hy,hz,rB,fo,fQ,O4,kn,kN,b0,hlen,o3,Bj,eP,eH,aI,cS,aq,hw,uD,Il,fu,Oz,dN,aoh,zj,aES,aET,aEU,aoi,ab4,aER,d1,ct,aU,bJ,dy,ar,bo,nr,scalar,pU,Int.reduceLE,Int.reduceToNat]<;>try refine ah ?_ ?_)
   refine⟨(i+1,g+1),by dsimp only;omega,by dsimp only;omega,rfl,by rw[cm],rfl,nW _ (((bH.up aH (by decide)).up aH (by decide)).up aH (by decide)),λk F G af=>?_⟩
   rw[ae (show ¬ k=ed by intro I;rw[I] at F;exact F aEQ),ae af,ae G,ae G];exact bw k F G af
  ·have aX:¬ h i<((cK a.cs i (f i:Nat):Int):Rat):=by have:=of_decide_eq_true fu;grind
   rw[ae aX] at GA;refine ai ?_;repeat' (intro (aw:_=_)<;>simp only[aw,go_sem,go_sem_proc,kG,eK,az,dE,bP,cg,eb,eJ,hy,hz,rB,fo,fQ,O4,kN,b0,hlen,o3,Bj,eH,aI,cS,aq,hw,uD,Il,fu,Oz,aoi,d1,ct,aU,bJ,dy,ar,bo]<;>try refine ah ?_ ?_)
   refine⟨(i+1,g),by dsimp only;omega,by dsimp only;omega,rfl,by rw[GA],by rw[GA];exact kn,?_,λk F G af=>?_⟩
   ·rw[aEN aX];exact (bH.up aH (by decide)).up aH (by decide)
   ·rw[ae G,ae G];exact bw k F G af
 ·have d1:decide ((i:Int)<(D a.cash:Int))=false:=cA;obtain rfl:i=D a.cash:=by omega
  rw[a.UE (q:=(aB a.cash a.cs).gM f h) λj ag=>by unfold wO;rw[ab ag]] at bH
  refine ai ?_;repeat' (intro (aw:_=_)<;>simp only[aw,go_sem,go_sem_proc,az,dE,bP,cg,eb,eJ,hy,hz,rB,d1]<;>try refine ah ?_ ?_)
  refine dM _ _ g ?_ ?_ ?_ ?_ ?_ ?_ kn bH bw<;>simp only[e8,dV,if_false,az,dE,bP,cg,eb,eJ]
def aEV {n:Nat}{f:Nat->Nat}(h:∀i,n<=i->f i=10):bG (bA n λi=>(f i:Int))=f:=by
 funext i
 by_cases J:i<n
 ·exact aEH f J
 ·unfold bG;rw[ei,List.getElem?_eq_none (by rw[gY];omega),h i (by omega)];rfl
def aEW {d:Day}{f:Nat->Nat}{h:Nat->Rat}(g3:∀i,d.n<=i->f i=10):∀i,d.n<=i->d.gM f h i=10:=λi J=>by
 unfold Day.gM;rw[ae λx=>by omega,g3 i J]
def ab7 (d:Day):∀k f,(d.rounds k f).1.length<=k
 |0,f=>bM _
 |k+1,f=>by
  rw[Day.rounds]
  split
  ·exact fy _
  ·have:=ab7 d k (d.gM f (d.top f));simp only[hQ];omega
def o6 (l:List Nat):List Data:=[.ay (l.map iS)]
def aoj (l:List Nat):(o6 l).length=1:=rfl
def aEX (l:List Nat):((o6 l).map O.M).all O.one=true:=rfl
def zF (done:List (List Nat))(g:Nat):O:=if done=[] then .nil else .ref 217077 g 1 0 (D done)
def ye (mem:Mem):Prop:=∀k:Nat,200000<=k->k<300000->mem k=none
def ye.k {mem:Mem}(h:ye mem)(n:Nat)(aH:200<=n/\n<300:=by decide):ow n mem:=λk I=>h k (by omega) (by omega)
structure aok (gq:Mem) (cash:List Int) (cs:List ao) (g:Nat) (gs:Nat->Nat) (f:Nat->Nat) (done:List (List Nat)) (n8:Nat) (m:Mem):Prop where
 at_:∃p,(((zB cash cs g gs).wf f).hI p).eF m
 out:∃lA,lA=0/\m 217007=some (lA,[.nil,.nil,zF done n8])
 row:done≠[]->m 217077=some (n8,a6 o6 done)
 no:∀k:Nat,k/1000≠217->k/1000≠228->m k=gq k
 f10:∀i,D cash<=i->f i=10
 reach:Reach (aB cash (dm (D cash) cs)) f
 hZ:∃r,m4 (D cash) f<=r/\(aB cash (dm (D cash) cs)).hZ=done++((aB cash (dm (D cash) cs)).rounds r f).1/\(aB cash (dm (D cash) cs)).jC=((aB cash (dm (D cash) cs)).rounds r f).2
def aEY (T:ba)(DF:T HP=ns Gh)(kG:T om=aQ ss)(eK:T kP=aQ pz)(rv:T uv=aQ wN){K:eT->bc->Prop}{kk:List gG}(cash:List Int)(cs:List ao)(q3:fv cash cs)(g:Nat)(gs:Nat->Nat)(v1:O)(gq:Mem)(Bv:ye gq)(tm:Nat->O)(m:Mem)
  (az:tm 1=v1) (dE:tm 4=.ptr 217004 0 0) (bP:tm 6=.ref 228023 g 1 0 (D cash)) (cg:tm 7=.ptr 217007 0 0) (oU:m 217004=some (0,[.nil,.nil,.nil])) (bH:aok gq cash cs g gs (λ_=>10) [] 0 m)
  (dM:∀tm' m' n8,tm' 1=v1->tm' 4=.ptr 217004 0 0->tm' 7=.ptr 217007 0 0->m' 217004=some (0,[.nil,.nil,.nil])->m' 217007=some (0,[.M (.ay ((dz (D cash) (aB cash (dm (D cash) cs)).cW).map aU)),.nil,zF (aB cash (dm (D cash) cs)).hZ n8])->((aB cash (dm (D cash) cs)).hZ≠[]->m' 217077=some (n8,a6 o6 (aB cash (dm (D cash) cs)).hZ))->(∀k:Nat,k/1000≠217->k/1000≠228->m' k=gq k)->cw T K kk (.exit 0) ⟨tm',m'⟩) :
  wp T (wb.body.sub [1,1,1,1,0,0]) (cw T K kk) ⟨tm,m⟩:=by
 simp only[wb,eh.sub];have X:=abb q3;have aH:=X.k3;have Y:=X.ok;refine da [1,4,6,7] [217004] (λ((f,done,n8):(Nat->Nat)×List (List Nat)×Nat) tm m=>aok gq cash cs g gs f done n8 m) (λ(f,_)=>m4 (D cash) f) (λ_=>10,[],0) (by exact bH) ?_;intro vs ms aW aR;simp only[go_sem,go_sem_proc,az,dE,bP,cg,oU] at aW aR;subst aW aR;clear az dE bP cg oU bH tm m;rintro⟨f,done,n8⟩ tm m I oU bH;simp only[go_sem,go_sem_proc,bh] at I oU;obtain⟨az,dE,bP,cg⟩:=I;obtain⟨⟨p,bH⟩,⟨lA,rfl,O5⟩,fo,fp,x4,aol,r,Cm,bL,y1⟩:=bH;dsimp only at *;have vu:=aEV x4;have mC:=aol;obtain⟨aom,hinv,-⟩:=aol
 have e3:=aCm (((zB cash cs g gs).wf f).hI p) m ⟨bH,λk I=>(fp k (by omega) (by omega)).trans (Bv k (by omega) (by omega)),λk I=>(fp k (by omega) (by omega)).trans (Bv k (by omega) (by omega)),λk I=>(fp k (by omega) (by omega)).trans (Bv k (by omega) (by omega)),⟨X,λx Q=>by
  obtain⟨i,-,rfl⟩:=ef.1 Q;have:=hinv.le i;omega⟩,⟨aom,by show Inv (aB cash (dm (D cash) cs)) (bG (bA (D cash) λi=>(f i:Int))) aom;rw[vu];exact hinv⟩⟩
 have aon:Gh [.ref 228023 g 1 0 (D cash)] m=some (TV (((zB cash cs g gs).wf f).hI p) m):=e3;simp only[go_sem,go_sem_proc,DF,az,dE,bP,cg,aon];have bz:=Day.Db (Y.hex f mC);have jT:∀i,i<(D cash)->dc ((aB cash (dm (D cash) cs)).top f i):=λi J=>iV (alX X mC J) (by omega);have au:∀i,i<(D cash)->0<=(aB cash (dm (D cash) cs)).top f i:=λi J=>bz.SQ Y J;rintro aoo mem' ⟨y9,p2,Qe,aop⟩
 have aEZ:aoo=.cP [.M (.ay ((dz (D cash) ((aB cash (dm (D cash) cs)).top f)).map aU)),.M (.bool true)]:=by
  rw[y9];show O.cP [.M (.ay ((dz (D cash) ((aB cash (dm (D cash) cs)).top (bG (bA (D cash) λi=>(f i:Int))))).map aU)),.M (.bool true)]=_;rw[vu]
 clear y9 e3 aon;subst aEZ;have fN:∀k:Nat,k/1000≠228->mem' k=m k:=λk I=>aop k λi J=>by have:i<D cash:=J;omega
 have jR:=(fN 217004 (by decide)).trans oU;have rA:=(fN 217007 (by decide)).trans O5;have al2:(aB cash (dm (D cash) cs)).ie f=u9 (aB cash (dm (D cash) cs)) f ((aB cash (dm (D cash) cs)).top f) (D cash):=rfl
 have aoq:(aB cash (dm (D cash) cs)).ie f=[]->(aB cash (dm (D cash) cs)).hZ=done/\(aB cash (dm (D cash) cs)).cW=(aB cash (dm (D cash) cs)).top f:=λh=>by
  have:=(aB cash (dm (D cash) cs)).ay2 h r;rw[this,fG] at bL;rw[this] at y1;exact⟨bL,by unfold Day.cW;rw[y1]⟩
 have vz:(aB cash (dm (D cash) cs)).ie f≠[]->m4 (D cash) ((aB cash (dm (D cash) cs)).gM f ((aB cash (dm (D cash) cs)).top f))<m4 (D cash) f/\Reach (aB cash (dm (D cash) cs)) ((aB cash (dm (D cash) cs)).gM f ((aB cash (dm (D cash) cs)).top f))/\(∀i,D cash<=i->(aB cash (dm (D cash) cs)).gM f ((aB cash (dm (D cash) cs)).top f) i=10)/\∃r,m4 (D cash) ((aB cash (dm (D cash) cs)).gM f ((aB cash (dm (D cash) cs)).top f))<=r/\(aB cash (dm (D cash) cs)).hZ=(done++[(aB cash (dm (D cash) cs)).ie f])++((aB cash (dm (D cash) cs)).rounds r ((aB cash (dm (D cash) cs)).gM f ((aB cash (dm (D cash) cs)).top f))).1/\(aB cash (dm (D cash) cs)).jC=((aB cash (dm (D cash) cs)).rounds r ((aB cash (dm (D cash) cs)).gM f ((aB cash (dm (D cash) cs)).top f))).2:=λbE=>by
  have aq:=aaB Y Y.hex mC bE;have kY:m4 (D cash) ((aB cash (dm (D cash) cs)).gM f ((aB cash (dm (D cash) cs)).top f))<m4 (D cash) f:=aq;refine⟨kY,mC.next Y Y.hex,aEW (d:=aB cash (dm (D cash) cs)) x4,?_⟩
  cases r with
  |zero=>omega
  |succ r =>
   rw[Day.rounds,ae bE] at bL y1;exact⟨r,by omega,by rw[bL];simp,y1⟩
 generalize nB:aB cash (dm (D cash) cs)=d at *;generalize r2:(dz (D cash) (d.top f)).map aU=V at *;simp only[go_sem,go_sem_proc,az,dE,bP,cg,jR,rA,cF];subst nB;rw[<-r2];refine aEK T kG eK rv ((zB cash cs g gs).hI p2) X f (λi _=>hinv.le i) ((aB cash (dm (D cash) cs)).top f) jT au _ v1 (.ptr 217004 0 0) (.ptr 217007 0 0) (gH (mem' 217008)) (gH (mem' 217057)) _ _ ?_ ?_ ?_ ?_ ?_ ?_ ?_ ?_ ?_ (((show ((((zB cash cs g gs).hI p2).wf f)).eF mem' from Qe).up aH (by decide)).up aH (by decide)|>.up aH (by decide)) ?_ ?_ (λ_ _ _ _=>rfl) ?_
 all_goals first|(intro OA cv b6 bS iT ka jP kU r9 Bu z1 oz)|(simp only[e8,dV,if_false,if_true,az,dE,bP,cg];done)|(simp only[e8,dV,if_false,if_true];rfl)|(simp only[e8,dV,if_false,if_true,az,dE,bP,cg];rfl)|(simp only[a4,dV,if_false,if_true];done)|(simp only[a4,dV,if_false,if_true];rfl)|skip
 replace r9:OA 10=.ref 217057 b6 1 0 ((aB cash (dm (D cash) cs)).ie f).length:=r9;replace Bu:cv 217057=some (b6,a6 iS ((aB cash (dm (D cash) cs)).ie f)):=Bu;replace ka:OA 6=.ref 228023 g 1 0 (D cash):=ka;replace z1:(((zB cash cs g gs).hI p2).wf ((aB cash (dm (D cash) cs)).gM f ((aB cash (dm (D cash) cs)).top f))).eF cv:=z1;have Kd:cv 217004=some (0,[.nil,.nil,.nil]):=(oz 217004 (by decide) (by decide) (by decide)).trans (by simp only[a4,dV,if_false];exact jR);have Bs:cv 217007=some (0,[.nil,.nil,zF done n8]):=(oz 217007 (by decide) (by decide) (by decide)).trans (by simp only[a4,dV,if_false];exact rA);have ab8:cv 217008=some (gH (mem' 217008),[.M (.ay V)]):=(oz 217008 (by decide) (by decide) (by decide)).trans (by simp only[a4,dV,if_false,if_true];rw[r2]);have aor:done≠[]->cv 217077=some (n8,a6 o6 done):=λh=>(oz 217077 (by decide) (by decide) (by decide)).trans (by simp only[a4,dV,if_false];exact (fN 217077 (by decide)).trans (fo h));have wP:∀(k j:Nat),k/1000≠217->j/1000=217->k≠j:=λk j F G h=>F (h ▸ G)
 have aos:∀k:Nat,k/1000≠217->k/1000≠228->cv k=gq k:=λk F G=>(oz k G (wP k _ F (by decide)) (wP k _ F (by decide))).trans (by
  rw[c1 (wP k _ F (by decide)),c1 (wP k _ F (by decide)),c1 (wP k _ F (by decide))];exact (fN k G).trans (fp k F G))
 clear oz fN Qe aop jR rA O5 fo fp oU az dE bP cg bL y1
 by_cases bE:(aB cash (dm (D cash) cs)).ie f=[]
 ·obtain⟨F,G⟩:=aoq bE;rw[bE] at r9;rw[F,G] at dM;have js:(((0:Nat):Int)==0)=true:=rfl;simp only[go_sem,go_sem_proc,bS,iT,ka,jP,kU,r9,Kd,Bs,ab8,js,List.length_nil,List.set_cons_zero];refine dM _ _ n8 ?_ ?_ ?_ ?_ ?_ (λh=>?_) λk gR fS=>?_
  ·simp only[e8,dV,if_false];exact bS
  ·simp only[e8,dV,if_false];exact iT
  ·simp only[e8,dV,if_false];exact jP
  ·simp only[a4,dV,if_false];exact Kd
  ·simp only[a4,dV,if_true];rw[r2]
  ·simp only[a4,dV,if_false];exact aor h
  ·rw[c1 (wP k _ gR (by decide))];exact aos k gR fS
 ·obtain⟨F,G,af,aS⟩:=vz bE;have aEL:((aB cash (dm (D cash) cs)).ie f).length<=6:=eZ (nZ _ _) (by rw[uj];exact aH)
  have js:((((aB cash (dm (D cash) cs)).ie f).length:Int)==0)=false:=by
   have:((aB cash (dm (D cash) cs)).ie f).length≠0:=λh=>bE (Bt.1 h);rw[beq_eq_false_iff_ne];omega
  have nx:=λ(K:bc->Prop) (st:bc)=>oQ (K:=K) (st:=st) zi 10 217057 b6 ((aB cash (dm (D cash) cs)).ie f);have hD:(1<=maxLen)=True:=eq_true (by decide);generalize Ww:(aB cash (dm (D cash) cs)).ie f=aP at *;clear aoq vz dM;have aot:∀(bb:Mem),(∀k:Nat,k/1000≠217->bb k=cv k)->∀k:Nat,k/1000≠217->k/1000≠228->bb k=gq k:=λbb kT k F G=>(kT k F).trans (aos k F G)
  by_cases kz:done=[]
  ·subst kz;have O6:zF [] n8=.nil:=rfl;rw[O6] at Bs;simp only[go_sem,go_sem_proc,bS,iT,ka,jP,kU,r9,Kd,Bs,ab8,Bu,js,nx,hD];refine⟨(_,[aP],gH (cv 217077)),F,⟨⟨p2,((z1.up aH (by decide)).up aH (by decide)).up aH (by decide)⟩,⟨0,rfl,?_⟩,λ_=>?_,?_,af,G,aS⟩⟩
   ·rw[iy];rfl
   ·rw[c1 (by decide),iy];rfl
   ·exact aot _ λk I=>by rw[c1 (wP k _ I (by decide)),c1 (wP k _ I (by decide)),c1 (wP k _ I (by decide))]
  ·have O6:zF done n8=.ref 217077 n8 1 0 (D done):=by unfold zF;rw[ae kz]
   rw[O6] at Bs;have UF:=aor kz
   have WW:(D done)+1<=60:=by
    obtain⟨Hf,-,bt,-⟩:=aS;have b2:=ab7 (aB cash (dm (D cash) cs)) (10*(aB cash (dm (D cash) cs)).n) λ_=>10;have cb:(aB cash (dm (D cash) cs)).hZ.length<=10*D cash:=b2;rw[bt] at cb;simp only[fO,AZ] at cb;omega
   have dN:=l8 aoj aEX 217077 n8 24 done aP (cs:=[.M (.ay (aP.map iS))]) rfl (by omega) (by omega);simp only[go_sem,go_sem_proc,bS,iT,ka,jP,kU,r9,Kd,Bs,ab8,Bu,UF,js,nx,dN];refine⟨(_,done++[aP],n8+1),F,⟨⟨p2,((z1.up aH (by decide)).up aH (by decide)).up aH (by decide)⟩,⟨0,rfl,?_⟩,λ_=>?_,?_,af,G,aS⟩⟩
   ·rw[iy];unfold zF;rw[ae (by simp),fO];rfl
   ·rw[c1 (by decide),iy]
   ·exact aot _ λk I=>by rw[c1 (wP k _ I (by decide)),c1 (wP k _ I (by decide)),c1 (wP k _ I (by decide))]
def Alike.cW {d e:Day}(h:Alike d e):d.cW=e.cW:=by unfold Day.cW Day.jC;rw[h.top,h.rounds,h.n]
def Alike.hZ {d e:Day}(h:Alike d e):d.hZ=e.hZ:=by unfold Day.hZ;rw[h.rounds,h.n]
structure O7 (cash:List Int) (cs:List ao):Prop where
 n:(D cash)<=1000000
 c:(D cs)<=1000000
 zw:hY cash cs=true->fv cash cs
def iz (cash:List Int)(cs:List ao):List bF:=cs.map λc=>ax (fK cs ((aB cash cs).cW c.1.toNat) c)
def ny (cash:List Int)(cs:List ao):List bF:=dz (D cash) (aB cash cs).cW
def sx (cash:List Int)(cs:List ao):Data:=if hY cash cs=true then .cP [.agg [.ay ((ny cash cs).map aU),.ay ((iz cash cs).map aU),.ay ((aB cash cs).hZ.map o6)],.int .i64 0] else .cP [.agg [.ay [],.ay [],.ay []],.int .i64 1]
def aE0 {cash:List Int}{cs:List ao}(X:fv cash cs):Gz cs ((dD (D cash)).map (aB cash cs).cW):=by
 have aa:=(gN.1 X.right).2.2.2;have aH:=X.k3;refine⟨X.ts,by simp;exact aH,λc H=>?_,λx Q=>?_⟩
 ·have F:=aa c H;have G:=X.am c H;rw[ar,uj];omega
 ·obtain⟨i,J,rfl⟩:=ef.1 Q;have ku:=gQ.1 J;exact⟨N8 X.ok ku,(Gb X ku).mono (by omega)⟩
def aE1 {cash:List Int}{cs:List ao}(X:fv cash cs):(cs.map λc=>ax (fK cs (((dD (D cash)).map (aB cash cs).cW).getD c.1.toNat 0) c))=iz cash cs:=mH λc H=>by
 have F:=(gN.1 X.right).2.2.2 c H;have:((dD (D cash)).map (aB cash cs).cW).getD c.1.toNat 0=(aB cash cs).cW c.1.toNat:=Bp (aB cash cs).cW 0 (show c.1.toNat<(D cash) by omega);rw[this]
def aou {f g:O->Option Data}(h:∀m d,f m=some d->g m=some d):∀(l:List O) (ds:List Data),l.mapM f=some ds->l.mapM g=some ds
 | [],ds,F=>by simpa using F
 |a::l,ds,F=>by
  rw[kr] at F ⊢
  cases aO:f a with
  |none=>rw[aO] at F;cases F
  |some x =>
   cases ak:l.mapM f with
   |none=>rw[aO,ak] at F;cases F
   |some y =>
    rw[aO,ak] at F;rw[h _ _ aO,aou h l y ak];exact F
def aov {mem:Mem}:∀{n:Nat} {m:O} {d:Data},b5 n emp m=some d->b5 n mem m=some d
 |0,m,d,h=>by cases m<;>simp_all [b5]
 |n+1,m,d,h=>by
  cases m<;>simp only[b5,emp,dS,reduceCtorEq] at h ⊢
  all_goals first
   |exact h
   |(obtain⟨ds,F,G⟩:=h;exact⟨ds,aou (λm d=>aov) _ _ F,G⟩)
def aE2 {mf:bu}{d:Data}{bK:Mem->Prop}{e:eT}{st:bc}(h:me mf.res (λm mem'=>b5 6 emp m=some d/\bK mem') e st):vC mf.res (.same d) e st:=by
 have main:(∃m,oL st mf.res=some m/\b5 6 emp m=some d/\bK st.mem)->yK mf.res (.same d) st:=by
  rintro⟨m,F,G,-⟩;show (oL st mf.res).bind (b5 6 st.mem)=some d;rw[F];exact aov G
 cases e with
 |exit id=>exact h
 |normal=>exact main h
 |ret=>exact main h
def aow (T:ba)(GC:T HO=aQ Gu)(Ke:T LW=ns OG)(DF:T HP=ns Gh)(kG:T om=aQ ss)(eK:T kP=aQ pz)(rv:T uv=aQ wN)(GD:T LX=pL Kc)(cash:List Int)(cs:List ao)(H:O7 cash cs)(v:O)(mem:Mem)(Bv:ye mem)(oR:ru v cs mem)(UG:T HO [.M (.ay (cash.map aC)),v] (a4 mem 217004 0 [.nil,.nil,.nil])=some (.same (.bool (hY cash cs)))):
  wp T wb.body (me wb.res λm mem'=>b5 6 emp m=some (sx cash cs)/\∀j:Nat,¬ (j/1000=217\/j/1000=228)->mem' j=mem j) ⟨iC [.M (.ay (cash.map aC)),v],mem⟩:=by
 obtain⟨od,mN,Be⟩:=H;refine pf ?_;simp only[wb];have tg:mem 217004=none:=Bv 217004 (by decide) (by decide);unfold sx;rcases aa:hY cash cs
 ·rw[ae (by decide)];rw[aa] at UG;simp only[go_sem,go_sem_proc,tg,UG,dd];exact⟨_,rfl,rfl,λj ag=>(ae (by rintro rfl;exact ag (.inl (by decide)))).trans (ae (by rintro rfl;exact ag (.inl (by decide))))⟩
 ·rw[ab rfl];rw[aa] at UG;have X:=Be aa;have aH:=X.k3;have DG:=alq aa;have aE3:wI mem (a4 mem 217004 0 [O.nil,O.nil,O.nil]):=λk I=>c1 (by omega)
  have fp:ow 228 (a4 mem 217004 0 [O.nil,O.nil,O.nil]):=λk I=>by
   rw[c1 (by rintro rfl;omega)];exact Bv k (by omega) (by omega)
  have e3:=aCH cash cs v (a4 mem 217004 0 [O.nil,O.nil,O.nil]) ⟨X,fp,oR.aE aE3⟩;simp only[go_sem,go_sem_proc,tg,UG,Ke,e3,cF];rintro aoo m ⟨g,gs,rfl,bH,bw⟩;dsimp only at bH;have oU:m 217004=some (0,[.nil,.nil,.nil]):=(bw 217004 (by decide)).trans iy;have lr:m 217007=none:=(bw 217007 (by decide)).trans ((c1 (by decide)).trans (Bv 217007 (by decide) (by decide)));simp only[go_sem,go_sem_proc,lr];refine aEY T DF kG eK rv cash cs X g gs v mem Bv _ _ ?_ ?_ ?_ ?_ ?_ ⟨⟨λ_=>false,?_⟩,⟨0,rfl,?_⟩,λh=>absurd rfl h,?_,λ_ _=>rfl,Reach.start (abb X).ok,⟨10*D cash,?_,rfl,rfl⟩⟩ ?_
  all_goals first|(intro OA cv n8 bS iT jP jR rA UF Bo)|(simp only[e8,dV,if_false,if_true];done)|(simp only[e8,dV,if_false,if_true];rfl)|(simp only[a4,dV,if_false,if_true];done)|(simp only[a4,dV,if_false,if_true];rfl)|(simp only[a4,dV,if_false,if_true];exact oU)|skip
  ·exact bH.up aH (by decide)
  ·intro k F G;rw[c1 (by rintro rfl;exact F (by decide)),bw k G,c1 (by rintro rfl;exact F (by decide))]
  ·rw[als];exact bM _
  rw[<-DG.cW,<-DG.hZ] at rA;rw[<-DG.hZ] at UF;have O8:=λbb F G=>aEt cs ((dD (D cash)).map (aB cash cs).cW) v bb (aE0 X) F G;rw[aE1 X] at O8;replace O8:∀bb,ow 233 bb->ru v cs bb->Kc [v,.M (.ay ((ny cash cs).map aU))] bb=some (.cP [.ay ((iz cash cs).map aU),.bool true]):=O8;replace rA:cv 217007=some (0,[.M (.ay ((ny cash cs).map aU)),.nil,zF (aB cash cs).hZ n8]):=rA;generalize ny cash cs=HV at *;generalize iz cash cs=yc at *;generalize (aB cash cs).hZ=Kf at *;clear DG e3 bH bw oU lr;have aox:∀bb:Mem,(∀k:Nat,k/1000≠217->bb k=cv k)->ow 233 bb/\ru v cs bb/\∀j:Nat,¬ (j/1000=217\/j/1000=228)->bb j=mem j:=λbb kT=>⟨λk I=>(kT k (by omega)).trans ((Bo k (by omega) (by omega)).trans (Bv k (by omega) (by omega))),oR.aE λk I=>(kT k (by omega)).trans (Bo k (by omega) (by omega)),λj ag=>(kT j (by omega)).trans (Bo j (by omega) (by omega))⟩
  by_cases uV:Kf=[]
  ·subst uV;replace rA:cv 217007=some (0,[.M (.ay (HV.map aU)),.nil,.nil]):=rA;simp only[go_sem,go_sem_proc];refine abG ?_;rintro bb rfl;obtain⟨fA,hl,pM⟩:=aox bb λ_ _=>rfl;have N5:=O8 bb fA hl;simp only[go_sem,go_sem_proc,bS,iT,jP,jR,rA,GD,N5,cF,cR]
   exact⟨_,rfl,rfl,λj ag=>by
    rw[ae (by rintro rfl;exact ag (.inl (by decide))),ae (by rintro rfl;exact ag (.inl (by decide)))];exact pM j ag⟩
  ·have O4:=UF uV;have O6:zF Kf n8=.ref 217077 n8 1 0 (D Kf):=by unfold zF;rw[ae uV]
   rw[O6] at rA;simp only[go_sem,go_sem_proc];refine abF (sI.PY 217007 0 _ 2 217077 n8 1 0 (D Kf) _ (.ay (Kf.map o6)) rA rfl O4 (by decide) (pj (n:=0) aoj O4)) ?_;intro bb kT;have aE4:bb 217007=some (0,[.M (.ay (HV.map aU)),.nil,.M (.ay (Kf.map o6))]):=by rw[kT,iy];rfl
   have aE5:bb 217004=some (0,[.nil,.nil,.nil]):=by
    rw[kT,c1 (by decide)];unfold kill;rw[c1 (by decide)];exact jR
   obtain⟨fA,hl,pM⟩:=aox bb λk I=>by
    rw[kT,c1 (by rintro rfl;exact I (by decide))];unfold kill;rw[c1 (by rintro rfl;exact I (by decide))]
   have N5:=O8 bb fA hl;clear kT;simp only[go_sem,go_sem_proc,bS,iT,jP,aE5,aE4,GD,N5,cF]
   exact⟨_,rfl,rfl,λj ag=>by
    rw[ae (by rintro rfl;exact ag (.inl (by decide))),ae (by rintro rfl;exact ag (.inl (by decide)))];exact pM j ag⟩
def Bw:=bU zC λ(cash,cs)=>cp (O7 cash cs) (.same (sx cash cs))
@[go_sem] def O9 (cash cs):=cz Bw rfl Uo (cash,cs) rfl
def aE6 (T:ba)(GC:T HO=aQ Gu)(Ke:T LW=ns OG)(DF:T HP=ns Gh)(kG:T om=aQ ss)(eK:T kP=aQ pz)(rv:T uv=aQ wN)(GD:T LX=pL Kc):WF T wb Bw:=by
 refine cf λ(cash,cs)=>cG λH=>⟨rfl,b7 ?_⟩;simp only[wb,zC,b1];refine qe (wp_mono _ _ _ (λe st=>aE2) _ (aow T GC Ke DF kG eK rv GD cash cs H _ emp (λ_ _ _=>rfl) (aCy cs emp) ?_));rw[GC];simp only[go_sem,go_sem_proc,GC,Ke,DF,kG,eK,rv,GD,H.n,H.c]
def hJ:ao:=(0,0,0,0)
def pP (aj rk:Int)(c:ao):ao:=(c.1,c.2.1,rk,c.2.2.2/1000*aj+c.2.2.2%1000*aj/1000)
def iA (cs:List ao)(is:List Int)(aj:Int)(k:Nat):Bool :=
 (decide (0<=is.getD k 0)&&decide (is.getD k 0<D cs)&&(k==0||decide (is.getD (k-1) 0<is.getD k 0))) &&
 ((cs.getD (is.getD k 0).toNat hJ).1==(cs.getD (is.getD 0 0).toNat hJ).1&&decide ((pP aj 0 (cs.getD (is.getD k 0).toNat hJ)).2.2.2<=1000000000000000))
def h0 (cash:List Int)(cs:List ao)(is:List Int)(aj rk:Int):Bool :=
 hY cash cs&&(!is.isEmpty)&&decide (0<=aj)&&decide (aj<=10000)&&decide (0<=rk)&&decide (rk<=9)&&(dD (D is)).all (iA cs is aj)
def dF (cs:List ao)(is:List Int)(aj rk but:Int):Nat->List ao
 |0=>cs
 |t+1=>if (t:Int)=but then dF cs is aj rk but t else (dF cs is aj rk but t).set (is.getD t 0).toNat (pP aj rk ((dF cs is aj rk but t).getD (is.getD t 0).toNat hJ))
def ve (cs:List ao)(is:List Int)(aj rk but:Int)(t:Nat):(dF cs is aj rk but t).length=D cs:=by
 induction t with
 |zero=>rfl
 |succ t av =>
  unfold dF
  split
  ·exact av
  ·rw[hL,av]
structure yf (cash:List Int) (cs:List ao) (is:List Int) (aj rk:Int):Prop where
 right:hY cash cs=true
 ne:0<D is
 rC:0<=aj/\aj<=10000
 gy:0<=rk/\rk<=9
 bN:∀k,k<(D is)->0<=is.getD k 0/\is.getD k 0<D cs
 aoy:∀k,0<k->k<(D is)->is.getD (k-1) 0<is.getD k 0
 aE:∀k,k<(D is)->(cs.getD (is.getD k 0).toNat hJ).1=(cs.getD (is.getD 0 0).toNat hJ).1
 am:∀k,k<(D is)->(pP aj 0 (cs.getD (is.getD k 0).toNat hJ)).2.2.2<=1000000000000000
def GF {cash:List Int}{cs:List ao}{is:List Int}{aj rk:Int}:h0 cash cs is aj rk=true↔yf cash cs is aj rk:=by
 unfold h0 iA;simp only[eQ,decide_eq_true_eq,ld,gQ,sP,beq_iff_eq,nS,List.isEmpty_eq_false_iff]
 constructor
 ·rintro⟨⟨⟨⟨⟨⟨F,G⟩,af⟩,aS⟩,bt⟩,b2⟩,cb⟩;exact⟨F,CA.2 G,⟨af,aS⟩,⟨bt,b2⟩,λk I=>(cb k I).1.1,λk au I=>by rcases (cb k I).1.2 with h|h;exact absurd h (by omega);exact h,λk I=>(cb k I).2.1,λk I=>(cb k I).2.2⟩
 ·intro h;refine⟨⟨⟨⟨⟨⟨h.right,CA.1 h.ne⟩,h.rC.1⟩,h.rC.2⟩,h.gy.1⟩,h.gy.2⟩,λk I=>⟨⟨h.bN k I,?_⟩,h.aE k I,h.am k I⟩⟩
  by_cases au:k=0
  ·exact .inl au
  ·exact .inr (h.aoy k (by omega) I)
section
variable {cash:List Int} {cs:List ao} {is:List Int} {aj rk:Int} (h:yf cash cs is aj rk)
include h
def yf.lt {j k:Nat}(dL:j<k)(I:k<D is):is.getD j 0<is.getD k 0:=by
 induction k with
 |zero=>omega
 |succ k av =>
  have F:=h.aoy (k+1) (by omega) I;rw[Nat.add_sub_cancel] at F
  by_cases ag:j=k
  ·subst ag;exact F
  ·have:=av (by omega) (by omega);omega
def yf.inj {j k:Nat}(ag:j<D is)(I:k<D is)(he:is.getD j 0=is.getD k 0):j=k:=by
 rcases Nat.lt_trichotomy j k with F|F|F
 ·have:=h.lt F I;omega
 ·exact F
 ·have:=h.lt F ag;omega
def yf.get {k:Nat}(I:k<D is):cs[(is.getD k 0).toNat]?=some (cs.getD (is.getD k 0).toNat hJ):=by
 have:=h.bN k I;rw[ei (l:=cs),bn (by omega:(is.getD k 0).toNat<D cs)];rfl
def yf.mem {k:Nat}(I:k<D is):cs.getD (is.getD k 0).toNat hJ∈cs:=dZ (h.get I)
open Classical in
def aoz (but:Int){t:Nat}(bz:t<=D is)(j:Nat):(dF cs is aj rk but t)[j]?=(cs[j]?).map λc=>if ∃k,k<t/\(k:Int)≠but/\(is.getD k 0).toNat=j then pP aj rk c else c:=by
 induction t with
 |zero =>
  show cs[j]?=_
  cases Q:cs[j]? with
  |none=>rfl
  |some c =>
   rw[iY,ae];rintro⟨k,F,-⟩;omega
 |succ t av =>
  have av:=av (by omega);unfold dF
  by_cases ad:(t:Int)=but
  ·rw[ab ad,av]
   congr 1
   funext c
   have:(∃k,k<t/\(k:Int)≠but/\(is.getD k 0).toNat=j)↔∃k,k<t+1/\(k:Int)≠but/\(is.getD k 0).toNat=j:=by
    constructor
    ·rintro⟨k,F,G⟩;exact⟨k,by omega,G⟩
    ·rintro⟨k,F,G,af⟩
     exact⟨k,by
            have:k≠t:=λh=>G (by rw[h];exact ad);omega,G,af⟩
   simp only[this]
  ·rw[ae ad,List.getElem?_set,ve];have fB:=h.bN t (by omega)
   by_cases ag:(is.getD t 0).toNat=j
   ·rw[ab ag,ab (by omega)]
    have hold:(dF cs is aj rk but t)[(is.getD t 0).toNat]?=some (cs.getD (is.getD t 0).toNat hJ):=by
     rw[ag,av,<-ag,h.get (by omega),iY,ae];rintro⟨k,F,-,af⟩;have aS:=h.bN k (by omega);have bt:=h.lt F (by omega:t<D is);omega
    rw[ei (l:=dF cs is aj rk but t),hold,Hu,<-ag,h.get (by omega),iY,ab ⟨t,by omega,ad,rfl⟩]
   ·rw[ae ag,av]
    congr 1
    funext c
    have:(∃k,k<t/\(k:Int)≠but/\(is.getD k 0).toNat=j)↔∃k,k<t+1/\(k:Int)≠but/\(is.getD k 0).toNat=j:=by
     constructor
     ·rintro⟨k,F,G⟩;exact⟨k,by omega,G⟩
     ·rintro⟨k,F,G,af⟩
      exact⟨k,by
             have:k≠t:=λh=>ag (by rw[<-h];exact af);omega,G,af⟩
    simp only[this]
def Pa (but:Int){t k:Nat}(bz:t<=D is)(I:k<D is):(dF cs is aj rk but t)[(is.getD k 0).toNat]?=some (if k<t/\(k:Int)≠but then pP aj rk (cs.getD (is.getD k 0).toNat hJ) else cs.getD (is.getD k 0).toNat hJ):=by
 rw[aoz h but bz,h.get I,iY]
 congr 1
 by_cases H:k<t/\(k:Int)≠but
 ·rw[ab H,ab ⟨k,H.1,H.2,rfl⟩]
 ·rw[ae H,ae];rintro⟨j,F,G,af⟩;have az:=h.bN k I;have aD:=h.bN j (by omega);obtain rfl:=h.inj (by omega) I (by omega:is.getD j 0=is.getD k 0);exact H ⟨F,G⟩
def aE7 {c:ao}(H:0<=c.2.2.2):0<=(pP aj rk c).2.2.2:=by
 have F:0<=c.2.2.2/1000*aj:=uA (EW H (by decide)) h.rC.1;have G:0<=c.2.2.2%1000*aj/1000:=EW (uA (Ig _ (by decide)) h.rC.1) (by decide);show 0<=c.2.2.2/1000*aj+c.2.2.2%1000*aj/1000;omega
def aoA (but:Int){t:Nat}(bz:t<=D is):hY cash (dF cs is aj rk but t)=true:=by
 have aa:=gN.1 h.right;refine gN.2 ⟨aa.1,by rw[ve];exact aa.2.1,aa.2.2.1,λc H=>?_⟩
 obtain⟨j,ag⟩:=uk.1 H;rw[aoz h but bz] at ag;obtain⟨k1,au,F⟩:=dS.1 ag;have mN:=aa.2.2.2 k1 (dZ au)
 split at F
 ·rename_i Q;obtain⟨k,G,af,aS⟩:=Q;have I:=h.get (show k<(D is) by omega);rw[aS,au] at I;have I:=mD I;have aO:=h.am k (by omega);rw[aS,<-I] at aO;have aH:=aE7 h (rk:=rk) mN.2.2.2.2.2.2.1;have gy:=h.gy;rw[<-F];exact⟨mN.1,mN.2.1,mN.2.2.1,mN.2.2.2.1,gy.1,(by show rk<10;omega),aH,aO⟩
 ·rw[<-F];exact mN
def aE8 {l:List ao}(ak:hY cash l=true){j:Nat}{c:ao}(H:l[j]?=some c):hY cash (l.set j (c.1,c.2.1,rk,c.2.2.2))=true:=by
 have aa:=gN.1 ak;refine gN.2 ⟨aa.1,by rw[hL];exact aa.2.1,aa.2.2.1,λx Q=>?_⟩
 rcases List.mem_or_eq_of_mem_set Q with F|F
 ·exact aa.2.2.2 x F
 ·have G:=aa.2.2.2 c (dZ H);have gy:=h.gy;rw[F];exact⟨G.1,G.2.1,G.2.2.1,G.2.2.2.1,gy.1,(by show rk<10;omega),G.2.2.2.2.2.2⟩
end
def yg (cash:List Int)(l:List ao)(j:Nat):Rat:=fK l ((aB cash l).cW (l.getD j hJ).1.toNat) (l.getD j hJ)
def Kg {cash:List Int}{l:List ao}{j:Nat}(ag:j<D l):(iz cash l)[j]?=some (ax (yg cash l j)):=by
 unfold iz yg;rw[bo,bn ag,iY,ei,bn ag,Hu]
def UH {cash:List Int}{l:List ao}(X:fv cash l){j:Nat}(ag:j<D l):ec 482 (yg cash l j):=by
 have hm:l.getD j hJ∈l:=by rw[ei,bn ag,Hu];exact nC ag
 have:=Tt X hm;rw[JC X.right _ hm] at this;exact this
def jj (cash:List Int)(cs:List ao)(is:List Int)(aj rk:Int)(k:Nat):Rat:=yg cash (dF cs is aj rk (-1) (D is)) (is.getD k 0).toNat
def oE (cash:List Int)(cs:List ao)(is:List Int)(aj rk:Int)(k:Nat):Rat:=yg cash (dF cs is aj rk k (D is)) (is.getD k 0).toNat
section
variable {cash:List Int} {cs:List ao} {is:List Int} {aj rk:Int} (h:yf cash cs is aj rk) {k:Nat} (I:k<D is)
include h I
omit I in
def aE9 (aH:(D cash)<=6)(ht:(D cs)<=12)(but:Int):fv cash (dF cs is aj rk but (D is)):=by
 have aa:=aoA h but (bM _);exact⟨aa,aH,by rw[ve];exact ht,λc H=>((gN.1 aa).2.2.2 c H).2.2.2.2.2.2.2⟩
end
def aoB:bu:=bT 19 1 [.t 2] (R [db 1 339001 0,cd 2 false] (R [a0 3 0 1,aJ 4 1 3,b9 5 4,a5 6 .leq 5 5,E 7 6,lo 8 7 1 1,hr 9 7 1 8,Ma 10 7 9,hG 11 7 .leq 10 8,e9 12 7 11,E 13 12,lo 14 13 2 1,hr 15 13 1 14,Ma 16 13 15,hG 17 13 .leq 16 10,e9 18 13 17,E 2 18] .ret))
def aoC:bu:=bT 100 1 [.t 2] (R [db 1 347001 0,cd 2 false] (.seq (R [a0 6 0 1,aJ 7 1 6,a0 8 1 1,aJ 9 1 8,bV 10 X8 7 9,e4 11 10,E 12 11,fg 13 12 2 1,ew 14 12 1 13,ln 15 12 14,gu 16 12 .eql 15 0,c5 17 12 16,E 18 17,fg 19 18 3 1,ew 20 18 1 19,gu 21 18 .lss 20 0,c5 22 18 21,E 23 22,fg 24 23 3 1,ew 25 23 1 24,gu 26 23 .gtr 25 10000,c5 27 23 26,E 28 27,fg 29 28 4 1,ew 30 28 1 29,gu 31 28 .lss 30 0,c5 32 28 31,E 33 32,fg 34 33 4 1,ew 35 33 1 34,gu 36 33 .gtr 35 9,c5 37 33 36] (cx 37 [cd 2 false])) (.seq (R [bk 3 0] (dY 0 (.seq (R [E 38 3,a0 39 2 1,aJ 40 1 39,b9 41 40,bm 42 .lss 38 41] (du 42 0)) (.seq (.block 1 (R [a0 45 2 1,aJ 46 1 45,E 47 3,bs 48 1 46 47,aJ 49 1 48,E 4 49] (.seq (R [E 50 4,a5 51 .lss 50 0,E 52 51,fY 53 52 4,fg 54 52 1 1,ew 55 52 1 54,ln 56 52 55,p3 57 52 .geq 53 56,c5 58 52 57,E 59 58,fY 60 59 3,gu 61 59 .gtr 60 0,fY 62 59 61,dv 63 62 4,lo 64 62 2 1,hr 65 62 1 64,dv 66 62 3,hG 67 62 .sub 66 1,gv 68 62 (.iB true (.t 67) (.c (bB 0))),qO 69 62 1 65 68,hr 70 62 1 69,vP 71 62 .leq 63 70,fH 72 59 (.pick (.t 62) (.t 71) (.c (.M (.bool false)))),c5 73 59 72] (cx 73 [cd 2 false])) (.seq (eR [a0 74 1 1,aJ 75 1 74,E 76 4,bs 77 4 75 76,a0 78 0 77,aJ 79 1 78,a0 80 1 1,aJ 81 1 80,a0 82 2 1,aJ 83 1 82,aM 84 (.qu 1 (.t 83) (.c (bB 0))),aJ 85 1 84,bs 86 4 81 85,a0 87 0 86,aJ 88 1 87,bm 89 .neq 79 88] ER (cx 89 [cd 2 false])) (eR [bd 90 5 1,a0 91 1 1,aJ 92 1 91,E 93 4,bs 94 4 92 93,bd 95 4 94,bV 96 L9 90 95,cL 5 347005 lp,bf 4 5 96] [[],[],[],[],[],[],[],[0,2,5],[]] (R [a0 97 3 5,aJ 98 1 97,a5 99 .gtr 98 1000000000000000] (cx 99 [cd 2 false]))))))) (.ops [E 43 3,a5 44 .add 43 1,E 3 44]))))) (R [cd 2 true] .ret))))
def aoD:bu:=bT 39 2 [.t 4] (R [db 2 352002 0,eo 4] (R [aM 7 (.ff 352007 true [] 4 0 []),a0 8 1 2,aJ 9 1 8,aM 10 (.app 352010 lp 32 (.t 7) (.t 9)),E 5 10] (.seq (R [bk 6 0] (dY 0 (.seq (R [E 11 6,a0 12 2 2,aJ 13 1 12,b9 14 13,bm 15 .lss 11 14] (du 15 0)) (.seq (.block 1 (R [E 18 6,E 19 1,bm 20 .neq 18 19] (eC 20 (.mz [E 21 5,a0 22 2 2,aJ 23 1 22,E 24 6,bs 25 1 23 24,aJ 26 1 25,bd 27 5 2,E 28 5,a0 29 2 2,aJ 30 1 29,E 31 6,bs 32 1 30 31,aJ 33 1 32,bs 34 4 28 33,bd 35 4 34,bV 36 L9 27 35,bs 37 4 21 26,bf 4 37 36] Yd) .skip))) (.ops [E 16 6,a5 17 .add 16 1,E 6 17]))))) (R [E 38 5,E 4 38] .ret))))
def aoE:bu:=bT 26 2 [.cell 4 4 true] (R [db 2 359002 0,db 3 359003 1,cL 4 359004 lp] (R [a0 5 0 3,aJ 6 1 5,a0 7 1 3,aJ 8 1 7,a0 9 4 2,aJ 10 1 9,a0 11 3 3,aJ 12 1 11,a5 13 .quo 12 1000,a0 14 3 2,aJ 15 1 14,bm 16 .mul 13 15,a0 17 3 3,aJ 18 1 17,a5 19 .rem 18 1000,a0 20 3 2,aJ 21 1 20,bm 22 .mul 19 21,a5 23 .quo 22 1000,bm 24 .add 16 23,aM 25 (.build lp [(0,1,.t 6),(1,1,.t 8),(2,1,.t 10),(3,1,.t 24)]),bf 4 4 25] .ret))
def aoF:bu:=bT 86 2 [.t 4] (R [cd 4 false] (.seq (R [E 8 0,b9 9 8,a5 10 .gtr 9 60,E 11 10,fY 12 11 1,ln 13 11 12,gu 14 11 .gtr 13 2000,c5 15 11 14] (cx 15 [cd 4 false])) (.seq (R [bk 5 0] (dY 0 (.seq (R [E 16 5,E 17 0,b9 18 17,bm 19 .lss 16 18] (du 19 0)) (.seq (.block 1 (R [E 22 0,E 23 5,bs 24 1 22 23,aJ 25 1 24,a5 26 .lss 25 0,E 27 26,fY 28 27 0,fY 29 27 5,Ya 30 27 1 28 29,ew 31 27 1 30,gu 32 27 .gtr 31 1000000000000000,c5 33 27 32] (cx 33 [cd 4 false]))) (.ops [E 20 5,a5 21 .add 20 1,E 5 21]))))) (.seq (R [bk 6 0] (dY 2 (.seq (R [E 34 6,E 35 1,b9 36 35,bm 37 .lss 34 36] (du 37 2)) (.seq (.block 3 (R [E 40 1,E 41 6,bs 42 4 40 41,bd 43 4 42,cL 7 358007 lp,bf 4 7 43] (R [a0 44 0 7,aJ 45 1 44,a5 46 .lss 45 0,E 47 46,fg 48 47 0 7,ew 49 47 1 48,fY 50 47 0,ln 51 47 50,p3 52 47 .geq 49 51,c5 53 47 52,E 54 53,fg 55 54 1 7,ew 56 54 1 55,fH 57 54 (.bin .lss (.t 56) (.c (.M (.int .i64 (-1))))),c5 58 54 57,E 59 58,fg 60 59 1 7,ew 61 59 1 60,fY 62 59 0,ln 63 59 62,p3 64 59 .geq 61 63,c5 65 59 64,E 66 65,fg 67 66 2 7,ew 68 66 1 67,gu 69 66 .lss 68 0,c5 70 66 69,E 71 70,fg 72 71 2 7,ew 73 71 1 72,gu 74 71 .gtr 73 9,c5 75 71 74,E 76 75,fg 77 76 3 7,ew 78 76 1 77,gu 79 76 .lss 78 0,c5 80 76 79,E 81 80,fg 82 81 3 7,ew 83 81 1 82,gu 84 81 .gtr 83 1000000000000000,c5 85 81 84] (cx 85 [cd 4 false])))) (.ops [E 38 6,a5 39 .add 38 1,E 6 39]))))) (R [cd 4 true] .ret)))))

def dB (cash:List Int)(cs:List ao)(is:List Int)(aj rk:Int):List Data:=[.ay (cash.map aC),.ay (cs.map bW),.ay (is.map aC),.int .i64 aj,.int .i64 rk]
def UI {cash Bg:List Int}{cs jo:List ao}{is aoG:List Int}{aj aoH rk aoI:Int}(h:dB cash cs is aj rk=dB Bg jo aoG aoH aoI):cash=Bg/\cs=jo/\is=aoG/\aj=aoH/\rk=aoI:=by
 simp only[dB,bh,Data.ay.injEq,Data.int.injEq,and_true,true_and] at h;exact⟨map_inj fq _ _ h.1,map_inj u7 _ _ h.2.1,map_inj fq _ _ h.2.2.1,h.2.2.2.1,h.2.2.2.2⟩
def UJ:=bU zC λ(cash,cs)=>cp (D cash<=1000000/\D cs<=1000000) (.same (.bool (hY cash cs)))
@[go_sem] def aFa (cash cs):=cz UJ rfl Uo (cash,cs) rfl
def aFb (T:ba)(OS:T EE=aQ J0)(Gv:T Aj=aQ Gs):WF T ans UJ:=by
 refine cf λ(cash,cs)=>cG λH=>⟨rfl,b7 ?_⟩;simp only[ans,zC,b1];obtain⟨F,G⟩:=H;rw[abc];have dn:=abT cash .hold ⟨F,by show xo<900000;decide⟩
 have fz:=Un cs (.hold (D cash)) ⟨G,by decide,by show (0:Int)<=(D cash:Int);omega,by show (D cash:Int)<=1000000;omega⟩
 have az:cash.any (tF .hold) = !cash.all gW:=Gt cash gW;have aD:cs.any (ya (.hold (D cash))) = !cs.all (iw (D cash)):=Gt cs _;rw[az] at dn;rw[aD] at fz;simp only[wM] at dn;simp only[Br] at fz;have d1:decide (D cash<=60)=decide ((D cash:Int)<=60):=by rw[kd,decide_eq_true_iff,decide_eq_true_iff];omega
 have d2:decide (D cs<=2000)=decide ((D cs:Int)<=2000):=by rw[kd,decide_eq_true_iff,decide_eq_true_iff];omega
 rw[d1,d2];rcases fu:decide ((D cash:Int)<=60)<;>rcases eg:decide ((D cs:Int)<=2000)<;>rcases jg:cash.all gW<;>rcases jR:cs.all (iw (D cash))
 all_goals rw[jg] at dn
 all_goals rw[jR] at fz
 all_goals
      refine ai ?_;repeat' (intro h<;>simp only[h,go_sem,go_sem_proc,OS,Gv,dn,fz,fu,eg,ar,cF,dd,vR,hs,b5,pU,nr,scalar]<;>try refine ah ?_ ?_)
def aoJ {a aj:Int}(au:0<=a)(F:a<=1000000000000000)(dG:0<=aj)(w1:aj<=10000):0<=a/1000*aj/\a/1000*aj<=10000000000000000/\0<=a%1000*aj/\a%1000*aj<=10000000:=by
 have cH:0<=a/1000:=EW au (by decide);have cY:a/1000<=1000000000000:=by omega
 have ep:0<=a%1000:=Ig _ (by decide);have fi:a%1000<=1000:=by omega
 exact⟨uA cH dG,aoK (H9 cY w1 dG (by decide)) (by decide),uA ep dG,aoK (H9 fi w1 dG (by decide)) (by decide)⟩
def aoL {a aj:Int}(au:0<=a)(F:a<=1000000000000000)(dG:0<=aj)(w1:aj<=10000):IntKind.i64.wrap (IntKind.i64.wrap (IntKind.i64.wrap (a.tdiv 1000)*aj)+IntKind.i64.wrap ((IntKind.i64.wrap (a.tmod 1000*aj)).tdiv 1000))=a/1000*aj+a%1000*aj/1000:=by
 obtain⟨c6,eB,jA,lT⟩:=aoJ au F dG w1;rw[Av au,Int.tmod_eq_emod_of_nonneg au,wrap64 (a/1000) (by omega) (by omega),wrap64 (a/1000*aj) (by omega) (by omega),wrap64 (a%1000*aj) (by omega) (by omega),Av jA];generalize a/1000*aj=x at *;generalize a%1000*aj=y at *;rw[wrap64 (y/1000) (by omega) (by omega),wrap64 _ (by omega) (by omega)]
def aFc {a aj:Int}(au:0<=a)(F:a<=1000000000000000)(dG:0<=aj)(w1:aj<=10000):0<=a/1000*aj+a%1000*aj/1000/\a/1000*aj+a%1000*aj/1000<=10000000000010000:=by
 obtain⟨c6,eB,jA,lT⟩:=aoJ au F dG w1;generalize a/1000*aj=x at *;generalize a%1000*aj=y at *;omega
abbrev Kh:(List Int)×(List ao)×(List Int)×Int×Int×Int×Int×Int×Int->List Data:=λ(cash,cs,is,aj,rk,aG,c2,c3,c4)=>[.agg (dB cash cs is aj rk),.agg [.int .i64 aG,.int .i64 c2,.int .i64 c3,.int .i64 c4]]
def Pb:=bU Kh λ(cash,cs,is,aj,rk,aG,c2,c3,c4)=>cp (0<=c4/\c4<=1000000000000000/\0<=aj/\aj<=10000) (.same (.agg (bW (pP aj rk (aG,c2,c3,c4)))))
def aoM:∀a b,Kh a=Kh b->a=b:=by
  rintro⟨tD,vc,ab9,aca,acb,aPB,aFd,aPC,aPD⟩ ⟨tE,oh,acd,ace,acf,ts,aPE,aPF,aPG⟩ h;simp only[bh,Data.agg.injEq,Data.int.injEq,and_true,true_and] at h;obtain⟨cr,b6,ga,iQ,UK⟩:=h;obtain⟨rfl,rfl,rfl,rfl,rfl⟩:=UI cr;rw[b6,ga,iQ,UK]
@[go_sem] def aoN (cash cs is aj rk aG c2 c3 c4):=cz Pb rfl aoM (cash,cs,is,aj,rk,aG,c2,c3,c4) rfl
def aFe (T:ba):WF T ant Pb:=by
 refine cf λ(cash,cs,is,aj,rk,aG,c2,c3,c4)=>cG λH=>⟨rfl,b7 ?_⟩;simp only[ant,Kh,b1];obtain⟨au,F,dG,w1⟩:=H;refine ai ?_;repeat' (intro h<;>simp only[h,go_sem,go_sem_proc,dB,bW,pP,aoL au F dG w1]<;>try refine ah ?_ ?_)
def Pc:=bU Kh λ(cash,cs,is,aj,rk,aG,c2,c3,c4)=>cp (0<=c4/\c4<=1000000000000000/\0<=aj/\aj<=10000) (.same (.agg (bW (pP aj rk (aG,c2,c3,c4)))))
@[go_sem] def aoO (cash cs is aj rk aG c2 c3 c4):=cz Pc rfl aoM (cash,cs,is,aj,rk,aG,c2,c3,c4) rfl
def aFf (T:ba):WF T aoE Pc:=by
 refine cf λ(cash,cs,is,aj,rk,aG,c2,c3,c4)=>cG λH=>⟨rfl,b7 ?_⟩;simp only[aoE,Kh,b1];obtain⟨au,F,dG,w1⟩:=H;refine ai ?_;repeat' (intro h<;>simp only[h,go_sem,go_sem_proc,dB,bW,pP,aoL au F dG w1]<;>try refine ah ?_ ?_)
def aoP {cs:List ao}{is:List Int}{aj:Int}{k:Nat}(h:∀j,j<k->iA cs is aj j=true){j:Nat}(ag:j<k):0<=is.getD j 0/\is.getD j 0<D cs:=by
 have:=h j ag;unfold iA at this;simp only[eQ,decide_eq_true_eq] at this;exact this.1.1
def zG {cash:List Int}{cs:List ao}{is:List Int}{aj rk:Int}{k:Nat}(I:k<D is)(h:iA cs is aj k=false):h0 cash cs is aj rk=false:=by
 unfold h0;have:(dD (D is)).all (iA cs is aj)=false:=acg.2 ⟨k,gQ.2 I,by rw[h];decide⟩
 rw[this,hs]
def vf (cash:List Int)(cs:List ao)(is:List Int):Prop:=D cash<=6/\D cs<=12/\D is<=1000000
abbrev wQ:(List Int)×(List ao)×(List Int)×Int×Int->List Data:=λ(cash,cs,is,aj,rk)=>[.agg (dB cash cs is aj rk)]
def GG:=bU wQ λ(cash,cs,is,aj,rk)=>cp (vf cash cs is) (.same (.bool (h0 cash cs is aj rk)))
def Pf:∀a b,wQ a=wQ b->a=b:=by
  rintro⟨tD,vc,ab9,aca,acb⟩ ⟨tE,oh,acd,ace,acf⟩ h;simp only[bh,Data.agg.injEq,and_true] at h;obtain⟨rfl,rfl,rfl,rfl,rfl⟩:=UI h;rfl
@[go_sem] def UL (cash cs is aj rk):=cz GG rfl Pf (cash,cs,is,aj,rk) rfl
def aFg (T:ba)(rD:T X7=aQ UJ)(mo:T sZ=aQ Gl)(m7:T L8=aQ Pb):WF T ann GG:=by
 refine cf λ(cash,cs,is,aj,rk)=>cG λH=>⟨rfl,b7 ?_⟩;simp only[ann,wQ,b1];obtain⟨aH,ht,AK⟩:=H;have Y:=aFa cash cs ⟨by omega,by omega⟩
 have d0:((D is:Int)==0)=is.isEmpty:=by cases is<;>simp<;>omega
 rcases vg:hY cash cs
 ·rw[vg] at Y;have aK:h0 cash cs is aj rk=false:=by unfold h0;rw[vg];rfl
  rw[aK];refine ai ?_;repeat' (intro (aw:_=_)<;>simp only[aw,go_sem,go_sem_proc,rD,mo,m7,dB,Y,ar,dd]<;>try refine ah ?_ ?_)
 rw[vg] at Y;rcases fu:is.isEmpty
 case true =>
  have aK:h0 cash cs is aj rk=false:=by unfold h0;rw[vg,fu];rfl
  rw[aK];rw[fu] at d0;refine ai ?_;repeat' (intro (aw:_=_)<;>simp only[aw,go_sem,go_sem_proc,rD,mo,m7,dB,Y,d0,ar,cF]<;>try refine ah ?_ ?_)
 rw[fu] at d0;rcases eg:(decide (0<=aj)&&decide (aj<=10000))
 ·have aK:h0 cash cs is aj rk=false:=by
   unfold h0;rw[UM (_&&_) (decide (0<=aj)),eg];simp
  rw[aK];refine ai ?_;repeat' (intro (aw:_=_)<;>simp only[aw,go_sem,go_sem_proc,rD,mo,m7,dB,Y,d0,eg,ar,cF,dd]<;>try refine ah ?_ ?_)
 rcases jg:(decide (0<=rk)&&decide (rk<=9))
 ·have aK:h0 cash cs is aj rk=false:=by
   unfold h0;rw[UM (_&&_) (decide (0<=rk)),jg];simp
  rw[aK];refine ai ?_;repeat' (intro (aw:_=_)<;>simp only[aw,go_sem,go_sem_proc,rD,mo,m7,dB,Y,d0,eg,jg,ar,cF,dd]<;>try refine ah ?_ ?_)
 have en:h0 cash cs is aj rk=(dD (D is)).all (iA cs is aj):=by
  unfold h0;rw[UM (_&&_) (decide (0<=rk)),jg,vR,UM (_&&_) (decide (0<=aj)),eg,vg,fu];rfl
 have rC:0<=aj/\aj<=10000:=by simpa using eg
 have y9:=(gN.1 vg).2.2.2;simp only[go_sem,go_sem_proc,rD,mo,m7,dB,Y,d0,eg,jg,ar,cF,dd];refine da [1,31,32] [346001] (λ(k:Nat) tm m=>k<=D is/\tm 33=.M (.int .i64 k)/\∀j,j<k->iA cs is aj j=true) (λk=>D is-k) 0 (by refine⟨by omega,rfl,λj ag=>by omega⟩) ?_;intro vs ms aW aR;simp only[go_sem,go_sem_proc,rD,mo,m7,dB,ar] at aW aR;subst aW aR;rintro k tm m I hm ⟨J,rB,c9⟩;simp only[go_sem,go_sem_proc,rD,mo,m7,bh] at I hm;obtain⟨az,hy,hz⟩:=I;rcases dq (k<D is) with aq|ca
 ·have d1:decide ((k:Int)<(D is:Int))=true:=cX;have ct:=e0 (i:=k) (by omega);have wl:IntKind.i64.wrap ((D cs:Int)-1)=(D cs:Int)-1:=by rw[ev _]
  obtain⟨i,Q⟩:∃i,is[k]?=some i:=⟨_,bn aq⟩;have jO:=mj (d:=0) Q;obtain⟨i0,iN⟩:∃i,is[0]?=some i:=⟨_,bn (by omega)⟩;have Pg:=mj (d:=0) iN;rcases nz:(decide (0<=i)&&decide (i<=(D cs:Int)-1))
  ·have X:iA cs is aj k=false:=by
    have:¬ (0<=i/\i<D cs):=λh=>by rw[DH,decide_eq_false_iff_not,decide_eq_false_iff_not] at nz;omega
    unfold iA;rw[jO,DH]
    left
    rw[DH]
    left
    rw[DH,decide_eq_false_iff_not,decide_eq_false_iff_not];omega
   rw[zG aq X];refine ai ?_;repeat' (intro (aw:_=_)<;>simp only[aw,go_sem,go_sem_proc,rD,mo,m7,az,hy,hz,rB,hm,Q,d1,wl,nz,aC,ar,bo,dd]<;>try refine ah ?_ ?_)
  have aPH:0<=i/\i<D cs:=by rw[eQ,decide_eq_true_iff,decide_eq_true_iff] at nz;omega
  obtain⟨n,rfl⟩:∃n:Nat,i=(n:Int):=⟨i.toNat,by omega⟩
  obtain⟨⟨aG,c2,c3,c4⟩,H⟩:∃c,cs[n]?=some c:=⟨_,bn (by omega)⟩;have OX:=mj (d:=hJ) H;have lN:=y9 _ (dZ H);dsimp only at lN
  have qP:0<=i0/\i0<D cs:=by
   by_cases l6:k=0
   ·subst l6;rw[Q] at iN;have:=mD iN;omega
   ·have:=aoP c9 (j:=0) (by omega);rwa [Pg] at this
  obtain⟨ach,rfl⟩:∃n:Nat,i0=(n:Int):=⟨i0.toNat,by omega⟩
  obtain⟨⟨fA,hl,pM,zx⟩,aV⟩:∃c,cs[ach]?=some c:=⟨_,bn (by omega)⟩;have Cr:=mj (d:=hJ) aV;have js:0<D is:=by omega
  have hex:=aoN cash cs is aj rk aG c2 c3 c4 ⟨lN.2.2.2.2.2.2.1,lN.2.2.2.2.2.2.2,rC.1,rC.2⟩;obtain⟨aFh,gR⟩:=aFc lN.2.2.2.2.2.2.1 lN.2.2.2.2.2.2.2 rC.1 rC.2
  have oF:iA cs is aj k=((k==0||decide (is.getD (k-1) 0<(n:Int)))&&(aG==fA&&decide (c4/1000*aj+c4%1000*aj/1000<=1000000000000000))):=by
   unfold iA;rw[jO,Pg,g9,g9,OX,Cr,h2 (by omega:(0:Int)<=(n:Int)),h2 (by omega:(n:Int)<(D cs:Int))]
   rfl
  simp only[dB,bW,pP] at hex;generalize dn:c4/1000*aj+c4%1000*aj/1000=A at *;have UN:decide (0<=A)=true:=h2 aFh
  have UO:iA cs is aj k=true->∀j,j<k+1->iA cs is aj j=true:=λh j ag=>by
   by_cases dL:j=k
   ·rw[dL];exact h
   ·exact c9 j (by omega)
  rcases pQ:(k==0||decide (is.getD (k-1) 0<(n:Int)))
  ·have X:iA cs is aj k=false:=by rw[oF,pQ];rfl
   rw[zG aq X];rw[Bool.or_eq_false_iff,beq_eq_false_iff_ne,decide_eq_false_iff_not] at pQ;obtain⟨y,al⟩:∃i,is[k-1]?=some i:=⟨_,bn (by omega)⟩;have xI:=mj (d:=0) al;rw[xI] at pQ;have d2:decide ((k:Int)>0)=true:=cX;have nR:IntKind.i64.wrap ((k:Int)-1)=((k-1:Nat):Int):=by rw[ev _];omega
   have d3:decide ((n:Int)<=y)=true:=cX;have cm:k-1<D is:=by omega
   refine ai ?_;repeat' (intro (aw:_=_)<;>simp only[aw,go_sem,go_sem_proc,rD,mo,m7,az,hy,hz,rB,hm,Q,al,d1,d2,d3,wl,nR,nz,cm,aC,ar,bo,cF]<;>try refine ah ?_ ?_)
  rw[pQ] at oF;rcases jD:(aG==fA)
  ·have X:iA cs is aj k=false:=by rw[oF,jD];rfl
   rw[zG aq X];rcases jG k with l6|l6
   ·have d2:decide ((k:Int)>0)=false:=cA;refine ai ?_;repeat' (intro (aw:_=_)<;>simp only[aw,go_sem,go_sem_proc,rD,mo,m7,az,hy,hz,rB,hm,Q,iN,H,aV,d1,d2,wl,nz,jD,js,bW,aC,ar,bo,cF,dd,rE,bne]<;>try refine ah ?_ ?_)
   ·obtain⟨y,al⟩:∃i,is[k-1]?=some i:=⟨_,bn (by omega)⟩;have xI:=mj (d:=0) al;have d2:decide ((k:Int)>0)=true:=cX;have nR:IntKind.i64.wrap ((k:Int)-1)=((k-1:Nat):Int):=by rw[ev _];omega
    have d3:decide ((n:Int)<=y)=false:=by
     rw[sP,beq_iff_eq,decide_eq_true_iff,xI] at pQ;exact cA
    have cm:k-1<D is:=by omega
    refine ai ?_;repeat' (intro (aw:_=_)<;>simp only[aw,go_sem,go_sem_proc,rD,mo,m7,az,hy,hz,rB,hm,Q,iN,al,H,aV,d1,d2,d3,wl,nR,nz,jD,js,cm,bW,aC,ar,bo,cF,dd,rE,bne]<;>try refine ah ?_ ?_)
  rw[jD] at oF;rcases rF:decide (A<=1000000000000000)
  ·have X:iA cs is aj k=false:=by rw[oF,rF];rfl
   rw[zG aq X];rcases jG k with l6|l6
   ·have d2:decide ((k:Int)>0)=false:=cA;refine ai ?_;repeat' (intro (aw:_=_)<;>simp only[aw,go_sem,go_sem_proc,rD,mo,m7,az,hy,hz,rB,hm,Q,iN,H,aV,hex,UN,d1,d2,wl,nz,jD,rF,js,bW,aC,dB,ar,bo,cF,dd,rE,bne]<;>try refine ah ?_ ?_)
   ·obtain⟨y,al⟩:∃i,is[k-1]?=some i:=⟨_,bn (by omega)⟩;have xI:=mj (d:=0) al;have d2:decide ((k:Int)>0)=true:=cX;have nR:IntKind.i64.wrap ((k:Int)-1)=((k-1:Nat):Int):=by rw[ev _];omega
    have d3:decide ((n:Int)<=y)=false:=by
     rw[sP,beq_iff_eq,decide_eq_true_iff,xI] at pQ;exact cA
    have cm:k-1<D is:=by omega
    refine ai ?_;repeat' (intro (aw:_=_)<;>simp only[aw,go_sem,go_sem_proc,rD,mo,m7,az,hy,hz,rB,hm,Q,iN,al,H,aV,hex,UN,d1,d2,d3,wl,nR,nz,jD,rF,js,cm,bW,aC,dB,ar,bo,cF,dd,rE,bne]<;>try refine ah ?_ ?_)
  ·have X:iA cs is aj k=true:=by rw[oF,rF];rfl
   have na:=UO X;rcases jG k with l6|l6
   ·have d2:decide ((k:Int)>0)=false:=cA;refine ai ?_;repeat' (intro (aw:_=_)<;>simp only[aw,go_sem,go_sem_proc,rD,mo,m7,az,hy,hz,rB,hm,Q,iN,H,aV,hex,UN,d1,d2,ct,wl,nz,jD,rF,js,bW,aC,dB,ar,bo,cF,dd,rE,bne]<;>try refine ah ?_ ?_)
    exact⟨k+1,by omega,by omega,rfl,na⟩
   ·obtain⟨y,al⟩:∃i,is[k-1]?=some i:=⟨_,bn (by omega)⟩;have xI:=mj (d:=0) al;have d2:decide ((k:Int)>0)=true:=cX;have nR:IntKind.i64.wrap ((k:Int)-1)=((k-1:Nat):Int):=by rw[ev _];omega
    have d3:decide ((n:Int)<=y)=false:=by
     rw[sP,beq_iff_eq,decide_eq_true_iff,xI] at pQ;exact cA
    have cm:k-1<D is:=by omega
    refine ai ?_;repeat' (intro (aw:_=_)<;>simp only[aw,go_sem,go_sem_proc,rD,mo,m7,az,hy,hz,rB,hm,Q,iN,al,H,aV,hex,UN,d1,d2,d3,ct,wl,nR,nz,jD,rF,js,cm,bW,aC,dB,ar,bo,cF,dd,rE,bne]<;>try refine ah ?_ ?_)
    exact⟨k+1,by omega,by omega,rfl,na⟩
 ·have d1:decide ((k:Int)<(D is:Int))=false:=cA;obtain rfl:k=D is:=by omega
  have:h0 cash cs is aj rk=true:=by
   rw[en,ld];exact λj ag=>c9 j (gQ.1 ag)
  rw[this];refine ai ?_;repeat' (intro (aw:_=_)<;>simp only[aw,go_sem,go_sem_proc,rD,mo,m7,az,hy,hz,rB,d1,ar]<;>try refine ah ?_ ?_)
def aFi {x:List Data}(h:Fits [.ay (.int .i64),.ay (.st [.int .i64,.int .i64,.int .i64,.int .i64]),.ay (.int .i64),.int .i64,.int .i64] x):∃cash cs is aj rk,x=dB cash cs is aj rk:=by
 simp only[Fits] at h;obtain⟨_,_,rfl,F,_,_,rfl,G,_,_,rfl,af,_,_,rfl,aS,_,_,rfl,bt,rfl⟩:=h;unfold Fit at F G af aS bt;obtain⟨aPI,rfl,-,cr⟩:=F;obtain⟨aPJ,rfl,-,b6⟩:=G;obtain⟨aPK,rfl,-,ga⟩:=af;obtain⟨aj,rfl,-⟩:=aS;obtain⟨rk,rfl,-⟩:=bt;obtain⟨cash,rfl⟩:=aie cr;obtain⟨cs,rfl⟩:=aAg b6;obtain⟨is,rfl⟩:=aie ga;exact⟨cash,cs,is,aj,rk,rfl⟩
def UP:=bU zC λ(cash,cs)=>cp (D cash<=1000000/\D cs<=1000000) (.same (.bool (hY cash cs)))
@[go_sem] def aFj (cash cs):=cz UP rfl Uo (cash,cs) rfl
def aFk (T:ba):WF T aoF UP:=by
 refine cf λ(cash,cs)=>cG λH=>⟨rfl,b7 ?_⟩;simp only[aoF,zC,b1];obtain⟨cm,cC⟩:=H;rw[abc];rcases fu:decide ((D cash:Int)>60)
 case true =>
  rw[show decide (D cash<=60)=false from lZ (by have:=of_decide_eq_true fu;omega)];refine ai ?_;repeat' (intro (aw:_=_)<;>simp only[aw,go_sem,go_sem_proc,fu,ar,fC]<;>try refine ah ?_ ?_)
 rcases eg:decide ((D cs:Int)>2000)
 case true =>
  rw[show decide (D cs<=2000)=false from lZ (by have:=of_decide_eq_true eg;omega)];refine ai ?_;repeat' (intro (aw:_=_)<;>simp only[aw,go_sem,go_sem_proc,fu,eg,ar,fC,hs]<;>try refine ah ?_ ?_)
 rw[show decide (D cash<=60)=true from h2 (by have:=of_decide_eq_false fu;omega),show decide (D cs<=2000)=true from h2 (by have:=of_decide_eq_false eg;omega),g4,g4];simp only[go_sem,go_sem_proc,fu,eg,ar];refine da [0,1] [358007] (λ(i:Nat) tm m=>i<=D cash/\tm 5=.M (.int .i64 i)/\(cash.take i).all gW=true) (λi=>D cash-i) 0 (by refine⟨by omega,rfl,rfl⟩) ?_;intro vs ms aW aR;simp only[go_sem,go_sem_proc,ar] at aW aR;subst aW aR;rintro i tm m I hm ⟨J,c8,en⟩;simp only[go_sem,go_sem_proc,bh] at I hm;obtain⟨bZ,az⟩:=I;rcases dq (i<D cash) with aq|ca
 ·have d1:decide ((i:Int)<(D cash:Int))=true:=cX;have ct:=e0 (i:=i) (by omega);obtain⟨x,Q⟩:∃c,cash[i]?=some c:=⟨_,bn aq⟩;have gx:(cash.take (i+1)).all gW=gW x:=by rw[hF,Q,aoQ,aoR,en];simp
  have fp:gW x=false->cash.all gW=false:=λh=>acg.2 ⟨x,dZ Q,by rw[h];decide⟩
  rcases aG:decide (x<0)
  ·rcases c2:decide (x>1000000000000000)
   ·have aa:gW x=true:=F9.2 (by have:=of_decide_eq_false aG;have:=of_decide_eq_false c2;omega);refine ai ?_;repeat' (intro (aw:_=_)<;>simp only[aw,go_sem,go_sem_proc,bZ,az,c8,hm,Q,d1,ct,aG,c2,aC,ar,bo]<;>try refine ah ?_ ?_)
    exact⟨i+1,by omega,by omega,rfl,by rw[gx,aa]⟩
   ·have aa:gW x=false:=by
     rw[<-aoS,F9];have:=of_decide_eq_true c2;omega
    rw[fp aa];refine ai ?_;repeat' (intro (aw:_=_)<;>simp only[aw,go_sem,go_sem_proc,bZ,az,c8,hm,Q,d1,aG,c2,aC,ar,bo,fC]<;>try refine ah ?_ ?_)
  ·have aa:gW x=false:=by
    rw[<-aoS,F9];have:=of_decide_eq_true aG;omega
   rw[fp aa];refine ai ?_;repeat' (intro (aw:_=_)<;>simp only[aw,go_sem,go_sem_proc,bZ,az,c8,hm,Q,d1,aG,aC,ar,bo,fC]<;>try refine ah ?_ ?_)
 have d1:decide ((i:Int)<(D cash:Int))=false:=cA;rw[dt (by omega)] at en;rw[en,g4];simp only[go_sem,go_sem_proc,bZ,az,c8,d1,ar];clear d1 en;refine da [0,1] [] (λ(i:Nat) tm m=>i<=D cs/\tm 6=.M (.int .i64 i)/\(cs.take i).all (iw (D cash))=true) (λi=>D cs-i) 0 (by refine⟨by omega,rfl,rfl⟩) ?_;intro vs ms aW aR;simp only[go_sem,go_sem_proc,bZ,az,ar] at aW aR;subst aW aR;clear bZ az hm;rintro i tm m I nN ⟨J,bP,en⟩;simp only[go_sem,go_sem_proc,bh] at I;obtain⟨bZ,az⟩:=I;rcases dq (i<D cs) with aq|ca
 ·have d1:decide ((i:Int)<(D cs:Int))=true:=cX;have ct:=e0 (i:=i) (by omega);obtain⟨⟨a,b,k,x⟩,Q⟩:∃c,cs[i]?=some c:=⟨_,bn aq⟩;have gx:(cs.take (i+1)).all (iw (D cash))=iw (D cash) (a,b,k,x):=by rw[hF,Q,aoQ,aoR,en];simp
  have fp:iw (D cash) (a,b,k,x)=false->cs.all (iw (D cash))=false:=λh=>acg.2 ⟨_,dZ Q,by rw[h];decide⟩
  by_cases aa:iw (D cash) (a,b,k,x)=true
  ·have BV:=F8.1 aa;dsimp only at BV;have aG:decide (a<0)=false:=cA;have c2:decide (a>=(D cash:Int))=false:=cA;have c3:decide (b < -1)=false:=cA;have c4:decide (b>=(D cash:Int))=false:=cA;have Oj:decide (k<0)=false:=cA;have Ok:decide (k>9)=false:=cA;have Gq:decide (x<0)=false:=cA;have aFl:decide (x>1000000000000000)=false:=cA;refine ai ?_;repeat' (intro (aw:_=_)<;>simp only[aw,go_sem,go_sem_proc,bZ,az,bP,Q,d1,ct,aG,c2,c3,c4,Oj,Ok,Gq,aFl,bW,ar,bo]<;>try refine ah ?_ ?_)
   exact⟨i+1,by omega,by omega,rfl,by rw[gx,aa]⟩
  ·have aK:iw (D cash) (a,b,k,x)=false:=by simpa using aa
   rw[fp aK];rw[F8] at aa;dsimp only at aa;refine ai ?_;repeat' (intro (aw:_=_)<;>simp only[aw,go_sem,go_sem_proc,bZ,az,bP,Q,d1,bW,ar,bo]<;>try refine ah ?_ ?_)
   all_goals (exfalso;simp only[decide_eq_false_iff_not] at *;omega)
 ·have d1:decide ((i:Int)<(D cs:Int))=false:=cA;rw[dt (by omega)] at en;rw[en];refine ai ?_;repeat' (intro (aw:_=_)<;>simp only[aw,go_sem,go_sem_proc,bZ,az,bP,d1,ar]<;>try refine ah ?_ ?_)
def UQ:=bU wQ λ(cash,cs,is,aj,rk)=>cp (vf cash cs is) (.same (.bool (h0 cash cs is aj rk)))
@[go_sem] def aFm (cash cs is aj rk):=cz UQ rfl Pf (cash,cs,is,aj,rk) rfl
def aFn (T:ba)(o7:T X8=aQ UP)(lB:T L9=aQ Pc):WF T aoC UQ:=by
 refine cf λ(cash,cs,is,aj,rk)=>cG λH=>⟨rfl,b7 ?_⟩;simp only[aoC,wQ,b1];obtain⟨aH,ht,AK⟩:=H;have Y:=aFj cash cs ⟨by omega,by omega⟩
 have d0:((D is:Int)==0)=is.isEmpty:=by cases is<;>simp<;>omega
 rcases vg:hY cash cs
 ·rw[vg] at Y;have aK:h0 cash cs is aj rk=false:=by unfold h0;rw[vg];rfl
  rw[aK];refine ai ?_;repeat' (intro (aw:_=_)<;>simp only[aw,go_sem,go_sem_proc,o7,lB,dB,Y,ar,dd]<;>try refine ah ?_ ?_)
 rw[vg] at Y;rcases fu:is.isEmpty
 case true =>
  have aK:h0 cash cs is aj rk=false:=by unfold h0;rw[vg,fu];rfl
  rw[aK];rw[fu] at d0;refine ai ?_;repeat' (intro (aw:_=_)<;>simp only[aw,go_sem,go_sem_proc,o7,lB,dB,Y,d0,ar,cF]<;>try refine ah ?_ ?_)
 rw[fu] at d0
 have h1:h0 cash cs is aj rk=(decide (0<=aj)&&decide (aj<=10000)&&decide (0<=rk)&&decide (rk<=9)&&(dD (D is)).all (iA cs is aj)):=by
  unfold h0;rw[vg,fu];rfl
 have F:decide (0<=aj) = !decide (aj<0):=by rw[kd,decide_eq_true_iff,nS,decide_eq_false_iff_not];omega
 have G:decide (aj<=10000) = !decide (aj>10000):=by rw[kd,decide_eq_true_iff,nS,decide_eq_false_iff_not];omega
 have af:decide (0<=rk) = !decide (rk<0):=by rw[kd,decide_eq_true_iff,nS,decide_eq_false_iff_not];omega
 have aS:decide (rk<=9) = !decide (rk>9):=by rw[kd,decide_eq_true_iff,nS,decide_eq_false_iff_not];omega
 rw[F,G,af,aS] at h1;rcases eg:decide (aj<0)
 case true =>
  rw[h1,eg];refine ai ?_;repeat' (intro (aw:_=_)<;>simp only[aw,go_sem,go_sem_proc,o7,lB,dB,Y,d0,eg,ar,cF,fC]<;>try refine ah ?_ ?_)
 rcases jg:decide (aj>10000)
 case true =>
  rw[h1,eg,jg];refine ai ?_;repeat' (intro (aw:_=_)<;>simp only[aw,go_sem,go_sem_proc,o7,lB,dB,Y,d0,eg,jg,ar,cF,dd,fC,hs]<;>try refine ah ?_ ?_)
 rcases jR:decide (rk<0)
 case true =>
  rw[h1,eg,jg,jR];refine ai ?_;repeat' (intro (aw:_=_)<;>simp only[aw,go_sem,go_sem_proc,o7,lB,dB,Y,d0,eg,jg,jR,ar,cF,dd,fC,hs]<;>try refine ah ?_ ?_)
 rcases vd:decide (rk>9)
 case true =>
  rw[h1,eg,jg,jR,vd];refine ai ?_;repeat' (intro (aw:_=_)<;>simp only[aw,go_sem,go_sem_proc,o7,lB,dB,Y,d0,eg,jg,jR,vd,ar,cF,dd,fC,hs]<;>try refine ah ?_ ?_)
 have en:h0 cash cs is aj rk=(dD (D is)).all (iA cs is aj):=by rw[h1,eg,jg,jR,vd];rfl
 have rC:0<=aj/\aj<=10000:=by have:=of_decide_eq_false eg;have:=of_decide_eq_false jg;omega
 have y9:=(gN.1 vg).2.2.2;simp only[go_sem,go_sem_proc,o7,lB,dB,Y,d0,eg,jg,jR,vd,ar,cF];refine da [1] [347001] (λ(k:Nat) tm m=>k<=D is/\tm 3=.M (.int .i64 k)/\∀j,j<k->iA cs is aj j=true) (λk=>D is-k) 0 (by refine⟨by omega,rfl,λj ag=>by omega⟩) ?_;intro vs ms aW aR;simp only[go_sem,go_sem_proc,o7,lB,dB,ar] at aW aR;subst aW aR;rintro k tm m I hm ⟨J,bX,c9⟩;simp only[go_sem,go_sem_proc,o7,lB,bh] at I hm;have az:=I;rcases dq (k<D is) with aq|ca
 ·have d1:decide ((k:Int)<(D is:Int))=true:=cX;have ct:=e0 (i:=k) (by omega);obtain⟨i,Q⟩:∃i,is[k]?=some i:=⟨_,bn aq⟩;have jO:=mj (d:=0) Q;obtain⟨i0,iN⟩:∃i,is[0]?=some i:=⟨_,bn (by omega)⟩;have Pg:=mj (d:=0) iN
  by_cases cn:0<=i/\i<D cs
  case neg =>
   have X:iA cs is aj k=false:=by
    unfold iA;rw[jO,DH]
    left
    rw[DH]
    left
    rw[DH,decide_eq_false_iff_not,decide_eq_false_iff_not];omega
   rw[zG aq X];rcases nz:decide (i<0)
   ·have pQ:decide (i>=(D cs:Int))=true:=h2 (by have:=of_decide_eq_false nz;omega);refine ai ?_;repeat' (intro (aw:_=_)<;>simp only[aw,go_sem,go_sem_proc,o7,lB,az,bX,hm,Q,d1,nz,pQ,aC,ar,bo]<;>try refine ah ?_ ?_)
   ·refine ai ?_;repeat' (intro (aw:_=_)<;>simp only[aw,go_sem,go_sem_proc,o7,lB,az,bX,hm,Q,d1,nz,aC,ar,bo]<;>try refine ah ?_ ?_)
  obtain⟨n,rfl⟩:∃n:Nat,i=(n:Int):=⟨i.toNat,by omega⟩
  have nz:decide ((n:Int)<0)=false:=cA;have GH:decide ((n:Int)>=(D cs:Int))=false:=cA;obtain⟨⟨aG,c2,c3,c4⟩,H⟩:∃c,cs[n]?=some c:=⟨_,bn (by omega)⟩;have OX:=mj (d:=hJ) H;have lN:=y9 _ (dZ H);dsimp only at lN
  have qP:0<=i0/\i0<D cs:=by
   by_cases l6:k=0
   ·subst l6;rw[Q] at iN;have:=mD iN;omega
   ·have:=aoP c9 (j:=0) (by omega);rwa [Pg] at this
  obtain⟨ach,rfl⟩:∃n:Nat,i0=(n:Int):=⟨i0.toNat,by omega⟩
  obtain⟨⟨fA,hl,pM,zx⟩,aV⟩:∃c,cs[ach]?=some c:=⟨_,bn (by omega)⟩;have Cr:=mj (d:=hJ) aV;have js:0<D is:=by omega
  have hex:=aoO cash cs is aj rk aG c2 c3 c4 ⟨lN.2.2.2.2.2.2.1,lN.2.2.2.2.2.2.2,rC.1,rC.2⟩
  have oF:iA cs is aj k=((k==0||decide (is.getD (k-1) 0<(n:Int)))&&(aG==fA&&decide (c4/1000*aj+c4%1000*aj/1000<=1000000000000000))):=by
   unfold iA;rw[jO,Pg,g9,g9,OX,Cr,h2 (by omega:(0:Int)<=(n:Int)),h2 (by omega:(n:Int)<(D cs:Int))]
   rfl
  simp only[dB,bW,pP] at hex;generalize dn:c4/1000*aj+c4%1000*aj/1000=A at *;have aFo:decide (A<=1000000000000000) = !decide (A>1000000000000000):=by rw[kd,decide_eq_true_iff,nS,decide_eq_false_iff_not];omega
  rw[aFo] at oF
  have UO:iA cs is aj k=true->∀j,j<k+1->iA cs is aj j=true:=λh j ag=>by
   by_cases dL:j=k
   ·rw[dL];exact h
   ·exact c9 j (by omega)
  have yY:(k=0/\decide ((k:Int)>0)=false)\/∃y,0<k/\is[k-1]?=some y/\decide ((k:Int)>0)=true/\IntKind.i64.wrap ((k:Int)-1)=((k-1:Nat):Int)/\k-1<D is/\(k==0||decide (is.getD (k-1) 0<(n:Int))) = !decide ((n:Int)<=y):=by
   by_cases l6:k=0
   ·exact .inl ⟨l6,cA⟩
   ·obtain⟨y,al⟩:∃i,is[k-1]?=some i:=⟨_,bn (by omega)⟩;refine .inr ⟨y,by omega,al,cX,by rw[ev _];omega,by omega,?_⟩
    rw[mj (d:=0) al,beq_eq_false_iff_ne.2 l6,Bool.false_or,kd,decide_eq_true_iff,nS,decide_eq_false_iff_not];omega
  rcases yY with ⟨l6,d2⟩|⟨y,l6,al,d2,nR,cm,Eb⟩
  ·rw[l6,beq_self_eq_true,Bool.true_or,g4,<-l6] at oF;rcases jD:(aG==fA)
   ·have X:iA cs is aj k=false:=by rw[oF,jD];rfl
    rw[zG aq X];refine ai ?_;repeat' (intro (aw:_=_)<;>simp only[aw,go_sem,go_sem_proc,o7,lB,az,bX,hm,Q,iN,H,aV,d1,d2,nz,GH,jD,js,bW,aC,ar,bo,rE,bne,cF,dd]<;>try refine ah ?_ ?_)
   rcases rF:decide (A>1000000000000000)
   ·have X:iA cs is aj k=true:=by rw[oF,jD,rF];rfl
    have na:=UO X;refine ai ?_;repeat' (intro (aw:_=_)<;>simp only[aw,go_sem,go_sem_proc,o7,lB,az,bX,hm,Q,iN,H,aV,hex,d1,d2,ct,nz,GH,jD,rF,js,bW,aC,dB,ar,bo,rE,bne,cF,dd]<;>try refine ah ?_ ?_)
    exact⟨k+1,by omega,by omega,rfl,na⟩
   ·have X:iA cs is aj k=false:=by rw[oF,jD,rF];rfl
    rw[zG aq X];refine ai ?_;repeat' (intro (aw:_=_)<;>simp only[aw,go_sem,go_sem_proc,o7,lB,az,bX,hm,Q,iN,H,aV,hex,d1,d2,nz,GH,jD,rF,js,bW,aC,dB,ar,bo,rE,bne,cF,dd]<;>try refine ah ?_ ?_)
  ·rw[Eb] at oF;have kv:((0:Int)>((k-1:Nat):Int))=False:=eq_false (by omega);rcases pQ:decide ((n:Int)<=y)
   case true =>
    have X:iA cs is aj k=false:=by rw[oF,pQ];rfl
    rw[zG aq X];refine ai ?_;repeat' (intro (aw:_=_)<;>simp only[aw,go_sem,go_sem_proc,o7,lB,az,bX,hm,Q,al,kv,d1,d2,nR,nz,GH,pQ,cm,aC,ar,bo,cF]<;>try refine ah ?_ ?_)
   rcases jD:(aG==fA)
   ·have X:iA cs is aj k=false:=by rw[oF,pQ,jD];rfl
    rw[zG aq X];refine ai ?_;repeat' (intro (aw:_=_)<;>simp only[aw,go_sem,go_sem_proc,o7,lB,az,bX,hm,Q,iN,al,kv,H,aV,d1,d2,nR,nz,GH,pQ,jD,js,cm,bW,aC,ar,bo,rE,bne,cF,dd]<;>try refine ah ?_ ?_)
   rcases rF:decide (A>1000000000000000)
   ·have X:iA cs is aj k=true:=by rw[oF,pQ,jD,rF];rfl
    have na:=UO X;refine ai ?_;repeat' (intro (aw:_=_)<;>simp only[aw,go_sem,go_sem_proc,o7,lB,az,bX,hm,Q,iN,al,kv,H,aV,hex,d1,d2,ct,nR,nz,GH,pQ,jD,rF,js,cm,bW,aC,dB,ar,bo,rE,bne,cF,dd]<;>try refine ah ?_ ?_)
    exact⟨k+1,by omega,by omega,rfl,na⟩
   ·have X:iA cs is aj k=false:=by rw[oF,pQ,jD,rF];rfl
    rw[zG aq X];refine ai ?_;repeat' (intro (aw:_=_)<;>simp only[aw,go_sem,go_sem_proc,o7,lB,az,bX,hm,Q,iN,al,kv,H,aV,hex,d1,d2,nR,nz,GH,pQ,jD,rF,js,cm,bW,aC,dB,ar,bo,rE,bne,cF,dd]<;>try refine ah ?_ ?_)
 ·have d1:decide ((k:Int)<(D is:Int))=false:=cA;obtain rfl:k=D is:=by omega
  have:h0 cash cs is aj rk=true:=by
   rw[en,ld];exact λj ag=>c9 j (gQ.1 ag)
  rw[this];refine ai ?_;repeat' (intro (aw:_=_)<;>simp only[aw,go_sem,go_sem_proc,o7,lB,az,bX,hm,d1,ar]<;>try refine ah ?_ ?_)
def aoT {l:List ao}{k:Nat}(h:k<D l):(k*4+4<=(a6 bW l).length)=True:=eq_true (by rw[lj n0];omega)
def aci {l:List ao}{k:Nat}{a b c d}(h:l[k]?=some (a,b,c,d)):fh 4 (ft (k*4) (a6 bW l))=[.M (.int .i64 a),.M (.int .i64 b),.M (.int .i64 c),.M (.int .i64 d)]:=by
 have:=Qy n0 h (f:=0) (n:=4) (by omega);rw[Nat.add_zero] at this;unfold cut at this;rw[ab (by rw[lj n0];have:=(List.getElem?_eq_some_iff.1 h).1;omega)] at this;exact mD this
def aoU {l:List ao}{k:Nat}(h:k<D l)(x:ao):fh (k*4) (a6 bW l)++(bW x).map O.M++ft (k*4+4) (a6 bW l)=a6 bW (l.set k x):=by
 rw[<-W4 n0 h]
 rfl
def aoV {l:List ao}{k:Nat}(h:k<D l):(k*4+2+1<=(a6 bW l).length)=True:=eq_true (by rw[lj n0];omega)
def aoW {l:List ao}{k:Nat}{a b c d:Int}(h:l[k]?=some (a,b,c,d))(r:Int):fh (k*4+2) (a6 bW l)++[O.M (.int .i64 r)]++ft (k*4+2+1) (a6 bW l)=a6 bW (l.set k (a,b,r,d)):=by
 obtain⟨p,q,e,aF,X⟩:=W3 n0 h;rw[X,e]
 have az:fh (k*4+2) (p++((bW (a,b,c,d)).map O.M++q))=p++[.M (.int .i64 a),.M (.int .i64 b)]:=by
  rw[List.take_append,dt (by omega),show k*4+2-D p=2 by omega];rfl
 have aD:ft (k*4+2+1) (p++((bW (a,b,c,d)).map O.M++q))=.M (.int .i64 d)::q:=by
  rw[oj,List.drop_of_length_le (by omega),show k*4+2+1-D p=3 by omega];rfl
 rw[az,aD,gr,gr]
 rfl
def acj (l:List ao):((l.map bW).all λe=>D e==4)=true:=by simp[bW]
def aoX (k:Nat)(l:List ao)(h:(D l)<=1000000):mA k 0 4 0 32 (D l) ((l.map bW).flatten.map .M) (some (0,[]))=some (.ref k 1 4 0 (D l),some (k,1,a6 bW l)):=by
 have:=En n0 Th k 0 32 [] l (by simp;omega) (by simp;omega)
 simpa [a6] using this
def aoY (l:List ao):chunk 4 (D l) (l.map bW).flatten=l.map bW:=by
 have:=xj (sz:=4) (l.map bW) (λe he=>by obtain⟨c,-,rfl⟩:=ef.1 he;rfl);rwa [ar] at this
def aoZ {m:Mem}{k g:Nat}{l:List ao}(h:m k=some (g,a6 bW l)):pg 4 m (.ref k g 4 0 (D l))=some (l.map bW):=by
 have hlen:(a6 bW l).length=D l*4:=lj n0 l;unfold pg;simp only[h,hlen];rw[ab ⟨trivial,trivial⟩,ab ⟨trivial,bM _⟩,dt (by omega)];unfold a6;rw[r1 _ λd=>rfl,iY,aoY]
def UR:=bU J2 λ(l:List ao)=>cp (D l<=1000000) (.own 4 (l.map bW))
@[go_sem] def aFp (l):=cz UR rfl anN l rfl
def aFq (T:ba):WF T afG UR:=by
 refine cf λl=>cG λH=>⟨rfl,b7 ?_⟩;simp only[afG,J2,b1];have dN:=aoX 360005 l H;have hlen:(a6 bW l).length=D l*4:=lj n0 l;refine ai ?_;repeat' (intro h<;>simp only[h,go_sem,go_sem_proc,acj,dN,ar]<;>try refine ah ?_ ?_)
 rintro b ad
 cases b
 ·refine ai ?_;repeat' (intro h<;>simp only[h,go_sem,go_sem_proc,acj,dN,ar,pg,hlen]<;>try refine ah ?_ ?_)
  rw[ab (by omega),dt (by omega)];unfold a6;rw[r1 _ λd=>rfl];rw[iY,aoY]
 ·cases l with
  |nil =>
       refine ai ?_;repeat' (intro h<;>simp only[h,go_sem,go_sem_proc,pg,cR]<;>try refine ah ?_ ?_)
  |cons x r=>simp at ad
def ao0 (cash:List Int)(cs:List ao)(is:List Int)(aj rk:Int):Prop:=vf cash cs is/\h0 cash cs is aj rk=true
abbrev wR:(List Int)×(List ao)×(List Int)×Int×Int×Int->List Data:=λ(cash,cs,is,aj,rk,but)=>[.agg (dB cash cs is aj rk),.int .i64 but]
def Ki:=bU wR λ(cash,cs,is,aj,rk,but)=>cp (ao0 cash cs is aj rk) (.own 4 ((dF cs is aj rk but (D is)).map bW))
def Ph:∀a b,wR a=wR b->a=b:=by
  rintro⟨tD,vc,ab9,aca,acb,aPL⟩ ⟨tE,oh,acd,ace,acf,aPM⟩ h;simp only[bh,Data.agg.injEq,Data.int.injEq,and_true,true_and] at h;obtain⟨cr,b6⟩:=h;obtain⟨rfl,rfl,rfl,rfl,rfl⟩:=UI cr;rw[b6]
@[go_sem] def ack (cash cs is aj rk but):=cz Ki rfl Ph (cash,cs,is,aj,rk,but) rfl
def aFr (T:ba)(Kj:T X9=aQ UR)(m7:T L8=aQ Pb):WF T anq Ki:=by
 refine cf λ(cash,cs,is,aj,rk,but)=>cG λH=>⟨rfl,b7 ?_⟩;simp only[anq,wR,b1];obtain⟨⟨aH,ht,AK⟩,h1⟩:=H;have hg:=GF.1 h1;have ee:=aFp cs (by omega);have Kk:(cs.map bW).flatten.map O.M=a6 bW cs:=rfl;simp only[go_sem,go_sem_proc,Kj,m7,dB,ee,Kk,ar];refine da [1,2,5,12,13] [354002] (λ(k:Nat) tm m=>k<=D is/\tm 14=.M (.int .i64 k)/\m 354010=some (0,a6 bW (dF cs is aj rk but k))) (λk=>D is-k) 0 (by refine⟨by omega,rfl,?_⟩;simp only[a4,dV,if_false,if_true];rfl) ?_;intro vs ms aW aR;simp only[go_sem,go_sem_proc,Kj,m7,dB,ar] at aW aR;subst aW aR;rintro k tm m I hm ⟨J,pF,sy⟩;simp only[go_sem,go_sem_proc,Kj,m7,bh] at I hm;obtain⟨az,aD,c8,fU,gL⟩:=I;have GI:=ve cs is aj rk but k;rcases dq (k<D is) with aq|ca
 ·have d1:decide ((k:Int)<(D is:Int))=true:=cX;have ct:=e0 (i:=k) (by omega);obtain⟨i,Q⟩:∃i,is[k]?=some i:=⟨_,bn aq⟩;have jO:=mj (d:=0) Q;have fB:=hg.bN k aq;rw[jO] at fB;obtain⟨n,rfl⟩:∃n:Nat,i=(n:Int):=⟨i.toNat,by omega⟩
  have bH:=Pa hg but (t:=k) (by omega) aq;rw[ae (by omega),jO,g9] at bH;have fL:=hg.mem aq;rw[jO,g9] at fL;generalize cs.getD n hJ=c at *;obtain⟨aG,c2,c3,c4⟩:=c;have lN:=(gN.1 hg.right).2.2.2 _ fL;have hex:=aoN cash cs is aj rk aG c2 c3 c4 ⟨lN.2.2.2.2.2.2.1,lN.2.2.2.2.2.2.2,hg.rC.1,hg.rC.2⟩;simp only[dB] at hex;have h6:n<(dF cs is aj rk but k).length:=by omega
  have Kl:n<D cs:=by omega
  have aS:=aoT h6;have a8:=aci bH;have Cy:=aoU h6 (pP aj rk (aG,c2,c3,c4));rcases q:((k:Int)==but)
  ·have gJ:dF cs is aj rk but (k+1)=(dF cs is aj rk but k).set n (pP aj rk (aG,c2,c3,c4)):=by
    show (if (k:Int)=but then _ else _)=_;rw[ae (by simpa using q),jO,g9,mj bH]
   rw[<-gJ] at Cy;generalize mQ:pP aj rk (aG,c2,c3,c4)=cU at *;obtain⟨gR,fS,kA,q7⟩:=cU;simp only[bW] at hex;simp only[bW,eu,cR] at Cy;refine ai ?_;repeat' (intro h<;>simp only[h,go_sem,go_sem_proc,Kj,m7,az,aD,c8,fU,gL,pF,hm,sy,Q,hex,aS,a8,Cy,Kl,d1,ct,q,dB,aC,ar,bo,bne,dd]<;>try refine ah ?_ ?_)
   exact⟨k+1,by omega,by omega,rfl,rfl⟩
  ·have gJ:dF cs is aj rk but (k+1)=dF cs is aj rk but k:=by
    show (if (k:Int)=but then _ else _)=_;rw[ab (by simpa using q)]
   refine ai ?_;repeat' (intro h<;>simp only[h,go_sem,go_sem_proc,Kj,m7,az,aD,c8,fU,gL,pF,hm,sy,Q,d1,ct,q,aC,ar,bo,bne,cF]<;>try refine ah ?_ ?_)
   exact⟨k+1,by omega,by omega,rfl,by rw[gJ]⟩
 ·have d1:decide ((k:Int)<(D is:Int))=false:=cA;obtain rfl:k=D is:=by omega
  generalize dF cs is aj rk but (D is)=L at *;have hlen:(a6 bW L).length=D L*4:=lj n0 L;refine ai ?_;repeat' (intro h<;>simp only[h,go_sem,go_sem_proc,Kj,m7,az,aD,c8,fU,gL,pF,d1,ar,GI]<;>try refine ah ?_ ?_)
  rw[<-GI];exact aoZ sy
def US:=bU wR λ(cash,cs,is,aj,rk,but)=>cp (ao0 cash cs is aj rk) (.own 4 ((dF cs is aj rk but (D is)).map bW))
@[go_sem] def ao1 (cash cs is aj rk but):=cz US rfl Ph (cash,cs,is,aj,rk,but) rfl
def aFs (T:ba)(lB:T L9=aQ Pc):WF T aoD US:=by
 refine cf λ(cash,cs,is,aj,rk,but)=>cG λH=>⟨rfl,b7 ?_⟩;simp only[aoD,wR,b1];obtain⟨⟨aH,ht,AK⟩,h1⟩:=H;have hg:=GF.1 h1;have dN:=aoX 352007 cs (by omega);simp only[go_sem,go_sem_proc,lB,dB,acj,dN,ar];refine da [1,2,5] [352002] (λ(k:Nat) tm m=>k<=D is/\tm 6=.M (.int .i64 k)/\m 352007=some (1,a6 bW (dF cs is aj rk but k))) (λk=>D is-k) 0 (by refine⟨by omega,rfl,?_⟩;simp only[a4,dV,if_false,if_true];rfl) ?_;intro vs ms aW aR;simp only[go_sem,go_sem_proc,lB,dB,ar] at aW aR;subst aW aR;rintro k tm m I hm ⟨J,bP,sy⟩;simp only[go_sem,go_sem_proc,lB,bh] at I hm;obtain⟨az,aD,c8⟩:=I;have GI:=ve cs is aj rk but k;rcases dq (k<D is) with aq|ca
 ·have d1:decide ((k:Int)<(D is:Int))=true:=cX;have ct:=e0 (i:=k) (by omega);obtain⟨i,Q⟩:∃i,is[k]?=some i:=⟨_,bn aq⟩;have jO:=mj (d:=0) Q;have fB:=hg.bN k aq;rw[jO] at fB;obtain⟨n,rfl⟩:∃n:Nat,i=(n:Int):=⟨i.toNat,by omega⟩
  have bH:=Pa hg but (t:=k) (by omega) aq;rw[ae (by omega),jO,g9] at bH;have fL:=hg.mem aq;rw[jO,g9] at fL;generalize cs.getD n hJ=c at *;obtain⟨aG,c2,c3,c4⟩:=c;have lN:=(gN.1 hg.right).2.2.2 _ fL;have hex:=aoO cash cs is aj rk aG c2 c3 c4 ⟨lN.2.2.2.2.2.2.1,lN.2.2.2.2.2.2.2,hg.rC.1,hg.rC.2⟩;simp only[dB] at hex;have h6:n<(dF cs is aj rk but k).length:=by omega
  have Kl:n<D cs:=by omega
  have aS:=aoT h6;have a8:=aci bH;have Cy:=aoU h6 (pP aj rk (aG,c2,c3,c4));rcases q:((k:Int)==but)
  ·have gJ:dF cs is aj rk but (k+1)=(dF cs is aj rk but k).set n (pP aj rk (aG,c2,c3,c4)):=by
    show (if (k:Int)=but then _ else _)=_;rw[ae (by simpa using q),jO,g9,mj bH]
   rw[<-gJ] at Cy;generalize mQ:pP aj rk (aG,c2,c3,c4)=cU at *;obtain⟨gR,fS,kA,q7⟩:=cU;simp only[bW] at hex;simp only[bW,eu,cR] at Cy;refine ai ?_;repeat' (intro h<;>simp only[h,go_sem,go_sem_proc,lB,az,aD,c8,bP,hm,sy,Q,hex,aS,a8,Cy,Kl,d1,ct,q,dB,aC,ar,bo,bne,dd]<;>try refine ah ?_ ?_)
   exact⟨k+1,by omega,by omega,rfl,rfl⟩
  ·have gJ:dF cs is aj rk but (k+1)=dF cs is aj rk but k:=by
    show (if (k:Int)=but then _ else _)=_;rw[ab (by simpa using q)]
   refine ai ?_;repeat' (intro h<;>simp only[h,go_sem,go_sem_proc,lB,az,aD,c8,bP,hm,sy,Q,d1,ct,q,aC,ar,bo,bne,cF]<;>try refine ah ?_ ?_)
   exact⟨k+1,by omega,by omega,rfl,by rw[gJ]⟩
 ·have d1:decide ((k:Int)<(D is:Int))=false:=cA;obtain rfl:k=D is:=by omega
  generalize dF cs is aj rk but (D is)=L at *;refine ai ?_;repeat' (intro h<;>simp only[h,go_sem,go_sem_proc,lB,az,aD,c8,bP,hm,d1,ar,GI]<;>try refine ah ?_ ?_)
  rw[<-GI];exact aoZ sy

def aFt (cs:List ao)(w:Int):(cE cs w).length<=D cs:=by unfold cE;exact nZ _ _

def sA (cash:List Int)(cs:List ao)(is:List Int)(aj rk:Int)(t:Nat):List bF:=(dD t).map λk=>ax (jj cash cs is aj rk k)
def UT (cash:List Int)(cs:List ao)(is:List Int)(aj rk:Int)(t:Nat):(sA cash cs is aj rk t).length=t:=by simp[sA]
def aFu (cash:List Int)(cs:List ao)(is:List Int)(aj rk:Int)(t:Nat):sA cash cs is aj rk (t+1)=sA cash cs is aj rk t++[ax (jj cash cs is aj rk t)]:=by
 unfold sA;rw[m5,kh];rfl
def acm (cash:List Int)(cs:List ao)(is:List Int)(aj rk:Int){t k:Nat}(h:k<t):(sA cash cs is aj rk t)[k]?=some (ax (jj cash cs is aj rk k)):=by
 unfold sA;rw[bo,List.getElem?_range h];rfl
def Km (cash:List Int)(cs:List ao)(is:List Int)(aj rk:Int):Data:=if h0 cash cs is aj rk=true then .cP [.ay ((sA cash cs is aj rk (D is)).map aU),.int .i64 0] else .cP [.ay [],.int .i64 1]
def Pj (cash:List Int)(cs:List ao)(is:List Int)(aj rk k:Int):Data:=if h0 cash cs is aj rk=true then (if 0<=k/\k<(D is) then .cP [.agg (aU (ax (oE cash cs is aj rk k.toNat))),.int .i64 0] else .cP [.agg (aU eA),.int .i64 4]) else .cP [.agg (aU eA),.int .i64 1]
def Kn {cash:List Int}{cs:List ao}{is:List Int}{aj rk:Int}(aH:vf cash cs is)(h:yf cash cs is aj rk)(but:Int):fv cash (dF cs is aj rk but (D is)):=aE9 h aH.1 aH.2.1 but
def GJ:=bU wQ λ(cash,cs,is,aj,rk)=>cp (vf cash cs is) (.same (Km cash cs is aj rk))
@[go_sem] def UU (cash cs is aj rk):=cz GJ rfl Pf (cash,cs,is,aj,rk) rfl
def aFv (T:ba)(lX:T yN=aQ GG)(rG:T EM=aQ Ki)(rH:T uu=aQ Bw):WF T anl GJ:=by
 refine cf λ(cash,cs,is,aj,rk)=>cG λH=>⟨rfl,b7 ?_⟩;simp only[anl,wQ,b1];have aa:=UL cash cs is aj rk H;unfold Km;rcases h1:h0 cash cs is aj rk
 ·rw[ae (by decide)];rw[h1] at aa;simp only[dB] at aa;refine ai ?_;repeat' (intro h<;>simp only[h,go_sem,go_sem_proc,lX,rG,rH,dB,aa,cR,dd]<;>try refine ah ?_ ?_)
 rw[ab rfl];rw[h1] at aa;have hg:=GF.1 h1;have ee:=ack cash cs is aj rk (-1) ⟨H,h1⟩;have X:=Kn H hg (-1);obtain⟨aH,ht,AK⟩:=H;have ak:=ve cs is aj rk (-1) (D is);have rI:=O9 cash (dF cs is aj rk (-1) (D is)) ⟨by omega,by omega,λ_=>X⟩
 unfold sx at rI;rw[ab X.right] at rI;have tG:=λk (I:k<D is)=>Kg (cash:=cash) (l:=dF cs is aj rk (-1) (D is)) (j:=(is.getD k 0).toNat) (by have:=hg.bN k I;omega);have nD:(iz cash (dF cs is aj rk (-1) (D is))).length=D cs:=by unfold iz;rw[ar,ak]
 have aY:∀k,yg cash (dF cs is aj rk (-1) (D is)) (is.getD k 0).toNat=jj cash cs is aj rk k:=λk=>rfl;simp only[aY] at tG;simp only[dB] at aa ee;generalize ny cash (dF cs is aj rk (-1) (D is))=HV at *;generalize iz cash (dF cs is aj rk (-1) (D is))=yc at *;generalize (aB cash (dF cs is aj rk (-1) (D is))).hZ.map o6=FD at *;simp only[go_sem,go_sem_proc,lX,rG,rH,dB,aa,ee,rI,bne,beq_self_eq_true,cF,ar];refine da [4,24,25] [341001,341004] (λ((k,g):Nat×Nat) tm m=>k<=D is/\tm 26=.M (.int .i64 k)/\tm 6=.ref 341037 g 4 0 k/\m 341037=some (g,a6 aU (sA cash cs is aj rk k))) (λ(k,_)=>D is-k) (0,0) (by refine⟨by omega,rfl,rfl,rfl⟩) ?_;intro vs ms aW aR;simp only[go_sem,go_sem_proc,lX,rG,rH,ar] at aW aR;subst aW aR;rintro⟨k,g⟩ tm m I hm ⟨J,km,bP,ao2⟩;simp only[go_sem,go_sem_proc,lX,rG,rH,bh] at I hm;obtain⟨dE,yb,ix⟩:=I;obtain⟨dw,oU⟩:=hm;have g2:=UT cash cs is aj rk k;rcases dq (k<D is) with aq|ca
 ·have d1:decide ((k:Int)<(D is:Int))=true:=cX;have ct:=e0 (i:=k) (by omega);obtain⟨i,Q⟩:∃i,is[k]?=some i:=⟨_,bn aq⟩;have jO:=mj (d:=0) Q;have fB:=hg.bN k aq;have k0:=tG k aq;rw[jO] at fB k0;obtain⟨n,rfl⟩:∃n:Nat,i=(n:Int):=⟨i.toNat,by omega⟩
  rw[g9] at k0;have h6:n<D yc:=by omega
  have Bl:=aFu cash cs is aj rk k;have dN:=λ(aL:bF) jo kt=>l8 mY Fq 341037 g 64 (sA cash cs is aj rk k) aL (cs:=jo) kt (by omega) (by omega);generalize ax (jj cash cs is aj rk k)=aL at *;have dN:=dN aL _ rfl;rw[<-Bl,g2] at dN;obtain⟨⟨f1,f2⟩,⟨f3,f4⟩⟩:=aL;simp only[aU,eu,cR] at dN;refine ai ?_;repeat' (intro h<;>simp only[h,go_sem,go_sem_proc,lX,rG,rH,dE,bP,yb,ix,km,dw,oU,ao2,Q,k0,dN,h6,d1,ct,aU,aC,ar,bo]<;>try refine ah ?_ ?_)
  exact⟨(k+1,g+1),by dsimp only;omega,by dsimp only;omega,rfl,rfl,rfl⟩
 ·have d1:decide ((k:Int)<(D is:Int))=false:=cA;obtain rfl:k=D is:=by omega
  have Gf:=λ(K:bc->Prop) (st:bc)=>oQ (K:=K) (st:=st) mY 6 341037 g (sA cash cs is aj rk (D is));rw[g2] at Gf;refine ai ?_;repeat' (intro h<;>simp only[h,go_sem,go_sem_proc,lX,rG,rH,dE,bP,yb,ix,km,dw,oU,ao2,d1,Gf,ar]<;>try refine ah ?_ ?_)
def Ko:=bU wR λ(cash,cs,is,aj,rk,k)=>cp (vf cash cs is) (.same (Pj cash cs is aj rk k))
@[go_sem] def acn (cash cs is aj rk k):=cz Ko rfl Ph (cash,cs,is,aj,rk,k) rfl
def aFw (T:ba)(lX:T yN=aQ GG)(mo:T sZ=aQ Gl)(rG:T EM=aQ Ki)(rH:T uu=aQ Bw):WF T anm Ko:=by
 refine cf λ(cash,cs,is,aj,rk,k)=>cG λH=>⟨rfl,b7 ?_⟩;simp only[anm,wR,b1];have aa:=UL cash cs is aj rk H;unfold Pj;rcases h1:h0 cash cs is aj rk
 ·rw[ae (by decide)];rw[h1] at aa;simp only[dB] at aa;refine ai ?_;repeat' (intro h<;>simp only[h,go_sem,go_sem_proc,lX,mo,rG,rH,dB,aa,aU,eA,cR,dd]<;>try refine ah ?_ ?_)
 rw[ab rfl];rw[h1] at aa;have nF:=H;obtain⟨aH,ht,AK⟩:=H;have wl:IntKind.i64.wrap ((D is:Int)-1)=(D is:Int)-1:=by rw[ev _]
 rcases q:(decide (0<=k)&&decide (k<=(D is:Int)-1))
 ·rw[ae (by rw[DH,decide_eq_false_iff_not,decide_eq_false_iff_not] at q;omega)];simp only[dB] at aa;refine ai ?_;repeat' (intro h<;>simp only[h,go_sem,go_sem_proc,lX,mo,rG,rH,dB,aa,wl,q,aU,eA,cR,ar,cF,dd]<;>try refine ah ?_ ?_)
 have I:0<=k/\k<D is:=by rw[eQ,decide_eq_true_iff,decide_eq_true_iff] at q;omega
 rw[ab I];obtain⟨k,rfl⟩:∃n:Nat,k=(n:Int):=⟨k.toNat,by omega⟩
 have aq:k<D is:=by omega
 have hg:=GF.1 h1;have ee:=ack cash cs is aj rk k ⟨nF,h1⟩;have X:=Kn nF hg k;have ak:=ve cs is aj rk k (D is);have rI:=O9 cash (dF cs is aj rk k (D is)) ⟨by omega,by omega,λ_=>X⟩
 unfold sx at rI;rw[ab X.right] at rI;obtain⟨i,Q⟩:∃i,is[k]?=some i:=⟨_,bn aq⟩;have jO:=mj (d:=0) Q;have fB:=hg.bN k aq;have k0:=Kg (cash:=cash) (l:=dF cs is aj rk k (D is)) (j:=(is.getD k 0).toNat) (by omega);have nD:(iz cash (dF cs is aj rk k (D is))).length=D cs:=by unfold iz;rw[ar,ak]
 have aY:yg cash (dF cs is aj rk k (D is)) (is.getD k 0).toNat=oE cash cs is aj rk k:=rfl;rw[aY] at k0;rw[jO] at fB k0;obtain⟨n,rfl⟩:∃n:Nat,i=(n:Int):=⟨i.toNat,by omega⟩
 rw[g9] at k0 ⊢;simp only[dB] at aa ee;have h6:n<(iz cash (dF cs is aj rk k (D is))).length:=by omega
 generalize ny cash (dF cs is aj rk k (D is))=HV at *;generalize iz cash (dF cs is aj rk k (D is))=yc at *;generalize (aB cash (dF cs is aj rk k (D is))).hZ.map o6=FD at *;generalize ax (oE cash cs is aj rk k)=aL at *;obtain⟨⟨f1,f2⟩,⟨f3,f4⟩⟩:=aL;refine ai ?_;repeat' (intro h<;>simp only[h,go_sem,go_sem_proc,lX,mo,rG,rH,dB,aa,ee,rI,wl,q,Q,k0,h6,aU,aC,bne,beq_self_eq_true,ar,bo,cF,dd]<;>try refine ah ?_ ?_)
def lY (cash:List Int)(cs:List ao)(is:List Int)(aj rk:Int)(k:Nat):Rat:=oE cash cs is aj rk k-jj cash cs is aj rk k
def Pk (cash:List Int)(cs:List ao)(is:List Int)(aj rk k:Int):Data:=if h0 cash cs is aj rk=true then (if 0<=k/\k<(D is) then .cP [.bool (decide (0<lY cash cs is aj rk k.toNat)),.agg (aU (ax (lY cash cs is aj rk k.toNat))),.int .i64 0] else .cP [.bool false,.agg (aU eA),.int .i64 4]) else .cP [.bool false,.agg (aU eA),.int .i64 1]
def aco {cash:List Int}{cs:List ao}{is:List Int}{aj rk:Int}(aH:vf cash cs is)(h:yf cash cs is aj rk){k:Nat}(I:k<D is):ec 482 (oE cash cs is aj rk k)/\ec 482 (jj cash cs is aj rk k):=by
 have fB:=h.bN k I;exact⟨UH (Kn aH h k) (by rw[ve];omega),UH (Kn aH h (-1)) (by rw[ve];omega)⟩
def aFx {x:Rat}:decide (x.num.sign>0)=decide (0<x):=by
 have:x.num.sign>0↔0<x:=by
  show 0<x.num.sign↔_;rw[Int.sign_pos_iff,Rat.lt_iff,Rat.zero_num,Rat.zero_den];omega
 rw[decide_eq_decide];exact this
def Kp:=bU wR λ(cash,cs,is,aj,rk,k)=>cp (vf cash cs is) (.same (Pk cash cs is aj rk k))
@[go_sem] def acp (cash cs is aj rk k):=cz Kp rfl Ph (cash,cs,is,aj,rk,k) rfl
def aFy (T:ba)(pR:T EK=aQ Ko)(mq:T Ak=aQ GJ)(m2:T vH=aQ xD):WF T ano Kp:=by
 refine cf λ(cash,cs,is,aj,rk,k)=>cG λH=>⟨rfl,b7 ?_⟩;simp only[ano,wR,b1];have bx:=acn cash cs is aj rk k H;have J:=UU cash cs is aj rk H;unfold Pk;unfold Pj at bx;unfold Km at J;rcases h1:h0 cash cs is aj rk
 ·rw[ae (by decide)];rw[ae (by rw[h1];decide)] at bx J;simp only[dB,aU,eA,cR] at bx J;refine ai ?_;repeat' (intro h<;>simp only[h,go_sem,go_sem_proc,pR,mq,m2,dB,bx,J,aU,eA,cR,bne,show ((1:Int)==0)=false from rfl,show ((4:Int)==0)=false from rfl,dd]<;>try refine ah ?_ ?_)
 rw[ab rfl];rw[ab h1] at bx J
 by_cases I:0<=k/\k<D is
 case neg =>
  rw[ae I] at bx ⊢;simp only[dB,aU,eA,cR] at bx J;refine ai ?_;repeat' (intro h<;>simp only[h,go_sem,go_sem_proc,pR,mq,m2,dB,bx,J,aU,eA,cR,bne,show ((1:Int)==0)=false from rfl,show ((4:Int)==0)=false from rfl,dd]<;>try refine ah ?_ ?_)
 rw[ab I] at bx ⊢;obtain⟨k,rfl⟩:∃n:Nat,k=(n:Int):=⟨k.toNat,by omega⟩
 have aq:k<D is:=by omega
 have hg:=GF.1 h1;obtain⟨fA,hl⟩:=aco H hg aq;rw[g9] at bx ⊢;have GK:=acm cash cs is aj rk aq;have g2:=UT cash cs is aj rk (D is);have acq:=Tk (iV fA (by omega)) (iV hl (by omega)) (Df fA (Dg hl) (by omega));have a8:oE cash cs is aj rk k-jj cash cs is aj rk k=lY cash cs is aj rk k:=rfl;rw[a8] at acq;have Fo:(ax (lY cash cs is aj rk k)).1.1=(lY cash cs is aj rk k).num.sign:=rfl;have ja:=aFx (x:=lY cash cs is aj rk k);generalize sA cash cs is aj rk (D is)=IL at *;generalize ax (oE cash cs is aj rk k)=a2 at *;generalize ax (jj cash cs is aj rk k)=tR at *;generalize decide (0<lY cash cs is aj rk k)=B at *;generalize ax (lY cash cs is aj rk k)=bC at *;generalize (lY cash cs is aj rk k).num.sign=sg at *;obtain⟨⟨Du,Dv⟩,⟨Dw,Dx⟩⟩:=a2;obtain⟨⟨i1,i2⟩,⟨i3,i4⟩⟩:=tR;obtain⟨⟨cr,b6⟩,⟨ga,iQ⟩⟩:=bC;dsimp only at Fo;subst Fo;simp only[aU,dB] at bx J acq;refine ai ?_;repeat' (intro h<;>simp only[h,go_sem,go_sem_proc,pR,mq,m2,dB,bx,J,acq,GK,ja,aU,bne,beq_self_eq_true,g2,aq,ar,bo,cF]<;>try refine ah ?_ ?_)
end Go.Mini
