/- A part of the proof. -/
import Derived.KernelRfl
import Derived.Test.YtplehnijfhgclaaGreatDoorRows
import Derived.Test.YtplehnijfhgclaaGreatDoorM04
set_option linter.unusedSimpArgs false
set_option linter.unusedVariables false
set_option linter.defProp false
set_option maxRecDepth 100000
set_option maxHeartbeats 4000000
noncomputable section
open Bool renaming and_eq_true->dH,and_false->h2,and_self->FJ,eq_iff_iff->FE,false_and->e1,false_eq_true->df,false_or->l2,not_eq_false->JG,not_eq_true'->na,not_false->dY,not_true->dT,or_eq_true->sF,or_false->oG,or_self->Pg,or_true->pF,true_and->gy,true_or->m0
open Classical renaming byContradiction->KB,propDecidable->O1
open Decidable renaming em->eC
open Int renaming mul_ne_zero->wi,natAbs_eq->agB,natAbs_mul->k1,natAbs_natCast->ih,natAbs_neg->xY,sign_nonneg_iff->agH,zero_mul->xX
open List renaming all_eq_true->jO,any_eq_false->s6,append_assoc->hh,append_of_mem->agf,cons_append->lE,drop_eq_getElem_cons->fY,drop_eq_nil_of_le->lq,ext_getElem?->tB,findIdx_getElem->afq,getD_eq_getElem?_getD->eF,getElem?_cons_zero->G4,getElem?_eq_getElem->bB,getElem?_eq_none->mO,getElem?_eq_some_iff->dn,getElem?_map->bG,getElem?_range->q9,getElem?_replicate->agM,getElem?_set->lO,getElem_drop->EB,getElem_mem->kT,length->D,length_cons->jG,length_drop->rq,length_map->az,length_nil->lD,length_replicate->nJ,length_set->fN,map_append->pU,map_congr_left->GW,map_cons->hv,map_map->rj,map_nil->cl,map_set->BK,mem_append->hs,mem_cons->ia,mem_cons_of_mem->td,mem_cons_self->kV,mem_iff_getElem?->sG,mem_map->h3,mem_map_of_mem->Wm,mem_of_getElem?->du,mem_or_eq_of_mem_set->n8,mem_range->qo,nil_append->jR,not_mem_nil->J9,range->je,replicate->cK,set_cons_succ->EK,set_cons_zero->wu,take_add_one->jj,take_of_length_le->dz,zipWith->VB,zipWith_cons_cons->afm,zip_cons_cons->afl
open List.cons renaming injEq->bs
open Nat renaming add_comm->An,add_zero->kv,eq_zero_or_pos->iK,le_mul_of_pos_right->yQ,le_of_ble_eq_true->qM,le_of_eq->wX,le_of_lt->zv,le_refl->bM,le_trans->cN,lt_irrefl->Ws,lt_of_lt_of_le->u9,lt_or_ge->fE,mul_add->PA,mul_assoc->FY,mul_comm->pH,mul_le_mul->gq,mul_le_mul_left->H6,mul_le_mul_right->mP,mul_left_comm->afv,mul_one->dE,mul_pos->FX,one_le_two_pow->PE,one_mul->tk,one_pos->Pz,pow_add->jF,pow_le_pow_right->jU,pow_lt_pow_right->afw,pow_succ->rv,sub_self->lW,succ_mul->tz,zero_add->lr,zero_le->eL
open Option renaming map_some->kx
open Option.some renaming inj->mT,injEq->bH
open Prod renaming ext->cy,ext_iff->HJ
open Prod.mk renaming injEq->ei
open Rat renaming add_zero->O4,den_pos->agQ,divInt->jW,divInt_eq_div->O8,div_mul_cancel->Wc,intCast_add->Wk,intCast_eq_zero_iff->Ke,intCast_le_intCast->ag2,intCast_mul->j1,intCast_natCast->nS,intCast_sub->VH,le_of_lt->FU,le_refl->yC,le_trans->Px,mul_add->agx,mul_comm->F1,mul_eq_zero->Kh,mul_le_mul_of_nonneg_left->agc,mul_le_mul_of_nonneg_right->Pw,mul_lt_mul_of_pos_left->agd,mul_nonneg->wV,mul_zero->FK,natCast_eq_zero_iff->agw,natCast_mul->F4,neg_num->afy,num_divInt_den->ud,one_mul->Kd,sub_eq_add_neg->Iq,zero_add->KE,zero_den->af7,zero_mul->Vz,zero_num->af8
namespace Go.Mini
open Go
def ae2:bQ:=b9 16 1 [.t 2] (Y [cS 1 417001 0,cI 2 false] (Y [aX 3 0 1,aR 4 1 3,aO 5 (.call LN [.t 4,.c (bh 4),.c (bh 1)]),F 6 5,mD 7 6 1 1,kD 8 6 1 7,fx 9 6 (.call LN [.t 8,.c (bh 4),.c (bh 1)]),gb 10 6 9,F 11 10,mD 12 11 2 1,kD 13 11 1 12,fx 14 11 (.call RA [.t 13]),gb 15 11 14,F 2 15] .ret))
def ae3:bQ:=b9 24 1 [.t 2] (Y [cI 2 false] (.seq (Y [bz 3 0] (eW 0 (.seq (Y [F 4 3,F 5 0,ch 6 5,bE 7 .lss 4 6,F 8 7,ey 9 8 3,ka 10 8 .leq 9 10,gb 11 8 10] (en 11 0)) (.seq (.block 1 (Y [F 14 0,F 15 3,bZ 16 6 14 15,aX 17 2 16,bd 18 4 17,aO 19 (.call A3 [.t 18,.c (bh 1)]),fj 20 19] (cn 20 [cI 2 false]))) (.ops [F 12 3,bt 13 .add 12 1,F 3 13]))))) (Y [F 21 0,ch 22 21,bt 23 .leq 22 10,F 2 23] .ret)))
def ae4:bQ:=b9 62 4 [.cell 8 4 true,.t 9] (Y [cS 4 419004 0,cC 8 419008 dU,cI 9 false] (Y [bd 16 4 4,cC 10 419010 dU,bo 4 10 16] (.seq (Y [bz 11 0] (eW 0 (.seq (Y [F 17 11,F 18 1,ch 19 18,bE 20 .lss 17 19] (en 20 0)) (.seq (.block 1 (.seq (Y [F 23 1,F 24 11,bZ 25 6 23 24,aX 26 1 25,aR 27 1 26,F 28 3,bE 29 .neq 27 28] (fT 29 (.exit 1) .skip)) (fk [F 31 1,F 32 11,bZ 33 6 31 32,aX 34 2 33,bd 35 4 34,F 36 2,F 37 1,F 38 11,bZ 39 6 37 38,aX 40 0 39,aR 41 1 40,bZ 42 4 36 41,bd 43 4 42,bV 44 Rp 35 43,F 30 44,bb 45 0 30,bb 46 1 30,cC 12 419012 dU,bo 4 12 45,F 13 46] [[],[],[],[],[],[],[],[],[],[],[],[],[],[],[],[],[],[4,10,12],[],[]] (Y [bd 48 4 10,bd 49 4 12,bV 50 Rq 48 49,F 47 50,bb 51 0 47,bb 52 1 47,cC 14 419014 dU,bo 4 14 51,F 15 52] (.seq (Y [F 53 13,bt 54 .neq 53 0,F 55 54,gf 56 55 15,hA 57 55 .neq 56 0,dk 58 55 57] (cn 58 [aO 59 (.build dU []),bo 4 8 59,cI 9 false])) (.ops [bd 60 4 14,bo 4 10 60])))))) (.ops [F 21 11,bt 22 .add 21 1,F 11 22]))))) (Y [bd 61 4 10,bo 4 8 61,cI 9 true] .ret))))
def ae5:bQ:=b9 11 1 [.t 2] (Y [cS 1 422001 0,cI 2 false] (Y [bd 3 4 1,dv 4 xH 3,F 5 4,mD 6 5 0 1,mD 7 5 0 6,kD 8 5 1 7,ka 9 5 .geq 8 0,gb 10 5 9,F 2 10] .ret))
def ae6:bQ:=b9 27 2 [.t 4] (Y [cI 4 false] (.seq (Y [F 6 0,ch 7 6,F 8 1,ch 9 8,bE 10 .neq 7 9] (cn 10 [cI 4 false])) (.seq (Y [bz 5 0] (eW 0 (.seq (Y [F 11 5,F 12 0,ch 13 12,bE 14 .lss 11 13] (en 14 0)) (.seq (.block 1 (fk [F 17 0,F 18 5,bZ 19 5 17 18,bd 20 5 19,F 21 1,F 22 5,bZ 23 5 21 22,bd 24 5 23,bV 25 LZ 20 24,fj 26 25] HF (cn 26 [cI 4 false]))) (.ops [F 15 5,bt 16 .add 15 1,F 5 16]))))) (Y [cI 4 true] .ret))))
def ae7:bQ:=b9 53 2 [.t 4] (Y [cI 4 false] (.seq (Y [F 7 0,ch 8 7,F 9 1,ch 10 9,bE 11 .neq 8 10] (cn 11 [cI 4 false])) (.seq (Y [bz 5 0] (eW 0 (.seq (Y [F 12 5,F 13 0,ch 14 13,bE 15 .lss 12 14] (en 15 0)) (.seq (.block 1 (.seq (fk [F 18 0,F 19 5,bZ 20 1 18 19,aR 21 1 20,ch 22 21,F 23 1,F 24 5,bZ 25 1 23 24,aR 26 1 25,ch 27 26,bE 28 .neq 22 27] L3 (cn 28 [cI 4 false])) (Y [bz 6 0] (eW 2 (.seq (Y [F 29 6,F 30 0,F 31 5,bZ 32 1 30 31,aR 33 1 32,ch 34 33,bE 35 .lss 29 34] (en 35 2)) (.seq (.block 3 (fk [F 38 0,F 39 5,bZ 40 1 38 39,aR 41 1 40,F 42 6,bZ 43 1 41 42,aR 44 1 43,F 45 1,F 46 5,bZ 47 1 45 46,aR 48 1 47,F 49 6,bZ 50 1 48 49,aR 51 1 50,bE 52 .neq 44 51] akv (cn 52 [cI 4 false]))) (.ops [F 36 6,bt 37 .add 36 1,F 6 37]))))))) (.ops [F 16 5,bt 17 .add 16 1,F 5 17]))))) (Y [cI 4 true] .ret))))
def OQ:=b1 k5 λ(s,l,s2,ab)=>cu (D l<=1000000/\D ab<=1000000) (.same (.bool (fP ((s,l),(s2,ab)))))
@[go_sem] def aAP (s l s2 ab):=cL OQ rfl ug (s,l,s2,ab) rfl
def arM (T:bl)(pc:T xH=aT FI):WF T ae5 OQ:=by
 refine cq λ(s,l,s2,ab)=>cR λZ=>⟨rfl,cr ?_⟩;simp only[ae5,k5,b8];obtain⟨br,bq⟩:=Z;unfold fP;rcases M:cU ((s,l),(s2,ab))
 ·refine an ?_;repeat' (intro h<;>simp only[h,go_sem,go_sem_proc,pc,br,bq,M]<;>try refine aj ?_ ?_)
 ·refine an ?_;repeat' (intro h<;>simp only[h,go_sem,go_sem_proc,pc,br,bq,M]<;>try refine aj ?_ ?_)
def uT (ls:List b0):Bool:=decide ((D ls:Int)<=10)&&ls.all λl=>ng l.2.2 1
abbrev OR:List b0->List Data:=λ(ls:List b0)=>[.ay (ls.map hl)]
def OS:=b1 OR λ(ls:List b0)=>some (.same (.bool (uT ls)))
def arN:∀a b,OR a=OR b->a=b:=by
  intro BU BV h;simp only[bs,Data.ay.injEq] at h;exact map_inj yf _ _ h.1
@[go_sem] def aAQ (ls):=tS OS rfl arN ls rfl
def arO (T:bl)(gU:T A3=aT FH):WF T ae3 OS:=by
 refine cq λls=>⟨rfl,cr ?_⟩;simp only[ae3,OR,b8];simp only[go_sem,go_sem_proc,gU,az];refine dM [0] [] (λ(i:Nat) tm mem=>i<=D ls/\(ls.take i).all (λl=>ng l.2.2 1)=true/\tm 3=.L (.int .i64 i)) (λi=>D ls-i) 0 (by refine⟨eL _,by simp,rfl⟩) ?_;intro vs ms a7 aY;simp only[go_sem,go_sem_proc,gU,az] at a7 aY;subst a7 aY;rintro i tm mem Q hm ⟨O,ao,ad⟩;simp only[go_sem,go_sem_proc,gU,bs] at Q;have al:=Q
 by_cases bk:i<D ls/\(i:Int)<=10
 ·obtain⟨au,ga⟩:=bk;obtain⟨⟨f,t,⟨a,b⟩,⟨c,e⟩⟩,J⟩:∃f,ls[i]?=some f:=⟨_,bB au⟩;have d1:decide ((i:Int)<(D ls:Int))=true:=dW;have d2:decide ((i:Int)<=10)=true:=lU ga;have cW:=h4 (i:=i) (by omega);rcases uS:ng ((a,b),(c,e)) 1
  ·have M:uT ls=false:=by unfold uT;rw[ae1 J uS,h2]
   rw[M];refine an ?_;repeat' (intro h<;>simp only[h,go_sem,go_sem_proc,gU,al,ad,J,d1,d2,cW,uS,hl,aS,az,bG]<;>try refine aj ?_ ?_)
  ·refine an ?_;repeat' (intro h<;>simp only[h,go_sem,go_sem_proc,gU,al,ad,J,d1,d2,cW,uS,hl,aS,az,bG]<;>try refine aj ?_ ?_)
   exact⟨i+1,by omega,by omega,by rw[ae0 J,ao,uS];rfl,rfl⟩
 ·have M:uT ls=decide ((D ls:Int)<=10):=by
   unfold uT
   by_cases Vj:(D ls:Int)<=10
   ·have:i=D ls:=by omega
    rw[this,List.take_length] at ao;rw[ao,Bool.and_true]
   ·rw[j2 Vj,e1]
  rw[M];rcases d1:decide ((i:Int)<(D ls:Int))
  ·refine an ?_;repeat' (intro h<;>simp only[h,go_sem,go_sem_proc,gU,al,ad,d1,az]<;>try refine aj ?_ ?_)
  ·have d2:decide ((i:Int)<=10)=false:=j2 (by have:=of_decide_eq_true d1;omega);refine an ?_;repeat' (intro h<;>simp only[h,go_sem,go_sem_proc,gU,al,ad,d1,d2,az]<;>try refine aj ?_ ?_)
def yv (cap base:List aJ)(ls:List b0):Bool:=p2 cap 4 1&&(p2 base 4 1&&uT ls)
def OT:=b1 zW λ(cap,base,ls)=>some (.same (.bool (yv cap base ls)))
@[go_sem] def arP (cap base ls):=tS OT rfl TN (cap,base,ls) rfl
def arQ (T:bl)(Vk:T LN=aT OO)(Vl:T RA=aT OS):WF T ae2 OT:=by
 refine cq λ(cap,base,ls)=>⟨rfl,cr ?_⟩;simp only[ae2,zW,b8];have aK:(4:Int)<=1000000:=by decide
 unfold yv;rcases aL:p2 cap 4 1
 ·refine an ?_;repeat' (intro h<;>simp only[h,go_sem,go_sem_proc,Vk,Vl,aK,aL]<;>try refine aj ?_ ?_)
 ·rcases ax:p2 base 4 1
  ·refine an ?_;repeat' (intro h<;>simp only[h,go_sem,go_sem_proc,Vk,Vl,aK,aL,ax]<;>try refine aj ?_ ?_)
  ·refine an ?_;repeat' (intro h<;>simp only[h,go_sem,go_sem_proc,Vk,Vl,aK,aL,ax]<;>try refine aj ?_ ?_)
def yw (x:List aJ)(to:Int):List b0->aJ->aJ×Bool
 | [],f=>(f,true)
 |l::r,f=>if (l.2.1==to)=true then (if (tg x l (f,true)).2=true then yw x to r (tg x l (f,true)).1 else (bK,false)) else yw x to r f
def wP (base:aJ)(ls:List b0)(x:List aJ)(to:Int):aJ×Bool:=yw x to ls base
def ae8 (x:List aJ)(to:Int):∀(ls:List b0) (f:aJ),o7 x to ls (f,false)=(f,false)
 | [],_=>rfl
 |l::r,f=>by
  unfold o7;simp only[h2,df,if_false];exact ae8 x to r f
def Vm (x:List aJ)(to:Int):∀(ls:List b0) (f:aJ),yw x to ls f=if (o7 x to ls (f,true)).2=true then o7 x to ls (f,true) else (bK,false)
 | [],f=>rfl
 |l::r,f=>by
  unfold yw o7;rcases h:(l.2.1==to)
  ·simp only[e1,df,if_false];exact Vm x to r f
  ·simp only[FJ,if_true];rcases R:tg x l (f,true) with ⟨g,b⟩;rcases b
   ·simp only[df,if_false,ae8]
   ·simp only[if_true];exact Vm x to r g
def ae9 (base:aJ)(ls:List b0)(x:List aJ)(to:Int):wP base ls x to=if (og base ls x to).2=true then og base ls x to else (bK,false):=Vm x to ls base
def JZ:=b1 Fj λ(s,l,s2,ab,ls,x,to)=>cu (adM ((s,l),(s2,ab)) ls x to) (.same (.de [.agg (aS (wP ((s,l),(s2,ab)) ls x to).1),.bool (wP ((s,l),(s2,ab)) ls x to).2]))
@[go_sem] def arR (s l s2 ab ls x to):=cL JZ rfl adO (s,l,s2,ab,ls,x,to) rfl
def arS (T:bl)(Ad:T Rp=aT OM)(Ae:T Rq=aT OL):WF T ae4 JZ:=by
 refine cq λ(s,l,s2,ab,ls,x,to)=>cR λZ=>⟨rfl,cr ?_⟩;simp only[ae4,Fj,b8];obtain⟨aZ,⟨Fk,fZ⟩,J,ga⟩:=Z;unfold wP;simp only[go_sem,go_sem_proc,Ad,Ae,az]
 refine dM [1,2,3,8,10] [419004,419008] (λ((i,f):Nat×aJ) tm m=>i<=D ls/\okF f/\yw x to ls ((s,l),(s2,ab))=yw x to (ls.drop i) f/\tm 11=.L (.int .i64 i)/\m 419010=some (0,lP f)) (λ(i,_)=>D ls-i) (0,((s,l),(s2,ab))) (by
  refine⟨eL _,aZ,rfl,rfl,?_⟩
  ·simp[aV,lP]) ?_
 intro vs ms a7 aY;simp only[go_sem,go_sem_proc,Ad,Ae,az] at a7 aY;subst a7 aY;rintro⟨i,f⟩ tm m Q hm ⟨O,ao,bk,nx,nf⟩;simp only[go_sem,go_sem_proc,Ad,Ae,bs] at Q hm;obtain⟨cP,e0,c9,eH,l7⟩:=Q;obtain⟨h5,lN⟩:=hm;rcases eC (i<D ls) with au|bO
 ·obtain⟨⟨a,c,⟨w1,gi⟩,⟨cW,h9⟩⟩,fv⟩:∃l,ls[i]?=some l:=⟨_,bB au⟩;have uK:=fZ _ (du fv);have x9:=ga _ (du fv);dsimp only at uK x9
  have oS:ls.drop i=(a,c,((w1,gi),(cW,h9)))::ls.drop (i+1):=by
   obtain⟨af,e⟩:=dn.1 fv;rw[fY af,e]
  rw[oS] at bk;replace bk:=bk.trans (yw.eq_2 ..);dsimp only at bk;have d1:decide ((i:Int)<(D ls:Int))=true:=dW;have r8:=h4 (i:=i) (by omega);rcases kM:(c==to)
  ·rw[kM] at bk;simp only[df,if_false] at bk;refine an ?_;repeat' (intro h<;>simp only[h,go_sem,go_sem_proc,Ad,Ae,cP,e0,c9,eH,l7,nx,h5,lN,nf,fv,d1,r8,kM,hl,aS,az,bG,bne,dY]<;>try refine aj ?_ ?_)
   exact⟨(i+1,f),by dsimp only;omega,by dsimp only;omega,ao,bk,rfl,rfl⟩
  ·rw[kM] at bk;simp only[if_true] at bk;have Js:c=to:=by simpa using kM
   obtain⟨Jt,hb⟩:=x9 Js;obtain⟨j,rfl⟩:=Int.eq_ofNat_of_zero_le Jt;have aa:j<D x:=by omega
   obtain⟨⟨⟨e9,fy⟩,⟨g6,iR⟩⟩,nN⟩:∃f,x[j]?=some f:=⟨_,bB aa⟩;have km:=J.2 _ (du nN);have ra:x.getD j bK=((e9,fy),(g6,iR)):=by rw[eF,nN];rfl
   unfold tg at bk;dsimp only at bk;rw[Int.toNat_natCast,ra] at bk;obtain⟨⟨f1,f2⟩,⟨f3,f4⟩⟩:=f;obtain⟨ER,OU⟩:=ao;obtain⟨kf,fI⟩:=uK;obtain⟨gn,g5⟩:=km;have tb:=Tb ((w1,gi),(cW,h9)) ((e9,fy),(g6,iR));generalize h6:jq ((w1,gi),(cW,h9)) ((e9,fy),(g6,iR))=a4 at *;obtain⟨⟨⟨j7,hp⟩,⟨yb,EJ⟩⟩,aL⟩:=a4;dsimp only at tb bk ER OU kf fI gn g5;have uz:=IC ((f1,f2),(f3,f4)) ((j7,hp),(yb,EJ));generalize cm:iC ((f1,f2),(f3,f4)) ((j7,hp),(yb,EJ))=S at *;obtain⟨⟨⟨v1,v2⟩,⟨hr,v4⟩⟩,ax⟩:=S;dsimp only at bk uz;obtain⟨n5,v5⟩:=tb;dsimp only at n5 v5;simp only[lP] at nf;simp only[gy] at bk;rcases tl:(aL==0)
   ·rw[tl] at bk;simp only[e1,df,if_false] at bk;rw[bk];refine an ?_;repeat' (intro h<;>simp only[h,go_sem,go_sem_proc,Ad,Ae,cP,e0,c9,eH,l7,nx,h5,lN,nf,fv,nN,d1,r8,kM,h6,cm,ER,OU,kf,fI,gn,g5,n5,v5,tl,hl,dx,aS,bK,cl,az,bG,bne,dT,dY]<;>try refine aj ?_ ?_)
   ·rw[tl] at bk;rcases dF:(ax==0)
    ·rw[dF] at bk;simp only[h2,df,if_false] at bk;rw[bk];refine an ?_;repeat' (intro h<;>simp only[h,go_sem,go_sem_proc,Ad,Ae,cP,e0,c9,eH,l7,nx,h5,lN,nf,fv,nN,d1,r8,kM,h6,cm,ER,OU,kf,fI,gn,g5,n5,v5,tl,dF,hl,dx,aS,bK,cl,az,bG,bne,dT,dY]<;>try refine aj ?_ ?_)
    ·rw[dF] at bk;simp only[FJ,if_true] at bk;refine an ?_;repeat' (intro h<;>simp only[h,go_sem,go_sem_proc,Ad,Ae,cP,e0,c9,eH,l7,nx,h5,lN,nf,fv,nN,d1,r8,kM,h6,cm,ER,OU,kf,fI,gn,g5,n5,v5,tl,dF,hl,dx,aS,az,bG,bne,dT,dY]<;>try refine aj ?_ ?_)
     exact⟨(i+1,((v1,v2),(hr,v4))),by dsimp only;omega,by dsimp only;omega,uz,bk,rfl,rfl⟩
 ·have d1:decide ((i:Int)<(D ls:Int))=false:=ef;have jn:ls.drop i=[]:=lq (by omega);rw[jn] at bk;replace bk:=bk.trans (yw.eq_1 ..);rw[bk];obtain⟨⟨f1,f2⟩,⟨f3,f4⟩⟩:=f;simp only[lP] at nf;refine an ?_;repeat' (intro h<;>simp only[h,go_sem,go_sem_proc,Ad,Ae,cP,e0,c9,eH,l7,nx,h5,lN,nf,d1,aS,az]<;>try refine aj ?_ ?_)
def J0 (a:List (List Nat)):Prop:=D a<=1000000/\∀x∈a,D x<=1000000
def afa:∀a b:List Nat,jE a=jE b->a=b:=λa b h=>by
 simp only[jE,bs,Data.ay.injEq,and_true] at h;exact map_inj (λx y h=>by simp only[kK,bs,Data.int.injEq,true_and,and_true] at h;omega) _ _ h
abbrev OV:(List (List Nat))×(List (List Nat))->List Data:=λ(a,b)=>[.ay (a.map jE),.ay (b.map jE)]
def OW:=b1 OV λ(a,b)=>cu (J0 a/\J0 b) (.same (.bool (a==b)))
def arT:∀a b,OV a=OV b->a=b:=by
  rintro⟨cz,cQ⟩ ⟨dj,dO⟩ h;simp only[bs,Data.ay.injEq,and_true] at h;exact cy (map_inj afa _ _ h.1) (map_inj afa _ _ h.2)
@[go_sem] def arU (a b):=cL OW rfl arT (a,b) rfl
def arV (T:bl):WF T ae7 OW:=by
 refine cq λ(a,b)=>cR λZ=>⟨rfl,cr ?_⟩;simp only[ae7,OV,b8];obtain⟨⟨aAR,arW⟩,⟨aAS,aAT⟩⟩:=Z;rcases af:((D a:Int)==(D b:Int))
 ·have om:(a==b)=false:=by rw[beq_eq_false_iff_ne];rintro rfl;simp at af
  rw[om];refine an ?_;repeat' (intro h<;>simp only[h,go_sem,go_sem_proc,af,az,bne,dY]<;>try refine aj ?_ ?_)
 ·have hle:(D a)=D b:=by have:=eq_of_beq af;omega
  simp only[go_sem,go_sem_proc,af,az,bne,dT];refine dM [0,1] [] (λ(i:Nat) tm mem=>i<=D a/\a.take i=b.take i/\tm 5=.L (.int .i64 i)) (λi=>D a-i) 0 (by refine⟨eL _,by simp,rfl⟩) ?_;intro vs ms a7 aY;simp only[go_sem,go_sem_proc,az] at a7 aY;subst a7 aY;rintro i tm mem Q hm ⟨O,dQ,qH⟩;simp only[go_sem,go_sem_proc,bs] at Q hm;obtain⟨fF,aL⟩:=Q;rcases eC (i<D a) with au|bO
  ·have d1:decide ((i:Int)<(D a:Int))=true:=dW;have cW:=h4 (i:=i) (by omega);obtain⟨x,J⟩:∃x,a[i]?=some x:=⟨_,bB au⟩;obtain⟨y,ag⟩:∃x,b[i]?=some x:=⟨_,bB (by omega)⟩;have aAU:=arW x (du J);rcases q:((D x:Int)==(D y:Int))
   ·have om:(a==b)=false:=by rw[beq_eq_false_iff_ne];rintro rfl;rw[J] at ag;cases ag;simp at q
    rw[om];refine an ?_;repeat' (intro h<;>simp only[h,go_sem,go_sem_proc,fF,aL,qH,J,ag,d1,q,jE,az,bG,bne,dY]<;>try refine aj ?_ ?_)
   ·have ky:(D x)=D y:=by have:=eq_of_beq q;omega
    simp only[go_sem,go_sem_proc,fF,aL,qH,J,ag,d1,q,jE,az,bG,bne,dT];refine dM [0,1,5] [] (λ(k:Nat) tm mem=>k<=D x/\x.take k=y.take k/\tm 6=.L (.int .i64 k)) (λk=>D x-k) 0 (by refine⟨eL _,by simp,rfl⟩) ?_;intro vs ms a7 aY;simp only[go_sem,go_sem_proc,fF,aL,qH] at a7 aY;subst a7 aY;clear fF aL qH hm tm mem;rintro k tm mem Q hm ⟨vx,Vn,Ac⟩;simp only[go_sem,go_sem_proc,bs] at Q hm;obtain⟨fF,aL,qH⟩:=Q;rcases eC (k<D x) with Cj|aAV
    ·have d2:decide ((k:Int)<(D x:Int))=true:=dW;have h9:=h4 (i:=k) (by omega);obtain⟨u,hu⟩:∃u,x[k]?=some u:=⟨_,bB Cj⟩;obtain⟨v,ai⟩:∃u,y[k]?=some u:=⟨_,bB (by omega)⟩;rcases mj:((u:Int)==(v:Int))
     ·have om:(a==b)=false:=by
       rw[beq_eq_false_iff_ne];rintro rfl;rw[J] at ag
       cases ag;rw[hu] at ai
       cases ai;simp at mj
      rw[om];refine an ?_;repeat' (intro h<;>simp only[h,go_sem,go_sem_proc,fF,aL,qH,Ac,J,ag,hu,ai,d2,mj,jE,kK,az,bG,bne,dY]<;>try refine aj ?_ ?_)
     ·have arX:u=v:=by have:=eq_of_beq mj;omega
      refine an ?_;repeat' (intro h<;>simp only[h,go_sem,go_sem_proc,fF,aL,qH,Ac,J,ag,hu,ai,d2,h9,mj,jE,kK,az,bG,bne,dT]<;>try refine aj ?_ ?_)
      exact⟨k+1,by omega,by omega,by rw[jj,jj,Vn,hu,ai,arX],rfl⟩
    ·have d2:decide ((k:Int)<(D x:Int))=false:=ef;rw[dz (by omega),dz (by omega)] at Vn;refine an ?_;repeat' (intro h<;>simp only[h,go_sem,go_sem_proc,fF,aL,qH,Ac,J,d2,cW,jE,az,bG]<;>try refine aj ?_ ?_)
     exact⟨i+1,by omega,by omega,by rw[jj,jj,dQ,J,ag,Vn],rfl⟩
  ·have d1:decide ((i:Int)<(D a:Int))=false:=ef;rw[dz (by omega),dz (by omega)] at dQ;have om:(a==b)=true:=by rw[dQ];exact beq_self_eq_true _
   rw[om];refine an ?_;repeat' (intro h<;>simp only[h,go_sem,go_sem_proc,fF,aL,qH,d1,az]<;>try refine aj ?_ ?_)


def arY {base:aJ}{ls:List b0}{x:List aJ}{to:Int}(h:(og base ls x to).2=true):wP base ls x to=og base ls x to:=by
 rw[ae9,h]
 rfl


section
variable {α:Type} {op:α->aJ×Int} {e:α->aJ}
end
def Vo (N:Nat)(rows:List ej):Prop:=D rows=N/\∀x∈rows,x.1.length=N/\ui x
def Vo.set {N:Nat}{rows:List ej}(h:Vo N rows){i:Nat}{x:ej}(J:x.1.length=N/\ui x):Vo N (rows.set i x):=by
 refine⟨by rw[fN];exact h.1,λy ag=>?_⟩
 rcases n8 ag with ag|rfl
 ·exact h.2 y ag
 ·exact J




def Vp (r:ej):List aJ:=r.1++[r.2]
def Af (X:List cV)(bS:List ej):Prop:=X.map (·.2.2)=bS.map Vp
def Af.len {X:List cV}{bS:List ej}(h:Af X bS):(D X)=D bS:=by
 have:=congrArg D h
 simpa using this
def Af.at_ {X:List cV}{bS:List ej}(h:Af X bS){i:Nat}{x:cV}{r:ej}(J:X[i]?=some x)(M:bS[i]?=some r):x.2.2=Vp r:=by
 have:=congrArg (λl:List (List aJ)=>l[i]?) h;simp only[bG,J,M,kx,bH] at this;exact this
def Af.set {X:List cV}{bS:List ej}(h:Af X bS){i:Nat}{x:cV}{r:ej}(nH:x.2.2=Vp r):Af (X.set i x) (bS.set i r):=by
 unfold Af at h ⊢;rw[BK,BK,h,nH]


def afb {l:List Bool}{i j:Nat}(h:i<D l)(b:Bool):(l.set i b).getD j false=if i=j then b else l.getD j false:=by
 rw[eF,eF,lO]
 split
 ·rename_i e;subst e
  first|rfl|(rw[aq h];rfl)
 ·rfl
def CB (a b:List Bool):Prop:=∀i,a.getD i false=true->b.getD i false=true
def CB.refl (a:List Bool):CB a a:=λ_ h=>h
def CB.trans {a b c:List Bool}(h:CB a b)(G:CB b c):CB a c:=λi O=>G i (h i O)
section
variable (cap base:List aJ) (ls:List b0)
def Vq (arZ:List Bool)(i:Nat):Prop:=(cap.getD i bK).1.1>0/\((base.getD i bK).1.1>0\/∃l∈ls,l.2.1=(i:Int)/\l.2.2.1.1>0/\arZ.getD l.1.toNat false=true)
end
def Vq.mono {cap base:List aJ}{ls:List b0}{a b:List Bool}{i:Nat}(h:Vq cap base ls a i)(hle:CB a b):Vq cap base ls b i:=⟨h.1,h.2.imp id fun⟨l,E,G,ad,aK⟩=>⟨l,E,G,ad,hle _ aK⟩⟩
def afc {cap base:List aJ}{ls:List b0}(Z:∀f∈cap,okF f)(U:∀f∈base,okF f)(af:(D base)=D cap)(aE:(D cap)<=40):∀(k:Nat) (left:List Bool) (rounds:List (List Nat)),(pb cap base ls k left rounds).2.2=0->(pb cap base ls k left rounds).1.length=D cap
 |0,_,_,h=>by cases h
 |k+1,left,rounds,h=>by
  unfold pb at h ⊢
  split at h
  ·rename_i M;rw[aq M]
   split at h
   ·cases h
   ·exact (UT Z U af aE).2 M
   ·exact afc Z U af aE k _ _ h
  ·cases h
def ar0 {cap base:List aJ}{ls:List b0}(h:yg cap base ls)(he:(iG cap base ls).2.2=0):(iG cap base ls).1.length=D cap:=by
 unfold iG at he ⊢
 split at he
 ·rename_i M;rw[aq M];obtain⟨U,aE,-⟩:=wM M;exact afc h.1.2 h.2.1.2 U aE _ _ _ he
 ·cases he
def wQ:bQ:=b9 282 3 [.t 6] (Y [cS 3 408003 0,cS 5 408005 2,cI 6 false] (Y [aO 29 (.call Ry []),F 7 29] (.seq (Y [bd 30 3 3,dv 31 Rz 30,fj 32 31,F 33 32,hz 34 33 4 5,gz 35 33 (.call A3 [.t 34,.c (bh 1)]),j9 36 33 35,dk 37 33 36] (cn 37 [F 38 7,F 6 38])) (Y [bd 40 3 3,dv 41 ze 40,F 39 41,bb 42 0 39,bb 43 1 39,bb 44 2 39,F 8 42,F 9 43,F 10 44] (.seq (Y [F 45 10,bt 46 .neq 45 0] (cn 46 [F 47 7,F 6 47])) (Y [aX 48 0 3,aR 49 1 48,ch 50 49,F 11 50] (Y [F 51 11,aO 52 (.ll 408052 [.L (.bool false)] 1 (.t 51) (.t 51)),F 12 52] (.seq (Y [bz 13 0] (eW 0 (.seq (Y [F 53 13,F 54 9,ch 55 54,bE 56 .lss 53 55] (en 56 0)) (.seq (.block 1 (.seq (Y [F 59 9,F 60 13,bZ 61 1 59 60,aR 62 1 61,ch 63 62,bt 64 .eql 63 0] (cn 64 [cI 6 false])) (Y [bz 14 0] (eW 2 (.seq (Y [F 65 14,F 66 9,F 67 13,bZ 68 1 66 67,aR 69 1 68,ch 70 69,bE 71 .lss 65 70] (en 71 2)) (.seq (.block 3 (Y [F 74 9,F 75 13,bZ 76 1 74 75,aR 77 1 76,F 78 14,bZ 79 1 77 78,aR 80 1 79,F 15 80] (.seq (Y [F 81 15,bt 82 .lss 81 0,F 83 82,gf 84 83 15,gf 85 83 11,qu 86 83 .geq 84 85,dk 87 83 86,F 88 87,gf 89 88 14,hA 90 88 .gtr 89 0,gf 91 88 90,ey 92 91 9,ey 93 91 13,rD 94 91 1 92 93,kD 95 91 1 94,ey 96 91 14,ka 97 91 .sub 96 1,rD 98 91 1 95 97,kD 99 91 1 98,ey 100 91 15,Bd 101 91 .geq 99 100,gz 102 88 (.pick (.t 91) (.t 101) (.c (.L (.bool false)))),dk 103 88 102] (cn 103 [cI 6 false])) (.seq (Y [F 104 12,F 105 15,bZ 106 1 104 105,aR 107 1 106] (cn 107 [cI 6 false])) (.ops [F 108 12,F 109 15,bZ 110 1 108 109,⟨none,none,.store 1 (.t 110) (.c (.L (.bool true)))⟩]))))) (.ops [F 72 14,bt 73 .add 72 1,F 14 73]))))))) (.ops [F 57 13,bt 58 .add 57 1,F 13 58]))))) (.seq (Y [F 111 8,ch 112 111,F 113 11,bE 114 .neq 112 113] (cn 114 [cI 6 false])) (.seq (Y [bz 16 0] (eW 4 (.seq (Y [F 115 16,F 116 11,bE 117 .lss 115 116] (en 117 4)) (.seq (.block 5 (fk [aX 121 1 3,aR 122 1 121,F 123 16,bZ 124 4 122 123,bd 125 4 124,aX 126 2 3,aR 127 1 126,F 128 8,F 129 16,xJ 130 L0 125 127 128 129,F 120 130,bb 131 0 120,bb 132 1 120,cC 17 408017 dU,bo 4 17 131,F 18 132] [[],[],[],[],[],[],[],[],[],[],[],[],[],[1,4,6],[],[]] (fk [F 133 18,fj 134 133,F 135 134,gf 136 135 12,gf 137 135 16,DO 138 135 1 136 137,gd 139 135 1 138,gf 140 135 139,ey 141 140 8,ey 142 140 16,rD 143 140 4 141 142,zf 144 140 4 143,mD 145 140 0 3,kD 146 140 1 145,ey 147 140 16,rD 148 140 4 146 147,zf 149 140 4 148,fx 150 140 (.call rz [.t 144,.t 149]),ka 151 140 .geq 150 0,ey 152 140 151,gf 153 152 8,gf 154 152 16,DO 155 152 4 153 154,hz 156 152 4 155,hz 157 152 4 17,gz 158 152 (.call rz [.t 156,.t 157]),hA 159 152 .neq 158 0,fx 160 140 (.pick (.t 152) (.c (.L (.bool true))) (.t 159)),gz 161 135 (.pick (.t 140) (.t 160) (.c (.L (.bool false)))),dk 162 135 161,F 163 162,gf 164 163 12,gf 165 163 16,DO 166 163 1 164 165,gd 167 163 1 166,j9 168 163 167,gf 169 163 168,ey 170 169 8,ey 171 169 16,rD 172 169 4 170 171,zf 173 169 4 172,mD 174 169 0 3,kD 175 169 1 174,ey 176 169 16,rD 177 169 4 175 176,zf 178 169 4 177,fx 179 169 (.call rz [.t 173,.t 178]),ka 180 169 .neq 179 0,ey 181 169 180,hz 182 181 4 17,gP 183 181 0 3,gd 184 181 1 183,gf 185 181 16,DO 186 181 4 184 185,hz 187 181 4 186,gz 188 181 (.call rz [.t 182,.t 187]),hA 189 181 .lss 188 0,fx 190 169 (.pick (.t 181) (.c (.L (.bool true))) (.t 189)),gz 191 163 (.pick (.t 169) (.t 190) (.c (.L (.bool false)))),dk 192 163 191] [[],[],[],[],[],[],[],[],[],[],[],[],[],[],[],[],[],[],[],[],[],[],[],[],[],[],[],[],[],[],[],[],[],[],[],[],[],[],[],[],[],[],[],[],[],[],[],[],[],[],[],[],[],[],[],[],[],[],[],[]] (cn 192 [cI 6 false])))) (.ops [F 118 16,bt 119 .add 118 1,F 16 119]))))) (.seq (Y [F 193 11,bt 194 .eql 193 0,F 195 194,hz 196 195 4 5,gz 197 195 (.call RB [.t 196]),j9 198 195 197,dk 199 195 198] (cn 199 [F 200 7,F 6 200])) (Y [F 201 1,aO 202 (.conv .i64 (.t 201)),F 203 11,bE 204 .rem 202 203,F 19 204] (fk [aO 205 (.eg 408205 true [] 4 0 []),aX 206 0 3,aR 207 1 206,aO 208 (.app 408208 dU 64 (.t 205) (.t 207)),aO 209 (.eg 408209 true [] 4 0 []),aX 210 1 3,aR 211 1 210,aO 212 (.app 408212 dU 64 (.t 209) (.t 211)),aX 213 2 3,aR 214 1 213,aO 215 (.build HE [(0,1,.t 208),(1,1,.t 212),(2,1,.t 214)]),cC 20 408020 HE,bo 3 20 215] [[],[],[0],[],[0,2,3],[],[0,3,4],[],[],[0,3,4,7],[],[0,2,3,4,6,7,9],[]] (fk [aX 217 1 3,aR 218 1 217,F 219 19,bZ 220 4 218 219,bd 221 4 220,bd 222 4 5,bV 223 vH 221 222,F 216 223,bb 224 0 216,bb 225 1 216,cC 21 408021 dU,bo 4 21 224,F 22 225] [[],[],[],[],[],[],[],[],[],[],[1,4,5],[],[]] (fk [aX 227 0 3,aR 228 1 227,F 229 19,bZ 230 4 228 229,bd 231 4 230,bd 232 4 5,bV 233 vH 231 232,F 226 233,bb 234 0 226,bb 235 1 226,cC 23 408023 dU,bo 4 23 234,F 24 235] [[],[],[],[],[],[],[],[],[],[],[1,4,5],[],[]] (.seq (Y [F 236 22,bt 237 .neq 236 0,F 238 237,gf 239 238 24,hA 240 238 .neq 239 0,dk 241 238 240] (cn 241 [cI 6 false])) (Y [aX 242 1 20,aR 243 1 242,F 244 19,bd 245 4 21,bZ 246 4 243 244,bo 4 246 245] (Y [aX 247 0 20,aR 248 1 247,F 249 19,bd 250 4 23,bZ 251 4 248 249,bo 4 251 250] (.seq (.ghost (.F7 (.t 20) 0) (.ghost (.F7 (.t 20) 1) (.ops [bd 253 3 20,dv 254 ze 253,F 252 254,bb 255 0 252,bb 256 1 252,bb 257 2 252,F 25 255,F 26 256,F 27 257]))) (.seq (Y [F 258 27,bt 259 .neq 258 0,F 260 259,gf 261 260 25,rC 262 260 261,gf 263 260 11,qu 264 260 .neq 262 263,dk 265 260 264] (cn 265 [cI 6 false])) (.seq (Y [bz 28 0] (eW 6 (.seq (Y [F 266 28,F 267 11,bE 268 .lss 266 267] (en 268 6)) (.seq (.block 7 (fk [F 271 25,F 272 28,bZ 273 4 271 272,bd 274 4 273,F 275 8,F 276 28,bZ 277 4 275 276,bd 278 4 277,bV 279 rz 274 278,bt 280 .lss 279 0] HF (cn 280 [cI 6 false]))) (.ops [F 269 28,bt 270 .add 269 1,F 28 270]))))) (Y [F 281 7,F 6 281] .ret))))))))))))))))))))))
def afd:bQ:=b9 14 2 [.cell 4 4 true] (Y [cC 4 412004 dU] (Y [F 8 0,F 9 1,bV 10 Ra 8 9,F 7 10,bb 11 0 7,bb 12 1 7,cC 5 412005 dU,bo 4 5 11,F 6 12] (Y [bd 13 4 5,bo 4 4 13] .ret)))
def afe:bQ:=b9 169 0 [.t 0] (Y [cI 0 false] (Y [aO 31 (.call n0 [.c (.L (.str [98,97,115,101,32,43,32,114,97,116,101,32,99,32,47,32,50,32,43,32,114,97,116,101,32,100,32,42,32,51]))]),F 30 31,bb 32 0 30,bb 33 1 30,bb 34 2 30,bb 35 3 30,F 1 32,F 2 33,F 3 34,F 4 35] (Y [aO 37 (.call n0 [.c (.L (.str [49,32,45,32,114,97,116,101,32,99]))]),F 36 37,bb 38 0 36,bb 39 1 36,bb 40 2 36,bb 41 3 36,F 5 38,F 6 39,F 7 40,F 8 41] (Y [aO 43 (.call n0 [.c (.L (.str [114,97,116,101,32,99,32,42,32,114,97,116,101,32,99]))]),F 42 43,bb 44 0 42,bb 45 1 42,bb 46 2 42,bb 47 3 42,F 9 44,F 10 45,F 11 46,F 12 47] (Y [aO 49 (.call n0 [.c (.L (.str [102,97,99,116,32,97,32,45,32,102,97,99,116,32,98,32,43,32,114,97,116,101,32,99]))]),F 48 49,bb 50 0 48,bb 51 1 48,bb 52 2 48,bb 53 3 48,F 13 50,F 14 51,F 15 52,F 16 53] (Y [aO 54 (.call m2 [.c (bh 1),.c (bh 2)]),aO 55 (.build [bh 0,bh 0,bh 0,.nil,bh 0,.nil] [(0,1,.c (bh 0)),(1,1,.c (bh 1)),(2,4,.t 54)]),aO 56 (.call m2 [.c (bh 1),.c (bh 1)]),aO 57 (.build [bh 0,bh 0,bh 0,.nil,bh 0,.nil] [(0,1,.c (bh 1)),(1,1,.c (bh 0)),(2,4,.t 56)]),aO 58 (.eg 413058 false [bh 0,bh 0,bh 0,.nil,bh 0,.nil,bh 0,bh 0,bh 0,.nil,bh 0,.nil] 6 2 [(0,6,.t 55),(6,6,.t 57)]),F 17 58] (Y [aO 59 (.call m2 [.c (bh 1),.c (bh 1)]),aO 60 (.build [bh 0,bh 0,bh 0,.nil,bh 0,.nil] [(0,1,.c (bh 0)),(1,1,.c (bh 1)),(2,4,.t 59)]),aO 61 (.call m2 [.c (bh 1),.c (bh 1)]),aO 62 (.build [bh 0,bh 0,bh 0,.nil,bh 0,.nil] [(0,1,.c (bh 1)),(1,1,.c (bh 0)),(2,4,.t 61)]),aO 63 (.eg 413063 false [bh 0,bh 0,bh 0,.nil,bh 0,.nil,bh 0,bh 0,bh 0,.nil,bh 0,.nil] 6 2 [(0,6,.t 60),(6,6,.t 62)]),F 18 63] (Y [F 65 17,aO 66 (.call LX [.t 65,.c (bh 2)]),F 64 66,bb 67 0 64,bb 68 1 64,bb 69 2 64,F 19 67,F 20 68,F 21 69] (Y [F 71 18,aO 72 (.call LX [.t 71,.c (bh 2)]),F 70 72,bb 73 0 70,bb 74 1 70,bb 75 2 70,F 22 73,F 23 74,F 24 75] (Y [aO 77 (.call m2 [.c (bh 10),.c (bh 1)]),aO 78 (.call m2 [.c (bh 10),.c (bh 1)]),aO 79 (.eg 413079 false [bh 0,.nil,bh 0,.nil,bh 0,.nil,bh 0,.nil] 4 2 [(0,4,.t 77),(4,4,.t 78)]),aO 80 (.call m2 [.c (bh 1),.c (bh 1)]),aO 81 (.call m2 [.c (bh 2),.c (bh 1)]),aO 82 (.eg 413082 false [bh 0,.nil,bh 0,.nil,bh 0,.nil,bh 0,.nil] 4 2 [(0,4,.t 80),(4,4,.t 81)]),F 83 17,aO 84 (.build HE [(0,1,.t 79),(1,1,.t 82),(2,1,.t 83)]),dv 85 ze 84,F 76 85,bb 86 0 76,bb 87 1 76,bb 88 2 76,F 25 86,F 26 87,F 27 88] (Y [F 89 4,bt 90 .eql 89 0,F 91 90,ey 92 91 1,fx 93 91 (.call m2 [.c (bh 1),.c (bh 2)]),fx 94 91 (.call m2 [.c (bh 3),.c (bh 1)]),fx 95 91 (.eg 413095 false [bh 0,.nil,bh 0,.nil,bh 0,.nil,bh 0,.nil] 4 2 [(0,4,.t 93),(4,4,.t 94)]),fx 96 91 (.call A2 [.t 92,.t 95]),gb 97 91 96,F 98 97,ey 99 98 2,fx 100 98 (.call m2 [.c (bh 1),.c (bh 1)]),fx 101 98 (.eg 413101 false dU 4 1 [(0,4,.t 100)]),fx 102 98 (.call A2 [.t 99,.t 101]),gb 103 98 102,F 104 103,ey 105 104 3,fx 106 104 (.build [bh 0,bh 0,bh 0,.L (.str []),.nil] [(0,1,.c (bh 1)),(3,1,.c (.L (.str [98,97,115,101])))]),fx 107 104 (.eg 413107 false [bh 0,bh 0,bh 0,.L (.str []),.nil] 5 1 [(0,5,.t 106)]),fx 108 104 (.call RC [.t 105,.t 107]),gb 109 104 108,F 110 109,ey 111 110 8,ka 112 110 .eql 111 16,gb 113 110 112,F 114 113,ey 115 114 12,ka 116 114 .eql 115 16,gb 117 114 116,F 118 117,ey 119 118 16,ka 120 118 .eql 119 16,gb 121 118 120,F 28 121] (Y [F 122 21,bt 123 .eql 122 0,F 124 123,ey 125 124 19,fx 126 124 (.call m2 [.c (bh 4),.c (bh 1)]),fx 127 124 (.call m2 [.c (bh 3),.c (bh 1)]),fx 128 124 (.eg 413128 false [bh 0,.nil,bh 0,.nil,bh 0,.nil,bh 0,.nil] 4 2 [(0,4,.t 126),(4,4,.t 127)]),fx 129 124 (.call A2 [.t 125,.t 128]),gb 130 124 129,F 131 130,ey 132 131 17,ey 133 131 19,fx 134 131 (.call Ru [.t 132,.c (bh 2),.t 133]),gb 135 131 134,F 136 135,ey 137 136 24,ka 138 136 .eql 137 16,gb 139 136 138,F 140 139,ey 141 140 23,fx 142 140 (.call m2 [.c (bh 1),.c (bh 1)]),fx 143 140 (.call m2 [.c (bh 1),.c (bh 1)]),fx 144 140 (.eg 413144 false [bh 0,.nil,bh 0,.nil,bh 0,.nil,bh 0,.nil] 4 2 [(0,4,.t 142),(4,4,.t 143)]),fx 145 140 (.call A2 [.t 141,.t 144]),gb 146 140 145,F 29 146] (Y [F 147 28,F 148 147,ey 149 148 29,gb 150 148 149,F 151 150,ey 152 151 27,ka 153 151 .eql 152 0,gb 154 151 153,F 155 154,ey 156 155 25,fx 157 155 (.call m2 [.c (bh 6),.c (bh 1)]),fx 158 155 (.call m2 [.c (bh 5),.c (bh 1)]),fx 159 155 (.eg 413159 false [bh 0,.nil,bh 0,.nil,bh 0,.nil,bh 0,.nil] 4 2 [(0,4,.t 157),(4,4,.t 158)]),fx 160 155 (.call A2 [.t 156,.t 159]),gb 161 155 160,F 162 161,ey 163 162 26,fx 164 162 (.eg 413164 false [bh 0] 1 1 [(0,1,.c (bh 1))]),fx 165 162 (.eg 413165 false [bh 0] 1 1 [(0,1,.c (bh 0))]),fx 166 162 (.eg 413166 false [.nil,.nil] 1 2 [(0,1,.t 164),(1,1,.t 165)]),fx 167 162 (.call RD [.t 163,.t 166]),gb 168 162 167,F 0 168] .ret)))))))))))))
def aff:bQ:=b9 60 2 [.t 4] (Y [cS 2 414002 0,cS 3 414003 1,cI 4 false] (.seq (Y [aX 6 0 2,aR 7 1 6,aX 8 0 3,aR 9 1 8,bE 10 .neq 7 9,F 11 10,gP 12 11 1 2,gd 13 11 1 12,gP 14 11 1 3,gd 15 11 1 14,qu 16 11 .neq 13 15,dk 17 11 16,F 18 17,gP 19 18 2 2,gd 20 18 1 19,gP 21 18 2 3,gd 22 18 1 21,qu 23 18 .neq 20 22,dk 24 18 23,F 25 24,gP 26 25 3 2,gd 27 25 1 26,gP 28 25 3 3,gd 29 25 1 28,qu 30 25 .neq 27 29,dk 31 25 30,F 32 31,gP 33 32 4 2,gd 34 32 1 33,rC 35 32 34,gP 36 32 4 3,gd 37 32 1 36,rC 38 32 37,qu 39 32 .neq 35 38,dk 40 32 39] (cn 40 [cI 4 false])) (.seq (Y [bz 5 0] (eW 0 (.seq (Y [F 41 5,aX 42 4 2,aR 43 1 42,ch 44 43,bE 45 .lss 41 44] (en 45 0)) (.seq (.block 1 (fk [aX 48 4 2,aR 49 1 48,F 50 5,bZ 51 5 49 50,bd 52 5 51,aX 53 4 3,aR 54 1 53,F 55 5,bZ 56 5 54 55,bd 57 5 56,bV 58 LZ 52 57,fj 59 58] YO (cn 59 [cI 4 false]))) (.ops [F 46 5,bt 47 .add 46 1,F 5 47]))))) (Y [cI 4 true] .ret))))
def J1:List UInt8:=[98,97,115,101,32,43,32,114,97,116,101,32,99,32,47,32,50,32,43,32,114,97,116,101,32,100,32,42,32,51]
def J2:List UInt8:=[49,32,45,32,114,97,116,101,32,99]
def J3:List UInt8:=[114,97,116,101,32,99,32,42,32,114,97,116,101,32,99]
def J4:List UInt8:=[102,97,99,116,32,97,32,45,32,102,97,99,116,32,98,32,43,32,114,97,116,101,32,99]
def J5:Data:=.de [.ay [[.int .i64 1,.ay [[.int .i64 1]],.int .i64 1,.ay [[.int .i64 2]]],[.int .i64 1,.ay [[.int .i64 3]],.int .i64 1,.ay [[.int .i64 1]]]],.ay [[.int .i64 1,.ay [[.int .i64 1]],.int .i64 1,.ay [[.int .i64 1]]]],.ay [[.int .i64 1,.int .i64 0,.int .i64 0,.str [98,97,115,101],.ay []]],.int .i64 0]
def uU:Data:=.de [.ay [],.ay [],.ay [],.int .i64 16]
open Classical in
def uV:List Data->Option dd:=λds=>if ds=[.str J1] then some (.same J5) else if ds=[.str J2]\/ds=[.str J3]\/ds=[.str J4] then some (.same uU) else none
def ar1:uV [.str J1]=some (.same J5):=by unfold uV;rw[aq rfl]
def ar2:uV [.str J2]=some (.same uU):=by
 unfold uV;rw[ar (λh=>by simp only[bs,Data.str.injEq] at h;exact absurd h.1 (by decide)),aq (.inl rfl)]
def ar3:uV [.str J3]=some (.same uU):=by
 unfold uV;rw[ar (λh=>by simp only[bs,Data.str.injEq] at h;exact absurd h.1 (by decide)),aq (.inr (.inl rfl))]
def ar4:uV [.str J4]=some (.same uU):=by
 unfold uV;rw[ar (λh=>by simp only[bs,Data.str.injEq] at h;exact absurd h.1 (by decide)),aq (.inr (.inr rfl))]
def J6:=b1 vO λ(p,q)=>cu (er p/\er q) (.same (.agg (aS (hB (bu p) (bu q)).1)))
@[go_sem] def ar5 (p q):=cL J6 rfl Mc (p,q) rfl
def ar6 (T:bl)(ar7:T Ra=aT OD):WF T afd J6:=by
 refine cq λ(p,q)=>cR λZ=>⟨rfl,cr ?_⟩;simp only[afd,vO,b8];generalize hN:hB (bu p) (bu q)=N at *;obtain⟨⟨⟨a,b⟩,⟨c,d⟩⟩,e⟩:=N;refine an ?_;repeat' (intro h<;>simp only[h,go_sem,go_sem_proc,ar7,Z,hN,dx,aS]<;>try refine aj ?_ ?_)
abbrev OX:Int×Int×Int×(List UInt8)->List Data:=λ(a,b,c,s)=>[.agg [.int .i64 a,.int .i64 b,.int .i64 c,.str s,.ay []],.agg [.int .i64 a,.int .i64 b,.int .i64 c,.str s,.ay []]]
def OY:=b1 OX λ(a,b,c,s)=>some (.same (.bool true))
def ar8:∀a b,OX a=OX b->a=b:=by
  rintro⟨cz,cQ,bU,s1⟩ ⟨dj,dO,c6,s2⟩ h;simp only[bs,Data.int.injEq,Data.agg.injEq,Data.ay.injEq,Data.bool.injEq,Data.str.injEq,Data.ptr.injEq,Data.de.injEq,ei,true_and,and_true] at h ⊢
  first|exact h|simpa [HJ,and_assoc] using h|grind
@[go_sem] def ar9 (a b c s):=tS OY rfl ar8 (a,b,c,s) rfl
def asa (T:bl):WF T aff OY:=by
 refine cq λ(a,b,c,s)=>⟨rfl,cr ?_⟩;simp only[aff,OX,b8];simp only[go_sem,go_sem_proc,beq_self_eq_true,bne,dT,lD];refine dM [2,3] [414002,414003] (λ(i:Nat) tm mem=>tm 5=.L (.int .i64 0)) (λi=>i) 0 rfl ?_;intro vs ms a7 aY;simp only[go_sem,go_sem_proc] at a7 aY;subst a7 aY;rintro i tm mem Q hm bp;simp only[go_sem,go_sem_proc,bs] at Q hm;obtain⟨e0,c9⟩:=Q;obtain⟨bJ,dD⟩:=hm;refine an ?_;repeat' (intro h<;>simp only[h,go_sem,go_sem_proc,e0,c9,bp,bJ,dD,lD,show decide ((0:Int)<((0:Nat):Int))=false from rfl]<;>try refine aj ?_ ?_)
abbrev OZ:Int×Int×Int×(List UInt8)->List Data:=λ(a,b,c,s)=>[.ay [[.int .i64 a,.int .i64 b,.int .i64 c,.str s,.ay []]],.ay [[.int .i64 a,.int .i64 b,.int .i64 c,.str s,.ay []]]]
def O0:=b1 OZ λ(a,b,c,s)=>some (.same (.bool true))
def asb:∀a b,OZ a=OZ b->a=b:=by
  rintro⟨cz,cQ,bU,s1⟩ ⟨dj,dO,c6,s2⟩ h;simp only[bs,Data.int.injEq,Data.agg.injEq,Data.ay.injEq,Data.bool.injEq,Data.str.injEq,Data.ptr.injEq,Data.de.injEq,ei,true_and,and_true] at h ⊢
  first|exact h|simpa [HJ,and_assoc] using h|grind
@[go_sem] def asc (a b c s):=tS O0 rfl asb (a,b,c,s) rfl
def asd (T:bl)(J7:T LZ=aT OY):WF T ae6 O0:=by
 refine cq λ(a,b,c,s)=>⟨rfl,cr ?_⟩;simp only[ae6,OZ,b8];have ff:=ar9 a b c s;simp only[go_sem,go_sem_proc,J7,beq_self_eq_true,bne,dT];refine dM [0,1] [] (λ(i:Nat) tm mem=>i<=1/\tm 5=.L (.int .i64 i)) (λi=>1-i) 0 ⟨by omega,rfl⟩ ?_
 intro vs ms a7 aY;simp only[go_sem,go_sem_proc,J7,] at a7 aY;subst a7 aY;rintro i tm mem Q hm ⟨O,bp⟩;simp only[go_sem,go_sem_proc,J7,bs] at Q;obtain⟨fq,cP⟩:=Q;rcases eC (i<1) with au|bO
 ·have al:i=0:=by omega
  subst al;refine an ?_;repeat' (intro h<;>simp only[h,go_sem,go_sem_proc,J7,fq,cP,bp,ff,show decide (((0:Nat):Int)<((1:Nat):Int))=true from rfl]<;>try refine aj ?_ ?_)
  exact⟨1,by omega,by omega,rfl⟩
 ·have al:i=1:=by omega
  subst al;refine an ?_;repeat' (intro h<;>simp only[h,go_sem,go_sem_proc,J7,fq,cP,bp,show decide (((1:Nat):Int)<((1:Nat):Int))=false from rfl]<;>try refine aj ?_ ?_)
end Go.Mini
namespace Go.Mini
open Go Go.Proofs
set_option maxRecDepth 100000 in
def ase:Cd Tryz.prog [45] [169,239,48,50] z3 1000 n0 [.L (.str J1)]=some J5:=by kernel_rfl
def asf:h1 Tryz.prog n0 (λds=>@ite _ (ds=[.str J1]) (O1 _) (some (.same J5)) none):=N8 _ _ ase
end Go.Mini
namespace Go.Mini
open Go Go.Proofs
set_option maxRecDepth 100000 in
def asg:Cd Tryz.prog [45] [169,239,48,50] z3 1000 n0 [.L (.str J2)]=some uU:=by kernel_rfl
def ash:h1 Tryz.prog n0 (λds=>@ite _ (ds=[.str J2]) (O1 _) (some (.same uU)) none):=N8 _ _ asg
end Go.Mini
namespace Go.Mini
open Go Go.Proofs
set_option maxRecDepth 100000 in
def asi:Cd Tryz.prog [45] [169,239,48,50] z3 1000 n0 [.L (.str J3)]=some uU:=by kernel_rfl
def asj:h1 Tryz.prog n0 (λds=>@ite _ (ds=[.str J3]) (O1 _) (some (.same uU)) none):=N8 _ _ asi
end Go.Mini
namespace Go.Mini
open Go Go.Proofs
set_option maxRecDepth 100000 in
def asl:Cd Tryz.prog [45] [169,239,48,50] z3 1000 n0 [.L (.str J4)]=some uU:=by kernel_rfl
def asm:h1 Tryz.prog n0 (λds=>@ite _ (ds=[.str J4]) (O1 _) (some (.same uU)) none):=N8 _ _ asl
end Go.Mini
namespace Go.Mini
open Go Go.Proofs
def asn:h1 Tryz.prog n0 uV:=⟨adK,λds r ff=>by
 unfold uV at ff
 split at ff
 ·rename_i e
  cases ff;exact asf.run ds _ (aq e)
 ·split at ff
  ·rename_i e
   cases ff;rcases e with e|e|e
   ·exact ash.run ds _ (aq e)
   ·exact asj.run ds _ (aq e)
   ·exact asm.run ds _ (aq e)
  ·cases ff⟩
end Go.Mini
namespace Go.Mini
open Go
abbrev ik (p q:Int):aJ:=((1,[p]),(1,[q]))
def Ag {p q a b:Int}(E:er p)(G:er q)(h:hB (bu p) (bu q)=(ik a b,0)):J6 [.int .i64 p,.int .i64 q]=some (.same (.agg [.int .i64 1,.ay [[.int .i64 a]],.int .i64 1,.ay [[.int .i64 b]]])):=by
 rw[ar5 p q ⟨E,G⟩,h]
 rfl
def yx:List b0:=[(0,1,ik 1 2),(1,0,ik 1 1)]
def J8:List b0:=[(0,1,ik 1 1),(1,0,ik 1 1)]
def Vr:uB yx:=⟨by decide,λx J=>by
 simp only[yx,ia,J9,or_false] at J;rcases J with rfl|rfl<;>exact⟨by decide,by decide⟩⟩
def aso:uB J8:=⟨by decide,λx J=>by
 simp only[J8,ia,J9,or_false] at J;rcases J with rfl|rfl<;>exact⟨by decide,by decide⟩⟩
def CC (a b c d:Int):iE [ik a b,ik c d]:=⟨by simp,λx J=>by
 simp only[ia,J9,or_false] at J;rcases J with rfl|rfl<;>exact⟨by simp[ik],by simp[ik]⟩⟩
def asp (a b:Int):iE [ik a b]:=⟨by simp,λx J=>by
 simp only[ia,J9,or_false] at J;subst J;exact⟨by simp[ik],by simp[ik]⟩⟩
def Ka {l:List aJ}(h:iE l):JY [.ay (l.map aS),.ay (l.map aS)]=some (.same (.bool true)):=by
 rw[arK l l ⟨h,h⟩,show JX l l=true from lU rfl]
abbrev O2:Unit->List Data:=λ(_:Unit)=>[]
def O3:=b1 O2 λ(_:Unit)=>some (.same (.bool true))
def asq:∀a b,O2 a=O2 b->a=b:=by
  intro _ _ _;rfl
@[go_sem] def asr:=tS O3 rfl asq () rfl
def ass (T:bl)(ast:T n0=aT uV)(asu:T m2=aT J6)(asv:T A2=aT JY)(asw:T RC=aT O0)(asx:T LX=aT Oo)(asy:T Ru=aT Om)(hU:T ze=aT Ft)(asz:T RD=aT OW):WF T afe O3:=by
 refine cq λ_=>⟨rfl,cr ?_⟩;simp only[afe,O2,b8];have ig:=ar1;have ab:=ar2;have cJ:=ar3;have cE:=ar4;have asA:=Ag (p:=1) (q:=2) (a:=1) (b:=2) (by unfold er;omega) (by unfold er;omega) (by decide +kernel);have asB:=Ag (p:=1) (q:=1) (a:=1) (b:=1) (by unfold er;omega) (by unfold er;omega) (by decide +kernel);have asC:=Ag (p:=10) (q:=1) (a:=10) (b:=1) (by unfold er;omega) (by unfold er;omega) (by decide +kernel);have uL:=Ag (p:=2) (q:=1) (a:=2) (b:=1) (by unfold er;omega) (by unfold er;omega) (by decide +kernel);have wJ:=Ag (p:=3) (q:=1) (a:=3) (b:=1) (by unfold er;omega) (by unfold er;omega) (by decide +kernel);have wK:=Ag (p:=4) (q:=1) (a:=4) (b:=1) (by unfold er;omega) (by unfold er;omega) (by decide +kernel);have asD:=Ag (p:=5) (q:=1) (a:=5) (b:=1) (by unfold er;omega) (by unfold er;omega) (by decide +kernel);have asE:=Ag (p:=6) (q:=1) (a:=6) (b:=1) (by unfold er;omega) (by unfold er;omega) (by decide +kernel);have Vs:=aea yx 2 Vr;rw[show On yx 2=([ik 4 1,ik 3 1],[],0) by decide +kernel] at Vs
 have Vt:=aea J8 2 aso;rw[show On J8 2=([],[ik 1 1,ik 1 1],16) by decide +kernel] at Vt
 have Vu:=aqS yx 2 [ik 4 1,ik 3 1] ⟨Vr,CC _ _ _ _⟩;rw[show UZ yx 2 [ik 4 1,ik 3 1]=true by decide +kernel] at Vu
 have v:=Ok [ik 10 1,ik 10 1] [ik 1 1,ik 2 1] yx ⟨CC _ _ _ _,CC _ _ _ _,Vr⟩;rw[show iG [ik 10 1,ik 10 1] [ik 1 1,ik 2 1] yx=([ik 6 1,ik 5 1],[[1],[0]],0) by decide +kernel] at v
 have s1:=Ka (CC 1 2 3 1);have s2:=Ka (asp 1 1);have cv:=Ka (CC 4 1 3 1);have cD:=Ka (CC 1 1 1 1);have EO:=Ka (CC 6 1 5 1);have ex:=asc 1 0 0 [98,97,115,101]
 have ew:J0 [[1],[0]]:=⟨by decide,λx J=>by
  simp only[ia,J9,or_false] at J;rcases J with rfl|rfl<;>decide⟩
 have Fl:=arU [[1],[0]] [[1],[0]] ⟨ew,ew⟩;rw[beq_self_eq_true] at Fl;simp only[J1,J2,J3,J4,J5,uU] at ig ab cJ cE;simp only[ik,yx,J8,Cq,yq,jE,kK,aS,aH,hl,hv,cl,show ((1:Nat):Int)=1 from rfl,show ((0:Nat):Int)=0 from rfl] at Vs Vt Vu v s1 s2 cv cD EO Fl;refine an ?_;repeat' (intro h<;>simp only[h,go_sem,go_sem_proc,ast,asu,asv,asw,asx,asy,hU,asz,ig,ab,cJ,cE,asA,asB,asC,uL,wJ,wK,asD,asE,Vs,Vt,Vu,v,s1,s2,cv,cD,EO,ex,Fl,beq_self_eq_true]<;>try refine aj ?_ ?_)
def bI:Nat->(Nat->Rat)->Rat
 |0,_=>0
 |n+1,f=>bI n f+f n
def nh {n:Nat}{f g:Nat->Rat}(h:∀k,k<n->f k=g k):bI n f=bI n g:=by
 induction n with
 |zero=>rfl
 |succ n aF=>rw[bI,bI,aF λk Q=>h k (by omega),h n (by omega)]
def yy (n:Nat)(f g:Nat->Rat):bI n (λk=>f k+g k)=bI n f+bI n g:=by
 induction n with
 |zero=>simp[bI,O4]
 |succ n aF=>rw[bI,bI,bI,aF];grind
def sf (n:Nat)(c:Rat)(f:Nat->Rat):bI n (λk=>c*f k)=c*bI n f:=by
 induction n with
 |zero=>simp[bI,FK]
 |succ n aF=>rw[bI,bI,aF];grind
def uW {n:Nat}{f:Nat->Rat}(h:∀k,k<n->f k=0):bI n f=0:=by
 induction n with
 |zero=>rfl
 |succ n aF=>rw[bI,aF λk Q=>h k (by omega),h n (by omega)];exact O4 0
def Kb {n:Nat}{f:Nat->Rat}{j:Nat}(aa:j<n)(h:∀k,k<n->k≠j->f k=0):bI n f=f j:=by
 induction n with
 |zero=>omega
 |succ n aF =>
  rw[bI]
  by_cases aE:j=n
  ·subst aE;rw[uW λk Q=>h k (by omega) (by omega)];grind
  ·rw[aF (by omega) λk Q=>h k (by omega),h n (by omega) (by omega)];grind
def asF (n m:Nat)(f:Nat->Nat->Rat):bI n (λi=>bI m (λj=>f i j))=bI m (λj=>bI n (λi=>f i j)):=by
 induction n with
 |zero=>rw[bI,uW];intro k Q;rfl
 |succ n aF =>
  rw[bI,aF,<-yy]
  rfl
abbrev cT:=Nat->Nat->Rat
def mJ (N:Nat)(a y:Nat->Rat):Rat:=bI (N+1) λk=>a k*y k
def jZ (N:Nat)(A:cT)(y:Nat->Rat):Prop:=∀i,i<N->mJ N (A i) y=0
def fc (A:cT)(r s:Nat):cT:=λi=>if i=s then A r else if i=r then A s else A i
def kO (A:cT)(r c s:Nat):cT:=λi k=>if i=r then fc A r s r k/fc A r s r c else fc A r s i k-fc A r s i c*(fc A r s r k/fc A r s r c)
def Kc (A:cT)(r s:Nat):fc A r s r=A s:=by
 unfold fc
 by_cases h:r=s
 ·simp[h]
 ·simp[h]
def asG {N r s:Nat}{A:cT}{y:Nat->Rat}(M:r<N)(R:s<N):jZ N (fc A r s) y↔jZ N A y:=by
 unfold jZ fc
 constructor
 ·intro h i O
  by_cases E:i=r
  ·have:=h s R;simp at this;rw[E];exact this
  ·by_cases G:i=s
   ·have:=h r M;rw[G]
    by_cases ad:r=s
    ·omega
    ·simp[ad] at this;exact this
   ·have:=h i O;simp[E,G] at this;exact this
 ·intro h i O
  by_cases G:i=s
  ·simp[G];exact h r M
  ·by_cases E:i=r
   ·have:=h s R;rw[ar G,aq E];exact this
   ·simp[E,G];exact h i O
def asH (N:Nat)(a b y:Nat->Rat)(x:Rat):mJ N (λk=>a k-x*b k) y=mJ N a y-x*mJ N b y:=by
 unfold mJ;have:(λk=>(a k-x*b k)*y k)=λk=>a k*y k+(-x)*(b k*y k):=by funext k;grind
 rw[this,yy,sf];grind
def afg (N:Nat)(a y:Nat->Rat)(x:Rat):mJ N (λk=>a k/x) y=mJ N a y/x:=by
 unfold mJ;have:(λk=>(a k/x)*y k)=λk=>(1/x)*(a k*y k):=by funext k;grind
 rw[this,sf];grind
def Vv {N r s c:Nat}{A:cT}{y:Nat->Rat}(M:r<N)(R:s<N)(bc:A s c≠0):jZ N (kO A r c s) y↔jZ N A y:=by
 rw[<-asG (A:=A) M R];have aAW:fc A r s r c≠0:=by rw[Kc];exact bc
 generalize cm:fc A r s=S at *
 have d1:∀i,i≠r->mJ N (kO A r c s i) y=mJ N (S i) y-S i c*(mJ N (S r) y/S r c):=by
  intro i O;have:kO A r c s i=λk=>S i k-S i c*(S r k/S r c):=by funext k;unfold kO;rw[cm,ar O]
  rw[this,asH N (S i) (λk=>S r k/S r c) y (S i c),afg]
 have d2:mJ N (kO A r c s r) y=mJ N (S r) y/S r c:=by
  have:kO A r c s r=λk=>S r k/S r c:=by funext k;unfold kO;rw[cm,aq rfl]
  rw[this,afg]
 unfold jZ
 constructor
 ·intro h
  have al:mJ N (S r) y=0:=by
   have:=h r M;rw[d2] at this;generalize mJ N (S r) y=d at *;grind
  intro i O
  by_cases pV:i=r
  ·rw[pV];exact al
  ·have:=h i O;rw[d1 i pV,al] at this;generalize mJ N (S i) y=d at *;grind
 ·intro h i O;have al:=h r M
  by_cases pV:i=r
  ·rw[pV,d2,al];grind
  ·rw[d1 i pV,al,h i O];grind
structure pd (N:Nat) (ak:cT) (p c:Nat) (dJ:Nat->Nat):Prop where
 pD:p<=c
 lt:∀j,j<p->dJ j<c
 unit:∀j,j<p->∀i,i<N->ak i (dJ j)=if i=j then 1 else 0
 zero:∀i,p<=i->i<N->∀k,k<c->ak i k=0
def pd.free {N p c:Nat}{ak:cT}{dJ:Nat->Nat}(h:pd N ak p c dJ)(aQ:∀i,p<=i->i<N->ak i c=0):pd N ak p (c+1) dJ :=
 ⟨by have:=h.pD;omega,λj aa=>by have:=h.lt j aa;omega,h.unit,λi O hN k Q=>by
  by_cases JL:k=c
  ·rw[JL];exact aQ i O hN
  ·exact h.zero i O hN k (by omega)⟩
def pd.zS {N p c s:Nat}{ak:cT}{dJ:Nat->Nat}(h:pd N ak p c dJ)(aD:p<N)(R:p<=s)(p3:s<N)(bc:ak s c≠0):pd N (kO ak p c s) (p+1) (c+1) (λj=>if j=p then c else dJ j):=by
 have cm:∀i,i<N->∃a0,a0<N/\fc ak p s i=ak a0/\(i<p->a0=i)/\(p<=i->p<=a0):=by
  intro i O;unfold fc
  by_cases E:i=s
  ·exact⟨p,aD,by rw[aq E],by omega,by omega⟩
  ·by_cases G:i=p
   ·exact⟨s,p3,by rw[ar E,aq G],by omega,by omega⟩
   ·exact⟨i,O,by rw[ar E,ar G],by omega,by omega⟩
 have afh:fc ak p s p c≠0:=by rw[Kc];exact bc
 have aQ:∀i,p<=i->i<N->∀k,k<c->fc ak p s i k=0:=by
  intro i O hN k Q;obtain⟨a0,E,G,-,aK⟩:=cm i hN;rw[G];exact h.zero a0 (aK O) E k Q
 refine⟨by have:=h.pD;omega,λj aa=>?_,λj aa i O=>?_,λi O hN k Q=>?_⟩
 ·show (if j=p then c else dJ j)<c+1
  split
  ·omega
  ·have:=h.lt j (by omega);omega
 ·unfold kO
  by_cases CD:j=p
  ·simp only[CD,if_true]
   by_cases hD:i=p
   ·rw[aq hD,aq hD];grind
   ·rw[ar hD,ar hD];grind
  ·simp only[CD,if_false];have jz:j<p:=by omega
   have aL:fc ak p s p (dJ j)=0:=aQ p (bM _) aD _ (h.lt j jz);rw[aL]
   by_cases hD:i=p
   ·rw[aq hD,ar (by omega)];grind
   ·rw[ar hD];obtain⟨a0,E,G,ad,aK⟩:=cm i O;rw[G,h.unit j jz a0 E];rcases fE i p with au|bO
    ·rw[ad au];grind
    ·rw[ar (by have:=aK bO;omega),ar (by omega)];grind
 ·unfold kO;rw[ar (by omega)]
  by_cases JL:k=c
  ·subst JL;grind
  ·rw[aQ i (by omega) hN k (by omega),aQ p (bM _) aD k (by omega)];grind
def Vw (N:Nat)(ak:cT)(dJ:Nat->Nat):pd N ak 0 0 dJ:=⟨bM _,λj aa=>by omega,λj aa=>by omega,λi O hN k Q=>by omega⟩
def ext (N:Nat)(y:Nat->Rat)(z:Rat):Nat->Rat:=λk=>if k<N then y k else z
def Vx (N:Nat)(a y:Nat->Rat)(z:Rat):mJ N a (ext N y z)=bI N (λk=>a k*y k)+a N*z:=by
 unfold mJ ext;rw[bI]
 congr 1
 ·exact nh λk Q=>by rw[aq Q]
 ·rw[ar (by omega)]
def Vy {N:Nat}{ak:cT}{dJ:Nat->Nat}(h:pd N ak N N dJ)(iW:∀j,j<N->dJ j=j){i:Nat}(O:i<N)(y:Nat->Rat)(z:Rat):mJ N (ak i) (ext N y z)=y i+ak i N*z:=by
 rw[Vx]
 congr 1
 have:∀k,k<N->ak i k=if i=k then 1 else 0:=λk Q=>by
  have:=h.unit k Q i O;rwa [iW k Q] at this
 rw[Kb O λk Q vx=>by rw[this k Q,ar (Ne.symm vx),Vz],this i O,aq rfl,Kd]
def afi {N:Nat}{ak:cT}{dJ:Nat->Nat}(h:pd N ak N N dJ)(iW:∀j,j<N->dJ j=j)(y:Nat->Rat):jZ N ak (ext N y (-1))↔∀i,i<N->y i=ak i N:=by
 unfold jZ
 constructor
 ·intro c3 i O;have:=c3 i O;rw[Vy h iW O] at this;grind
 ·intro c3 i O;rw[Vy h iW O,c3 i O];grind
def asI {N:Nat}{ak:cT}{dJ:Nat->Nat}(h:pd N ak N N dJ)(iW:∀j,j<N->dJ j=j)(y:Nat->Rat)(c3:jZ N ak (ext N y 0)):∀i,i<N->y i=0:=by
 intro i O;have:=c3 i O;rw[Vy h iW O] at this;grind
def qS (ak:cT)(c:Nat):Nat->Rat:=λk=>if k<c then 0-ak k c else if k=c then 1 else 0
def afj {N c:Nat}{ak:cT}{dJ:Nat->Nat}(h:pd N ak c c dJ)(iW:∀j,j<c->dJ j=j)(Z:c<N)(aQ:∀i,c<=i->i<N->ak i c=0):jZ N ak (ext N (qS ak c) 0):=by
 intro i O;rw[Vx]
 have main:∀n,c<n->n<=N->bI n (λk=>ak i k*qS ak c k)=bI (c+1) (λk=>ak i k*qS ak c k):=by
  intro n
  induction n with
  |zero=>intro h;omega
  |succ n aF =>
   intro E G
   by_cases AB:c=n
   ·rw[AB]
   ·rw[bI,aF (by omega) (by omega)];unfold qS;rw[ar (show ¬ n<c by omega),ar (show ¬ n=c by omega)];grind
 rw[main N Z (bM _),bI];have Q:qS ak c c=1:=by unfold qS;rw[ar (by omega),aq rfl]
 rw[Q]
 have hu:∀k,k<c->ak i k=if i=k then 1 else 0:=λk Q=>by
  have:=h.unit k Q i O;rwa [iW k Q] at this
 rcases fE i c with au|bO
 ·rw[Kb au λk Q vx=>by rw[hu k Q,ar (Ne.symm vx),Vz],hu i au,aq rfl]
  unfold qS;rw[aq au];grind
 ·rw[uW λk Q=>by rw[hu k Q,ar (by omega),Vz],aQ i bO O]
  grind
def j0 (N:Nat)(l:List aJ)(q:Nat->Rat):Prop:=l=((je (N+1)).map q).map bW/\∀k,k<=N->ed (q k)
def uX (N:Nat)(rows:List cV)(ak:cT):Prop:=D rows=N/\∀(i:Nat) x,rows[i]?=some x->j0 N x.2.2 (ak i)
def j0.get {N:Nat}{l:List aJ}{q:Nat->Rat}(h:j0 N l q){k:Nat}(Q:k<=N):l[k]?=some (bW (q k)):=by
 rw[h.1,bG,bG,q9 (by omega)]
 rfl
def j0.len {N:Nat}{l:List aJ}{q:Nat->Rat}(h:j0 N l q):(D l)=N+1:=by rw[h.1];simp
def j0.VA {N:Nat}{l:List aJ}{q:Nat->Rat}(af:(D l)=N+1)(h:∀k,k<=N->l[k]?=some (bW (q k))/\ed (q k)):j0 N l q:=by
 refine⟨?_,λk Q=>(h k Q).2⟩;apply tB;intro k;rcases fE k (N+1) with Q|Q
 ·rw[(h k (by omega)).1,bG,bG,q9 Q];rfl
 ·rw[mO (by omega),mO (by simp;omega)]
def j0.congr {N:Nat}{l:List aJ}{q Sb:Nat->Rat}(h:j0 N l q)(aM:∀k,k<=N->q k=Sb k):j0 N l Sb :=
 j0.VA h.len λk Q=>by rw[<-aM k Q];exact⟨h.get Q,h.2 k Q⟩
def j0.cell {N:Nat}{x:cV}{q:Nat->Rat}(h:j0 N x.2.2 q){k:Nat}(Q:k<=N):cellOf x k=bW (q k):=Tc (h.get Q)
def O5 (q:Rat):md (bW q)=decide (q=0):=by
 unfold md bW bu;rw[FE,beq_iff_eq,decide_eq_true_eq,Int.sign_eq_zero_iff_zero,Rat.num_eq_zero]
def pe (eU a b:Rat):Bool:=x4 eU b&&s4 a (-(eU*b))
def afk {eU a b:Rat}(ao:ed eU)(a5:ed a)(U:ed b)(h:pe eU a b=true):
  jq (bW eU) (bW b)=(bW (eU*b),0)/\nF (bW a) (bW (eU*b))=(bW (a-eU*b),0)/\ed (a-eU*b):=by
 unfold pe at h;rw[dH] at h;refine⟨?_,?_,aaP h.2⟩
 ·rw[SN ao U,h.1];rfl
 ·rw[MK a5 (aaQ h.1),h.2];rfl
def asJ {eU a b:Rat}(ao:ed eU)(a5:ed a)(U:ed b)(h:pe eU a b=false):
  ((jq (bW eU) (bW b)).2 != 0||(nF (bW a) (jq (bW eU) (bW b)).1).2 != 0)=true:=by
 unfold pe at h;rw[SN ao U];rcases E:x4 eU b
 ·rfl
 ·rw[E,gy] at h;show ((nF (bW a) (bW (eU*b))).2 != 0)=true;rw[MK a5 (aaQ E),h]
  rfl
def asK {eU:Rat}(ao:ed eU):∀(uY pl:List Rat),D uY=(D pl)->(∀x∈uY,ed x)->(∀x∈pl,ed x) ->
  ((∀q∈uY.zip pl,pe eU q.1 q.2=true)->ij (bW eU) (uY.map bW) (pl.map bW) false=((VB (λa b=>a-eU*b) uY pl).map bW,false)/\∀x∈VB (λa b=>a-eU*b) uY pl,ed x) /\
  ((ij (bW eU) (uY.map bW) (pl.map bW) false).2=false->∀q∈uY.zip pl,pe eU q.1 q.2=true):=by
 intro uY
 induction uY with
 |nil=>intro pl af _ _;cases pl with
  |nil=>exact⟨λ_=>⟨rfl,by simp⟩,λ_=>by simp⟩
  |cons=>cases af
 |cons a uY aF =>
  intro pl af E G
  cases pl with
  |nil=>cases af
  |cons b pl =>
   have a5:=E a kV;have U:=G b kV;obtain⟨i1,i2⟩:=aF pl (by simpa using af) (λx J=>E x (td _ J)) (λx J=>G x (td _ J))
   constructor
   ·intro dQ;obtain⟨aL,ax,eo⟩:=afk ao a5 U (dQ (a,b) (by simp));obtain⟨i3,i4⟩:=i1 λq aM=>dQ q (by simp only[afl,ia];exact .inr aM);refine⟨?_,λx J=>?_⟩
    ·simp only[hv,ij,aL,ax,afm,bne_self_eq_false,oG,i3]
    ·rw[afm,ia] at J;rcases J with rfl|J
     ·exact eo
     ·exact i4 x J
   ·intro dm;simp only[hv,ij] at dm;rcases R:pe eU a b
    ·rw[asJ ao a5 U R,Td] at dm
     cases dm
    ·obtain⟨aL,ax,eo⟩:=afk ao a5 U R;simp only[aL,ax,bne_self_eq_false,oG] at dm;intro q aM;rw[afl,ia] at aM;rcases aM with rfl|aM
     ·exact R
     ·exact i2 dm q aM
def asL (n:Nat)(q p:Nat->Rat):((je n).map q).zip ((je n).map p)=(je n).map λk=>(q k,p k):=by
 rw[List.zip_map',]
def asM (n:Nat)(f:Rat->Rat->Rat)(q p:Nat->Rat):VB f ((je n).map q) ((je n).map p)=(je n).map λk=>f (q k) (p k):=by
 rw[List.zipWith_map,List.zipWith_self]
def asN {N:Nat}{eU:Rat}{l ab:List aJ}{q p:Nat->Rat}(ao:ed eU)(E:j0 N l q)(G:j0 N ab p):
  ((∀k,k<=N->pe eU (q k) (p k)=true)->(ij (bW eU) l ab false).2=false)/\((ij (bW eU) l ab false).2=false->j0 N (ij (bW eU) l ab false).1 (λk=>q k-eU*p k)):=by
 obtain⟨aL,ax⟩:=asK ao ((je (N+1)).map q) ((je (N+1)).map p) (by simp) (by
  intro x J;obtain⟨k,Q,rfl⟩:=h3.1 J;exact E.2 k (by have:=qo.1 Q;omega)) (by
  intro x J;obtain⟨k,Q,rfl⟩:=h3.1 J;exact G.2 k (by have:=qo.1 Q;omega))
 rw[<-E.1,<-G.1] at aL ax
 have aQ:(∀k,k<=N->pe eU (q k) (p k)=true)↔∀x∈((je (N+1)).map q).zip ((je (N+1)).map p),pe eU x.1 x.2=true:=by
  rw[asL];simp only[h3,qo]
  constructor
  ·rintro h x ⟨k,Q,rfl⟩;exact h k (by omega)
  ·intro h k Q;exact h (q k,p k) ⟨k,by omega,rfl⟩
 refine⟨λh=>by rw[(aL (aQ.1 h)).1],λh=>?_⟩
 obtain⟨eo,kZ⟩:=aL (ax h);rw[eo,asM] at *;exact⟨rfl,λk Q=>kZ _ (h3.2 ⟨k,qo.2 (by omega),rfl⟩)⟩
def O6 (e6:List aJ)(r c:Nat):∀(i:Nat) (l:List cV),(iU e6 r c i l true).2=true
 |_,[]=>rfl
 |i,x::xs=>by
  unfold iU
  split
  ·exact O6 e6 r c (i+1) xs
  ·rw[Td];exact O6 e6 r c (i+1) xs
def afn {N r c:Nat}{e6:List aJ}{p:Nat->Rat}(aD:j0 N e6 p)(Z:c<=N):∀(i:Nat) (l:List cV) (aU:cT),(∀(j:Nat) x,l[j]?=some x->j0 N x.2.2 (aU (i+j))) ->
  ((∀j,j<(D l)->i+j≠r->aU (i+j) c≠0->∀k,k<=N->pe (aU (i+j) c) (aU (i+j) k) (p k)=true)->(iU e6 r c i l false).2=false) /\
  ((iU e6 r c i l false).2=false->∀(j:Nat) x,(iU e6 r c i l false).1[j]?=some x->j0 N x.2.2 (λk=>if i+j=r then aU (i+j) k else aU (i+j) k-aU (i+j) c*p k))
 |i,[],aU,h=>⟨λ_=>rfl,λ_ j x J=>by simp[iU] at J⟩
 |i,x::xs,aU,h=>by
  have al:=h 0 x rfl;rw[kv] at al
  obtain⟨CE,CF⟩:=afn aD Z (i+1) xs aU λj y ag=>by
   have:=h (j+1) y ag;rwa [show i+(j+1)=i+1+j by omega] at this
  have sB:=al.cell Z
  have afo:(∀j,j<(x::xs).length->i+j≠r->aU (i+j) c≠0->∀k,k<=N->pe (aU (i+j) c) (aU (i+j) k) (p k)=true)->∀j,j<(D xs)->i+1+j≠r->aU (i+1+j) c≠0->∀k,k<=N->pe (aU (i+1+j) c) (aU (i+1+j) k) (p k)=true:=by
   intro a8 j aa;have:=a8 (j+1) (by simpa using aa);rwa [show i+(j+1)=i+1+j by omega] at this
  unfold iU;rw[sB,O5]
  by_cases aQ:(i==r||decide (aU i c=0))=true
  ·rw[aq aQ];refine⟨λa8=>CE (afo a8),λU j y ag=>?_⟩
   cases j with
   |zero =>
    simp only[G4,bH] at ag;subst ag;rw[kv];refine al.congr λk Q=>?_;simp only[sF,beq_iff_eq,decide_eq_true_eq] at aQ
    split
    ·rfl
    ·rcases aQ with aQ|aQ
     ·contradiction
     ·rw[aQ];grind
   |succ j =>
    have:=CF U j y (by simpa using ag);rwa [show i+(j+1)=i+1+j by omega]
  ·rw[ar aQ];simp only[sF,beq_iff_eq,decide_eq_true_eq,not_or] at aQ;obtain⟨cA,cY⟩:=asN (al.2 c Z) al aD
   constructor
   ·intro a8;have ad:=cA (a8 0 (by simp) (by simpa using aQ.1) (by simpa using aQ.2));dsimp only;rw[ad];exact CE (afo a8)
   ·intro U j y ag;dsimp only at U ag;rcases oQ:(ij (bW (aU i c)) x.2.2 e6 false).2
    ·rw[oQ] at U ag
     cases j with
     |zero =>
      simp only[G4,bH] at ag;subst ag;rw[kv];exact (cY oQ).congr λk Q=>by rw[ar aQ.1]
     |succ j =>
      have:=CF U j y (by simpa using ag);rwa [show i+(j+1)=i+1+j by omega]
    ·rw[oQ,O6] at U
     cases U
def asO {N:Nat}{l:List aJ}{q:Nat->Rat}{b:Rat}(h:j0 N l q)(U:ed b)(al:b≠0):
  ((g7 (bW b) l).2=false↔∀k,k<=N->wg (q k) b=true)/\((g7 (bW b) l).2=false->j0 N (g7 (bW b) l).1 (λk=>q k/b)):=by
 have aL:(g7 (bW b) l).2=false↔∀k,k<=N->wg (q k) b=true:=by
  unfold g7;rw[h.1];simp only[s6,h3,qo]
  constructor
  ·intro a8 k Q;have:=a8 (bW (q k)) ⟨q k,⟨k,by omega,rfl⟩,rfl⟩
   rw[SO (h.2 k Q) U al] at this;rcases ae:wg (q k) b
   ·rw[ae] at this;exact absurd rfl this
   ·rfl
  ·rintro a8 _ ⟨_,⟨k,Q,rfl⟩,rfl⟩;rw[SO (h.2 k (by omega)) U al,a8 k (by omega)];simp[zC]
 refine⟨aL,λa8=>?_⟩;have dp:=aL.1 a8;refine j0.VA (by unfold g7;rw[az,h.len]) λk Q=>⟨?_,amK (dp k Q)⟩;unfold g7;rw[bG,h.get Q,kx,SO (h.2 k Q) U al,dp k Q]
 rfl
def uX.row {N:Nat}{rows:List cV}{ak:cT}(h:uX N rows ak){i:Nat}(O:i<N):∃x,rows[i]?=some x/\rowAt rows i=x/\j0 N x.2.2 (ak i):=by
 obtain⟨x,J⟩:∃x,rows[i]?=some x:=⟨_,bB (by have:=h.1;omega)⟩;exact⟨x,J,uo J,h.2 i x J⟩
def uX.swap {N:Nat}{rows:List cV}{ak:cT}(h:uX N rows ak){r s:Nat}(M:r<N)(R:s<N):uX N (oY rows r s) (fc ak r s):=by
 obtain⟨x,J,ex,mK⟩:=h.row M;obtain⟨y,ag,PV,asP⟩:=h.row R;unfold oY;rw[ex,PV];refine⟨by rw[fN,fN];exact h.1,λi z aQ=>?_⟩
 rw[lO,lO,fN] at aQ;unfold fc
 by_cases E:s=i
 ·rw[aq E,aq (by have:=h.1;omega)] at aQ
  cases aQ;rw[aq E.symm];exact mK
 ·rw[ar E] at aQ;rw[ar (Ne.symm E)]
  by_cases G:r=i
  ·rw[aq G,aq (by have:=h.1;omega)] at aQ
   cases aQ;rw[aq G.symm];exact asP
  ·rw[ar G] at aQ;rw[ar (Ne.symm G)];exact h.2 i z aQ
def VC (N:Nat)(S:cT)(r c:Nat):Prop:=(∀k,k<=N->wg (S r k) (S r c)=true)/\∀i,i<N->i≠r->S i c≠0->∀k,k<=N->pe (S i c) (S i k) (S r k/S r c)=true
def afp {N:Nat}{rows:List cV}{ak:cT}(h:uX N rows ak){r c:Nat}(M:r<N)(Z:c<N):
  ((hQ rows r c).1=true/\(hQ rows r c).2.1=rows/\(hQ rows r c).2.2=false/\∀i,r<=i->i<N->ak i c=0) \/
  ((hQ rows r c).1=false/\∃s,r<=s/\s<N/\ak s c≠0/\((hQ rows r c).2.2=false->uX N (hQ rows r c).2.1 (kO ak r c s))/\(VC N (fc ak r s) r c->(hQ rows r c).2.2=false)):=by
 have af:=h.1;have oz:=acb rows r c (by omega)
 have wL:∀i x,r<=i->i<findAt rows r c->rows[i]?=some x->md (cellOf x c)=true:=by
  intro i x qc dX J;unfold findAt at dX;have au:i-r<(rows.drop r).findIdx λx => !md (cellOf x c):=by omega
  have:=List.not_of_lt_findIdx au
  have aC:(rows.drop r)[i-r]'(u9 au List.findIdx_le_length)=x:=by
   rw[EB];have:=(dn.1 J)
   obtain⟨E,G⟩:=this;simp only[show r+(i-r)=i by omega]
   exact G
  rw[aC] at this
  simpa using this
 unfold hQ
 by_cases ao:findAt rows r c=D rows
 ·left
  rw[aq ao];refine⟨rfl,rfl,rfl,λi qc dX=>?_⟩;obtain⟨x,J,-,mK⟩:=h.row dX;have:=wL i x qc (by omega) J;rw[mK.cell (by omega),O5] at this
  simpa using this
 ·right
  rw[ar ao];refine⟨rfl,findAt rows r c,oz.1,by omega,?_,?_⟩
  ·obtain⟨x,J,-,mK⟩:=h.row (i:=findAt rows r c) (by omega);have au:findAt rows r c-r<(rows.drop r).length:=by rw[rq];omega
   have G:(rows.drop r).findIdx (λx => !md (cellOf x c))<(rows.drop r).length:=by
    unfold findAt at au;omega
   have ad:=afq (w:=G)
   have aC:(rows.drop r)[(rows.drop r).findIdx λx => !md (cellOf x c)]=x:=by
    rw[EB];exact (dn.1 J).2
   rw[aC,mK.cell (by omega),O5] at ad
   simpa using ad
  ·have R:findAt rows r c<N:=by omega
   have yc:=h.swap M R
   have bc:fc ak r (findAt rows r c) r c≠0:=by
    rw[Kc];obtain⟨x,J,-,mK⟩:=h.row R
    have G:(rows.drop r).findIdx (λx => !md (cellOf x c))<(rows.drop r).length:=by
     rw[rq];unfold findAt at R;omega
    have ad:=afq (w:=G)
    have aC:(rows.drop r)[(rows.drop r).findIdx λx => !md (cellOf x c)]=x:=by
     rw[EB];exact (dn.1 J).2
    rw[aC,mK.cell (by omega),O5] at ad
    simpa using ad
   have EA:kO ak r c (findAt rows r c)=λi k=>if i=r then fc ak r (findAt rows r c) r k/fc ak r (findAt rows r c) r c else fc ak r (findAt rows r c) i k-fc ak r (findAt rows r c) i c*(fc ak r (findAt rows r c) r k/fc ak r (findAt rows r c) r c):=rfl;rw[EA];generalize oY rows r (findAt rows r c)=hk at *;generalize fc ak r (findAt rows r c)=S at *;obtain⟨x,J,ex,mK⟩:=yc.row M;rw[ex,mK.cell (by omega)];obtain⟨d1,d2⟩:=asO mK (mK.2 c (by omega)) bc
   have xS:BL hk r c=hk.set r (x.1,x.2.1,(g7 (bW (S r c)) x.2.2).1):=by
    unfold BL;rw[ex,mK.cell (by omega)]
   rw[xS]
   have VD:j0 N (g7 (bW (S r c)) x.2.2).1 (λk=>S r k/S r c)->∀(j:Nat) y,(hk.set r (x.1,x.2.1,(g7 (bW (S r c)) x.2.2).1))[j]?=some y->j0 N y.2.2 ((λi=>if i=r then λk=>S r k/S r c else S i) (0+j)):=by
    intro ae j y ag;rw[lr];rw[lO] at ag
    by_cases aa:r=j
    ·rw[aq aa,aq (by have:=yc.1;omega)] at ag
     cases ag;dsimp only;rw[aq aa.symm];exact ae
    ·rw[ar aa] at ag;dsimp only;rw[ar (Ne.symm aa)];exact yc.2 j y ag
   dsimp only;rcases n3:(g7 (bW (S r c)) x.2.2).2
   ·have ae:=d2 n3;obtain⟨fK,hd⟩:=afn (r:=r) (c:=c) ae (by omega) 0 (hk.set r (x.1,x.2.1,(g7 (bW (S r c)) x.2.2).1)) (λi=>if i=r then λk=>S r k/S r c else S i) (VD ae)
    constructor
    ·intro U;refine⟨?_,λi z aQ=>?_⟩
     ·have:=congrArg D (Nq (g7 (bW (S r c)) x.2.2).1 r c 0 (hk.set r (x.1,x.2.1,(g7 (bW (S r c)) x.2.2).1)) false);rw[az,az,fN] at this;rw[this];exact yc.1
     ·have:=hd U i z aQ;rw[lr] at this;refine this.congr λk Q=>?_
      by_cases pV:i=r
      ·simp only[aq pV]
      ·simp only[ar pV]
    ·intro dp;refine fK λj aa afr bc k Q=>?_;rw[lr] at *;simp only[ar afr] at bc ⊢;rw[fN,yc.1] at aa;exact dp.2 j aa afr bc k Q
   ·constructor
    ·intro U;rw[O6] at U
     cases U
    ·intro dp;rw[d1.2 dp.1] at n3
     cases n3
structure FL (N:Nat) (ak th:cT) (rows:List cV) (p c:Nat) (dJ:Nat->Nat):Prop where
 enc:uX N rows th
 red:pd N th p c dJ
 FM:∀y,jZ N th y↔jZ N ak y
def asQ (stop:Bool)(N:Nat)(afs:cT):∀k c rows free ak p dJ,c+k=N->FL N afs ak rows p c dJ->p+D free=c->(stop=true->free=[]/\∀j,j<p->dJ j=j) ->
  ∀uZ p4,lQ stop k c rows free false=(uZ,p4,false) ->
  ∃th tJ c' CG,FL N afs th uZ tJ c' CG/\(stop=false->c'=N/\tJ+D p4=N) /\
   (stop=true->(p4=[]/\c'=N/\tJ=N/\∀j,j<N->CG j=j)\/(∃f,p4=[f]/\f<N/\tJ=f/\c'=f/\(∀j,j<f->CG j=j)/\∀i,f<=i->i<N->th i f=0)):=by
 intro k
 induction k with
 |zero =>
  intro c rows free ak p dJ Z he aD R uZ p4 J;simp only[lQ,ei,and_true] at J;obtain⟨rfl,rfl⟩:=J;refine⟨ak,p,c,dJ,he,λ_=>⟨by omega,by omega⟩,λh=>?_⟩
  obtain⟨E,G⟩:=R h;subst E;simp only[lD,kv] at aD;exact .inl ⟨rfl,by omega,by omega,λj aa=>G j (by omega)⟩
 |succ k aF =>
  intro c rows free ak p dJ Z he aD R uZ p4 J;have HW:c-D free=p:=by omega
  unfold lQ at J;rw[HW] at J;rcases afp he.enc (r:=p) (c:=c) (by omega) (by omega) with ⟨E,G,ad,aK⟩|⟨E,s,eX,hj,p0,aK,bp⟩
  ·rw[E,G,ad,aq rfl] at J
   cases stop with
   |true =>
    rw[aq rfl] at J;simp only[ei,and_true] at J;obtain⟨rfl,rfl⟩:=J;obtain⟨cA,cY⟩:=R rfl;subst cA;simp only[lD,kv] at aD;subst aD;exact⟨ak,p,p,dJ,he,by simp,λ_ => .inr ⟨p,rfl,by omega,rfl,rfl,cY,aK⟩⟩
   |false =>
    rw[ar (by simp)] at J;exact aF (c+1) rows (free++[c]) ak p dJ (by omega) ⟨he.enc,he.red.free aK,he.FM⟩ (by simp;omega) (by simp) uZ p4 J
  ·rw[E,ar (by simp)] at J;rcases U:(hQ rows p c).2.2
   ·rw[U] at J;have xr:=aK U;refine aF (c+1) _ free (kO ak p c s) (p+1) (λj=>if j=p then c else dJ j) (by omega) ⟨xr,he.red.zS (by omega) eX hj p0,λy=>(Vv (by omega) hj p0).trans (he.FM y)⟩ (by omega) (λh=>?_) uZ p4 J;obtain⟨cA,cY⟩:=R h;refine⟨cA,λj aa=>?_⟩;subst cA;simp only[lD,kv] at aD;show (if j=p then c else dJ j)=j
    split
    ·omega
    ·exact cY j (by omega)
   ·rw[U,ab8] at J
    cases J
def p5 (rs:List ej):cT:=λi k=>if k<(D rs) then dV ((rs.getD i ([],bK)).1.getD k bK) else dV (rs.getD i ([],bK)).2
def O7 {f:aJ}(h:cU f=true):f=bW (dV f)/\ed (dV f):=by
 obtain⟨x,J,rfl⟩:=(MB _).1 h;rw[Il];exact⟨rfl,J⟩
def asR {rs:List ej}{n:Int}(h:n7 rs n=true):(D rs:Int)=n/\D rs<=40/\∀r∈rs,r.1.length=D rs/\cU r.2=true/\∀f∈r.1,cU f=true:=by
 unfold n7 at h;simp only[dH,na,decide_eq_false_iff_not,beq_iff_eq] at h;obtain⟨E,G,ad,aK⟩:=h;refine⟨ad,by omega,λr M=>?_⟩
 rw[s6] at aK;have:=aK r M;unfold s8 x5 at this;simp only[na,Bool.not_eq_true,Bool.not_eq_false',dH,beq_iff_eq,s6,JG] at this;obtain⟨lf,mj,pf⟩:=this;exact⟨by omega,mj,λf ao=>by simpa using pf f ao⟩
def aft {rs:List ej}{i:Nat}{r:ej}(h:rs[i]?=some r):rs.getD i ([],bK)=r:=by
 rw[eF,h];rfl
def afu {rs:List ej}{n:Int}(h:n7 rs n=true):uX (D rs) (g9 rs) (p5 rs):=by
 obtain⟨aE,Oh,VD⟩:=asR h;refine⟨BQ rs,λi x J=>?_⟩
 have O:i<D rs:=by
  have:=(dn.1 J).1;rwa [BQ] at this
 obtain⟨r,M⟩:∃r,rs[i]?=some r:=⟨_,bB O⟩;rw[ab1 M] at J
 cases J;obtain⟨aL,ax,eo⟩:=VD r (du M);refine j0.VA (by simp[aL]) λk Q=>?_;unfold p5;rw[aft M]
 by_cases gm:k<D rs
 ·rw[aq gm];obtain⟨f,ao⟩:∃f,r.1[k]?=some f:=⟨_,bB (by omega)⟩;obtain⟨lf,mj⟩:=O7 (eo f (du ao));rw[List.getElem?_append_left (by omega),ao,eF,ao];exact⟨congrArg some lf,mj⟩
 ·rw[ar gm];obtain⟨lf,mj⟩:=O7 ax;rw[List.getElem?_append_right (by omega),aL,show k-D rs=0 by omega]
  exact⟨congrArg some lf,mj⟩
def asS (stop:Bool){rs:List ej}{n:Int}(h:n7 rs n=true){uZ:List cV}{p4:List Nat}(J:o0 stop rs=(uZ,p4,false)):
  ∃th tJ c' CG,FL (D rs) (p5 rs) th uZ tJ c' CG/\(stop=false->c'=D rs/\tJ+D p4=D rs) /\
   (stop=true->(p4=[]/\c'=D rs/\tJ=D rs/\∀j,j<(D rs)->CG j=j)\/(∃f,p4=[f]/\f<D rs/\tJ=f/\c'=f/\(∀j,j<f->CG j=j)/\∀i,f<=i->i<(D rs)->th i f=0)) :=
 asQ stop (D rs) (p5 rs) (D rs) 0 (g9 rs) [] (p5 rs) 0 (λj=>j) (by omega) ⟨afu h,Vw _ _ _,λ_=>Iff.rfl⟩ rfl (λ_=>⟨rfl,λj aa=>by omega⟩) uZ p4 J
def sg (N:Nat)(q:Nat->Rat)(b:Nat):Prop:=∃(v:Nat->Int) (d:Int),d≠0/\d.natAbs<=2^b/\∀k,k<=N->q k*(d:Rat)=(v k:Rat)/\(v k).natAbs<=2^b
def sg.mono {N a b:Nat}{q:Nat->Rat}(h:sg N q a)(om:a<=b):sg N q b:=by
 obtain⟨v,d,E,G,ad⟩:=h;have aD:2^a<=2^b:=jU (by omega) om;exact⟨v,d,E,cN G aD,λk Q=>⟨(ad k Q).1,cN (ad k Q).2 aD⟩⟩
def asT {q:Rat}{v d:Int}(ae:d≠0)(h:q*(d:Rat)=(v:Rat)):q.num*d=v*q.den:=by
 have kS:(d:Rat)≠0:=by rw[Ne,Ke];exact ae
 have e:q=jW v d:=by rw[O8];grind
 have ax:jW q.num q.den=jW v d:=by rw[ud];exact e
 exact (Rat.divInt_eq_divInt_iff (wh q) ae).1 ax
def FN {q:Rat}{v d:Int}(ae:d≠0)(h:q*(d:Rat)=(v:Rat)):q.num.natAbs<=v.natAbs/\q.den<=d.natAbs:=by
 have Z:=asT ae h
 have tG:q.num.natAbs*d.natAbs=v.natAbs*q.den:=by
  have:=congrArg Int.natAbs Z;rwa [k1,k1,ih] at this
 have yN:q.den∣d.natAbs:=(Nat.Coprime.symm q.reduced).dvd_of_dvd_mul_left ⟨v.natAbs,by rw[tG,pH]⟩
 have Sr:0<d.natAbs:=by omega
 have G:=Nat.le_of_dvd Sr yN;refine⟨?_,G⟩;obtain⟨m,hm⟩:=yN;rw[hm] at tG;have Su:=q.den_pos
 have ad:q.num.natAbs*m=v.natAbs:=by
  have:q.den*(q.num.natAbs*m)=q.den*v.natAbs:=by rw[pH q.den v.natAbs,<-tG];rw[afv]
  exact Nat.eq_of_mul_eq_mul_left Su this
 have mV:0<m:=by
  rcases iK m with al|al
  ·rw[al,Nat.mul_zero] at hm;omega
  ·exact al
 rw[<-ad];exact yQ _ mV
def et (b:Nat)(q:Rat):Prop:=q.num.natAbs<=2^b/\q.den<=2^b
def sg.sz {N b:Nat}{q:Nat->Rat}(h:sg N q b){k:Nat}(Q:k<=N):et b (q k):=by
 obtain⟨v,d,E,G,ad⟩:=h;obtain⟨aL,ax⟩:=ad k Q;obtain⟨f1,f2⟩:=FN E aL;exact⟨cN f1 ax,cN f2 G⟩
def asU (a b c:Nat)(h:a=2^b):a^c=2^(b*c):=by rw[h,<-Nat.pow_mul]
def asV:∃B:Nat,B=1200/\da=2^B:=⟨20*60,rfl,asU 1048576 20 60 (by decide)⟩
def Ah {z:Int}{b:Nat}(h:z.natAbs<=2^b)(U:b<1200):hP z=true:=by
 obtain⟨B,hq,b2⟩:=asV;unfold hP;rw[b2,decide_eq_true_eq];exact Nat.lt_of_le_of_lt h (afw (by omega) (by omega))
def nR {x y:Int}{a b:Nat}(J:x.natAbs<=2^a)(ag:y.natAbs<=2^b):(x*y).natAbs<=2^(a+b):=by
 rw[k1,jF];exact gq J ag
def VE {x y:Int}{a:Nat}(J:x.natAbs<=2^a)(ag:y.natAbs<=2^a):(x+y).natAbs<=2^(a+1):=by
 have:=Int.natAbs_add_le x y;rw[rv];omega
def et.mono {a b:Nat}{q:Rat}(h:et a q)(om:a<=b):et b q:=by
 have aD:2^a<=2^b:=jU (by omega) om;exact⟨cN h.1 aD,cN h.2 aD⟩
def VF {x y:Rat}{a b:Nat}(J:et a x)(ag:et b y)(h:a+b<1200):x4 x y=true:=by
 unfold x4;rw[dH];exact⟨Ah (nR J.1 ag.1) h,Ah (nR (x:=(x.den:Int)) (y:=(y.den:Int)) (by simpa using J.2) (by simpa using ag.2)) h⟩
def afx {x y:Rat}{a b:Nat}(J:et a x)(ag:et b y)(h:a+b<1200):wg x y=true:=by
 unfold wg;rw[dH];exact⟨Ah (nR (y:=(y.den:Int)) J.1 (by simpa using ag.2)) h,Ah (nR (x:=(x.den:Int)) (by simpa using J.2) ag.1) h⟩
def FO {x y:Rat}{a b:Nat}(J:et a x)(ag:et b y)(h:a+b+1<1200):s4 x y=true:=by
 unfold s4;have E:=nR (y:=(y.den:Int)) J.1 (by simpa using ag.2);have G:=nR (y:=(x.den:Int)) ag.1 (by simpa using J.2);rw[An b a] at G;simp only[dH];exact⟨Ah E (by omega),Ah G (by omega),Ah (VE E G) h,Ah (nR (x:=(x.den:Int)) (y:=(y.den:Int)) (by simpa using J.2) (by simpa using ag.2)) (by omega)⟩
def Kf {b:Nat}{q:Rat}(h:et b q):et b (-q):=⟨by rw[afy,xY];exact h.1,h.2⟩
def afz {p q:Int}{b:Nat}(E:p.natAbs<=2^b)(G:q.natAbs<=2^b)(aM:q≠0):et b (jW p q):=by
 have aAX:(q:Rat)≠0:=by rw[Ne,Ke];exact aM
 have:=FN (q:=jW p q) (v:=p) aM (by rw[O8];grind);exact⟨cN this.1 E,cN this.2 G⟩
def VG {x y:Rat}{a b:Nat}(J:et a x)(ag:et b y):et (a+b) (x*y):=by
 rw[<-SM];exact afz (nR J.1 ag.1) (nR (x:=(x.den:Int)) (y:=(y.den:Int)) (by simpa using J.2) (by simpa using ag.2)) (wi (wh x) (wh y))
def Kg {x y:Rat}{a b:Nat}(J:et a x)(ag:et b y):et (a+b+1) (x+y):=by
 rw[<-SL];have E:=nR (y:=(y.den:Int)) J.1 (by simpa using ag.2);have G:=nR (y:=(x.den:Int)) ag.1 (by simpa using J.2);rw[An b a] at G;have ad:=nR (x:=(x.den:Int)) (y:=(y.den:Int)) (a:=a) (b:=b) (by simpa using J.2) (by simpa using ag.2);exact afz (VE E G) (cN ad (jU (by omega) (by omega))) (wi (wh x) (wh y))




def asW {f:aJ}(h:ng f 1=true):f.1.2.length<=1/\f.2.2.length<=1:=by
 unfold ng at h;simp only[dH,decide_eq_true_eq] at h;omega
def yz:Nat->Nat
 |0=>80
 |p+1=>2*yz p+1
def O9:Nat->Nat
 |0=>0
 |p+1=>O9 p+yz p+1
def Ai (N:Nat)(ak:cT)(p:Nat):Prop:=∀i,i<N->sg N (ak i) (if i<p then O9 p else yz p)
def sg.div {N b r c:Nat}{S:cT}(h:sg N (S r) b)(Z:c<=N)(bc:S r c≠0):sg N (λk=>S r k/S r c) b:=by
 obtain⟨v,d,E,G,ad⟩:=h;obtain⟨aL,ax⟩:=ad c Z;have kS:(d:Rat)≠0:=by rw[Ne,Ke];exact E
 have ai:v c≠0:=by
  intro al;rw[al,Rat.intCast_zero] at aL;rcases Kh.1 aL with h|h
  ·exact bc h
  ·exact kS h
 refine⟨v,v c,ai,ax,λk Q=>⟨?_,(ad k Q).2⟩⟩;rw[<-(ad k Q).1,<-aL];grind
def sg.elim {N a b c:Nat}{q p:Nat->Rat}(h:sg N q a)(aD:sg N p b)(Z:c<=N):sg N (λk=>q k-q c*p k) (a+b+1):=by
 obtain⟨v,d,E,G,ad⟩:=h;obtain⟨w,e,cA,cY,ht⟩:=aD;have hle:2^(a+b)<=2^(a+b+1):=jU (by omega) (by omega);refine⟨λk=>v k*e-v c*w k,d*e,wi E cA,cN (nR G cY) hle,λk Q=>⟨?_,?_⟩⟩
 ·rw[VH,j1,j1,j1,<-(ad k Q).1,<-(ad c Z).1,<-(ht k Q).1];grind
 ·have ba:=nR (ad k Q).2 cY;have bJ:=nR (ad c Z).2 (ht k Q).2;have dD:(-(v c*w k)).natAbs<=2^(a+b):=by rw[xY];exact bJ
  have:=VE ba dD;rwa [<-Int.sub_eq_add_neg] at this
def Ai.swap {N p s:Nat}{ak:cT}(h:Ai N ak p)(aD:p<N)(R:p<=s)(p3:s<N):Ai N (fc ak p s) p:=by
 intro i O;unfold fc
 by_cases E:i=s
 ·rw[aq E];have:=h p aD;rw[ar (by omega)] at this ⊢;exact this
 ·rw[ar E]
  by_cases G:i=p
  ·rw[aq G];have:=h s p3;rw[ar (by omega)] at this ⊢;exact this
  ·rw[ar G];exact h i O
def Ai.zS {N p c s:Nat}{ak:cT}(h:Ai N ak p)(aD:p<N)(R:p<=s)(p3:s<N)(Z:c<=N)(bc:ak s c≠0):Ai N (kO ak p c s) (p+1):=by
 have cm:=h.swap aD R p3;have afh:fc ak p s p c≠0:=by rw[Kc];exact bc
 have u0:=cm p aD;rw[ar (by omega)] at u0;have dh:=u0.div Z afh;intro i O
 by_cases hD:i=p
 ·rw[aq (by omega)];have:kO ak p c s i=λk=>fc ak p s p k/fc ak p s p c:=by funext k;unfold kO;rw[aq hD]
  rw[this];exact dh.mono (by show yz p<=O9 p+yz p+1;omega)
 ·have:kO ak p c s i=λk=>fc ak p s i k-fc ak p s i c*(fc ak p s p k/fc ak p s p c):=by funext k;unfold kO;rw[ar hD]
  rw[this];have:=(cm i O).elim dh Z
  by_cases au:i<p
  ·rw[aq au] at this;rw[aq (by omega)];exact this
  ·rw[ar au] at this;rw[ar (by omega)];exact this.mono (by show yz p+yz p+1<=2*yz p+1;omega)
def Ai.ok {N p c:Nat}{S:cT}(h:Ai N S p)(aD:p<N)(aac:p<3)(Z:c<=N)(bc:S p c≠0):VC N S p c:=by
 have U:∀i,i<N->∀k,k<=N->et 323 (S i k):=by
  intro i O k Q;refine ((h i O).sz Q).mono ?_
  have:yz p<=323/\O9 p<=243:=by
   rcases p with _|_|_|p
   ·decide
   ·decide
   ·decide
   ·omega
  split<;>omega
 have dh:∀k,k<=N->et 323 (S p k/S p c):=by
  intro k Q;have u0:=h p aD;rw[ar (by omega)] at u0;refine ((u0.div Z bc).sz Q).mono ?_;rcases p with _|_|_|p
  ·decide
  ·decide
  ·decide
  ·omega
 refine⟨λk Q=>afx (U p aD k Q) (U p aD c Z) (by omega),λi O _ _ k Q=>?_⟩;unfold pe;rw[dH];exact⟨VF (U i O c Z) (dh k Q) (by omega),FO (U i O k Q) (Kf (VG (U i O c Z) (dh k Q))) (by omega)⟩
def Pa {f:aJ}(M:cU f=true)(ao:ng f 1=true):et 20 (dV f):=by
 obtain⟨e,E,G⟩:=O7 M;obtain⟨cA,cY⟩:=asW ao;rw[e] at cA cY;have cP:=fw.1 (show (aG (dV f).num.natAbs).length<=1 from cA);have e0:=fw.1 (show (aG ((dV f).den:Int).natAbs).length<=1 from cY);rw[ih] at e0;have pN:(1048576:Nat)^1=2^20:=by decide
 rw[pN] at cP e0;exact⟨zv cP,zv e0⟩
def asX (q:Nat->Rat)(b:Nat)(h:∀k,et b (q k)):∀n:Nat,∃d:Int,0<d/\d.natAbs<=2^(n*b)/\∃v:Nat->Int,∀k,k<n->q k*(d:Rat)=(v k:Rat)/\(v k).natAbs<=2^(n*b):=by
 intro n
 induction n with
 |zero=>exact⟨1,by decide,by simp,λ_=>0,λk Q=>by omega⟩
 |succ n aF =>
  obtain⟨d,ae,n3,v,ai⟩:=aF;have jn:=den_pos (q n)
  have J:(q n)*(((q n).den:Int):Rat)=((q n).num:Rat):=by
   have E:q n=jW (q n).num (q n).den:=(ud _).symm;have G:(((q n).den:Int):Rat)≠0:=by rw[Ne,Ke];omega
   rw[O8] at E;generalize (((q n).den:Int):Rat)=aU at *;generalize ((q n).num:Rat)=a4 at *;rw[E];grind
  rw[tz];refine⟨d*(q n).den,Int.mul_pos ae jn,nR n3 (by simpa using (h n).2),λk=>if k=n then (q n).num*d else v k*(q n).den,λk Q=>?_⟩
  by_cases Ki:k=n
  ·subst Ki;simp only[if_true];refine⟨?_,?_⟩
   ·rw[j1,j1,<-J];grind
   ·have:=nR (h k).1 n3;rwa [An] at this
  ·simp only[ar Ki];obtain⟨aL,ax⟩:=ai k (by omega);refine⟨?_,nR ax (by simpa using (h n).2)⟩;rw[j1,j1,<-aL];grind
def VI {f:aJ}(h:ng f 1=true):okF f:=by
 unfold ng at h;simp only[dH,decide_eq_true_eq] at h;exact⟨by omega,by omega⟩
def FP {l:List aJ}{n:Int}(h:p2 l n 1=true):(D l:Int)<=n/\∀f∈l,ng f 1=true:=by
 unfold p2 at h;simp only[dH,decide_eq_true_eq,jO] at h;exact h
def afA {l:List aJ}(h:p2 l 4 1=true):iE l:=by
 obtain⟨E,G⟩:=FP h;exact⟨by omega,λf ao=>VI (G f ao)⟩
def afB {ls:List b0}(h:uT ls=true):(D ls)<=10/\∀l∈ls,ng l.2.2 1=true:=by
 unfold uT at h;simp only[dH,decide_eq_true_eq,jO] at h;exact⟨by omega,h.2⟩
def asY {ls:List b0}(h:uT ls=true):uB ls:=by
 obtain⟨E,G⟩:=afB h;exact⟨by omega,λl af=>VI (G l af)⟩
def Kj {cap base:List aJ}{ls:List b0}(h:yv cap base ls=true):p2 cap 4 1=true/\p2 base 4 1=true/\uT ls=true:=by
 unfold yv at h;simp only[dH] at h;exact h
def asZ {cap base:List aJ}{ls:List b0}(h:yv cap base ls=true):yg cap base ls:=by
 obtain⟨E,G,ad⟩:=Kj h;exact⟨afA E,afA G,asY ad⟩
def Kk {b:Nat}{q:Rat}(h:et b q)(U:b<1200):ed q:=by
 have:=afw (a:=2) (by omega) U;have b2:da=2^1200:=by decide +kernel
 refine⟨?_,?_⟩
 ·have:=h.1;rw[b2];omega
 ·have:=h.2;rw[b2];omega
def afC {cap base:List aJ}{ls:List b0}(aE:(D cap)<=40):∀(k:Nat) (left:List Bool) (rounds:List (List Nat)),(∀x∈rounds,D x<=1000000)->(D rounds)+k<=1000000->J0 (pb cap base ls k left rounds).2.1
 |0,_,_,_,_=>⟨by simp[pb],λx J=>by cases J⟩
 |k+1,left,rounds,h,Q=>by
  unfold pb
  split
  ·split
   ·exact⟨by simp,λx J=>by cases J⟩
   ·exact⟨by dsimp only;omega,h⟩
   ·rename_i i lv xg;refine afC aE k _ _ (λx J=>?_) (by rw[List.length_append,List.length_singleton];omega);rcases hs.1 J with J|J
    ·exact h x J
    ·rw[List.mem_singleton] at J;subst J;have:=Oj _ _ _ _ xg;rw[lD] at this;omega
  ·exact⟨by simp,λx J=>by cases J⟩
def as0 (cap base:List aJ)(ls:List b0):J0 (iG cap base ls).2.1:=by
 unfold iG
 split
 ·rename_i M;obtain⟨-,aE,-⟩:=wM M;exact afC aE _ _ _ (λx J=>by cases J) (by rw[lD];omega)
 ·exact⟨by simp,λx J=>by cases J⟩



def VJ:Option Nat->Nat->Bool
 |some q,x=>decide ((q:Int)>=(x:Int))
 |none,_=>false
def u1 (n:Nat)(p:Option Nat)(x:Nat)(m:List Bool):Bool:=decide ((x:Int)>=(n:Int))||(VJ p x||m.getD x false)
def p6 (n:Nat):Option Nat->List Nat->List Bool->Option (List Bool)
 |_,[],m=>some m
 |p,x::t,m=>if u1 n p x m=true then none else p6 n (some x) t (m.set x true)
def mm (n:Nat):List (List Nat)->List Bool->Option (List Bool)
 | [],m=>some m
 |r::t,m=>if ((D r:Int)==0)=true then none else match p6 n none r m with
  |none=>none
  |some m'=>mm n t m'
def wR (cap base:List aJ)(ls:List b0)(x:List aJ)(m:List Bool):Nat->Nat->Bool
 |0,_=>true
 |k+1,i=>if (!(wP (base.getD i bK) ls x i).2||((m.getD i false&&(decide (lM (x.getD i bK) (cap.getD i bK)>=0) || !(lM (x.getD i bK) (wP (base.getD i bK) ls x i).1==0)))||(!m.getD i false&&(!(lM (x.getD i bK) (cap.getD i bK)==0)||decide (lM (wP (base.getD i bK) ls x i).1 (cap.getD i bK)<0)))))=true then false else wR cap base ls x m k (i+1)
def wS (y x:List aJ):Nat->Nat->Bool
 |0,_=>true
 |k+1,i=>if decide (lM (y.getD i bK) (x.getD i bK)<0)=true then false else wS y x k (i+1)
def Pb (cap base:List aJ)(ls:List b0)(x:List aJ)(i:Nat)(f:aJ):Bool :=
 if ((iC (base.getD i bK) f).2==0&&((iC (cap.getD i bK) f).2==0))=true then
  (if ((iG (cap.set i (iC (cap.getD i bK) f).1) (base.set i (iC (base.getD i bK) f).1) ls).2.2==0&&(((iG (cap.set i (iC (cap.getD i bK) f).1) (base.set i (iC (base.getD i bK) f).1) ls).1.length:Int)==(D cap:Int)))=true then
   wS (iG (cap.set i (iC (cap.getD i bK) f).1) (base.set i (iC (base.getD i bK) f).1) ls).1 x (D cap) 0
  else false)
 else false
def Pc (cap base:List aJ)(ls:List b0)(k:Nat)(f:aJ):Bool :=
 if (yv cap base ls&&ng f 1)=true then
  (if ((iG cap base ls).2.2==0)=true then
   (match mm (D cap) (iG cap base ls).2.1 (cK (D cap) false) with
    |none=>false
    |some m=>if (((iG cap base ls).1.length:Int)==(D cap:Int))=true then
      (if wR cap base ls (iG cap base ls).1 m (D cap) 0=true then
       (if (((D cap:Int)==0) || !fP f)=true then true else Pb cap base ls (iG cap base ls).1 (k%(D cap)) f)
      else false)
     else false)
  else true)
 else true
def CH (r:List Nat):Nat->Option Nat
 |0=>none
 |q+1=>r[q]?
def VK {n:Nat}{r:List Nat}{t:List (List Nat)}{m:List Bool}(al:((D r:Int)==0)=false)(h:p6 n none r m=none):mm n (r::t) m=none:=by
 unfold mm;rw[al,h]
 rfl
def Pd {n:Nat}{r:List Nat}{t:List (List Nat)}{m m':List Bool}(al:((D r:Int)==0)=false)(h:p6 n none r m=some m'):mm n (r::t) m=mm n t m':=by
 have:mm n (r::t) m=if ((D r:Int)==0)=true then none else match p6 n none r m with
  |none=>none
  |some m'=>mm n t m':=rfl
 rw[this,al,h]
 rfl
def VL {n:Nat}{r:List Nat}{t:List (List Nat)}{m:List Bool}(al:((D r:Int)==0)=true):mm n (r::t) m=none:=by
 unfold mm;rw[al]
 rfl
def as1 {n:Nat}{p:Option Nat}{x:Nat}{t:List Nat}{m:List Bool}:p6 n p (x::t) m=if u1 n p x m=true then none else p6 n (some x) t (m.set x true):=rfl
def as2 (T:bl){K:eZ->a1->Prop}{gY:List hI}(n:Nat)(rs:List (List Nat))(i:Nat)(r:List Nat)(ly:rs[i]?=some r)(bY:(D r)<=1000000)(jY:List Bool)(VM:(D jY)=n)(aE:n<=1000000)(tm:Nat->I)(m:Mem)
  (zr:tm 9=.L (.ay (rs.map jE))) (CI:tm 11=.L (.int .i64 n)) (v8:tm 12=.ref 408052 0 1 0 n) (EF:tm 13=.L (.int .i64 i)) (Nf:tm 14=.L (.int .i64 0)) (em:m 408052=some (0,a6 lb jY))
  (jT:p6 n none r jY=none->∀tm' m',tm' 6=.L (.bool false)->cg T K gY .ret ⟨tm',m'⟩)
  (dp:∀gA,D gA=n->p6 n none r jY=some gA->∀tm' m',tm' 1=tm 1->tm' 3=tm 3->tm' 5=tm 5->tm' 7=tm 7->tm' 8=tm 8->tm' 9=.L (.ay (rs.map jE))->tm' 11=.L (.int .i64 n)->tm' 12=.ref 408052 0 1 0 n->tm' 13=.L (.int .i64 i)->m' 408003=m 408003->m' 408005=m 408005->m' 408205=m 408205->m' 408208=m 408208->m' 408209=m 408209->m' 408212=m 408212->m' 408052=some (0,a6 lb gA)->eQ 408 emp m'->cg T K gY (.exit 2) ⟨tm',m'⟩) (Kl:eQ 408 emp m) :
  wp T (wQ.body.sub [1,1,1,1,1,1,1,0,1,0,0,1,0,0,1,1,0]) (cg T K gY) ⟨tm,m⟩:=by
 simp only[wQ,eh.sub];generalize eS:p6 n none r jY=a9 at *;refine dM [1,3,5,7,8,9,11,12,13] [408003,408005,408205,408208,408209,408212] (λ((j,a4):Nat×List Bool) tm m=>j<=D r/\D a4=n/\a9=p6 n (CH r j) (r.drop j) a4/\tm 14=.L (.int .i64 j)/\m 408052=some (0,a6 lb a4)/\eQ 408 emp m) (λ(j,_)=>D r-j) (0,jY) (by refine⟨eL _,VM,eS.symm,Nf,em,Kl⟩) ?_;intro vs ms a7 aY;simp only[go_sem,go_sem_proc,zr,CI,v8,EF] at a7 aY;subst a7 aY;rintro⟨j,a4⟩ tm' m' Q hm ⟨aa,h6,bk,oR,lg,dw⟩;simp only[go_sem,go_sem_proc,bs] at Q hm;obtain⟨cP,c9,gh,fV,eH,kj,fa,gQ,rL⟩:=Q;obtain⟨dD,iD,qT,qU,qV,qW⟩:=hm;rcases eC (j<D r) with au|bO
 ·have d1:decide ((j:Int)<(D r:Int))=true:=dW;have cW:=h4 (i:=j) (by omega);obtain⟨x,nN⟩:∃x,r[j]?=some x:=⟨_,bB au⟩
  have oS:r.drop j=x::r.drop (j+1):=by
   obtain⟨af,e⟩:=dn.1 nN;rw[fY af,e]
  have kJ:decide ((x:Int)<0)=false:=ef;rw[oS,as1] at bk;have Pe:CH r (j+1)=some x:=nN;rcases bU:decide ((x:Int)>=(n:Int))
  ·have uh:x<n:=by
    have:=of_decide_eq_false bU;omega
   obtain⟨b,U⟩:∃b,a4[x]?=some b:=⟨_,bB (by omega)⟩;have gl:a4.getD x false=b:=by rw[eF,U];rfl
   have ld:=Oc U;have kr:=JA (l:=a4) (k:=x) (by omega);have xT:=ad1 (l:=a4) (k:=x) (by omega) true;have afD:(a4.set x true).length=n:=by rw[fN];exact h6
   rcases iK j with TJ|CD
   ·subst TJ;have FQ:decide (((0:Nat):Int)>0)=false:=by decide
    have Km:u1 n (CH r 0) x a4=b:=by unfold u1;rw[bU,gl];simp[CH,VJ]
    rw[Km] at bk;rcases b
    ·simp only[df,if_false] at bk;refine an ?_;repeat' (intro h<;>simp only[h,go_sem,go_sem_proc,cP,c9,gh,fV,eH,kj,fa,gQ,rL,oR,dD,iD,lg,qT,qU,qV,qW,d1,cW,ly,nN,kJ,FQ,bU,ld,kr,xT,uh,jE,kK,dE,az,bG]<;>try refine aj ?_ ?_)
     exact⟨(0+1,a4.set x true),by dsimp only;omega,by dsimp only;omega,afD,by rw[Pe];exact bk,rfl,rfl,by repeat first|exact dw|refine eQ.eM ?_ (by decide)⟩
    ·simp only[if_true] at bk;refine an ?_;repeat' (intro h<;>simp only[h,go_sem,go_sem_proc,cP,c9,gh,fV,eH,kj,fa,gQ,rL,oR,dD,iD,lg,qT,qU,qV,qW,d1,cW,ly,nN,kJ,FQ,bU,ld,kr,xT,uh,jE,kK,dE,az,bG]<;>try refine aj ?_ ?_)
     exact jT bk _ _ rfl
   ·obtain⟨q,rfl⟩:∃q,j=q+1:=⟨j-1,by omega⟩
    have FQ:decide (((q+1:Nat):Int)>0)=true:=dW;obtain⟨y,Pf⟩:∃y,r[q]?=some y:=⟨_,bB (by omega)⟩;have h9:IntKind.i64.wrap (((q+1:Nat):Int)-1)=(q:Int):=by rw[fg _];omega
    have Km:u1 n (CH r (q+1)) x a4=(decide ((y:Int)>=(x:Int))||b):=by
     have EA:CH r (q+1)=some y:=Pf;unfold u1;rw[bU,gl,EA];rfl
    rw[Km] at bk;rcases c6:decide ((y:Int)>=(x:Int))
    ·rw[c6] at bk;rcases b
     ·simp only[Pg,df,if_false] at bk;refine an ?_;repeat' (intro h<;>simp only[h,go_sem,go_sem_proc,cP,c9,gh,fV,eH,kj,fa,gQ,rL,oR,dD,iD,lg,qT,qU,qV,qW,d1,cW,h9,ly,nN,Pf,kJ,FQ,bU,c6,ld,kr,xT,uh,jE,kK,dE,az,bG]<;>try refine aj ?_ ?_)
      exact⟨(q+1+1,a4.set x true),by dsimp only;omega,by dsimp only;omega,afD,by rw[Pe];exact bk,rfl,rfl,by repeat first|exact dw|refine eQ.eM ?_ (by decide)⟩
     ·simp only[pF,if_true] at bk;refine an ?_;repeat' (intro h<;>simp only[h,go_sem,go_sem_proc,cP,c9,gh,fV,eH,kj,fa,gQ,rL,oR,dD,iD,lg,qT,qU,qV,qW,d1,cW,h9,ly,nN,Pf,kJ,FQ,bU,c6,ld,kr,xT,uh,jE,kK,dE,az,bG]<;>try refine aj ?_ ?_)
      exact jT bk _ _ rfl
    ·rw[c6] at bk;simp only[m0,if_true] at bk;refine an ?_;repeat' (intro h<;>simp only[h,go_sem,go_sem_proc,cP,c9,gh,fV,eH,kj,fa,gQ,rL,oR,dD,iD,lg,qT,qU,qV,qW,d1,cW,h9,ly,nN,Pf,kJ,FQ,bU,c6,ld,kr,xT,uh,jE,kK,dE,az,bG]<;>try refine aj ?_ ?_)
     exact jT bk _ _ rfl
  ·have Km:u1 n (CH r j) x a4=true:=by unfold u1;rw[bU];rfl
   rw[Km] at bk;simp only[if_true] at bk;refine an ?_;repeat' (intro h<;>simp only[h,go_sem,go_sem_proc,cP,c9,gh,fV,eH,kj,fa,gQ,rL,oR,dD,iD,lg,qT,qU,qV,qW,d1,cW,ly,nN,kJ,bU,jE,kK,dE,az,bG]<;>try refine aj ?_ ?_)
   exact jT bk _ _ rfl
 ·have d1:decide ((j:Int)<(D r:Int))=false:=ef;have jn:r.drop j=[]:=lq (by omega);rw[jn] at bk;have bk:a9=some a4:=bk;refine an ?_;repeat' (intro h<;>simp only[h,go_sem,go_sem_proc,cP,c9,gh,fV,eH,kj,fa,gQ,rL,oR,dD,iD,lg,qT,qU,qV,qW,d1,ly,jE,az,bG]<;>try refine aj ?_ ?_)
  exact dp a4 h6 bk _ _ cP c9 gh fV eH kj fa gQ rL dD iD qT qU qV qW lg dw
def as3 (T:bl){K:eZ->a1->Prop}{gY:List hI}(n:Nat)(rs:List (List Nat))(lB:(D rs)<=1000000)(bY:∀r∈rs,D r<=1000000)(jY:List Bool)(VM:(D jY)=n)(aE:n<=1000000)(tm:Nat->I)(m:Mem)
  (zr:tm 9=.L (.ay (rs.map jE))) (CI:tm 11=.L (.int .i64 n)) (v8:tm 12=.ref 408052 0 1 0 n) (EF:tm 13=.L (.int .i64 0)) (em:m 408052=some (0,a6 lb jY))
  (jT:mm n rs jY=none->∀tm' m',tm' 6=.L (.bool false)->cg T K gY .ret ⟨tm',m'⟩)
  (dp:∀gA,D gA=n->mm n rs jY=some gA->∀tm' m',tm' 1=tm 1->tm' 3=tm 3->tm' 5=tm 5->tm' 7=tm 7->tm' 8=tm 8->tm' 11=.L (.int .i64 n)->tm' 12=.ref 408052 0 1 0 n->m' 408003=m 408003->m' 408005=m 408005->m' 408205=m 408205->m' 408208=m 408208->m' 408209=m 408209->m' 408212=m 408212->m' 408052=some (0,a6 lb gA)->eQ 408 emp m'->cg T K gY (.exit 0) ⟨tm',m'⟩) (Kl:eQ 408 emp m) :
  wp T (wQ.body.sub [1,1,1,1,1,1,1,0,1,0]) (cg T K gY) ⟨tm,m⟩:=by
 simp only[wQ,eh.sub];generalize eS:mm n rs jY=a9 at *;refine dM [1,3,5,7,8,9,11,12] [408003,408005,408205,408208,408209,408212] (λ((i,a4):Nat×List Bool) tm m=>i<=D rs/\D a4=n/\a9=mm n (rs.drop i) a4/\tm 13=.L (.int .i64 i)/\m 408052=some (0,a6 lb a4)/\eQ 408 emp m) (λ(i,_)=>D rs-i) (0,jY) (by refine⟨eL _,VM,eS.symm,EF,em,Kl⟩) ?_;intro vs ms a7 aY;simp only[go_sem,go_sem_proc,zr,CI,v8] at a7 aY;subst a7 aY;rintro⟨i,a4⟩ tm' m' Q hm ⟨O,h6,bk,l5,lg,dw⟩;simp only[go_sem,go_sem_proc,bs] at Q hm;obtain⟨cP,c9,gh,fV,eH,kj,fa,gQ⟩:=Q;obtain⟨dD,iD,qT,qU,qV,qW⟩:=hm;rcases eC (i<D rs) with au|bO
 ·have d1:decide ((i:Int)<(D rs:Int))=true:=dW;have cW:=h4 (i:=i) (by omega);obtain⟨r,ly⟩:∃x,rs[i]?=some x:=⟨_,bB au⟩
  have oS:rs.drop i=r::rs.drop (i+1):=by
   obtain⟨af,e⟩:=dn.1 ly;rw[fY af,e]
  rw[oS] at bk;rcases Kn:((D r:Int)==0)
  ·simp only[go_sem,go_sem_proc,cP,c9,gh,fV,eH,kj,fa,gQ,l5,dD,iD,lg,qT,qU,qV,qW,d1,ly,Kn,jE,az,bG];refine as2 T n rs i r ly (bY _ (du ly)) a4 h6 aE _ _ ?_ ?_ ?_ ?_ ?_ lg (λh VN bJ bD=>?_) (λgA jB h VN bJ lf pf Ko Kp Kq as4 Kr Ks as5 rY Kt Ph Pj Pk Pl VO VP=>?_) dw
   ·exact kj
   ·exact fa
   ·exact gQ
   ·exact l5
   ·rfl
   ·rw[VK Kn h] at bk;exact jT bk _ _ bD
   ·rw[Pd Kn h] at bk;have as6:=lf.trans cP;have as7:=pf.trans c9;have as8:=Ko.trans gh;have as9:=Kp.trans fV;have ata:=Kq.trans eH;have atb:=rY.trans dD;have atc:=Kt.trans iD;have atd:=Ph.trans qT;have ate:=Pj.trans qU;have atf:=Pk.trans qV;have atg:=Pl.trans qW;refine an ?_;repeat' (intro (aw:_=_)<;>simp only[aw,go_sem,go_sem_proc,as6,as7,as8,as9,ata,as4,Kr,Ks,as5,atb,atc,atd,ate,atf,atg,VO,cW]<;>try refine aj ?_ ?_)
    exact⟨(i+1,gA),by dsimp only;omega,by dsimp only;omega,jB,bk,rfl,rfl,VP⟩
  ·rw[VL Kn] at bk;refine an ?_;repeat' (intro (aw:_=_)<;>simp only[aw,go_sem,go_sem_proc,cP,c9,gh,fV,eH,kj,fa,gQ,l5,dD,iD,lg,qT,qU,qV,qW,d1,ly,Kn,jE,az,bG]<;>try refine aj ?_ ?_)
   exact jT bk _ _ rfl
 ·have d1:decide ((i:Int)<(D rs:Int))=false:=ef;have jn:rs.drop i=[]:=lq (by omega);rw[jn] at bk;have bk:a9=some a4:=bk;refine an ?_;repeat' (intro (aw:_=_)<;>simp only[aw,go_sem,go_sem_proc,cP,c9,gh,fV,eH,kj,fa,gQ,l5,dD,iD,lg,qT,qU,qV,qW,d1,az]<;>try refine aj ?_ ?_)
  exact dp a4 h6 bk _ _ cP c9 gh fV eH fa gQ dD iD qT qU qV qW lg dw
def ath {base:aJ}(U:okF base)(ls:List b0)(x:List aJ)(to:Int):okF (wP base ls x to).1:=by
 rw[ae9]
 split
 ·exact JF x to ls (base,true) U
 ·exact pT
def ati (T:bl)(iI:T L0=aT JZ)(dZ:T rz=aT zF){K:eZ->a1->Prop}{gY:List hI}(cap base x:List aJ)(ls:List b0)(Cn:yg cap base ls)(ga:∀l∈ls,0<=l.1/\l.1<D cap)(U:(D base)=D cap)(km:iE x)(tu:(D x)=D cap)(a4:List Bool)(h6:(D a4)=D cap)(tm:Nat->I)(m:Mem)
  (eo:tm 3=.ptr 408003 0 0) (oZ:tm 8=.L (.ay (x.map aS))) (CI:tm 11=.L (.int .i64 (D cap))) (v8:tm 12=.ref 408052 0 1 0 (D cap)) (No:tm 16=.L (.int .i64 0)) (afE:m 408003=some (0,[.L (.ay (cap.map aS)),.L (.ay (base.map aS)),.L (.ay (ls.map hl))])) (em:m 408052=some (0,a6 lb a4))
  (jT:wR cap base ls x a4 (D cap) 0=false->∀tm' m',tm' 6=.L (.bool false)->cg T K gY .ret ⟨tm',m'⟩)
  (dp:wR cap base ls x a4 (D cap) 0=true->∀tm' m',tm' 1=tm 1->tm' 3=.ptr 408003 0 0->tm' 5=tm 5->tm' 7=tm 7->tm' 8=.L (.ay (x.map aS))->tm' 11=.L (.int .i64 (D cap))->m' 408003=m 408003->m' 408005=m 408005->eQ 408 emp m'->m' 408205=m 408205->m' 408208=m 408208->m' 408209=m 408209->m' 408212=m 408212->cg T K gY (.exit 4) ⟨tm',m'⟩) (Kl:eQ 408 emp m) :
  wp T (wQ.body.sub [1,1,1,1,1,1,1,1,1,0,1,0]) (cg T K gY) ⟨tm,m⟩:=by
 simp only[wQ,eh.sub];obtain⟨⟨dP,Ch⟩,⟨yW,Ci⟩,Cj⟩:=Cn;generalize eS:wR cap base ls x a4 (D cap) 0=a9 at *;refine dM [1,3,5,7,8,11,12] [408003,408005,408052,408205,408208,408209,408212] (λ(i:Nat) tm m=>i<=D cap/\a9=wR cap base ls x a4 (D cap-i) i/\tm 16=.L (.int .i64 i)/\eQ 408 emp m) (λi=>D cap-i) 0 (by refine⟨eL _,eS.symm,No,Kl⟩) ?_;intro vs ms a7 aY;simp only[go_sem,go_sem_proc,eo,oZ,CI,v8,afE,em] at a7 aY;subst a7 aY;rintro i tm' m' Q hm ⟨O,bk,m5,dw⟩;simp only[go_sem,go_sem_proc,bs] at Q hm;obtain⟨cP,c9,gh,fV,eH,fa,gQ⟩:=Q;obtain⟨dD,iD,lg,VQ,VR,VS,VT⟩:=hm;rcases eC (i<D cap) with au|bO
 ·have d1:decide ((i:Int)<(D cap:Int))=true:=dW;have cW:=h4 (i:=i) (by omega);obtain⟨⟨⟨e9,fy⟩,⟨g6,iR⟩⟩,jt⟩:∃f,x[i]?=some f:=⟨_,bB (by omega)⟩;obtain⟨⟨⟨bU,c6⟩,⟨la,pZ⟩⟩,eN⟩:∃f,cap[i]?=some f:=⟨_,bB au⟩;obtain⟨⟨⟨cQ,dO⟩,⟨kp,kL⟩⟩,fU⟩:∃f,base[i]?=some f:=⟨_,bB (by omega)⟩;obtain⟨g,afF⟩:∃g,a4[i]?=some g:=⟨_,bB (by omega)⟩;have fX:x.getD i bK=((e9,fy),(g6,iR)):=by rw[eF,jt];rfl
  have gc:cap.getD i bK=((bU,c6),(la,pZ)):=by rw[eF,eN];rfl
  have Cl:base.getD i bK=((cQ,dO),(kp,kL)):=by rw[eF,fU];rfl
  have atj:a4.getD i false=g:=by rw[eF,afF];rfl
  have ld:=Oc afF;have kr:=JA (l:=a4) (k:=i) (by omega);obtain⟨gn,g5⟩:=km.2 _ (du jt);obtain⟨iu,nm⟩:=Ch _ (du eN);have afG:=Ci _ (du fU);dsimp only at gn g5 iu nm;have jo:(D cap)-i=(D cap-(i+1))+1:=by omega
  rw[jo] at bk;replace bk:=bk.trans (wR.eq_2 ..);rw[fX,gc,Cl,atj] at bk;have z1:=ath afG ls x i;have bO:=arR cQ dO kp kL ls x i ⟨afG,Cj,km,λl af _=>by have:=ga l af;omega⟩
  generalize wP ((cQ,dO),(kp,kL)) ls x i=S at *;obtain⟨⟨⟨s1,s2⟩,⟨cv,cD⟩⟩,b⟩:=S;dsimp only at bk bO z1;simp only[aS] at bO;obtain⟨eX,hj⟩:=z1;dsimp only at eX hj;rcases b
  ·simp only[dY,m0,if_true] at bk;refine an ?_;repeat' (intro h<;>simp only[h,go_sem,go_sem_proc,iI,dZ,cP,c9,gh,fV,eH,fa,gQ,m5,dD,iD,lg,d1,cW,jt,eN,fU,ld,kr,bO,aS,az,bG]<;>try refine aj ?_ ?_)
   exact jT bk _ _ rfl
  ·rcases g
   ·rcases pf:(lM ((e9,fy),(g6,iR)) ((bU,c6),(la,pZ))==0)
    ·rw[pf] at bk;simp only[dT,dY,e1,l2,gy,m0,if_true] at bk;refine an ?_;repeat' (intro h<;>simp only[h,go_sem,go_sem_proc,iI,dZ,cP,c9,gh,fV,eH,fa,gQ,m5,dD,iD,lg,d1,cW,jt,eN,fU,ld,kr,au,bO,gn,g5,iu,nm,eX,hj,pf,aS,dE,bne,dT,dY,az,bG]<;>try refine aj ?_ ?_)
     exact jT bk _ _ rfl
    ·rcases uy:decide (lM ((s1,s2),(cv,cD)) ((bU,c6),(la,pZ))<0)
     ·rw[pf,uy] at bk;simp only[dT,dY,e1,l2,gy,Pg,df,if_false] at bk;refine an ?_;repeat' (intro h<;>simp only[h,go_sem,go_sem_proc,iI,dZ,cP,c9,gh,fV,eH,fa,gQ,m5,dD,iD,lg,VQ,VR,VS,VT,d1,cW,jt,eN,fU,ld,kr,au,bO,gn,g5,iu,nm,eX,hj,pf,uy,aS,dE,bne,dT,dY,az,bG]<;>try refine aj ?_ ?_)
      exact⟨i+1,by omega,by omega,bk,rfl,by repeat first|exact dw|refine eQ.eM ?_ (by decide)⟩
     ·rw[pf,uy] at bk;simp only[dT,dY,e1,l2,gy,pF,if_true] at bk;refine an ?_;repeat' (intro h<;>simp only[h,go_sem,go_sem_proc,iI,dZ,cP,c9,gh,fV,eH,fa,gQ,m5,dD,iD,lg,d1,cW,jt,eN,fU,ld,kr,au,bO,gn,g5,iu,nm,eX,hj,pf,uy,aS,dE,bne,dT,dY,az,bG]<;>try refine aj ?_ ?_)
      exact jT bk _ _ rfl
   ·rcases lf:decide (lM ((e9,fy),(g6,iR)) ((bU,c6),(la,pZ))>=0)
    ·rcases mj:(lM ((e9,fy),(g6,iR)) ((s1,s2),(cv,cD))==0)
     ·rw[lf,mj] at bk;simp only[dT,dY,e1,l2,gy,m0,if_true] at bk;refine an ?_;repeat' (intro h<;>simp only[h,go_sem,go_sem_proc,iI,dZ,cP,c9,gh,fV,eH,fa,gQ,m5,dD,iD,lg,d1,cW,jt,eN,fU,ld,kr,au,bO,gn,g5,iu,nm,eX,hj,lf,mj,aS,dE,bne,dT,dY,az,bG]<;>try refine aj ?_ ?_)
      exact jT bk _ _ rfl
     ·rw[lf,mj] at bk;simp only[dT,dY,e1,l2,gy,Pg,df,if_false] at bk;refine an ?_;repeat' (intro h<;>simp only[h,go_sem,go_sem_proc,iI,dZ,cP,c9,gh,fV,eH,fa,gQ,m5,dD,iD,lg,VQ,VR,VS,VT,d1,cW,jt,eN,fU,ld,kr,au,bO,gn,g5,iu,nm,eX,hj,lf,mj,aS,dE,bne,dT,dY,az,bG]<;>try refine aj ?_ ?_)
      exact⟨i+1,by omega,by omega,bk,rfl,by repeat first|exact dw|refine eQ.eM ?_ (by decide)⟩
    ·rw[lf] at bk;simp only[dT,dY,e1,l2,gy,m0,if_true] at bk;refine an ?_;repeat' (intro h<;>simp only[h,go_sem,go_sem_proc,iI,dZ,cP,c9,gh,fV,eH,fa,gQ,m5,dD,iD,lg,d1,cW,jt,eN,fU,ld,kr,au,bO,gn,g5,iu,nm,eX,hj,lf,aS,dE,bne,dT,dY,az,bG]<;>try refine aj ?_ ?_)
     exact jT bk _ _ rfl
 ·have d1:decide ((i:Int)<(D cap:Int))=false:=ef;have uN:i=D cap:=by omega
  subst uN;rw[lW] at bk;replace bk:=bk.trans (wR.eq_1 ..);refine an ?_;repeat' (intro h<;>simp only[h,go_sem,go_sem_proc,cP,c9,gh,fV,eH,fa,gQ,m5,dD,iD,lg,d1,az]<;>try refine aj ?_ ?_)
  exact dp bk _ _ cP c9 gh fV eH fa (dD.trans afE.symm) iD dw VQ VR VS VT
def afH (k:Nat)(l:List aJ)(h:(D l)<=1000):mw k 0 4 0 64 (D l) ((l.map aS).flatten.map .L) (some (0,[]))=some (.ref k 1 4 0 (D l),some (k,1,a6 aS l)):=by
 have:=DB oX MT k 0 64 [] l (by simp;omega) (by simp;omega)
 simpa [a6] using this
def afI (l:List aJ):((l.map aS).all λe=>D e==4)=true:=by
 rw[jO];intro e he;obtain⟨b,-,rfl⟩:=h3.1 he
 rfl
def atk (T:bl)(dZ:T rz=aT zF){K:eZ->a1->Prop}{gY:List hI}(n:Nat)(y x:List aJ)(ag:iE y)(J:iE x)(Dn:(D y)=n)(uh:(D x)=n)(tm:Nat->I)(m:Mem)
  (Cv:tm 7=.L (.bool true)) (oZ:tm 8=.L (.ay (x.map aS))) (CI:tm 11=.L (.int .i64 n)) (atl:tm 25=.L (.ay (y.map aS))) (atm:tm 28=.L (.int .i64 0))
  (jT:wS y x n 0=false->∀tm' m',tm' 6=.L (.bool false)->cg T K gY .ret ⟨tm',m'⟩)
  (dp:wS y x n 0=true->∀tm' m',tm' 7=.L (.bool true)->cg T K gY (.exit 6) ⟨tm',m'⟩) :
  wp T (wQ.body.sub [1,1,1,1,1,1,1,1,1,1,1,1,1,1,1,1,1,1,1,1,0,1,0]) (cg T K gY) ⟨tm,m⟩:=by
 simp only[wQ,eh.sub];generalize eS:wS y x n 0=a9 at *;have tu:=J.1;refine dM [7,8,11,25] [] (λ(i:Nat) tm m=>i<=n/\a9=wS y x (n-i) i/\tm 28=.L (.int .i64 i)) (λi=>n-i) 0 (by refine⟨eL _,eS.symm,atm⟩) ?_;intro vs ms a7 aY;simp only[go_sem,go_sem_proc,Cv,oZ,CI,atl] at a7 aY;subst a7 aY;rintro i tm' m' Q hm ⟨O,bk,z6⟩;simp only[go_sem,go_sem_proc,bs] at Q hm;obtain⟨fV,eH,fa,Aa⟩:=Q;rcases eC (i<n) with au|bO
 ·have d1:decide ((i:Int)<(n:Int))=true:=dW;have cW:=h4 (i:=i) (by omega);obtain⟨⟨⟨e9,fy⟩,⟨g6,iR⟩⟩,jt⟩:∃f,x[i]?=some f:=⟨_,bB (by omega)⟩;obtain⟨⟨⟨oO,qv⟩,⟨afJ,afK⟩⟩,Pm⟩:∃f,y[i]?=some f:=⟨_,bB (by omega)⟩;have fX:x.getD i bK=((e9,fy),(g6,iR)):=by rw[eF,jt];rfl
  have atn:y.getD i bK=((oO,qv),(afJ,afK)):=by rw[eF,Pm];rfl
  obtain⟨gn,g5⟩:=J.2 _ (du jt);obtain⟨sY,Eg⟩:=ag.2 _ (du Pm);dsimp only at gn g5 sY Eg;have jo:n-i=(n-(i+1))+1:=by omega
  rw[jo] at bk;replace bk:=bk.trans (wS.eq_2 ..);rw[fX,atn] at bk;rcases bU:decide (lM ((oO,qv),(afJ,afK)) ((e9,fy),(g6,iR))<0)
  ·rw[bU] at bk;simp only[df,if_false] at bk;refine an ?_;repeat' (intro h<;>simp only[h,go_sem,go_sem_proc,dZ,fV,eH,fa,Aa,z6,d1,cW,jt,Pm,gn,g5,sY,Eg,bU,aS,az,bG]<;>try refine aj ?_ ?_)
   exact⟨i+1,by omega,by omega,bk,rfl⟩
  ·rw[bU] at bk;simp only[if_true] at bk;refine an ?_;repeat' (intro h<;>simp only[h,go_sem,go_sem_proc,dZ,fV,eH,fa,Aa,z6,d1,cW,jt,Pm,gn,g5,sY,Eg,bU,aS,az,bG]<;>try refine aj ?_ ?_)
   exact jT bk _ _ rfl
 ·have d1:decide ((i:Int)<(n:Int))=false:=ef;have uN:i=n:=by omega
  subst uN;rw[lW] at bk;replace bk:=bk.trans (wS.eq_1 ..);refine an ?_;repeat' (intro h<;>simp only[h,go_sem,go_sem_proc,fV,eH,fa,Aa,z6,d1]<;>try refine aj ?_ ?_)
  exact dp bk _ _ fV
abbrev Pn:(List aJ)×(List aJ)×(List b0)×Nat×Int×(List Int)×Int×(List Int)->List Data:=λ(cap,base,ls,k,s,l,s2,ab)=>[.agg [.ay (cap.map aS),.ay (base.map aS),.ay (ls.map hl)],.int .u8 k,.agg [.int .i64 s,.ay (l.map aH),.int .i64 s2,.ay (ab.map aH)]]
def Po:=b1 Pn λ(cap,base,ls,k,s,l,s2,ab)=>cu (k<256) (.same (.bool (Pc cap base ls k ((s,l),(s2,ab)))))
def ato:∀a b,Pn a=Pn b->a=b:=by
  rintro⟨aoY,aoZ,BU,cP,s1,ig,rM,qz⟩ ⟨ao0,ao1,BV,e0,s2,ab,rN,qA⟩ h;simp only[bs,Data.agg.injEq,Data.ay.injEq,Data.int.injEq,Int.natCast_inj] at h;exact cy (map_inj m8 _ _ h.1.1) (cy (map_inj m8 _ _ h.1.2.1) (cy (map_inj yf _ _ h.1.2.2.1) (cy h.2.1.2 (cy h.2.2.1.1.2 (cy (map_inj fi _ _ h.2.2.1.2.1) (cy h.2.2.1.2.2.1.2 (map_inj fi _ _ h.2.2.1.2.2.2.1)))))))
@[go_sem] def atp (cap base ls k s l s2 ab):=cL Po rfl ato (cap,base,ls,k,s,l,s2,ab) rfl
def atq (T:bl)(mn:T Ry=aT O3)(mo:T Rz=aT OT)(gU:T A3=aT FH)(hU:T ze=aT Ft)(iI:T L0=aT JZ)(dZ:T rz=aT zF)(mq:T RB=aT OQ)(jr:T vH=aT zA):WF T wQ Po:=by
 refine cq λ(cap,base,ls,k,s,l,s2,ab)=>cR λZ=>⟨rfl,cr ?_⟩;simp only[wQ,Pn,b8];unfold Pc;have Pp:=asr;have cA:=arP cap base ls;rcases ao:yv cap base ls
 ·rw[ao] at cA;refine an ?_;repeat' (intro (aw:_=_)<;>simp only[aw,go_sem,go_sem_proc,mn,mo,gU,hU,iI,dZ,mq,jr,Pp,cA,dY,e1]<;>try refine aj ?_ ?_)
 rw[ao] at cA;rcases aQ:ng ((s,l),(s2,ab)) 1
 ·refine an ?_;repeat' (intro (aw:_=_)<;>simp only[aw,go_sem,go_sem_proc,mn,mo,gU,hU,iI,dZ,mq,jr,Pp,cA,aQ,dY,dT,h2]<;>try refine aj ?_ ?_)
 obtain⟨Ku,Kv⟩:=VI aQ;dsimp only at Ku Kv;simp only[FJ,if_true];have yA:=asZ ao;have cz:=Ok cap base ls yA;have sb:=U0 yA;have VU:=as0 cap base ls;have afL:=λh=>ar0 yA h
 have afM:(iG cap base ls).2.2=0->qI cap base ls=true:=λh=>by
  unfold iG at h
  split at h
  ·assumption
  ·cases h
 have aAY:(D cap)<=4:=by have:=(FP (Kj ao).1).1;omega
 have aAZ:(D base)<=4:=by have:=(FP (Kj ao).2.1).1;omega
 generalize iG cap base ls=P1 at *;obtain⟨j7,hp,yb⟩:=P1;dsimp only[yq] at cz sb VU afL afM;dsimp only;rcases he:(yb==0)
 ·simp only[df,if_false];refine an ?_;repeat' (intro (aw:_=_)<;>simp only[aw,go_sem,go_sem_proc,mn,mo,gU,hU,iI,dZ,mq,jr,Pp,cA,aQ,cz,he,bne,dT,dY]<;>try refine aj ?_ ?_)
 simp only[if_true];have qh:yb=0:=by simpa using he
 obtain⟨U,aA0,-,ga,-,-⟩:=wM (afM qh);have sS:=afL qh;have pA:((D j7:Int)==(D cap:Int))=true:=by rw[beq_iff_eq];omega
 have IY:(D cap*1<=140737488355328)=True:=eq_true (by omega);have UX:(1*D cap<=140737488355328)=True:=eq_true (by omega);have IZ:(D cap<=maxLen)=True:=eq_true (by unfold maxLen;omega);have UY:(D cap<=140737488355328)=True:=eq_true (by omega);have lY:=ad0 (D cap);simp only[go_sem,go_sem_proc,mn,mo,gU,hU,iI,dZ,mq,jr,Pp,cA,aQ,cz,he,IY,UX,IZ,UY,lY,bne,dT,dY,az];refine as3 T (D cap) hp VU.1 VU.2 (cK (D cap) false) nJ (by omega) _ _ ?_ ?_ ?_ ?_ ?_ (λh VN bJ bD=>?_) (λgA jB h VN bJ lf pf Ko Kp Kq Kr Ks rY Kt Ph Pj Pk Pl VO VP=>?_) ?_
 ·rfl
 ·rfl
 ·rfl
 ·rfl
 ·simp[aV]
 ·rw[h];refine an ?_;repeat' (intro (aw:_=_)<;>simp only[aw,go_sem,go_sem_proc,mn,mo,gU,hU,iI,dZ,mq,jr,bD]<;>try refine aj ?_ ?_)
 ·rw[h];dsimp only;rw[pA];simp only[if_true];simp only[go_sem,go_sem_proc,mn,mo,gU,hU,iI,dZ,mq,jr] at lf pf Ko Kp Kq Kr Ks rY Kt Ph Pj Pk Pl;simp only[go_sem,go_sem_proc,mn,mo,gU,hU,iI,dZ,mq,jr,lf,pf,Ko,Kp,Kq,Kr,Ks,rY,Kt,pA,bne,dT,dY,az];refine ati T iI dZ cap base j7 ls yA (λl af=>⟨(ga l af).1,(ga l af).2.1⟩) U sb sS gA jB _ _ ?_ ?_ ?_ ?_ ?_ rY VO (λG abZ dD bD=>?_) (λG abZ dD fK qg qX wT r9 wU cv EO aA1 atr ats att atu=>?_) VP
  ·exact pf
  ·exact Kq
  ·exact Kr
  ·exact Ks
  ·rfl
  ·rw[G];refine an ?_;repeat' (intro (aw:_=_)<;>simp only[aw,go_sem,go_sem_proc,mn,mo,gU,hU,iI,dZ,mq,jr,bD]<;>try refine aj ?_ ?_)
  ·rw[G];simp only[if_true];simp only[go_sem,go_sem_proc,mn,mo,gU,hU,iI,dZ,mq,jr,lf] at fK;simp only[go_sem,go_sem_proc,mn,mo,gU,hU,iI,dZ,mq,jr,Ko] at qX;simp only[go_sem,go_sem_proc,mn,mo,gU,hU,iI,dZ,mq,jr,Kp] at wT;have Kw:=cv.trans rY;have Kx:=EO.trans Kt;have VV:=atr.trans Ph;have VW:=ats.trans Pj;have VX:=att.trans Pk;have VY:=atu.trans Pl;rcases lx:((D cap:Int)==0)
   ·rcases aD:fP ((s,l),(s2,ab))
    ·refine an ?_;repeat' (intro (aw:_=_)<;>simp only[aw,go_sem,go_sem_proc,mn,mo,gU,hU,iI,dZ,mq,jr,fK,qg,qX,wT,r9,wU,Kw,Kx,lx,aD,Ku,Kv,dY,l2]<;>try refine aj ?_ ?_)
    ·simp only[dT,Pg,df,if_false];have Mq:¬ ((D cap:Int)=0):=by simpa using lx
     have kf:IntKind.i64.wrap (k:Int)=k:=wrap64 _ (by omega) (by omega);have VZ:((k:Int)).tmod (D cap:Int)=((k%(D cap):Nat):Int):=by rw[Int.tmod_eq_emod_of_nonneg (by omega)];rfl
     have tY:=Nat.mod_lt k (show 0<(D cap) by omega);generalize k%(D cap)=i0 at *;obtain⟨⟨⟨bU,c6⟩,⟨la,pZ⟩⟩,eN⟩:∃f,cap[i0]?=some f:=⟨_,bB tY⟩;obtain⟨⟨⟨cQ,dO⟩,⟨kp,kL⟩⟩,fU⟩:∃f,base[i0]?=some f:=⟨_,bB (by omega)⟩;have gc:cap.getD i0 bK=((bU,c6),(la,pZ)):=by rw[eF,eN];rfl
     have Cl:base.getD i0 bK=((cQ,dO),(kp,kL)):=by rw[eF,fU];rfl
     obtain⟨iu,nm⟩:=yA.1.2 _ (du eN);obtain⟨iA,dm⟩:=yA.2.1.2 _ (du fU);dsimp only at iu nm iA dm;unfold Pb;rw[gc,Cl];have V0:=afH 408205 cap (by omega);have Pq:=afH 408209 base (by omega);rw[U] at Pq;have V1:=afI cap;have JJ:=afI base;have afN:=IC ((cQ,dO),(kp,kL)) ((s,l),(s2,ab));have afO:=IC ((bU,c6),(la,pZ)) ((s,l),(s2,ab));generalize ye:iC ((cQ,dO),(kp,kL)) ((s,l),(s2,ab))=V2 at *;generalize u2:iC ((bU,c6),(la,pZ)) ((s,l),(s2,ab))=yB at *;obtain⟨⟨⟨v1,v2⟩,⟨hr,v4⟩⟩,aL⟩:=V2;obtain⟨⟨⟨w1,gi⟩,⟨cW,h9⟩⟩,ax⟩:=yB;dsimp only at afN afO ⊢;have atv:=ya (l:=base) (k:=i0) (by omega);have atw:=ya (l:=cap) (k:=i0) (by omega);have st1:=ED (l:=base) (k:=i0) (by omega) v1 v2 hr v4;have jg:=ED (l:=cap) (k:=i0) (by omega) w1 gi cW h9;rcases oO:(aL==0)
     ·simp only[e1,df,if_false];refine an ?_;repeat' (intro (aw:_=_)<;>simp only[aw,go_sem,go_sem_proc,mn,mo,gU,hU,iI,dZ,mq,jr,fK,qg,qX,wT,r9,wU,Kw,Kx,VV,VW,VX,VY,lx,aD,Ku,Kv,kf,VZ,Mq,U,eN,fU,iu,nm,iA,dm,V0,Pq,V1,JJ,ye,u2,bne,dT,dY,dx,aS,az,bG,oO]<;>try refine aj ?_ ?_)
     rcases qv:(ax==0)
     ·simp only[h2,df,if_false];refine an ?_;repeat' (intro (aw:_=_)<;>simp only[aw,go_sem,go_sem_proc,mn,mo,gU,hU,iI,dZ,mq,jr,fK,qg,qX,wT,r9,wU,Kw,Kx,VV,VW,VX,VY,lx,aD,Ku,Kv,kf,VZ,Mq,U,eN,fU,iu,nm,iA,dm,V0,Pq,V1,JJ,ye,u2,bne,dT,dY,dx,aS,az,bG,oO,qv]<;>try refine aj ?_ ?_)
     simp only[FJ,if_true]
     have afP:yg (cap.set i0 ((w1,gi),(cW,h9))) (base.set i0 ((v1,v2),(hr,v4))) ls:=⟨⟨by rw[fN];omega,λf ao=>by
      rcases n8 ao with ao|rfl
      ·exact yA.1.2 f ao
      ·exact afO⟩,⟨by rw[fN];omega,λf ao=>by
      rcases n8 ao with ao|rfl
      ·exact yA.2.1.2 f ao
      ·exact afN⟩,yA.2.2⟩
     have Pr:=Ok _ _ ls afP;have afQ:=U0 afP;have AB:(cap.set i0 ((w1,gi),(cW,h9))).length=D cap:=fN ..;have atx:(base.set i0 ((v1,v2),(hr,v4))).length=D base:=fN ..;generalize cap.set i0 ((w1,gi),(cW,h9))=CJ at *;generalize base.set i0 ((v1,v2),(hr,v4))=sk at *;generalize iG CJ sk ls=S at *;obtain⟨z8,aqX,U2⟩:=S;simp only[yq] at Pr afQ;dsimp only;simp only[go_sem,go_sem_proc,mn,mo,gU,hU,iI,dZ,mq,jr,fK,qg,qX,wT,r9,wU,Kw,Kx,VV,VW,VX,VY,lx,aD,Ku,Kv,kf,VZ,Mq,U,eN,fU,iu,nm,iA,dm,V0,Pq,V1,JJ,ye,u2,bne,dT,dY,dx,aS,az,bG,oO,qv,tY,U,atv,atw,st1,jg];generalize j8 (dD 408020)=G20;have n5:(aV (aV (aV dD 408205 0 []) 408205 1 (a6 aS CJ)) 408209 0 []) 408205=some (1,a6 aS CJ):=by simp[aV]
     have IT:=λ(mem:Mem) (h:mem 408205=some (1,a6 aS CJ))=>pG (n:=0) oX h;have IU:=λ(mem:Mem) (h:mem 408209=some (1,a6 aS sk))=>pG (n:=0) oX h;rw[AB] at IT;rw[atx,U] at IU;have aA2:=r9;have aA3:=wU;refine adx (kc:=408020) (gc:=G20) (off:=0) (cc:=[.ref 408205 1 4 0 (D cap),.ref 408209 1 4 0 (D cap),.L (.ay (ls.map hl))]) (k:=408205) (g:=1) (sz:=4) (o:=0) (len:=D cap) (cs:=a6 aS CJ) (d:=.ay (CJ.map aS)) ?_ ?_ rfl ?_ (QT _ _) (by decide) (IT _ ?_) ?_
     ·rfl
     ·rfl
     ·rfl
     ·rfl
     refine adx (kc:=408020) (gc:=G20) (off:=0) (cc:=[.L (.ay (CJ.map aS)),.ref 408209 1 4 0 (D cap),.L (.ay (ls.map hl))]) (k:=408209) (g:=1) (sz:=4) (o:=0) (len:=D cap) (cs:=a6 aS sk) (d:=.ay (sk.map aS)) ?_ ?_ rfl ?_ (QT _ _) (by decide) (IU _ ?_) ?_
     ·rfl
     ·rfl
     ·rfl
     ·rfl
     rcases e9:(U2==0)
     ·simp only[e1,df,if_false];refine an ?_;repeat' (intro (aw:_=_)<;>simp only[aw,go_sem,go_sem_proc,mn,mo,gU,hU,iI,dZ,mq,jr,fK,qg,qX,wT,r9,wU,wu,EK,Pr,e9,bne,dT,dY,az]<;>try refine aj ?_ ?_)
     rcases fy:((D z8:Int)==(D cap:Int))
     ·simp only[h2,df,if_false];refine an ?_;repeat' (intro (aw:_=_)<;>simp only[aw,go_sem,go_sem_proc,mn,mo,gU,hU,iI,dZ,mq,jr,fK,qg,qX,wT,r9,wU,wu,EK,Pr,e9,fy,bne,dT,dY,az]<;>try refine aj ?_ ?_)
     simp only[FJ,if_true];simp only[go_sem,go_sem_proc,mn,mo,gU,hU,iI,dZ,mq,jr,fK,qg,qX,wT,r9,wU,wu,EK,Pr,e9,fy,bne,dT,dY,az]
     have aty:(D z8)=D cap:=by
                          have:(D z8:Int)=D cap:=by simpa using fy
                          omega
     refine atk T dZ (D cap) z8 j7 afQ sb aty sS _ _ ?_ ?_ ?_ ?_ ?_ (λaK atz h5 bD=>?_) (λaK atz h5 bL=>?_)
     ·exact wT
     ·exact r9
     ·exact wU
     ·rfl
     ·rfl
     ·rw[aK];refine an ?_;repeat' (intro (aw:_=_)<;>simp only[aw,go_sem,go_sem_proc,mn,mo,gU,hU,iI,dZ,mq,jr,bD]<;>try refine aj ?_ ?_)
     ·rw[aK];refine an ?_;repeat' (intro (aw:_=_)<;>simp only[aw,go_sem,go_sem_proc,mn,mo,gU,hU,iI,dZ,mq,jr,bL]<;>try refine aj ?_ ?_)
   ·refine an ?_;repeat' (intro (aw:_=_)<;>simp only[aw,go_sem,go_sem_proc,mn,mo,gU,hU,iI,dZ,mq,jr,fK,qg,qX,wT,r9,wU,Kw,Kx,lx,m0]<;>try refine aj ?_ ?_)
 ·repeat first|exact eQ.refl _ _|refine eQ.eM ?_ (by decide)
end Go.Mini
namespace Go.Mini
open Go Go.Proofs
def afR:cd ry Iw:=cM 125000 [] (a2 z4 b7) Tryz.func213 (amV _ bf)
def V3:cd Bb Er:=cM 398000 [] (a2 z4 b7) Tryz.func87 (amZ _ bf)
def atA:cd tW MU:=cM 400000 [] (a2 V3 b7) Tryz.func129 (am1 _ bf)
def atB:cd xI MV:=cM 391000 [] (a2 z4 b7) Tryz.func88 (am3 _ bf)
def atC:cd tU MW:=cM 387000 [] b7 Tryz.func82 (am5 _)
def atD:cd tV MX:=cM 389000 [] (a2 V3 b7) Tryz.func86 (am7 _ bf)
def atE:cd Rg MZ:=cM 146000 [] (a2 afR (a2 atA (a2 atB (a2 atC (a2 atD b7))))) Tryz.func156 (anf _ bf (λh=>absurd h (by decide)) (λh=>absurd h (by decide)) (λ_=>bf) (λ_=>bf) (λ_=>bf) (λ_=>bf))
def Ps:cd vI s7:=cM 128000 [] (a2 atE b7) Tryz.func81 (anm _ bf)
def atF:cd LO M1:=cM 127000 [] (a2 afR (a2 Ps b7)) Tryz.func215 (anp _ bf bf)
def atG:cd Rf M5:=cM 145000 [] (a2 atF b7) Tryz.func228 (anq _ bf)
def atH:cd Rb M6:=cM 126000 [] (a2 atG b7) Tryz.func214 (anr _ bf)
def atI:cd Q8 M7:=cM 108000 [] (a2 atH b7) Tryz.func158 (ant _ bf)
def atJ:m9 Tryz.prog za (zG x7):=anx (mf:=MP) (kb:=168000) (own:=[]) (zH (y8 b7) (zI n9)) mixed Tryz.func230 (by kernel_rfl) (by kernel_rfl) Na λargs mem r k g i d h=>by
 obtain⟨E,G,ad,aK,bp⟩:=anA _ args mem r k g i d h;exact⟨E,G,ad,aK,bp⟩
def atK:cd Hx IA:=cM 167000 [] b7 Tryz.func229 (anz _)
def atL:m9 Tryz.prog Rh (BH IK):=abw (mf:=wm) (kb:=148000) (own:=[3000106,3000165,3000169]) (zH (y8 (a2 atK (a2 adJ (a2 adI (a2 UC b7))))) (zI (um atJ n9))) mixed Tryz.func216 (by kernel_rfl) (by kernel_rfl) λargs mem bS h=>by
 obtain⟨a,rfl,⟨E,G,ad,aK,bp,bD,bL⟩,rfl⟩:=aof h;exact⟨qM rfl,an4 _ (x6 rfl rfl) (Iz rfl rfl) (x6 rfl rfl) (x6 rfl rfl) (x6 rfl rfl) a.go a.N a.rows a.r a.c mem E G ad aK bp bD bL⟩
def atM:cd LQ IL:=cM 147000 [5] b7 Tryz.func78 (aoh _)
def atN:cd Rc IN:=wH 129000 [29,34] (a2 atM b7) (um atL n9) Tryz.func159 (aow _ bf (Iz rfl rfl))
def afS:cd Hq IW:=cM 109000 [] (a2 atI (a2 atN b7)) Tryz.func84 (aoz _ bf bf)
def atO:cd Rm Nt:=cM 171000 [] b7 Tryz.func184 (aoE _)
def atP:cd Ri Nu:=cM 151000 [] (a2 atO b7) Tryz.func108 (aoF _ bf)
def afT:cd DG IX:=cM 131000 [] (a2 atP b7) Tryz.func45 (aoO _ bf)
def Ky:cd rA yr:=cM 183000 [18] b7 Tryz.func225 (aqY _)
def Pt:cd rB Ct:=cM 187000 [] b7 Tryz.func226 (aq0 _)
def V4:cd zc Cu:=cM 185000 [] (a2 Pt b7) Tryz.func196 (aq1 _ bf)
def afU:cd HA JK:=cM 181000 [] (a2 Pt (a2 Ky b7)) Tryz.func195 (aq2 _ bf bf)
def V5:cd zb FC:=cM 182000 [] (a2 Pt (a2 Ky b7)) Tryz.func197 (aq3 _ bf bf)
def afV:cd A8 FD:=cM 186000 [] (a2 Pt (a2 Ky b7)) Tryz.func194 (aq4 _ bf bf)
def afW:cd Hz JM:=cM 180000 [26] (a2 Ky (a2 afV (a2 V4 (a2 V5 b7)))) Tryz.func203 (arb _ bf bf bf bf)
def FR:cd nv yu:=cM 166000 [] (a2 Ky b7) Tryz.func192 (ard _ bf)
def Aj:cd kC uQ:=cM 162000 [] b7 Tryz.func143 (are _)
def atQ:cd LS Oy:=cM 163000 [] (a2 Aj (a2 FR b7)) Tryz.func190 (arf _ bf bf)
def afX:cd DH JN:=cM 144000 [] (a2 FR b7) Tryz.func125 (arh _ bf)
def atS:cd Rt Oz:=cM 210000 [] b7 Tryz.func204 (arj _)
def afY:cd A9 JO:=cM 209000 [] b7 Tryz.func193 (ark _)
def atT:cd Rr OA:=cM 205000 [] (a2 Aj (a2 atS (a2 V4 b7))) Tryz.func145 (arn _ bf bf bf)
def afZ:cd Hw JP:=cM 164000 [] (a2 Aj (a2 afW (a2 FR b7))) Tryz.func144 (arp _ bf bf bf)
def af0:cd zd JQ:=cM 202000 [] (a2 Aj (a2 afV (a2 FR (a2 afY b7)))) Tryz.func131 (arq _ bf bf bf bf)
def atU:cd Rs OB:=cM 206000 [] (a2 Aj (a2 afU (a2 V4 (a2 V5 (a2 FR (a2 afY b7)))))) Tryz.func133 (ars _ bf bf bf bf bf bf)
def atV:cd LU OC:=cM 165000 [] (a2 Aj (a2 afW (a2 afU (a2 V5 (a2 FR b7))))) Tryz.func191 (art _ bf bf bf bf bf)
def af1:cd Ht JR:=cM 143000 [] (a2 Aj (a2 atQ (a2 afZ (a2 atV b7)))) Tryz.func124 (aru _ bf bf bf bf)
def atW:cd Ra OD:=cM 124000 [] (a2 afX (a2 af1 b7)) Tryz.func57 (arv _ bf bf)
def atX:cd LP OF:=cM 142000 [] b7 Tryz.func128 (arw _)
def atY:cd Q9 OH:=cM 120000 [] (a2 atX b7) Tryz.func59 (arx _ bf)
def V6:cd A3 FH:=cM 115000 [] b7 Tryz.func17 (arz _)
def V7:cd xH FI:=cM 196000 [] (a2 Aj (a2 afZ (a2 afX (a2 atT b7)))) Tryz.func70 (arA _ bf bf bf bf)
def af2:cd HB JU:=cM 204000 [] (a2 af1 b7) Tryz.func132 (arC _ bf)
def atZ:cd Rq OL:=cM 198000 [] (a2 V7 (a2 af0 (a2 atU (a2 af2 b7)))) Tryz.func66 (arF _ bf bf bf bf)
def at0:cd Rp OM:=cM 197000 [] (a2 V7 (a2 af0 (a2 af2 b7))) Tryz.func65 (arG _ bf bf bf)
def at1:cd LN OO:=cM 107000 [] (a2 V6 b7) Tryz.func23 (arI _ bf)
def at2:cd A2 JY:=cM 112000 [] (a2 atY b7) Tryz.func14 (arL _ bf)
def at3:cd LY Ny:=cM 402000 [] (a2 V3 b7) Tryz.func155 (aoT _ bf)
def at4:cd RF Nz:=cM 432000 [] (a2 at3 b7) Tryz.func212 (aoU _ bf)
def at5:cd RE NA:=cM 431000 [] (a2 at4 b7) Tryz.func154 (aoV _ bf)
def V8:cd Bc EW:=cM 401000 [] (a2 at5 b7) Tryz.func80 (aoX _ bf)
def at6:cd Rw NC:=cM 399000 [] (a2 V8 (a2 Ps b7)) Tryz.func62 (ao2 _ bf bf)
def V9:cd vK EX:=cM 404000 [] (a2 adH b7) Tryz.func46 (ao4 _ bf)
def at7:m9 Tryz.prog Rv (BH Jo):=abw (mf:=MQ) (kb:=397000) (own:=[]) (zH (y8 (a2 UC (a2 N7 b7))) (zI n9)) mixed Tryz.func130 (by kernel_rfl) (by kernel_rfl) λargs mem bS h=>by
 obtain⟨a,⟨rfl,a5⟩,rfl⟩:=abz h;exact⟨qM rfl,aqq _ (x6 rfl rfl) (x6 rfl rfl) a mem a5⟩
def af3:cd HD Jp:=wH 396000 [] b7 (um at7 n9) Tryz.func64 (aqt _ (Iz rfl rfl))
def af4:cd HC Ju:=cM 395000 [18] (a2 V9 (a2 afT (a2 adI b7))) Tryz.func83 (aqx _ bf bf bf)
def aua:m9 Tryz.prog Rx (Jl UR):=ap6 (mf:=MR) (kb:=403000) (own:=[]) (zH (y8 (a2 af4 (a2 afS b7))) (zI n9)) mixed Tryz.func63 (by kernel_rfl) (by kernel_rfl) (λj:Nat=>j/1000=403) λargs mem d h=>by
 obtain⟨a,⟨rfl,a5⟩,rfl⟩:=ap9 h;exact⟨qM rfl,a5.no,aqC _ (x6 rfl rfl) (x6 rfl rfl) a mem a5⟩
def Wa:cd ze Ft:=wH 394000 [] (a2 at6 (a2 af3 (a2 UD b7))) (um aua n9) Tryz.func18 (aqJ _ bf (Iz rfl rfl) bf bf)
def aub:cd Ru Om:=cM 388000 [] (a2 V8 (a2 Ps (a2 V9 (a2 af3 (a2 UD b7))))) Tryz.func30 (aqT _ bf bf bf bf bf)
def auc:cd LX Oo:=cM 386000 [] (a2 V8 (a2 V9 (a2 afT (a2 Wa (a2 Ps (a2 af4 (a2 afS b7))))))) Tryz.func28 (aqW _ bf bf bf bf bf bf bf)
def aud:cd RB OQ:=cM 422000 [] (a2 V7 b7) Tryz.func21 (arM _ bf)
def aue:cd RA OS:=cM 418000 [] (a2 V6 b7) Tryz.func61 (arO _ bf)
def auf:cd Rz OT:=cM 417000 [] (a2 at1 (a2 aue b7)) Tryz.func16 (arQ _ bf bf)
def aug:cd L0 JZ:=cM 419000 [] (a2 at0 (a2 atZ b7)) Tryz.func19 (arS _ bf bf)
def auh:cd RD OW:=cM 426000 [] b7 Tryz.func25 (arV _)
def aui:cd m2 J6:=cM 412000 [] (a2 atW b7) Tryz.func37 (ar6 _ bf)
def auj:cd LZ OY:=cM 414000 [] b7 Tryz.func60 (asa _)
def auk:cd RC O0:=cM 425000 [] (a2 auj b7) Tryz.func15 (asd _ bf)
def aul:cd Ry O3:=cM 413000 [] (a2 asn (a2 aui (a2 at2 (a2 auk (a2 auc (a2 aub (a2 Wa (a2 auh b7)))))))) Tryz.func9 (ass _ bf bf bf bf bf bf bf bf)
def aum:cd akr Po:=cM 408000 [205,209] (a2 aul (a2 auf (a2 V6 (a2 Wa (a2 aug (a2 UD (a2 aud (a2 N7 b7)))))))) Tryz.func4 (atq _ bf bf bf bf bf bf bf bf)
end Go.Mini
namespace Go.Mini
open Go
def gr (N:Nat)(x:Nat->Rat):List aJ:=((je N).map x).map bW
def Ak (N:Nat)(x:Nat->Rat):(gr N x).length=N:=by simp[gr]
def Kz {N k:Nat}(x:Nat->Rat)(h:k<N):(gr N x)[k]?=some (bW (x k)):=by
 unfold gr;rw[bG,bG,q9 h];rfl
def KA {N:Nat}{l:List aJ}{x:Nat->Rat}(af:(D l)=N)(h:∀k,k<N->l[k]?=some (bW (x k))):l=gr N x:=by
 apply tB;intro k;rcases fE k N with Q|Q
 ·rw[h k Q,Kz x Q]
 ·rw[mO (by omega),mO (by rw[Ak];omega)]
def Pu {N:Nat}{x y:Nat->Rat}(h:∀k,k<N->x k=y k):gr N x=gr N y :=
 KA (Ak N x) λk Q=>by rw[Kz x Q,h k Q]
def af5 (N:Nat)(a4:cT)(x:Nat->Rat):Prop:=(∀y,jZ N a4 (ext N y (-1))↔∀k,k<N->y k=x k)/\∀y,jZ N a4 (ext N y 0)->∀k,k<N->y k=0
def Pv (N:Nat)(a4:cT):Prop:=∃y,jZ N a4 (ext N y 0)/\∃k,k<N/\y k≠0
def aun {N:Nat}{rows:List cV}{ak:cT}(h:uX N rows ak):rows.map (te N)=gr N (λi=>ak i N) :=
 KA (by rw[az];exact h.1) λk Q=>by
  obtain⟨x,J,-,mK⟩:=h.row Q;rw[bG,J,kx];unfold te;rw[eF,mK.get (bM _)]
  rfl
def FL.CK {N:Nat}{ak th:cT}{rows:List cV}{p c:Nat}{dJ:Nat->Nat}(h:FL N ak th rows p c dJ){i k:Nat}(O:i<N)(Q:k<=N):ed (th i k):=by
 obtain⟨x,-,-,mK⟩:=h.enc.row O;exact mK.2 k Q
def af6 {q:Rat}(h:ed q):s4 0 (-q)=true:=by
 unfold s4;simp only[dH]
 have E:hP ((-q).num*((0:Rat).den:Int))=true:=by
  rw[afy,af7];unfold hP;rw[decide_eq_true_eq];have:=h.1;omega
 refine⟨?_,E,?_,?_⟩
 ·rw[af8,xX];decide +kernel
 ·rw[af8,xX,Int.zero_add];exact E
 ·rw[af7,Rat.neg_den];unfold hP;rw[decide_eq_true_eq];have:=h.2;omega
def af9:ed 0:=⟨by decide +kernel,by decide +kernel⟩
def auo {N f:Nat}{rows:List cV}{ak:cT}(h:uX N rows ak)(ao:f<N):I1 rows f N f=gr N (qS ak f) :=
 KA (aoR _ _ _ _) λk Q=>by
  unfold I1;rw[bG,q9 Q,kx];unfold qS
  by_cases E:k<f
  ·rw[aq E,aq E];obtain⟨x,-,ex,mK⟩:=h.row (i:=k) (by omega);rw[ex,mK.cell (by omega),<-acv,MK af9 (mK.2 f (by omega)),af6 (mK.2 f (by omega))]
   rfl
  ·rw[ar E,ar E]
   by_cases G:k=f
   ·rw[aq G,aq G,aoQ]
   ·rw[ar G,ar G,acv]
def Wb {N:Nat}{a4 ak:cT}(h:∀y,jZ N ak y↔jZ N a4 y):∀y z,jZ N ak (ext N y z)↔jZ N a4 (ext N y z):=λ_ _=>h _
def aup {rs:List ej}{n:Int}(h:n7 rs n=true):
  (me rs n=([],6)) \/
  (∃x,me rs n=(gr (D rs) x,0)/\TM rs n=([],false)/\(∀k,k<(D rs)->ed (x k))/\af5 (D rs) (p5 rs) x) \/
  (∃y,me rs n=([],17)/\TM rs n=(gr (D rs) y,true)/\(∀k,k<(D rs)->ed (y k))/\jZ (D rs) (p5 rs) (ext (D rs) y 0)/\∃k,k<D rs/\y k=1):=by
 unfold me TM;rw[aq h];rcases J:o0 true rs with ⟨uZ,p4,bad⟩
 cases bad
 ·right
  obtain⟨ak,p,c,dJ,he,-,R⟩:=asS true h J;rw[aq h];rcases R rfl with ⟨rfl,rfl,rfl,iW⟩|⟨f,rfl,ao,rfl,rfl,iW,aQ⟩
  ·left
   refine⟨λi=>ak i (D rs),?_,rfl,λk Q=>he.CK Q (bM _),λy=>?_,λy ag=>?_⟩
   ·rw[ar (by simp),ar (by simp),aun he.enc]
   ·rw[<-Wb he.FM];exact afi he.red iW y
   ·exact asI he.red iW y ((Wb he.FM y 0).2 ag)
  ·right
   refine⟨qS ak c,?_,?_,λk Q=>?_,?_,⟨c,ao,by unfold qS;simp⟩⟩
   ·rw[ar (by simp),aq (by simp)]
   ·rw[ar (by simp)];exact congrArg (λl=>(l,true)) (auo he.enc ao)
   ·unfold qS
    split
    ·exact aaP (af6 (he.CK Q (by omega)))
    ·split
     ·exact⟨by decide +kernel,by decide +kernel⟩
     ·exact af9
   ·exact (Wb he.FM _ _).1 (afj he.red iW ao aQ)
 ·left
  rw[aq rfl]
def FT {n:Nat}{f g:Nat->Rat}(h:∀k,k<n->f k<=g k):bI n f<=bI n g:=by
 induction n with
 |zero=>exact yC
 |succ n aF =>
  have E:=aF λk Q=>h k (by omega);have G:=h n (by omega);simp only[bI];grind
def aga {n:Nat}{f:Nat->Rat}(h:∀k,k<n->0<=f k):0<=bI n f:=by
 have:=FT (f:=λ_=>0) h;rwa [uW λ_ _=>rfl] at this
def agb (n:Nat)(f g:Nat->Rat):bI n (λk=>f k-g k)=bI n f-bI n g:=by
 induction n with
 |zero=>simp only[bI];grind
 |succ n aF=>simp only[bI];rw[aF];grind
def auq {n:Nat}{bA:Nat->Bool}(f:Nat->Rat):(∀i,i<n->bA i=false)\/∃j,j<n/\bA j=true/\∀i,i<n->bA i=true->f j<=f i:=by
 induction n with
 |zero=>exact .inl λi h=>by omega
 |succ n aF =>
  rcases b2:bA n
  ·rcases aF with h|⟨j,E,G,ad⟩
   ·refine .inl λi O=>?_;rcases fE i n with bT|bT
    ·exact h i bT
    ·obtain rfl:i=n:=by omega
     exact b2
   ·refine .inr ⟨j,by omega,G,λi O dX=>?_⟩
    rcases fE i n with bT|bT
    ·exact ad i bT dX
    ·obtain rfl:i=n:=by omega
     rw[b2] at dX;cases dX
  ·rcases aF with h|⟨j,E,G,ad⟩
   ·refine .inr ⟨n,by omega,b2,λi O dX=>?_⟩
    rcases fE i n with bT|bT
    ·rw[h i bT] at dX;cases dX
    ·obtain rfl:i=n:=by omega
     exact yC
   ·by_cases Z:f j<=f n
    ·refine .inr ⟨j,by omega,G,λi O dX=>?_⟩
     rcases fE i n with bT|bT
     ·exact ad i bT dX
     ·obtain rfl:i=n:=by omega
      exact Z
    ·refine .inr ⟨n,by omega,b2,λi O dX=>?_⟩
     rcases fE i n with bT|bT
     ·have:=ad i bT dX;grind
     ·obtain rfl:i=n:=by omega
      exact yC
def aur {n:Nat}{P:Nat->Bool}(a d:Nat->Rat)(a5:∀i,i<n->0<=a i)(ae:∀i,i<n->P i=true->0<d i):∃e:Rat,0<e/\∀i,i<n->P i=true->e*a i<d i:=by
 induction n with
 |zero=>exact⟨1,by decide,λi h=>by omega⟩
 |succ n aF =>
  obtain⟨e,E,G⟩:=aF (λi O=>a5 i (by omega)) λi O=>ae i (by omega);rcases dh:P n
  ·refine⟨e,E,λi O dX=>?_⟩;rcases fE i n with bT|bT
   ·exact G i bT dX
   ·obtain rfl:i=n:=by omega
    rw[dh] at dX;cases dX
  ·have DX:=a5 n (by omega);have jn:=ae n (by omega) dh;generalize bC:d n/(a n+1)=t;have aL:t*(a n+1)=d n:=by rw[<-bC];exact Wc (by grind)
   have t0:0<t:=by
    apply KB;intro Z;have:=wV (show 0 <= -t by grind) (show 0<=a n+1 by grind);grind
   by_cases Z:e<=t
   ·refine⟨e,E,λi O dX=>?_⟩;rcases fE i n with bT|bT
    ·exact G i bT dX
    ·obtain rfl:i=n:=by omega
     have:=Pw Z DX;grind
   ·refine⟨t,t0,λi O dX=>?_⟩;rcases fE i n with bT|bT
    ·have:=Pw (show t<=e by grind) (a5 i (by omega));have:=G i bT dX;grind
    ·obtain rfl:i=n:=by omega
     grind
def gL (n:Nat)(W:cT)(b x:Nat->Rat)(i:Nat):Rat:=b i+bI n λk=>W i k*x k
def pg (n:Nat)(W:cT)(bA:Nat->Bool):Prop:=∃v:Nat->Rat,∀i,i<n->bA i=true->0<v i/\bI n (λk=>if bA k=true then W i k*v k else 0)<v i
def aus {n:Nat}{W:cT}{bA:Nat->Bool}(hi:∀i k,0<=W i k)(h:pg n W bA){z:Nat->Rat}(aQ:∀i,i<n->bA i=true->bI n (λk=>if bA k=true then W i k*z k else 0)<=z i):∀i,i<n->bA i=true->0<=z i:=by
 obtain⟨v,ai⟩:=h;rcases auq (n:=n) (bA:=bA) (λi=>z i/v i) with h|⟨j,E,G,ad⟩
 ·intro i O dX;rw[h i O] at dX;cases dX
 ·obtain⟨qk,pE⟩:=ai j E G;have e:z j/v j*v j=z j:=Wc (by grind);generalize z j/v j=m at *
  have bO:∀i,i<n->bA i=true->m*v i<=z i:=λi O dX=>by
   have lf:=ad i O dX;have mj:=(ai i O dX).1;have pf:=Pw lf (FU mj);rwa [Wc (by grind)] at pf
  have v7:m*bI n (λk=>if bA k=true then W j k*v k else 0)<=bI n (λk=>if bA k=true then W j k*z k else 0):=by
   rw[<-sf];refine FT λk Q=>?_
   split
   ·rename_i gm;have:=agc (bO k Q gm) (hi j k);grind
   ·grind
  have aA4:=aQ j E G
  have mV:0<=m:=by
   apply KB;intro Z;generalize bI n (λk=>if bA k=true then W j k*v k else 0)=S at *;have:=agd pE (show 0 < -m by grind);grind
  intro i O dX;have:=bO i O dX;have:=wV mV (FU (ai i O dX).1);grind
def aut {n:Nat}{W:cT}{bA a4:Nat->Bool}(hi:∀i k,0<=W i k)(h:pg n W bA)(h6:∀i,i<n->a4 i=true->bA i=true):pg n W a4:=by
 obtain⟨v,ai⟩:=h;refine⟨v,λi O dX=>⟨(ai i O (h6 i O dX)).1,?_⟩⟩;have E:=(ai i O (h6 i O dX)).2
 have G:bI n (λk=>if a4 k=true then W i k*v k else 0)<=bI n (λk=>if bA k=true then W i k*v k else 0):=FT λk Q=>by
  rcases auu:a4 k
  ·rcases auv:bA k
   ·simp
   ·have:=wV (hi i k) (FU (ai k Q auv).1)
    simpa using this
  ·rw[h6 k Q auu];simp
 grind
def auw (n:Nat)(W:cT):pg n W λ_=>false:=⟨λ_=>0,λi _ h=>by cases h⟩
def auy {n:Nat}{W:cT}{bA S:Nat->Bool}(hi:∀i k,0<=W i k)(h:pg n W bA){x:Nat->Rat}(J:∀k,k<n->0<=x k)(b2:∀i,i<n->bA i=true->bI n (λk=>W i k*x k)<=x i)(cm:∀i,i<n->S i=true->0<x i/\bI n (λk=>W i k*x k)<x i):pg n W λi=>bA i||S i:=by
 obtain⟨v,ai⟩:=h
 have xi:∀k,k<n->0<=if bA k=true then v k else 0:=λk Q=>by
  split
  ·exact FU (ai k Q ‹_›).1
  ·exact yC
 obtain⟨e,fF,he⟩:=aur (n:=n) (P:=S) (λi=>bI n λk=>W i k*if bA k=true then v k else 0) (λi=>x i-bI n λk=>W i k*x k) (λi O=>aga λk Q=>wV (hi i k) (xi k Q)) λi O dX=>by
  have:=(cm i O dX).2;grind
 refine⟨λi=>x i+e*if bA i=true then v i else 0,λi O dX=>?_⟩
 have hle:bI n (λk=>if (bA k||S k)=true then W i k*(x k+e*if bA k=true then v k else 0) else 0)<=bI n (λk=>W i k*x k)+e*bI n λk=>W i k*if bA k=true then v k else 0:=by
  rw[<-sf,<-yy];refine FT λk Q=>?_;have cz:=wV (hi i k) (J k Q);have dj:=wV (FU fF) (wV (hi i k) (xi k Q));generalize (if bA k=true then v k else 0)=u at *
  split<;>grind
 have gn:=J i O;dsimp only at dX ⊢;rcases FV:bA i
 ·rw[FV] at dX;obtain⟨cQ,dO⟩:=cm i O dX;have kp:=he i O dX;rw[ar (by simp)]
  constructor<;>grind
 ·obtain⟨cQ,dO⟩:=ai i O FV;have kp:=b2 i O FV;rw[aq rfl];have kL:bI n (λk=>W i k*if bA k=true then v k else 0)=bI n (λk=>if bA k=true then W i k*v k else 0):=nh λk _=>by split<;>grind
  rw[kL] at hle;have NW:=agd dO fF;have adj:=Rat.mul_pos fF cQ
  constructor<;>grind
def auz {n:Nat}{W:cT}{bA:Nat->Bool}{z:Nat->Rat}(hi:∀i k,0<=W i k)(aQ:∀k,k<n->bA k=false->0<=z k)(i:Nat):bI n (λk=>if bA k=true then W i k*z k else 0)<=bI n λk=>W i k*z k:=FT λk Q=>by
 rcases b2:bA k
 ·have:=wV (hi i k) (aQ k Q b2)
  simpa using this
 ·simp
def FW {n:Nat}{W:cT}{bA:Nat->Bool}(hi:∀i k,0<=W i k)(h:pg n W bA){z:Nat->Rat}(E:∀k,k<n->bA k=false->0<=z k)(G:∀i,i<n->bA i=true->bI n (λk=>W i k*z k)<=z i):∀i,i<n->0<=z i:=λi O=>by
 rcases b2:bA i
 ·exact E i O b2
 ·exact aus hi h (λi O dX=>Px (auz hi E i) (G i O dX)) i O b2
def Wd {n:Nat}{W:cT}{b x y:Nat->Rat}(i:Nat):bI n (λk=>W i k*(x k-y k))=gL n W b x i-gL n W b y i:=by
 have:(λk=>W i k*(x k-y k))=λk=>W i k*x k-W i k*y k:=by funext k;grind
 rw[this,agb];unfold gL;grind
def wW (n:Nat)(W:cT)(b c x:Nat->Rat)(bA:Nat->Bool):Prop:=∀i,i<n->x i=if bA i=true then gL n W b x i else c i
def wW.nb {n:Nat}{W:cT}{b c x:Nat->Rat}{bA:Nat->Bool}(hi:∀i k,0<=W i k)(U:∀i,i<n->0<=b i)(Z:∀i,i<n->0<=c i)(O:pg n W bA)(h:wW n W b c x bA):∀i,i<n->0<=x i :=
 FW hi O (λk Q b2=>by have:=h k Q;rw[b2] at this;rw[this];simpa using Z k Q) λi O b2=>by
  have:=h i O;rw[b2,aq rfl] at this;have U:=U i O;unfold gL at this;grind
def wW.next {n:Nat}{W:cT}{b c x eE:Nat->Rat}{bA S:Nat->Bool}(hi:∀i k,0<=W i k)(O:pg n W λi=>bA i||S i)(h:wW n W b c x bA)(bT:wW n W b c eE λi=>bA i||S i)(cm:∀i,i<n->S i=true->bA i=false/\gL n W b x i<c i):∀i,i<n->eE i<=x i:=by
 have:=FW (z:=λi=>x i-eE i) hi O (λk Q b2=>by
  simp only[Bool.or_eq_false_iff] at b2;have cz:=h k Q;have dj:eE k=if (bA k||S k)=true then gL n W b eE k else c k:=bT k Q;rw[b2.1] at cz;rw[b2.1,b2.2] at dj;simp at cz dj;grind) λi O b2=>by
  have dj:eE i=if (bA i||S i)=true then gL n W b eE i else c i:=bT i O;rw[b2,aq rfl] at dj;rw[Wd (b:=b)];rcases We:S i
  ·rw[We,oG] at b2;have cz:=h i O;rw[b2,aq rfl] at cz;grind
  ·have cz:=h i O;rw[(cm i O We).1] at cz;have hR:=(cm i O We).2;simp at cz;grind
 intro i O;have:=this i O;grind
structure u3 (n:Nat) (W:cT) (b c x:Nat->Rat) (bA:Nat->Bool):Prop where
 inv:pg n W bA
 nb:∀i,i<n->0<=x i
 bP:∀i,i<n->bA i=true->x i=gL n W b x i/\x i<c i
 O:∀i,i<n->bA i=false->x i=c i/\c i<=gL n W b x i
def u3.le {n:Nat}{W:cT}{b c x:Nat->Rat}{bA:Nat->Bool}(h:u3 n W b c x bA){i:Nat}(O:i<n):x i<=c i/\x i<=gL n W b x i/\(x i=c i\/x i=gL n W b x i):=by
 rcases b2:bA i
 ·obtain⟨E,G⟩:=h.O i O b2;refine⟨?_,?_,.inl E⟩<;>grind
 ·obtain⟨E,G⟩:=h.bP i O b2;refine⟨?_,?_,.inr E⟩<;>grind
def u3.top {n:Nat}{W:cT}{b c x y:Nat->Rat}{bA:Nat->Bool}(hi:∀i k,0<=W i k)(h:u3 n W b c x bA)(ag:∀i,i<n->y i<=c i/\y i<=gL n W b y i):∀i,i<n->y i<=x i:=by
 have:=FW (z:=λi=>x i-y i) hi h.inv (λk Q b2=>by
  have cz:=(h.O k Q b2).1;have dj:=(ag k Q).1;grind) λi O b2=>by
  have cz:=(h.bP i O b2).1;have dj:=(ag i O).2;rw[Wd (b:=b)];grind
 intro i O;have:=this i O;grind
def auA {n:Nat}{W:cT}{b dA x:Nat->Rat}(U:∀i,i<n->b i<=dA i){i:Nat}(O:i<n):gL n W b x i<=gL n W dA x i:=by
 have:=U i O;unfold gL;grind
def u3.more {n:Nat}{W:cT}{b c x dA c' eE:Nat->Rat}{bA auB:Nat->Bool}(hi:∀i k,0<=W i k)(h:u3 n W b c x bA)(bT:u3 n W dA c' eE auB)(U:∀i,i<n->b i<=dA i)(Z:∀i,i<n->c i<=c' i):∀i,i<n->x i<=eE i :=
 bT.top hi λi O=>⟨Px (h.le O).1 (Z i O),Px (h.le O).2.1 (auA U O)⟩
def u3.one {n:Nat}{W:cT}{b c x y:Nat->Rat}{bA:Nat->Bool}(hi:∀i k,0<=W i k)(a5:pg n W λ_=>true)(h:u3 n W b c x bA)(ag:∀i,i<n->y i<=c i/\y i<=gL n W b y i/\(y i=c i\/y i=gL n W b y i)):∀i,i<n->y i=x i:=by
 have E:=h.top hi λi O=>⟨(ag i O).1,(ag i O).2.1⟩
 have G:=FW (z:=λi=>y i-x i) (bA:=λi=>decide (y i≠c i)) hi (aut hi a5 λ_ _ _=>rfl) (λk Q b2=>by
  have cz:y k=c k:=by simpa using b2
  have dj:=(h.le Q).1;grind) λi O b2=>by
  have cz:y i≠c i:=by simpa using b2
  have dj:y i=gL n W b y i:=(ag i O).2.2.resolve_left cz;have hR:=(h.le O).2.1;rw[Wd (b:=b)];grind
 intro i O;have:=E i O;have:=G i O;grind
abbrev e7:=Nat->Rat
def il (n:Nat)(f:List e7->Rat):List e7->List e7->Rat
 |_,[]=>0
 |pre,c::cs=>c n*f (pre++cs)-il n f (pre++[c]) cs
def fr:Nat->List e7->Rat
 |0,[]=>1
 |0,_::_=>0
 |n+1,cs=>il n (fr n) [] cs
def Al (x y:e7)(a:Rat):e7:=λi=>x i+a*y i
def Wf (f:List e7->Rat):Prop:=∀A B x y a,f (A++Al x y a::B)=f (A++x::B)+a*f (A++y::B)
def Wg (f:List e7->Rat):Prop:=∀A B z,f (A++z::z::B)=0
def auC {n:Nat}{f:List e7->Rat}(h:Wf f)(x y:e7)(a:Rat)(A:List e7):∀cs mr,il n f (A++Al x y a::mr) cs=il n f (A++x::mr) cs+a*il n f (A++y::mr) cs:=by
 intro cs
 induction cs with
 |nil=>intro mr;simp only[il];grind
 |cons c cs aF =>
  intro mr;have e:=aF (mr++[c]);simp only[il,hh,lE] at e ⊢;rw[h A (mr++cs) x y a,e];grind
def auD {n:Nat}{f:List e7->Rat}(h:Wf f)(x y:e7)(a:Rat)(B:List e7):∀A pre,il n f pre (A++Al x y a::B)=il n f pre (A++x::B)+a*il n f pre (A++y::B):=by
 intro A
 induction A with
 |nil =>
  intro pre;have e:=auC (n:=n) h x y a pre B [];simp only[jR,il];rw[e];simp only[Al];grind
 |cons c A aF =>
  intro pre;have e:=aF (pre++[c]);have ax:=h (pre++A) B x y a;simp only[hh] at ax;simp only[lE,il];rw[e,ax];grind
def CL:∀n,Wf (fr n)
 |0=>by
  intro A B x y a
  cases A<;>simp only[jR,lE,fr]<;>grind
 |n+1=>λA B x y a=>auD (CL n) x y a B A []
def auE {n:Nat}{f:List e7->Rat}(h:Wg f)(z:e7)(A:List e7):∀cs mr,il n f (A++z::z::mr) cs=0:=by
 intro cs
 induction cs with
 |nil=>intro mr;rfl
 |cons c cs aF =>
  intro mr;have e:=aF (mr++[c]);have ax:=h A (mr++cs) z;simp only[il,hh,lE] at e ax ⊢;rw[e,ax];grind
def auF {n:Nat}{f:List e7->Rat}(h:Wg f)(z:e7)(B:List e7):∀A pre,il n f pre (A++z::z::B)=0:=by
 intro A
 induction A with
 |nil =>
  intro pre;have e:=auE (n:=n) h z pre B [];simp only[jR,il,hh,lE] at e ⊢;rw[e];grind
 |cons c A aF =>
  intro pre;have e:=aF (pre++[c]);have ax:=h (pre++A) B z;simp only[hh] at ax;simp only[lE,il];rw[e,ax];grind
def KC:∀n,Wg (fr n)
 |0=>by
  intro A B z
  cases A<;>rfl
 |n+1=>λA B z=>auF (KC n) z B A []
def auG (n:Nat)(A B:List e7)(x y:e7):fr n (A++x::y::B) = -fr n (A++y::x::B):=by
 have al:=KC n A B (Al x y 1);have E:=CL n A (Al x y 1::B) x y 1;rw[al] at E;have G:=CL n (A++[x]) B x y 1;have ad:=CL n (A++[y]) B x y 1;simp only[hh,lE,jR] at G ad;rw[G,ad,KC n A B x,KC n A B y] at E;grind
def age (n:Nat)(C:List e7)(z:e7):∀B A,fr n (A++z::(B++z::C))=0:=by
 intro B
 induction B with
 |nil=>intro A;exact KC n A C z
 |cons b B aF =>
  intro A;have:=aF (A++[b]);simp only[hh,lE,jR] at this ⊢;rw[auG,this];grind
def Wh {n:Nat}{A B:List e7}{z:e7}(h:z∈A++B):fr n (A++z::B)=0:=by
 rcases hs.1 h with h|h
 ·obtain⟨V2,yB,rfl⟩:=agf h;have:=age n B z yB V2
  simpa only [hh,lE] using this
 ·obtain⟨hE,sk,rfl⟩:=agf h;exact age n sk z hE A
def auH {n:Nat}{f:List e7->Rat}{z:e7}(aQ:z n=0)(h:∀A B,f (A++z::B)=0):(∀cs A mr,il n f (A++z::mr) cs=0)/\∀A B pre,il n f pre (A++z::B)=0:=by
 have E:∀cs A mr,il n f (A++z::mr) cs=0:=by
  intro cs
  induction cs with
  |nil=>intro A mr;rfl
  |cons c cs aF =>
   intro A mr;have e:=aF A (mr++[c]);have ax:=h A (mr++cs);simp only[il,hh,lE] at e ax ⊢;rw[e,ax];grind
 refine⟨E,λA=>?_⟩
 induction A with
 |nil =>
  intro B pre;have e:=E B pre [];simp only[jR,il];rw[e,aQ];grind
 |cons c A aF =>
  intro B pre;have e:=aF B (pre++[c]);have ax:=h (pre++A) B;simp only[hh] at ax;simp only[lE,il];rw[e,ax];grind
def Wi:∀n (z:e7),(∀i,i<n->z i=0)->∀A B,fr n (A++z::B)=0
 |0,z,_=>λA B=>by cases A<;>rfl
 |n+1,z,h=>λA B=>(auH (h n (by omega)) (Wi n z λi O=>h i (by omega))).2 A B []
def agh {n:Nat}{e:e7}(h:∀i,i<n->e i=0)(cs:List e7):fr (n+1) (e::cs)=e n*fr n cs:=by
 show e n*fr n ([]++cs)-il n (fr n) ([]++[e]) cs=_
 have:∀cs pre,il n (fr n) (e::pre) cs=0:=by
  intro cs
  induction cs with
  |nil=>intro pre;rfl
  |cons c cs aF =>
   intro pre;have aL:=aF (pre++[c]);have ax:=Wi n e h [] (pre++cs);simp only[il,lE,jR] at aL ax ⊢;rw[aL,ax];grind
 simp only[jR];rw[this cs []];grind
def auI {n:Nat}{f:List e7->Rat}{T:e7->e7}(cp:∀c,T c n=c n)(h:∀l,f (l.map T)=f l):∀cs pre,il n f (pre.map T) (cs.map T)=il n f pre cs:=by
 intro cs
 induction cs with
 |nil=>intro pre;rfl
 |cons c cs aF =>
  intro pre;have e:=aF (pre++[c]);have ax:=h (pre++cs);simp only[pU,hv,cl] at e ax;simp only[hv,il];rw[e,ax,cp]
def Wj:∀n (T:e7->e7),(∀c i,i<n->T c i=c i)->∀l,fr n (l.map T)=fr n l
 |0,T,_=>λl=>by cases l<;>rfl
 |n+1,T,h=>λl=>auI (λc=>h c n (by omega)) (Wj n T λc i O=>h c i (by omega)) l []
def agi {n:Nat}{α:Type}(l:List α)(f g:α->e7)(h:∀a∈l,∀i,i<n->f a i=g a i):fr n (l.map f)=fr n (l.map g):=by
 rw[<-Wj n (λc i=>if i<n then c i else 0) (λc i O=>aq O),<-Wj n (λc i=>if i<n then c i else 0) (λc i O=>aq O) (l.map g)];rw[rj,rj]
 congr 1
 apply GW;intro a a5
 funext i
 simp only[Function.comp]
 split
 ·exact h a a5 i (by assumption)
 ·rfl
def KD (n:Nat)(A B:List e7)(x:Nat->Rat)(C:Nat->e7):∀m,fr n (A++(λi=>bI m λl=>x l*C l i)::B)=bI m λl=>x l*fr n (A++C l::B)
 |0=>Wi n _ (λi _=>rfl) A B
 |m+1=>by
  have e:=CL n A B (λi=>bI m λl=>x l*C l i) (C m) (x m);rw[KD n A B x C m] at e;exact e
def dB (B:Nat)(x:Rat):Prop:=∃z:Int,x=(z:Rat)/\z.natAbs<=B
def dB.mono {A B:Nat}{x:Rat}(h:dB A x)(af:A<=B):dB B x:=by obtain⟨z,E,G⟩:=h;exact⟨z,E,by omega⟩
def dB.mul {A B:Nat}{x y:Rat}(J:dB A x)(ag:dB B y):dB (A*B) (x*y):=by
 obtain⟨z,rfl,G⟩:=J;obtain⟨w,rfl,cY⟩:=ag;exact⟨z*w,by rw[j1],by rw[k1];exact gq G cY⟩
def dB.sub {A B:Nat}{x y:Rat}(J:dB A x)(ag:dB B y):dB (A+B) (x-y):=by
 obtain⟨z,rfl,G⟩:=J;obtain⟨w,rfl,cY⟩:=ag;exact⟨z-w,by rw[VH],by omega⟩
def dB.add {A B:Nat}{x y:Rat}(J:dB A x)(ag:dB B y):dB (A+B) (x+y):=by
 obtain⟨z,rfl,G⟩:=J;obtain⟨w,rfl,cY⟩:=ag;exact⟨z+w,by rw[Wk],by omega⟩
def dB.zero {B:Nat}:dB B 0:=⟨0,by rfl,by simp⟩
def dB.int (z:Int):dB z.natAbs (z:Rat):=⟨z,rfl,bM _⟩
def dB.sum {B:Nat}{f:Nat->Rat}:∀n,(∀k,k<n->dB B (f k))->dB (n*B) (bI n f)
 |0,_=>dB.zero
 |n+1,h=>by
  have:=(dB.sum n λk Q=>h k (by omega)).add (h n (by omega));exact this.mono (by rw[tz];exact bM _)
def dB.of {z:Int}{B:Nat}(h:z.natAbs<=B):dB B (z:Rat):=⟨z,rfl,h⟩
def dB.nat {z:Nat}{B:Nat}(h:z<=B):dB B (z:Rat):=⟨z,(nS _).symm,by omega⟩
def eV:Nat->(Nat->Nat)->Nat
 |0,_=>0
 |n+1,a=>eV n a+a n
def Py {n:Nat}{a b:Nat->Nat}(h:∀i,i<n->a i=b i):eV n a=eV n b:=by
 induction n with
 |zero=>rfl
 |succ n aF=>rw[eV,eV,aF λi O=>h i (by omega),h n (by omega)]
def auJ {N t:Nat}(b:Nat->Nat)(bC:t<N):eV N b=eV N (λi=>if i=t then 0 else b i)+b t:=by
 induction N with
 |zero=>omega
 |succ N aF =>
  by_cases h:t=N
  ·subst h;rw[eV,eV,aq rfl];have:eV t b=eV t λi=>if i=t then 0 else b i:=Py λi O=>by rw[ar (by omega)]
   omega
  ·have:=aF (by omega);rw[eV,eV,ar (by omega)];omega
def agj {N:Nat}{τ:Nat->Nat}:∀{n:Nat} (b:Nat->Nat),(∀i,i<n->τ i<N)->(∀i j,i<n->j<n->τ i=τ j->i=j)->eV n (λi=>b (τ i))<=eV N b
 |0,_,_,_=>eL _
 |n+1,b,E,G=>by
  have aF:=agj (n:=n) (λi=>if i=τ n then 0 else b i) (λi O=>E i (by omega)) λi j O aa=>G i j (by omega) (by omega);rw[auJ b (E n (by omega)),eV]
  have:eV n (λi=>b (τ i))=eV n λi=>if τ i=τ n then 0 else b (τ i):=Py λi O=>by
   rw[ar λh=>by have:=G i n (by omega) (by omega) h;omega]
  omega
def hV:Nat->(Nat->Nat)->Nat
 |0,_=>1
 |n+1,aU=>hV n aU*aU n
def Wl {p:Nat}{aU:Nat->Nat}(iN:∀k,0<aU k):∀{N:Nat},p<=N->∃bS,0<bS/\hV N aU=hV p aU*bS/\∀k,p<=k->k<N->∃m,bS=aU k*m
 |0,h=>⟨1,Pz,by rw[show p=0 by omega];rfl,λk _ h=>by omega⟩
 |N+1,h=>by
  by_cases aD:p=N+1
  ·exact⟨1,Pz,by rw[aD,dE],λk E G=>by omega⟩
  ·obtain⟨bS,al,E,G⟩:=Wl (p:=p) iN (N:=N) (by omega);refine⟨bS*aU N,FX al (iN N),by rw[hV,E,FY],λk cP e0=>?_⟩
   by_cases Q:k=N
   ·exact⟨bS,by rw[Q,pH]⟩
   ·obtain⟨m,hm⟩:=G k cP (by omega);exact⟨m*aU N,by rw[hm,FY]⟩
abbrev FZ:=e7×(Nat->Nat)
def lT (n:Nat):List FZ->Nat
 | []=>1
 |p::l=>eV n p.2*lT n l
def auK (n:Nat)(a b:List FZ):lT n (a++b)=lT n a*lT n b:=by
 induction a with
 |nil=>simp[lT]
 |cons p l aF=>simp only[lE,lT,aF,FY]
def agk (n:Nat):∀l:List FZ,lT n l<=lT (n+1) l
 | []=>bM _
 |p::l=>gq (Nat.le_add_right _ _) (agk n l)
def agl {n:Nat}{f:List e7->Rat}(h:∀l:List FZ,(∀p∈l,∀i,i<n->dB (p.2 i) (p.1 i))->dB (lT n l) (f (l.map (·.1)))):
  ∀cs pre:List FZ,(∀p∈pre++cs,∀i,i<n+1->dB (p.2 i) (p.1 i))->∃z:Int,il n f (pre.map (·.1)) (cs.map (·.1))=(z:Rat)/\z.natAbs+lT n pre*lT n cs<=lT n pre*lT (n+1) cs
 | [],pre,_=>⟨0,rfl,by simp[lT]⟩
 |c::cs,pre,aD=>by
  obtain⟨z,E,G⟩:=agl h cs (pre++[c]) (by simpa using aD);obtain⟨y,cA,cY⟩:=h (pre++cs) λp hm i O=>aD p (by simp only[hs,ia] at hm ⊢;rcases hm with hm|hm<;>simp[hm]) i (by omega)
  obtain⟨x,cP,e0⟩:=aD c (by simp) n (by omega);simp only[pU,hv,cl] at E cA;refine⟨x*y-z,?_,?_⟩
  ·simp only[hv,il];rw[cP,cA,E,VH,j1]
  ·rw[auK] at G cY;simp only[lT,eV,dE] at G ⊢;have cz:(x*y-z).natAbs<=x.natAbs*y.natAbs+z.natAbs:=by rw[<-k1];omega
   have dj:=gq e0 (cN cY (gq (bM _) (agk n cs)));generalize lT n pre=P at *;generalize lT n cs=s at *;generalize lT (n+1) cs=S at *;generalize eV n c.2=bA at *;generalize c.2 n=a at *;have aL:P*((bA+a)*S)=P*bA*S+a*(P*S):=by rw[Nat.add_mul,PA,FY,afv a]
   have ax:P*(bA*s)=P*bA*s:=(FY _ _ _).symm;rw[aL,ax];omega
def agm:∀n (l:List FZ),(∀p∈l,∀i,i<n->dB (p.2 i) (p.1 i))->dB (lT n l) (fr n (l.map (·.1)))
 |0,[],_=>⟨1,by rfl,by simp[lT]⟩
 |0,p::l,_=>dB.zero
 |n+1,l,h=>by
  obtain⟨z,E,G⟩:=agl (f:=fr n) (agm n) l [] (by simpa using h);refine⟨z,E,?_⟩;simp only[lT,tk] at G;omega
def p7 (A:cT)(σ:Nat->Nat)(k:Nat):e7:=λi=>A (σ i) k
def kP:Nat->List Nat
 |0=>[]
 |p+1=>p::kP p
def u4 {k:Nat}:∀{p:Nat},k∈kP p↔k<p
 |0=>by simp[kP]
 |p+1=>by
  simp only[kP,ia,u4 (p:=p)];omega
def agn {l:Nat}:∀{p:Nat},l<p->∃X c5,kP p=X++l::c5/\∀m,m∈X++c5↔m<p/\m≠l
 |0,h=>by omega
 |p+1,h=>by
  by_cases af:l=p
  ·subst af;refine⟨[],kP l,rfl,λm=>?_⟩;rw[jR,u4];omega
  ·obtain⟨X,c5,E,G⟩:=agn (l:=l) (p:=p) (by omega);refine⟨p::X,c5,by simp[kP,E],λm=>?_⟩
   rw[lE,ia,G];omega
def oq (A:cT)(σ:Nat->Nat)(p:Nat):List e7:=(kP p).map (p7 A σ)
def PB {n:Nat}{c c':e7}(X c5:List e7)(h:∀i,i<n->c i=c' i):fr n (X++c::c5)=fr n (X++c'::c5):=by
 have:=agi (n:=n) (X.map (λx=>(x,x))++(c,c')::c5.map (λx=>(x,x))) Prod.fst Prod.snd (λa a5 i O=>by
  simp only[hs,ia,h3] at a5;rcases a5 with ⟨x,_,rfl⟩|rfl|⟨x,_,rfl⟩
  ·rfl
  ·exact h i O
  ·rfl)
 simpa [Function.comp_def] using this
def ago {A:cT}{σ τ:Nat->Nat}{p:Nat}(h:∀i,i<p->σ i=τ i):fr p (oq A σ p)=fr p (oq A τ p) :=
 agi _ _ _ λa _ i O=>by unfold p7;rw[h i O]
def F0 (N:Nat)(A ak:cT)(σ:Nat->Nat)(p:Nat):Prop:=∀i,i<N->∀k,p<=k->k<=N->A (σ i) k=(if i<p then 0 else ak i k)+bI p λl=>A (σ i) l*ak l k
def lh (N:Nat)(A ak:cT)(p:Nat):Prop:=∃σ:Nat->Nat,(∀i,i<N->σ i<N)/\(∀i j,i<N->j<N->σ i=σ j->i=j)/\F0 N A ak σ p/\fr p (oq A σ p)≠0
def lh.start (N:Nat)(A:cT):lh N A A 0:=by
 refine⟨λi=>i,λi h=>h,λi j _ _ h=>h,λi O k _ Q=>?_,?_⟩
 ·rw[ar (by omega)];show A i k=A i k+0;grind
 ·show (1:Rat)≠0;decide
def auL {p:Nat}(a x y:Nat->Rat)(t:Rat):bI p (λl=>a l*(x l-y l*t))=bI p (λl=>a l*x l)-t*bI p λl=>a l*y l:=by
 have:(λl=>a l*(x l-y l*t))=λl=>a l*x l+(-t)*(a l*y l):=by funext l;grind
 rw[this,yy,sf];grind
def lh.step {N p s:Nat}{A ak:cT}(h:lh N A ak p)(aD:p<N)(R:p<=s)(p3:s<N)(bc:ak s p≠0):lh N A (kO ak p p s) (p+1):=by
 obtain⟨σ,hσ,u5,M,ae⟩:=h
 let π:Nat->Nat:=λi=>if i=s then p else if i=p then s else i
 have hπ:∀i,fc ak p s i=ak (π i):=by
  intro i;show (if i=s then ak p else if i=p then ak s else ak i)=ak (if i=s then p else if i=p then s else i)
  split
  ·rfl
  ·split<;>rfl
 have hπN:∀i,i<N->π i<N:=λi O=>by show (if i=s then p else if i=p then s else i)<N;split<;>(try split)<;>omega
 have hπp:∀i,i<p->π i=i:=λi O=>by show (if i=s then p else if i=p then s else i)=i;rw[ar (by omega),ar (by omega)]
 have hπq:∀i,p<=i->p<=π i:=λi O=>by show p<=(if i=s then p else if i=p then s else i);split<;>(try split)<;>omega
 have hπj:∀i j,π i=π j->i=j:=λi j=>by
  show (if i=s then p else if i=p then s else i)=(if j=s then p else if j=p then s else j)->i=j
  (repeat' split)<;>omega
 have agp:∀i j,i<N->j<N->σ (π i)=σ (π j)->i=j:=λi j O aa h=>hπj i j (u5 _ _ (hπN i O) (hπN j aa) h)
 have cm:F0 N A (fc ak p s) (λi=>σ (π i)) p:=by
  intro i O k hc gm;have:=M (π i) (hπN i O) k hc gm;rw[this]
  congr 1
  ·by_cases hD:i<p
   ·rw[aq hD,aq (by rw[hπp i hD];exact hD)]
   ·rw[ar hD,ar (by have:=hπq i (by omega);omega),hπ]
  ·refine nh λl af=>?_;rw[hπ l,hπp l af]
 have auM:fc ak p s p p≠0:=by rw[Kc];exact bc
 generalize auN:fc ak p s=S at *
 have aM:kO ak p p s=λi k=>if i=p then S p k/S p p else S i k-S i p*(S p k/S p p):=by
  funext i k;unfold kO;rw[auN]
 rw[aM]
 have kS:fr p (oq A (λi=>σ (π i)) p)≠0:=by
  rw[ago (τ:=σ) λi O=>by show σ (π i)=σ i;rw[hπp i O]]
  exact ae
 have hσ2:∀i,i<N->σ (π i)<N:=λi O=>hσ _ (hπN i O)
 change ∀i,i<N->(λi=>σ (π i)) i<N at hσ2
 change ∀i j,i<N->j<N->(λi=>σ (π i)) i=(λi=>σ (π i)) j->i=j at agp
 generalize hτ:(λi=>σ (π i))=τ at *;refine⟨τ,hσ2,agp,λi O k hc gm=>?_,?_⟩
 ·have aL:=cm i O k (by omega) gm;have ax:=cm i O p (by omega) (by omega);simp only[bI,if_true];rw[nh (g:=λl=>A (τ i) l*(S l k-S l p*(S p k/S p p))) λl af=>by rw[ar (by omega)],auL]
  generalize bI p (λl=>A (τ i) l*S l k)=X at *;generalize bI p (λl=>A (τ i) l*S l p)=c5 at *
  by_cases E:i<p
  ·rw[aq E] at aL ax;rw[aq (by omega)];grind
  ·rw[ar E] at aL ax
   by_cases G:i=p
   ·subst G;rw[aq (by omega)];grind
   ·rw[ar (by omega),ar G];grind
 ·have Z:fr (p+1) (oq A τ (p+1))=S p p*fr p (oq A τ p):=by
   show fr (p+1) ([]++p7 A τ p::oq A τ p)=_
   rw[PB (c':=Al (λi=>if i<p then 0 else S i p) (λi=>bI p λl=>S l p*p7 A τ l i) 1) [] _ λi O=>by
    have:=cm i (by omega) p (by omega) (by omega);show A (τ i) p=(if i<p then 0 else S i p)+1*bI p λl=>S l p*A (τ i) l;rw[this,Kd]
    congr 1
    exact nh λl _=>F1 _ _]
   rw[CL,KD,uW λl af=>by
    rw[Wh (by rw[jR];exact Wm (u4.2 af))];exact FK _]
   rw[jR,agh λi O=>aq O,ar (by omega)];grind
  rw[Z];intro al;rcases Kh.1 al with al|al
  ·exact auM al
  ·exact kS al
def agq {N p l k:Nat}{A ak:cT}{σ:Nat->Nat}(M:F0 N A ak σ p)(aD:p<=N)(af:l<p)(hc:p<=k)(gm:k<=N):∃X c5:List Nat,kP p=X++l::c5/\(∀m∈X++c5,m<p)/\ak l k*fr p (oq A σ p)=fr p ((X++k::c5).map (p7 A σ)):=by
 obtain⟨X,c5,qw,hm⟩:=agn af;refine⟨X,c5,qw,λm Da=>((hm m).1 Da).1,?_⟩
 ·rw[pU,hv]
  rw[PB (c':=λi=>bI p λm=>ak m k*p7 A σ m i) _ _ λi O=>by
   have:=M i (by omega) k hc gm;rw[aq O] at this;show A (σ i) k=bI p λm=>ak m k*A (σ i) m;rw[this,KE];exact nh λl _=>F1 _ _]
  rw[KD,Kb af λm gF tA=>by
   rw[Wh (by rw[<-pU];exact Wm ((hm m).2 ⟨gF,tA⟩))];exact FK _]
  unfold oq;rw[qw,pU,hv]
def agr {N p i k:Nat}{A ak:cT}{σ:Nat->Nat}(M:F0 N A ak σ p)(qc:p<=i)(dX:i<N)(hc:p<=k)(gm:k<=N):ak i k*fr p (oq A σ p)=fr (p+1) ((k::kP p).map (p7 A λj=>if j=p then σ i else σ j)):=by
 have hτ:∀j,j<p->(λj=>if j=p then σ i else σ j) j=σ j:=λj aa=>ar (by omega);have hτp:(λj=>if j=p then σ i else σ j) p=σ i:=aq rfl;generalize (λj=>if j=p then σ i else σ j)=τ at *;show _=fr (p+1) ([]++p7 A τ k::oq A τ p)
 rw[PB (c':=Al (λj=>if j<p then 0 else ak i k) (λj=>bI p λl=>ak l k*p7 A τ l j) 1) [] _ λj aa=>by
  show A (τ j) k=(if j<p then 0 else ak i k)+1*bI p λl=>ak l k*A (τ j) l;rw[Kd]
  by_cases CD:j<p
  ·have:=M j (by omega) k hc gm;rw[aq CD] at this ⊢;rw[hτ j CD,this]
   congr 1
   exact nh λl _=>F1 _ _
  ·obtain rfl:j=p:=by omega
   have:=M i dX k hc gm;rw[ar (by omega)] at this;rw[ar CD,hτp,this]
   congr 1
   exact nh λl _=>F1 _ _]
 rw[CL,KD,uW λl af=>by
  rw[Wh (by rw[jR];exact Wm (u4.2 af))];exact FK _]
 rw[jR,agh λi O=>aq O,ar (by omega),ago λj aa=>(hτ j aa).symm];grind
def auO (n:Nat)(X c5:List e7)(x:e7)(a:Rat):fr n (X++(λi=>a*x i)::c5)=a*fr n (X++x::c5):=by
 have:=KD n X c5 (λ_=>a) (λ_=>x) 1;simp only[bI] at this;rw[KE] at this;rw[<-this];exact PB X c5 λi _=>(KE _).symm
def Wn (n:Nat)(aU:Nat->Rat)(C:Nat->e7):∀(bA:List Nat) (X:List e7),∃a:Rat,((∀k∈bA,aU k≠0)->a≠0)/\fr n (X++bA.map λk=>λi=>aU k*C k i)=a*fr n (X++bA.map C)
 | [],X=>⟨1,λ_=>by decide,by rw[Kd];rfl⟩
 |k::bA,X=>by
  obtain⟨a,E,G⟩:=Wn n aU C bA (X++[C k]);refine⟨aU k*a,λh=>?_,?_⟩
  ·intro al;rcases Kh.1 al with al|al
   ·exact h k kV al
   ·exact E (λm hm=>h m (td _ hm)) al
  ·simp only[hv,hh,lE,jR] at G ⊢;rw[auO,G,Rat.mul_assoc]
structure PC (N:Nat) (A:cT) (δ v:Nat):Prop where
 ex:∃(aU:Nat->Nat) (u w:Nat->Int),hV N aU<=2^δ/\(∀k,0<aU k)/\(∀k,k<N->∃b:Nat->Nat,eV N b<=2*aU k/\∀i,i<N->dB (b i) (aU k*A i k))/\(∀k,k<N->(u k).natAbs<=2^v)/\∀i,i<N->(w i).natAbs<=2^v/\A i N=bI N (λk=>A i k*(u k:Rat))+(w i:Rat)
def gM (e:Nat->Nat):List Nat->Nat
 | []=>1
 |m::l=>e m*gM e l
def PD (e:Nat->Nat)(a b:List Nat):gM e (a++b)=gM e a*gM e b:=by
 induction a with
 |nil=>simp[gM]
 |cons p l aF=>simp only[lE,gM,aF,FY]
def ags {e f:Nat->Nat}{l:List Nat}(h:∀m∈l,e m=f m):gM e l=gM f l:=by
 induction l with
 |nil=>rfl
 |cons m l aF=>rw[gM,gM,aF λx J=>h x (td _ J),h m kV]
def agt (aU:Nat->Nat):∀p,gM (λm=>2*aU m) (kP p)=2^p*hV p aU
 |0=>rfl
 |p+1=>by
  rw[kP,gM,agt aU p,hV,rv];grind
def F2 {N n:Nat}{A:cT}{e:Nat->Nat}(c3:∀k,k<=N->∃b:Nat->Nat,eV N b<=e k/\∀i,i<N->dB (b i) (A i k)){τ:Nat->Nat}(E:∀i,i<n->τ i<N)(G:∀i j,i<n->j<n->τ i=τ j->i=j)(bA:List Nat)(b2:∀m∈bA,m<=N):dB (gM e bA) (fr n (bA.map (p7 A τ))):=by
 have⟨B,hq⟩:∃B:Nat->Nat->Nat,∀k,k<=N->eV N (B k)<=e k/\∀i,i<N->dB (B k i) (A i k):=by
  refine⟨λk=>if h:k<=N then (c3 k h).choose else λ_=>0,λk Q=>?_⟩;dsimp only;rw[dif_pos Q];exact (c3 k Q).choose_spec
 have h:=agm n (bA.map λk=>(p7 A τ k,λi=>B k (τ i))) λp aD i O=>by
  obtain⟨m,hm,rfl⟩:=h3.1 aD;exact (hq m (b2 m hm)).2 _ (E i O)
 rw[rj] at h;refine dB.mono h ?_;clear h
 induction bA with
 |nil=>exact bM _
 |cons m bA aF =>
  rw[hv,lT,gM];exact gq (cN (agj (B m) E G) (hq m (b2 m kV)).1) (aF λx J=>b2 x (td _ J))
structure auP (N:Nat) (ak:cT) (δ v p:Nat) (aU:Nat->Nat) (u:Nat->Int) (d:Int):Prop where
 d0:d≠0
 pos:∀k,0<aU k
 u6:hV N aU<=2^δ
 wG:∀k,k<N->(u k).natAbs<=2^v
 AW:d.natAbs<=2^p*hV p aU
 agu:∀i,i<N->∀k,p<=k->k<N->dB (2^(p+1)*(hV p aU*aU k)) (ak i k*(aU k*d))
 val:∀i,i<N->dB (2^p*hV p aU*(N*2^v)) ((ak i N-(if i<p then (u i:Rat) else 0)-bI N λk=>if p<=k then ak i k*(u k:Rat) else 0)*d)
def lh.agv {N p δ v:Nat}{A ak:cT}(c3:PC N A δ v)(h:lh N A ak p)(aD:p<=N):∃aU u d,auP N ak δ v p aU u d:=by
 obtain⟨σ,hσ,u5,M,ae⟩:=h;obtain⟨aU,u,w,cz,dj,hR,iV,o3⟩:=c3
 have KF:∀m,((aU m:Nat):Rat)≠0:=λm=>by
  have:=dj m;rw[Ne,agw];omega
 -- xl scaled matrix, with xl whole numbers of xl values
 have aP:F0 N (λi k=>if k<N then aU k*A i k else (w i:Rat)) (λl k=>if k<N then (if l<p then aU k*ak l k/aU l else aU k*ak l k) else (if l<p then (1:Rat)/aU l else 1)*(ak l N-(if l<p then (u l:Rat) else 0)-bI N λk=>if p<=k then ak l k*(u k:Rat) else 0)) σ p:=by
  intro i O k hc gm
  by_cases ju:k<N
  ·have:=M i O k hc gm;dsimp only;rw[aq ju,aq ju,this,agx,<-sf]
   congr 1
   ·split<;>grind
   ·refine nh λl af=>?_;rw[aq ju,aq (by omega),aq af];have:=KF l;grind
  ·obtain rfl:k=N:=by omega
   dsimp only;rw[ar ju,ar ju];have aL:=M i O k hc gm;have ax:=(o3 (σ i) (hσ i O)).2
   have eo:(λm=>A (σ i) m*(u m:Rat))=λm=>(if m<p then A (σ i) m*(u m:Rat) else 0)+if p<=m then A (σ i) m*(u m:Rat) else 0:=by
    funext m
    by_cases hm:m<p
    ·rw[aq hm,ar (by omega),O4]
    ·rw[ar hm,aq (by omega),KE]
   have kZ:bI k (λm=>if p<=m then A (σ i) m*(u m:Rat) else 0)=bI k λm=>(if p<=m then (if i<p then 0 else ak i m*(u m:Rat)) else 0)+bI p λl=>A (σ i) l*(if p<=m then ak l m*(u m:Rat) else 0):=nh λm hm=>by
    by_cases lA:p<=m
    ·rw[aq lA,aq lA,M i O m lA (by omega),Rat.add_mul]
     congr 1
     ·split<;>grind
     ·rw[F1,<-sf];refine nh λl _=>?_;rw[aq lA];grind
    ·rw[ar lA,ar lA,KE];exact (uW λl _=>by rw[ar lA,FK]).symm
   rw[eo,yy,kZ,yy,asF] at ax
   have qH:bI k (λm=>if m<p then A (σ i) m*(u m:Rat) else 0)=bI p λl=>A (σ i) l*(u l:Rat):=by
    have:∀n,p<=n->bI n (λm=>if m<p then A (σ i) m*(u m:Rat) else 0)=bI p λl=>A (σ i) l*(u l:Rat):=by
     intro n
     induction n with
     |zero =>
          intro h;obtain rfl:p=0:=by omega
          rfl
     |succ n aF =>
      intro h
      by_cases Pe:p=n+1
      ·rw[Pe];exact nh λm hm=>aq hm
      ·rw[bI,aF (by omega),ar (by omega),O4]
    exact this k aD
   rw[qH] at ax
   have Ac:(bI p λl=>(λi sh=>if sh<k then (aU sh:Rat)*A i sh else (w i:Rat)) (σ i) l*((if l<p then (1:Rat)/aU l else 1)*(ak l k-(if l<p then (u l:Rat) else 0)-bI k λm=>if p<=m then ak l m*(u m:Rat) else 0)))=bI p (λl=>A (σ i) l*ak l k)-bI p (λl=>A (σ i) l*(u l:Rat))-bI p λl=>bI k λm=>A (σ i) l*(if p<=m then ak l m*(u m:Rat) else 0):=by
    have:∀f g h:Nat->Rat,bI p (λl=>f l-g l-h l)=bI p f-bI p g-bI p h:=λf g h=>by
     have e:(λl=>f l-g l-h l)=λl=>f l+((-1)*g l+(-1)*h l):=by funext l;grind
     rw[e,yy,yy,sf,sf];grind
    rw[<-this];refine nh λl af=>?_;dsimp only;rw[aq (by omega),aq af,aq af,sf];have:=KF l;grind
   have Cv:(bI p λl=>(λi sh=>if sh<k then (aU sh:Rat)*A i sh else (w i:Rat)) (σ i) l*(λl sh=>if sh<k then (if l<p then (aU sh:Rat)*ak l sh/aU l else aU sh*ak l sh) else (if l<p then (1:Rat)/aU l else 1)*(ak l k-(if l<p then (u l:Rat) else 0)-bI k λm=>if p<=m then ak l m*(u m:Rat) else 0)) l k)=bI p (λl=>A (σ i) l*ak l k)-bI p (λl=>A (σ i) l*(u l:Rat))-bI p λl=>bI k λm=>A (σ i) l*(if p<=m then ak l m*(u m:Rat) else 0):=by
    rw[<-Ac];refine nh λl af=>?_;dsimp only;rw[ar (by omega:¬ k<k)]
   dsimp only at Cv;rw[Cv]
   by_cases hD:i<p
   ·rw[aq hD] at aL ⊢;have oZ:bI k (λm=>if p<=m then (if i<p then 0 else ak i m*(u m:Rat)) else 0)=0:=uW λm _=>by rw[aq hD];split<;>rfl
    rw[oZ] at ax;grind
   ·rw[ar hD] at aL ⊢;have oZ:bI k (λm=>if p<=m then (if i<p then 0 else ak i m*(u m:Rat)) else 0)=bI k λm=>if p<=m then ak i m*(u m:Rat) else 0:=nh λm _=>by rw[ar hD]
    rw[oZ] at ax;rw[ar hD,ar hD];grind
 have ki:fr p (oq (λi k=>if k<N then aU k*A i k else (w i:Rat)) σ p)≠0:=by
  obtain⟨a,E,G⟩:=Wn p (λk=>(aU k:Rat)) (p7 A σ) (kP p) []
  have KG:oq (λi k=>if k<N then aU k*A i k else (w i:Rat)) σ p=(kP p).map λk=>λi=>(aU k:Rat)*p7 A σ k i:=by
   unfold oq;refine GW λm hm=>?_;have:=u4.1 hm
   funext i
   show (if m<N then (aU m:Rat)*A (σ i) m else (w (σ i):Rat))=_;rw[aq (by omega)];rfl
  rw[jR,jR] at G;rw[KG,G];intro al;rcases Kh.1 al with al|al
  ·exact E (λm hm=>KF m) al
  ·exact ae al
 have u2:∀k,k<=N->∃b:Nat->Nat,eV N b<=(if k<N then 2*aU k else N*2^v)/\∀i,i<N->dB (b i) ((λi k=>if k<N then (aU k:Rat)*A i k else (w i:Rat)) i k):=by
  intro k Q
  by_cases ju:k<N
  ·obtain⟨b,cQ,dO⟩:=hR k ju;refine⟨b,by rw[aq ju];exact cQ,λi O=>?_⟩
   dsimp only;rw[aq ju];exact dO i O
  ·refine⟨λ_=>2^v,?_,λi O=>?_⟩
   ·rw[ar ju]
    have:∀n,eV n (λ_=>2^v)=n*2^v:=λn=>by
     induction n with
     |zero=>simp[eV]
     |succ n aF=>rw[eV,aF,tz]
    rw[this];exact bM _
   ·dsimp only;rw[ar ju];exact dB.mono (dB.int _) (o3 i O).1
 generalize auQ:(λ(i k:Nat)=>if k<N then (aU k:Rat)*A i k else (w i:Rat))=yB at *;generalize E9:(λk=>if k<N then 2*aU k else N*2^v)=e at *
 have Wo:∀k,k<=N->∃b:Nat->Nat,eV N b<=e k/\∀i,i<N->dB (b i) (yB i k):=by
  intro k Q;rw[<-E9];exact u2 k Q
 have Wp:∀m,m<N->e m=2*aU m:=λm hm=>by rw[<-E9];exact aq hm
 have auR:e N=N*2^v:=by rw[<-E9];exact ar (by omega)
 have CM:gM e (kP p)=2^p*hV p aU:=by
  rw[<-agt];exact ags λm hm=>Wp m (by have:=u4.1 hm;omega)
 have hσp:∀i,i<p->σ i<N:=λi O=>hσ i (by omega);have hD:∀i j,i<p->j<p->σ i=σ j->i=j:=λi j O aa=>u5 i j (by omega) (by omega);have mY:=F2 Wo hσp hD (kP p) λm hm=>by have:=u4.1 hm;omega
 rw[CM] at mY;obtain⟨d,qx,n3⟩:=mY
 change fr p (oq yB σ p)=(d:Rat) at qx
 have vV:d≠0:=by
  intro al;rw[qx,al] at ki;exact ki (by rfl)
 -- both kinds of rows
 have fZ:∀l,l<p->∀k,p<=k->k<=N->∃m:Int,(λl k=>if k<N then (if l<p then (aU k:Rat)*ak l k/aU l else aU k*ak l k) else (if l<p then (1:Rat)/aU l else 1)*(ak l N-(if l<p then (u l:Rat) else 0)-bI N λk=>if p<=k then ak l k*(u k:Rat) else 0)) l k*(d:Rat)=(m:Rat)/\aU l*m.natAbs<=2^p*hV p aU*e k:=by
  intro l af k hc gm;obtain⟨X,c5,e9,fy,g6⟩:=agq aP aD af hc gm
  have U:=F2 Wo hσp hD (X++k::c5) λm hm=>by
   have:m=k\/m∈X++c5:=by
    simp only[hs,ia] at hm ⊢;rcases hm with h|h|h<;>simp[h]
   rcases this with h|h
   ·omega
   ·have:=fy m h;omega
  obtain⟨m,ba,bJ⟩:=U;rw[qx,ba] at g6;refine⟨m,g6,?_⟩;have aL:gM e (X++k::c5)=gM e X*(e k*gM e c5):=by rw[PD,gM]
  have ax:gM e X*(2*aU l*gM e c5)=2^p*hV p aU:=by
   rw[<-CM,e9,PD,gM,Wp l (by omega)]
  rw[aL] at bJ;rw[<-ax];generalize gM e X=x at *;generalize gM e c5=y at *;have cP:=gq (bM (aU l)) bJ;have e0:x*(2*aU l*y)*e k=aU l*(x*(e k*y))+aU l*(x*(e k*y)):=by grind
  rw[e0];omega
 have jf:∀i,p<=i->i<N->∀k,p<=k->k<=N->∃m:Int,(λl k=>if k<N then (if l<p then (aU k:Rat)*ak l k/aU l else aU k*ak l k) else (if l<p then (1:Rat)/aU l else 1)*(ak l N-(if l<p then (u l:Rat) else 0)-bI N λk=>if p<=k then ak l k*(u k:Rat) else 0)) i k*(d:Rat)=(m:Rat)/\m.natAbs<=2^p*hV p aU*e k:=by
  intro i qc dX k hc gm;have F3:=agr aP qc dX hc gm
  have hτ:∀j,j<p+1->(λj=>if j=p then σ i else σ j) j<N:=λj aa=>by
   show (if j=p then σ i else σ j)<N
   split
   ·exact hσ i dX
   ·exact hσ j (by omega)
  have hτj:∀j k,j<p+1->k<p+1->(λj=>if j=p then σ i else σ j) j=(λj=>if j=p then σ i else σ j) k->j=k:=λj k aa Q=>by
   show (if j=p then σ i else σ j)=(if k=p then σ i else σ k)->j=k;intro h
   by_cases bU:j=p
   ·by_cases c6:k=p
    ·omega
    ·rw[aq bU,ar c6] at h;have:=u5 _ _ dX (by omega) h;omega
   ·by_cases c6:k=p
    ·rw[ar bU,aq c6] at h;have:=u5 _ _ (by omega) dX h;omega
    ·rw[ar bU,ar c6] at h;exact u5 _ _ (by omega) (by omega) h
  obtain⟨m,ba,bJ⟩:=F2 Wo hτ hτj (k::kP p) λm hm=>by
   rcases ia.1 hm with h|h
   ·omega
   ·have:=u4.1 h;omega
  rw[qx,ba] at F3;refine⟨m,F3,cN bJ ?_⟩;rw[gM,CM,pH];exact bM _
 refine⟨aU,u,d,vV,dj,cz,iV,n3,λi O k hc gm=>?_,λi O=>?_⟩
 ·have SP:2^(p+1)*(hV p aU*aU k)=2^p*hV p aU*e k:=by rw[Wp k gm,rv];grind
  rw[SP]
  by_cases au:i<p
  ·obtain⟨m,ba,bJ⟩:=fZ i au k hc (by omega);dsimp only at ba;rw[aq gm,aq au] at ba;refine⟨aU i*m,?_,by rw[k1,ih];exact bJ⟩
   rw[j1,<-ba,nS];have:=KF i;grind
  ·obtain⟨m,ba,bJ⟩:=jf i (by omega) O k hc (by omega);dsimp only at ba;rw[aq gm,ar au] at ba;refine⟨m,?_,bJ⟩;rw[<-ba];grind
 ·rw[<-auR]
  by_cases au:i<p
  ·obtain⟨m,ba,bJ⟩:=fZ i au N aD (bM _);dsimp only at ba;rw[ar (by omega:¬ N<N),aq au,aq au] at ba;refine⟨aU i*m,?_,by rw[k1,ih];exact bJ⟩
   rw[j1,<-ba,nS,aq au];have:=KF i;grind
  ·obtain⟨m,ba,bJ⟩:=jf i (by omega) O N aD (bM _);dsimp only at ba;rw[ar (by omega:¬ N<N),ar au,ar au] at ba;refine⟨m,?_,bJ⟩;rw[<-ba,ar au];grind
def CN (N:Nat)(A:cT)(b6 bR:Nat):Prop:=∀ak p,p<=N->lh N A ak p->∀i k,i<N->p<=k->k<=N->et b6 (ak i k)/\(k<N->et bR (ak i k))
def PC.agy {N δ v:Nat}{A:cT}(c3:PC N A δ v)(hN:N<=7):CN N A (N+δ+v+4) (N+δ):=by
 intro ak p aD h i k O hc gm;obtain⟨aU,u,d,aE⟩:=h.agv c3 aD;obtain⟨bS,agz,fK,hd⟩:=Wl aE.pos aD;have u0:=aE.u6;rw[fK] at u0
 have auS:∀k,p<=k->k<N->hV p aU*aU k<=hV p aU*bS:=λk E G=>by
  obtain⟨m,hm⟩:=hd k E G;refine gq (bM _) ?_
  have:0<m:=by
   rcases iK m with h|h
   ·rw[h] at hm;omega
   ·exact h
  rw[hm];exact yQ _ this
 have Ek:∀q,q<=N->∀x,x<=2^δ->2^q*x<=2^(N+δ):=λq aM x J=>by
  rw[jF];exact gq (jU (by omega) aM) J
 have ff:∀k,p<=k->k<N->et (N+δ) (ak i k):=λk hc gm=>by
  obtain⟨z,hO,iQ⟩:=aE.agu i O k hc gm;have aA5:=aE.pos k;obtain⟨f1,f2⟩:=FN (q:=ak i k) (v:=z) (d:=(aU k:Int)*d) (wi (by omega) aE.d0) (by rw[<-hO,j1,nS]);have hle:=cN (auS k hc gm) u0;refine⟨cN f1 (cN iQ (Ek _ (by omega) _ hle)),cN f2 ?_⟩;rw[k1,ih];refine cN (gq (bM _) aE.AW) (cN ?_ (Ek p aD _ hle));exact wX (by grind)
 by_cases ju:k<N
 ·exact⟨(ff k hc ju).mono (by omega),λ_=>ff k hc ju⟩
 refine⟨?_,λh=>absurd h ju⟩;obtain rfl:k=N:=by omega
 have g1:=aE.val i O;have hq:∀q,q<=k->2^q*(hV p aU*bS)<=2^(k+δ):=λq aM=>Ek q aM _ u0
 -- xl three parts, times d and bS
 have qk:dB (k*2^(k+δ+v)) ((ak i k-(if i<p then (u i:Rat) else 0)-bI k λm=>if p<=m then ak i m*(u m:Rat) else 0)*d*(bS:Rat)):=by
  refine (g1.mul (dB.nat (bM bS))).mono ?_;have:=gq (hq p aD) (bM (k*2^v));refine cN (wX ?_) (cN this (wX ?_))
  ·grind
  ·rw[jF 2 (k+δ) v];grind
 have pE:dB (2^(k+δ+v)) ((if i<p then (u i:Rat) else 0)*d*(bS:Rat)):=by
  have hu:dB (2^v) (if i<p then (u i:Rat) else 0):=by
   split
   ·exact dB.mono (dB.int _) (aE.wG i O)
   ·exact dB.zero
  refine ((hu.mul (dB.mono (dB.int d) aE.AW)).mul (dB.nat (bM bS))).mono ?_;have:=gq (hq p aD) (bM (2^v));refine cN (wX ?_) (cN this (wX ?_))
  ·grind
  ·rw[jF 2 (k+δ) v]
 have rY:dB (k*2^(k+δ+v)) ((bI k λm=>if p<=m then ak i m*(u m:Rat) else 0)*d*(bS:Rat)):=by
  have e:(bI k λm=>if p<=m then ak i m*(u m:Rat) else 0)*(d:Rat)*(bS:Rat)=bI k λm=>((d:Rat)*(bS:Rat))*(if p<=m then ak i m*(u m:Rat) else 0):=by
   rw[sf];grind
  rw[e];refine dB.sum k λm hm=>?_
  by_cases lA:p<=m
  ·rw[aq lA];obtain⟨y,ag⟩:=hd m lA hm
   have ax:(d:Rat)*(bS:Rat)*(ak i m*(u m:Rat))=(ak i m*((aU m:Rat)*d))*(y:Rat)*(u m:Rat):=by
    rw[ag,F4];grind
   rw[ax];refine (((aE.agu i O m lA hm).mul (dB.nat (bM y))).mul (dB.mono (dB.int (u m)) (aE.wG m hm))).mono ?_;have:=gq (hq (p+1) (by omega)) (bM (2^v));refine cN (wX ?_) (cN this (wX ?_))
   ·rw[ag];grind
   ·rw[jF 2 (k+δ) v]
  ·rw[ar lA,FK];exact dB.zero
 obtain⟨z,hO,iQ⟩:=(qk.add pE).add rY
 have e:ak i k*((d*(bS:Int):Int):Rat)=(z:Rat):=by
  rw[<-hO,j1,nS];grind
 obtain⟨f1,f2⟩:=FN (wi aE.d0 (by omega)) e;refine⟨cN f1 (cN iQ ?_),cN f2 ?_⟩
 ·rw[jF 2 (k+δ+v) 4];generalize 2^(k+δ+v)=X at *;have:k*X<=7*X:=mP _ hN;omega
 ·rw[k1,ih];refine cN (gq aE.AW (bM bS)) (cN (wX ?_) (cN (hq p aD) (jU (by omega) (by omega))));grind
def lh.agA {N δ v:Nat}{A ak:cT}(c3:PC N A δ v)(h:lh N A ak N):∃a4:Nat,0<a4/\a4<=2^(N+δ)/\∀i,i<N->∃z:Int,ak i N*(a4:Rat)=(z:Rat):=by
 obtain⟨aU,u,d,aE⟩:=h.agv c3 (bM N)
 have⟨s,R⟩:∃s:Int,(d.natAbs:Int)=s*d:=by
  rcases agB d with e|e
  ·exact⟨1,by omega⟩
  ·exact⟨-1,by omega⟩
 have ae:=aE.d0;refine⟨d.natAbs,by omega,cN aE.AW ?_,λi O=>?_⟩
 ·rw[jF];exact gq (bM _) aE.u6
 ·obtain⟨z,hO,-⟩:=aE.val i O;rw[aq O,uW λk Q=>ar (by omega)] at hO;refine⟨s*(z+u i*d),?_⟩;have e:((d.natAbs:Nat):Rat)=((d.natAbs:Int):Rat):=(nS _).symm;rw[e,R,j1,j1,Wk,j1,<-hO];grind
def agC (ak:cT){N p s:Nat}(aD:p<N)(R:p<=s)(p3:s<N){i:Nat}(O:i<N):∃a0,a0<N/\fc ak p s i=ak a0:=by
 unfold fc
 by_cases E:i=s
 ·exact⟨p,aD,by rw[aq E]⟩
 ·by_cases G:i=p
  ·exact⟨s,p3,by rw[ar E,aq G]⟩
  ·exact⟨i,O,by rw[ar E,ar G]⟩
def Wq (b:Nat)(p:Prop)[Decidable p]:et b (if p then 1 else 0):=by
 have U:1<=2^b:=PE
 split
 ·exact⟨U,U⟩
 ·exact⟨eL _,U⟩
def lh.all {N p b6 bR:Nat}{A ak:cT}{dJ:Nat->Nat}(hq:CN N A b6 bR)(h:lh N A ak p)(M:pd N ak p p dJ)(iW:∀j,j<p->dJ j=j)(aD:p<=N){i k:Nat}(O:i<N)(Q:k<=N):et b6 (ak i k):=by
 by_cases agD:k<p
 ·have:=M.unit k agD i O;rw[iW k agD] at this;rw[this];exact Wq _ _
 ·exact (hq ak p aD h i k O (by omega) Q).1
def auT {N p s b6 bR:Nat}{A ak:cT}{dJ:Nat->Nat}(hq:CN N A b6 bR)(h:lh N A ak p)(M:pd N ak p p dJ)(iW:∀j,j<p->dJ j=j)(aD:p<N)(R:p<=s)(p3:s<N)(bc:ak s p≠0)(u7:2*b6+bR+1<1200):VC N (fc ak p s) p p:=by
 have G:=h.step aD R p3 bc;have aP:=M.zS aD R p3 bc
 have auU:∀j,j<p+1->(if j=p then p else dJ j)=j:=λj aa=>by
  split
  ·omega
  ·exact iW j (by omega)
 have dQ:∀i,i<N->∀k,k<=N->et b6 (fc ak p s i k):=by
  intro i O k Q;obtain⟨a0,E,e⟩:=agC ak aD R p3 O;rw[e];exact h.all hq M iW (by omega) E Q
 have KG:∀i,i<N->et bR (fc ak p s i p):=by
  intro i O;obtain⟨a0,E,e⟩:=agC ak aD R p3 O;rw[e];exact (hq ak p (by omega) h a0 p E (bM p) (by omega)).2 aD
 have agE:∀k,k<=N->et b6 (fc ak p s p k/fc ak p s p p):=by
  intro k Q;have:=G.all hq aP auU (by omega) (i:=p) aD Q;unfold kO at this;rwa [aq rfl] at this
 refine⟨λk Q=>afx (dQ p aD k Q) (KG p aD) (by omega),λi O _ _ k Q=>?_⟩;unfold pe;rw[dH];exact⟨VF (KG i O) (agE k Q) (by omega),FO (dQ i O k Q) (Kf (VG (KG i O) (agE k Q))) (by omega)⟩
def auV {N b6 bR:Nat}{A:cT}(hq:CN N A b6 bR)(u7:2*b6+bR+1<1200):
  ∀k p rows ak dJ,p+k=N->FL N A ak rows p p dJ->lh N A ak p->(∀j,j<p->dJ j=j)->(lQ true k p rows [] false).2.2=false:=by
 intro k
 induction k with
 |zero=>intro p rows ak dJ _ _ _ _;rfl
 |succ k aF =>
  intro p rows ak dJ aD he ae iW;unfold lQ;rw[lD,Nat.sub_zero];rcases afp he.enc (r:=p) (c:=p) (by omega) (by omega) with ⟨E,G,ad,aK⟩|⟨E,s,eX,hj,p0,aK,bp⟩
  ·rw[E,G,ad,aq rfl,aq rfl]
  ·have dp:=auT hq ae he.red iW (by omega) eX hj p0 u7;have U:=bp dp;rw[E,ar (by simp),U];refine aF (p+1) _ (kO ak p p s) (λj=>if j=p then p else dJ j) (by omega) ⟨aK U,he.red.zS (by omega) eX hj p0,λy=>(Vv (by omega) hj p0).trans (he.FM y)⟩ (ae.step (by omega) eX hj p0) λj aa=>?_;show (if j=p then p else dJ j)=j
   split
   ·omega
   ·exact iW j (by omega)
def auW {rs:List ej}{n:Int}{b6 bR:Nat}(h:n7 rs n=true)(hq:CN (D rs) (p5 rs) b6 bR)(u7:2*b6+bR+1<1200):me rs n≠([],6):=by
 have J:(o0 true rs).2.2=false :=
  auV hq u7 (D rs) 0 (g9 rs) (p5 rs) (λj=>j) (by omega) ⟨afu h,Vw _ _ _,λ_=>Iff.rfl⟩ (lh.start _ _) λj aa=>by omega
 unfold me;rw[aq h,ar (by rw[J];simp)]
 split
 ·simp
 ·simp
def auX {rs:List ej}{n:Int}{b6 bR:Nat}(h:n7 rs n=true)(hq:CN (D rs) (p5 rs) b6 bR)(u7:2*b6+bR+1<1200)(R:¬ Pv (D rs) (p5 rs)):
  ∃x,me rs n=(gr (D rs) x,0)/\(∀k,k<(D rs)->ed (x k))/\af5 (D rs) (p5 rs) x:=by
 rcases aup h with e|⟨x,e,-,E,G⟩|⟨y,-,-,-,E,k,Q,ag⟩
 ·exact absurd e (auW h hq u7)
 ·exact⟨x,e,E,G⟩
 ·exact absurd ⟨y,E,k,Q,by rw[ag];decide⟩ R
def lh.full {N:Nat}{A:cT}(R:¬ Pv N A):∀k p ak dJ,p+k=N->pd N ak p p dJ->(∀y,jZ N ak y↔jZ N A y)->lh N A ak p->(∀j,j<p->dJ j=j)->∃ak dJ,lh N A ak N/\pd N ak N N dJ/\(∀j,j<N->dJ j=j)/\∀y,jZ N ak y↔jZ N A y
 |0,p,ak,dJ,aD,M,a5,ae,iW=>by
  obtain rfl:p=N:=by omega
  exact⟨ak,dJ,ae,M,iW,a5⟩
 |k+1,p,ak,dJ,aD,M,a5,ae,iW=>by
  by_cases aQ:∀i,p<=i->i<N->ak i p=0
  ·exfalso
   refine R ⟨qS ak p,(a5 _).1 (afj M iW (by omega) aQ),p,by omega,?_⟩
   unfold qS;rw[ar (by omega),aq rfl]
   decide
  ·have⟨s,eX,hj,p0⟩:∃s,p<=s/\s<N/\ak s p≠0:=by
    apply KB;intro h;exact aQ λi E G=>KB λad=>h ⟨i,E,G,ad⟩
   refine lh.full R k (p+1) (kO ak p p s) (λj=>if j=p then p else dJ j) (by omega) (M.zS (by omega) eX hj p0) (λy=>(Vv (by omega) hj p0).trans (a5 y)) (ae.step (by omega) eX hj p0) λj aa=>?_;show (if j=p then p else dJ j)=j
   split
   ·omega
   ·exact iW j (by omega)
def KH (N:Nat)(A:cT)(δ v b:Nat):Prop:=∃(aU e:Nat->Nat) (V:Nat) (w:Nat->Int),(∀k,0<aU k/\aU k<=e k)/\hV N e<=2^δ/\0<V/\V<=2^b/\(∀k,k<N->∃c:Nat->Nat,eV N c<=e k/\∀i,i<N->dB (c i) ((aU k:Rat)*A i k))/\∀i,i<N->(w i).natAbs<=2^v/\(V:Rat)*A i N=(w i:Rat)
def agF (e:Nat->Nat):∀p,gM e (kP p)=hV p e
 |0=>rfl
 |p+1=>by rw[kP,gM,agF e p,hV,pH]
def Wr (n v:Nat):eV n (λ_=>v)=n*v:=by
 induction n with
 |zero=>simp[eV]
 |succ n aF=>rw[eV,aF,tz]
def lh.agG {N p δ v b:Nat}{A ak:cT}(c3:KH N A δ v b)(h:lh N A ak p)(aD:p<=N):∃(aU e:Nat->Nat) (V:Nat) (d:Int),d≠0/\(∀k,0<aU k/\aU k<=e k)/\hV N e<=2^δ/\0<V/\V<=2^b/\d.natAbs<=hV p e/\∀i,i<N->∀k,p<=k->k<=N->∃z:Int,ak i k*((((if k<N then aU k else V:Nat):Int)*d:Int):Rat)=(z:Rat)/\z.natAbs<=hV p e*(if k<N then e k else N*2^v):=by
 obtain⟨σ,hσ,u5,M,ae⟩:=h;obtain⟨aU,e,V,w,cz,dj,hR,iV,o3,mh⟩:=c3;generalize p3:(λk=>if k<N then aU k else V:Nat->Nat)=ti;have B5:∀k,ti k=if k<N then aU k else V:=λk=>by rw[<-p3]
 have mZ:∀k,0<ti k:=λk=>by rw[B5];split;exact (cz k).1;exact hR
 have nD:∀m,((ti m:Nat):Rat)≠0:=λm=>by
  have:=mZ m;rw[Ne,agw];omega
 have aP:F0 N (λi k=>(ti k:Rat)*A i k) (λl k=>(ti k:Rat)*ak l k/(if l<p then (ti l:Rat) else 1)) σ p:=by
  intro i O k hc gm;have:=M i O k hc gm;dsimp only;rw[this,agx,<-sf]
  congr 1
  ·by_cases hD:i<p
   ·rw[aq hD,aq hD];grind
   ·rw[ar hD,ar hD,ar hD];grind
  ·refine nh λl af=>?_;rw[aq af];have:=nD l;grind
 have ki:fr p (oq (λi k=>(ti k:Rat)*A i k) σ p)≠0:=by
  obtain⟨a,E,G⟩:=Wn p (λk=>(ti k:Rat)) (p7 A σ) (kP p) [];rw[jR,jR] at G;show fr p ((kP p).map λk=>λi=>(ti k:Rat)*p7 A σ k i)≠0;rw[G];intro al;rcases Kh.1 al with al|al
  ·exact E (λm hm=>nD m) al
  ·exact ae al
 have u2:∀k,k<=N->∃c:Nat->Nat,eV N c<=(if k<N then e k else N*2^v)/\∀i,i<N->dB (c i) ((λi k=>(ti k:Rat)*A i k) i k):=by
  intro k Q
  by_cases ju:k<N
  ·obtain⟨c,cQ,dO⟩:=o3 k ju;refine⟨c,by rw[aq ju];exact cQ,λi O=>?_⟩
   dsimp only;rw[B5,aq ju];exact dO i O
  ·obtain rfl:k=N:=by omega
   refine⟨λ_=>2^v,by rw[ar ju,Wr];exact bM _,λi O=>?_⟩
   dsimp only;rw[B5,ar ju,(mh i O).2];exact dB.of (mh i O).1
 generalize auQ:(λ(i k:Nat)=>(ti k:Rat)*A i k)=yB at *;have xr:∀m,m<N->(λk=>if k<N then e k else N*2^v) m=e m:=λm hm=>aq hm;have⟨e',lX⟩:∃e':Nat->Nat,e'=λk=>if k<N then e k else N*2^v:=⟨_,rfl⟩;have u2:∀k,k<=N->∃c:Nat->Nat,eV N c<=e' k/\∀i,i<N->dB (c i) (yB i k):=by rw[lX];exact u2
 rw[<-lX] at xr;have PF:∀k,(if k<N then e k else N*2^v)=e' k:=λk=>by rw[lX]
 have CM:gM e' (kP p)=hV p e:=by
  rw[<-agF];exact ags λm hm=>xr m (by have:=u4.1 hm;omega)
 have hσp:∀i,i<p->σ i<N:=λi O=>hσ i (by omega);have hD:∀i j,i<p->j<p->σ i=σ j->i=j:=λi j O aa=>u5 i j (by omega) (by omega);have mY:=F2 u2 hσp hD (kP p) λm hm=>by have:=u4.1 hm;omega
 rw[CM] at mY;obtain⟨d,qx,n3⟩:=mY
 change fr p (oq yB σ p)=(d:Rat) at qx
 have vV:d≠0:=by
  intro al;rw[qx,al] at ki;exact ki (by rfl)
 refine⟨aU,e,V,d,vV,cz,dj,hR,iV,n3,λi O k hc gm=>?_⟩;rw[<-B5 k,PF k,j1,nS]
 by_cases af:i<p
 ·obtain⟨X,c5,e9,fy,g6⟩:=agq aP aD af hc gm
  obtain⟨m,ba,bJ⟩:=F2 u2 hσp hD (X++k::c5) λm hm=>by
   have:m=k\/m∈X++c5:=by
    simp only[hs,ia] at hm ⊢;rcases hm with h|h|h<;>simp[h]
   rcases this with h|h
   ·omega
   ·have:=fy m h;omega
  rw[qx,ba] at g6;rw[aq af] at g6;refine⟨aU i*m,?_,?_⟩
  ·rw[j1,<-g6,nS];have E:=nD i;have G:(ti i:Rat)=(aU i:Rat):=by rw[B5,aq O]
   rw[G] at E ⊢;grind
  ·have aL:gM e' (X++k::c5)=gM e' X*(e' k*gM e' c5):=by rw[PD,gM]
   have ax:gM e' X*(e i*gM e' c5)=hV p e:=by
    rw[<-CM,e9,PD,gM,xr i (by omega)]
   rw[aL] at bJ;rw[<-ax,k1,ih];generalize gM e' X=x at *;generalize gM e' c5=y at *;refine cN (gq (cz i).2 bJ) (wX ?_);grind
 ·have F3:=agr aP (by omega:p<=i) O hc gm
  have hτ:∀j,j<p+1->(λj=>if j=p then σ i else σ j) j<N:=λj aa=>by
   show (if j=p then σ i else σ j)<N
   split
   ·exact hσ i O
   ·exact hσ j (by omega)
  have hτj:∀j k,j<p+1->k<p+1->(λj=>if j=p then σ i else σ j) j=(λj=>if j=p then σ i else σ j) k->j=k:=λj k aa Q=>by
   show (if j=p then σ i else σ j)=(if k=p then σ i else σ k)->j=k;intro h
   by_cases bU:j=p
   ·by_cases c6:k=p
    ·omega
    ·rw[aq bU,ar c6] at h;have:=u5 _ _ O (by omega) h;omega
   ·by_cases c6:k=p
    ·rw[ar bU,aq c6] at h;have:=u5 _ _ (by omega) O h;omega
    ·rw[ar bU,ar c6] at h;exact u5 _ _ (by omega) (by omega) h
  obtain⟨m,ba,bJ⟩:=F2 u2 hτ hτj (k::kP p) λm hm=>by
   rcases ia.1 hm with h|h
   ·omega
   ·have:=u4.1 h;omega
  rw[qx,ba] at F3;rw[ar af] at F3;refine⟨m,by rw[<-F3];grind,cN bJ ?_⟩
  rw[gM,CM,pH];exact bM _
def KH.agy {N δ v b:Nat}{A:cT}(c3:KH N A δ v b)(hN:N<=4)(aA6:b<=v+2):CN N A (δ+v+2) δ:=by
 intro ak p aD h i k O hc gm;obtain⟨aU,e,V,d,d0,cz,dj,hR,iV,o3,mh⟩:=h.agG c3 aD;obtain⟨bS,agz,fK,hd⟩:=Wl (aU:=e) (λk=>u9 (cz k).1 (cz k).2) aD;rw[fK] at dj
 have PF:∀k,p<=k->k<N->hV p e*e k<=hV p e*bS:=λk E G=>by
  obtain⟨m,hm⟩:=hd k E G;refine gq (bM _) ?_
  have:0<m:=by
   rcases iK m with h|h
   ·rw[h] at hm;omega
   ·exact h
  rw[hm];exact yQ _ this
 have N0:hV p e<=2^δ:=cN (yQ _ agz) dj;obtain⟨z,hO,iQ⟩:=mh i O k hc gm;have bc:((if k<N then aU k else V:Nat):Int)*d≠0:=wi (by split;have:=(cz k).1;omega;omega) d0;obtain⟨f1,f2⟩:=FN bc hO;rw[k1,ih] at f2
 by_cases ju:k<N
 ·rw[aq ju] at iQ f2;have ff:et δ (ak i k):=⟨cN f1 (cN iQ (cN (PF k hc ju) dj)),cN f2 (cN (gq (cz k).2 o3) (cN (wX (pH _ _)) (cN (PF k hc ju) dj)))⟩;exact⟨ff.mono (by omega),λ_=>ff⟩
 ·rw[ar ju] at iQ f2;refine⟨⟨?_,?_⟩,λh=>absurd h ju⟩
  ·refine cN f1 (cN iQ (cN (gq N0 (gq hN (bM _))) ?_));rw[show (4:Nat)=2^2 from rfl,<-jF,<-jF];exact jU (by omega) (by omega)
  ·refine cN f2 (cN (gq iV (cN o3 N0)) ?_);rw[<-jF];exact jU (by omega) (by omega)
def auY {N δ v b:Nat}{A:cT}(R:¬ Pv N A)(c3:KH N A δ v b){x:Nat->Rat}(J:jZ N A (ext N x (-1))):∃a4:Nat,0<a4/\a4<=2^(δ+b)/\∀i,i<N->∃z:Int,x i*(a4:Rat)=(z:Rat)/\z.natAbs<=2^δ*(N*2^v):=by
 obtain⟨ak,dJ,al,E,G,ad⟩:=lh.full R N 0 A (λj=>j) (by omega) (Vw _ _ _) (λ_=>Iff.rfl) (lh.start _ _) (λj aa=>by omega);have auZ:=(afi E G x).1 ((ad _).2 J);obtain⟨aU,e,V,d,d0,cz,dj,hR,iV,o3,mh⟩:=al.agG c3 (bM N)
 have⟨s,R⟩:∃s:Int,(d.natAbs:Int)=s*d/\s.natAbs=1:=by
  rcases agB d with e|e
  ·exact⟨1,by omega,rfl⟩
  ·exact⟨-1,by omega,rfl⟩
 refine⟨V*d.natAbs,FX hR (by omega),?_,λi O=>?_⟩
 ·rw[An,jF];exact gq iV (cN o3 dj)
 ·obtain⟨z,hO,iQ⟩:=mh i O N (bM _) (bM _);rw[ar (Ws _)] at hO iQ;refine⟨s*z,?_,?_⟩
  ·have e:((V*d.natAbs:Nat):Rat)=(V:Rat)*((d.natAbs:Int):Rat):=by rw[F4,nS]
   rw[auZ i O,e,R.1,j1,j1,<-hO,j1,nS];grind
  ·rw[k1,R.2,tk];exact cN iQ (gq dj (bM _))
def Wt {x y:Rat}:decide (rR x y<0)=decide (x<y):=by
 have E:rR x y<0↔x<y:=by
  unfold rR;rw[Int.sign_neg_iff,Rat.lt_iff];omega
 rw[decide_eq_decide];exact E
def au0 {x y:Rat}:decide (rR x y>=0)=decide (y<=x):=by
 have E:rR x y>=0↔y<=x:=by
  unfold rR;rw[ge_iff_le,agH,Rat.le_iff];omega
 rw[decide_eq_decide];exact E
def agI {x y:Rat}:(rR x y==0)=decide (x=y):=by
 rw[FE,beq_iff_eq,decide_eq_true_iff];exact amL
def agJ {x:Rat}:(bW x).1.1>=0↔0<=x:=by
 show x.num.sign>=0↔_;rw[ge_iff_le,agH,<-Rat.num_nonneg]
def Wu {f:aJ}(h:fP f=true):f=bW (dV f)/\ed (dV f)/\0<=dV f:=by
 unfold fP at h;rw[dH,decide_eq_true_eq] at h;obtain⟨e,af⟩:=O7 h.1;refine⟨e,af,agJ.1 ?_⟩;rw[<-e];exact h.2
def agK {x:Rat}(af:ed x)(h:0<=x):fP (bW x)=true:=by
 unfold fP;rw[dH,decide_eq_true_eq];exact⟨sX af,agJ.2 h⟩
def dt:List b0->cT
 | [],_,_=>0
 |l::r,i,k=>(if l.2.1.toNat=i/\l.1.toNat=k then dV l.2.2 else 0)+dt r i k
structure ot (ls:List b0) (n:Nat):Prop where
 len:(D ls)<=10
 at_:∀l∈ls,0<=l.1/\l.1<n/\0<=l.2.1/\l.2.1<n/\l.2.2=bW (dV l.2.2)/\0<=dV l.2.2/\et 20 (dV l.2.2)
def ot.tail {l:b0}{r:List b0}{n:Nat}(h:ot (l::r) n):ot r n:=⟨by have:=h.len;simp at this;omega,λx J=>h.at_ x (by simp[J])⟩
def au1 {ls:List b0}{n:Nat}(ao:uT ls=true)(M:∀l∈ls,0<=l.1/\l.1<n/\0<=l.2.1/\l.2.1<n/\fP l.2.2=true):ot ls n:=by
 obtain⟨kA,uS⟩:=afB ao;refine⟨kA,λl af=>?_⟩;obtain⟨a,b,c,d,e⟩:=M l af;obtain⟨aL,ax,eo⟩:=Wu e;unfold fP at e;rw[dH] at e;exact⟨a,b,c,d,aL,eo,Pa e.1 (uS l af)⟩
def au2 {ls:List b0}(h:∀l∈ls,0<=dV l.2.2):∀i k,0<=dt ls i k:=by
 induction ls with
 |nil=>intro i k;exact yC
 |cons l r aF =>
  intro i k;have E:=aF (λx J=>h x (by simp[J])) i k;have G:=h l (by simp);unfold dt
  split<;>grind
def ot.nb {ls:List b0}{n:Nat}(h:ot ls n):∀i k,0<=dt ls i k:=au2 λl af=>(h.at_ l af).2.2.2.2.2.1
def F5 {n k:Nat}{x:Nat->Rat}(h:k<n):(gr n x).getD k bK=bW (x k):=by rw[eF,Kz x h];rfl
def agL {n j:Nat}{x:Nat->Rat}{v:Rat}(aa:j<n):(gr n x).set j (bW v)=gr n λk=>if k=j then v else x k:=by
 refine KA (by rw[fN,Ak]) λk Q=>?_;rw[lO]
 by_cases h:j=k
 ·subst h;rw[aq rfl,aq (by rw[Ak];exact aa),aq rfl]
 ·rw[ar h,ar (λe=>h e.symm),Kz x Q]
def F6 {b:Nat}{q:Rat}(h:et b q)(U:b<1200):ed q:=Kk h U
def Wv {n to:Nat}:∀(ls:List b0) (q:Nat->Rat) (m:Nat),ot ls n->(∀k,k<n->et m (q k))->m+21*D ls<1200->pY to ls (gr n q)=(gr n (λk=>q k-dt ls to k),true)
 | [],q,_,_,_,_=>by
  unfold pY;rw[Pu (y:=λk=>q k-dt [] to k) λk _=>by show q k=q k-0;grind]
 |l::r,q,m,af,aM,hm=>by
  rw[jG] at hm;obtain⟨B2,cz,dj,hR,iV,o3,mh⟩:=af.at_ l (by simp);have dw:l.1.toNat<n:=by omega
  unfold pY
  by_cases bC:l.2.1.toNat=to
  ·have U:(l.2.1==(to:Int))=true:=by rw[beq_iff_eq];omega
   rw[aq U,F5 dw,iV,MK (F6 (aM _ dw) (by omega)) (F6 mh (by omega)),FO (aM _ dw) (Kf mh) (by omega)];simp only[zC,if_true,beq_self_eq_true];rw[agL dw,Wv r _ (m+21) af.tail (λk Q=>?_) (by omega)]
   ·rw[Pu λk _=>?_];simp only[dt,bC,true_and]
    by_cases Q:l.1.toNat=k
    ·rw[aq Q.symm,aq Q,<-Q];grind
    ·rw[ar (λh=>Q h.symm),ar Q];grind
   ·split
    ·rename_i h;rw[Iq];exact (Kg (aM _ dw) (Kf mh)).mono (by omega)
    ·exact (aM k Q).mono (by omega)
  ·have U:(l.2.1==(to:Int))=false:=by rw[beq_eq_false_iff_ne];omega
   rw[ar (by rw[U];decide),Wv r q m af.tail aM (by omega)];rw[Pu λk _=>?_];simp only[dt,bC,false_and,if_false];grind
def au3:o8=bW 1:=rfl
def au4 {n to:Nat}(h:to<n):sa n to=gr n λk=>if to=k then 1 else 0:=by
 unfold sa;have:cK n nM=gr n λ_=>0:=KA nJ λk Q=>by rw[agM,aq Q];rfl
 rw[this,au3,agL h]
 exact Pu λk _=>by
  by_cases h:k=to
  ·rw[aq h,aq h.symm]
  ·rw[ar h,ar (λe=>h e.symm)]
def agN {n to:Nat}{ls:List b0}(v:aJ)(af:ot ls n)(bC:to<n):qO v ls n to=((gr n (λk=>(if to=k then 1 else 0)-dt ls to k),v),true):=by
 have aC:=Wv (to:=to) ls (λk=>if to=k then 1 else 0) 1 af (λk _=>Wq 1 _) (by have:=af.len;omega);unfold qO;rw[au4 bC,aC]
 rfl
def wY (n:Nat)(W:cT)(b c:Nat->Rat)(bA:Nat->Bool):cT:=λi k=>if k<n then (if i=k then 1 else 0)-(if bA i=true then W i k else 0) else if bA i=true then b i else c i
def dN (l:List aJ):Nat->Rat:=λi=>dV (l.getD i bK)
def h7 (l:List Bool):Nat->Bool:=λi=>l.getD i false
def agO {cap base:List aJ}{ls:List b0}{left:List Bool}{i:Nat}(af:ot ls (D cap))(O:i<D cap):qP cap base ls left i=((gr (D cap) (λk=>(if i=k then 1 else 0)-if h7 left i=true then dt ls i k else 0),if h7 left i=true then base.getD i bK else cap.getD i bK),true):=by
 unfold qP h7
 split
 ·rw[agN _ af O]
 ·rw[agN _ (n:=D cap) (ls:=[]) ⟨by simp,λl af=>by cases af⟩ O]
  rfl
def au5 {n:Nat}{rs:List ej}(af:(D rs)=n)(Oh:n<=40)(h:∀r∈rs,r.1.length=n/\cU r.2=true/\∀f∈r.1,cU f=true):n7 rs (n:Int)=true:=by
 unfold n7;simp only[dH,na,decide_eq_false_iff_not,beq_iff_eq,s6];refine⟨by omega,by omega,by omega,λr M=>?_⟩
 obtain⟨E,G,ad⟩:=h r M;unfold s8
 have aK:(r.1.any x5)=false:=by
  rw[s6];intro f ao;unfold x5;rw[ad f ao];simp
 rw[E,G,aK];simp
def au6 {n:Nat}{A:List ej}{a:Nat->Nat->Rat}{v:Nat->aJ}(af:(D A)=n)(h:∀i,i<n->A[i]?=some (gr n (a i),v i)){i k:Nat}(O:i<n):p5 A i k=if k<n then a i k else dV (v i):=by
 have aC:A.getD i ([],bK)=(gr n (a i),v i):=aft (h i O);unfold p5;rw[af,aC]
 by_cases Q:k<n
 ·rw[aq Q,aq Q,F5 Q,Il]
 ·rw[ar Q,ar Q]
def au7 {n:Nat}{A:List ej}{a:Nat->Nat->Rat}{v:Nat->aJ}(af:(D A)=n)(h:∀i,i<n->A[i]?=some (gr n (a i),v i))(ai:∀i,i<n->cU (v i)=true)(a5:∀i,i<n->∀k,k<n->ed (a i k)):∀r∈A,r.1.length=n/\cU r.2=true/\∀f∈r.1,cU f=true:=λr M=>by
 obtain⟨i,O⟩:=sG.1 M;have ga:i<n:=by have:=(dn.1 O).1;omega
 rw[h i ga] at O
 cases O;refine⟨Ak _ _,ai i ga,λf ao=>?_⟩;obtain⟨k,Q⟩:=sG.1 ao;have Ki:k<n:=by have:=(dn.1 Q).1;rwa [Ak] at this
 rw[Kz _ Ki] at Q
 cases Q;exact sX (a5 i ga k Ki)
def mu (k:Nat):List b0->Nat
 | []=>0
 |l::r=>(if l.1.toNat=k then 1 else 0)+mu k r
def mv (k:Nat):List b0->Nat
 | []=>1
 |l::r=>(if l.1.toNat=k then (dV l.2.2).den else 1)*mv k r
def agP (k:Nat):∀ls:List b0,0<mv k ls
 | []=>Pz
 |l::r=>FX (by split;exact agQ _;exact Pz) (agP k r)
def Ww {n:Nat}(k:Nat):∀ls:List b0,ot ls n->mv k ls<=2^(20*mu k ls)
 | [],_=>bM _
 |l::r,h=>by
  have aF:=Ww k r h.tail;have R:=(h.at_ l (by simp)).2.2.2.2.2.2.2;unfold mv mu
  split
  ·rw[show 20*(1+mu k r)=20+20*mu k r by omega,jF]
   exact gq R aF
  ·rw[tk,lr];exact aF
def agR (n:Nat)(a b:Nat->Nat):eV n (λi=>a i+b i)=eV n a+eV n b:=by
 induction n with
 |zero=>rfl
 |succ n aF=>simp only[eV];rw[aF];omega
def au8 (n c:Nat)(a:Nat->Nat):eV n (λi=>c*a i)=c*eV n a:=by
 induction n with
 |zero=>rfl
 |succ n aF=>simp only[eV];rw[aF,PA]
def Wx {n j c:Nat}:eV n (λi=>if i=j then c else 0)<=c:=by
 induction n with
 |zero=>exact eL _
 |succ n aF =>
  simp only[eV]
  by_cases h:n=j
  ·subst h;rw[aq rfl]
   have:eV n (λi=>if i=n then c else 0)=0:=by
    rw[Py (b:=λ_=>0) λi O=>ar (by omega),Wr];simp
   omega
  ·rw[ar h];omega
def agS {n:Nat}:∀ls:List b0,eV n (λk=>mu k ls)<=D ls
 | []=>by simp only[mu];rw[Wr];simp
 |l::r=>by
  have aF:=agS (n:=n) r;simp only[mu];rw[agR]
  have E:eV n (λk=>if l.1.toNat=k then 1 else 0)=eV n λk=>if k=l.1.toNat then 1 else 0:=Py λk _=>by
   by_cases h:l.1.toNat=k
   ·rw[aq h,aq h.symm]
   ·rw[ar h,ar (λe=>h e.symm)]
  have G:eV n (λk=>if k=l.1.toNat then 1 else 0)<=1:=Wx;rw[jG];omega
def agT (c:Nat->Nat)(a:Nat):∀n,hV n (λk=>2^(a*c k))=2^(a*eV n c)
 |0=>rfl
 |n+1=>by rw[hV,agT c a n,<-jF,eV,PA]
def Wy (x:Rat):x*(x.den:Rat)=(x.num:Rat):=by
 have E:=ud x;rw[O8] at E;have G:((x.den:Int):Rat)≠0:=by rw[Ne,Ke];have:=x.den_pos;omega
 rw[nS] at E G;generalize (x.den:Rat)=aU at *;generalize (x.num:Rat)=N at *;grind
def agU {n k:Nat}(bA:Nat->Bool):∀ls:List b0,ot ls n->∃c:Nat->Nat,eV n c<=2^(21*mu k ls)/\∀i,i<n->dB (c i) ((mv k ls:Rat)*((if i=k then 1 else 0)-if bA i=true then dt ls i k else 0))
 | [],_=>by
  refine⟨λi=>if i=k then 1 else 0,Wx,λi _=>?_⟩
  have e:((mv k []:Nat):Rat)*((if i=k then 1 else 0)-if bA i=true then dt [] i k else 0)=if i=k then 1 else 0:=by
   simp only[mv,dt]
   split<;>split<;>grind
  rw[e];dsimp only
  split
  ·exact⟨1,rfl,bM _⟩
  ·exact dB.zero
 |l::r,h=>by
  obtain⟨c,E,G⟩:=agU (k:=k) bA r h.tail;obtain⟨B2,cz,dj,hR,iV,o3,mh⟩:=h.at_ l (by simp)
  by_cases Q:l.1.toNat=k
  ·refine⟨λi=>(dV l.2.2).den*c i+if i=l.2.1.toNat then mv k r*(dV l.2.2).num.natAbs else 0,?_,λi O=>?_⟩
   ·rw[agR,au8];have aL:mu k (l::r)=1+mu k r:=by rw[mu,aq Q]
    rw[aL,show 21*(1+mu k r)=20+(21*mu k r+1) by omega,jF]
    have cQ:=gq mh.2 E
    have dO:eV n (λi=>if i=l.2.1.toNat then mv k r*(dV l.2.2).num.natAbs else 0)<=2^20*2^(21*mu k r):=cN Wx (by
     rw[pH];exact gq mh.1 (cN (Ww k r h.tail) (jU (by omega) (by omega))))
    rw[rv 2 (21*mu k r)];have kp:2^20*2^(21*mu k r)+2^20*2^(21*mu k r)=2^20*(2^(21*mu k r)*2):=by rw[<-PA];congr 1;omega
    rw[<-kp];exact Nat.add_le_add cQ dO
   ·have ax:((mv k (l::r):Nat):Rat)=(dV l.2.2).den*(mv k r:Rat):=by
     rw[mv,aq Q,F4]
    have eo:dt (l::r) i k=(if l.2.1.toNat=i then dV l.2.2 else 0)+dt r i k:=by simp only[dt,Q,and_true]
    have kZ:(mv k (l::r):Rat)*((if i=k then 1 else 0)-if bA i=true then dt (l::r) i k else 0)=((dV l.2.2).den:Rat)*((mv k r:Rat)*((if i=k then 1 else 0)-if bA i=true then dt r i k else 0))+if (i=l.2.1.toNat/\bA i=true) then -((mv k r:Rat)*(dV l.2.2).num) else 0:=by
     rw[ax,eo,<-Wy];generalize ((dV l.2.2).den:Rat)=aU at *;generalize (mv k r:Rat)=b6 at *;generalize (if i=k then (1:Rat) else 0)=δ at *
     by_cases cA:bA i=true
     ·by_cases cY:i=l.2.1.toNat
      ·rw[aq cA,aq cA,aq cY.symm,aq ⟨cY,cA⟩];grind
      ·rw[aq cA,aq cA,ar (λe=>cY e.symm),ar (λe=>cY e.1)];grind
     ·rw[ar cA,ar cA,ar (λe=>cA e.2)];grind
    rw[kZ];refine ((dB.nat (bM _)).mul (G i O)).add ?_
    by_cases g:i=l.2.1.toNat/\bA i=true
    ·rw[aq g,aq g.1];refine⟨-((mv k r:Int)*(dV l.2.2).num),?_,?_⟩
     ·rw[Rat.intCast_neg,j1,nS]
     ·rw[xY,k1,ih];exact bM _
    ·rw[ar g];exact dB.zero
  ·refine⟨c,?_,λi O=>?_⟩
   ·rw[mu,ar Q,lr];exact E
   ·have ax:mv k (l::r)=mv k r:=by rw[mv,ar Q,tk]
    have eo:dt (l::r) i k=dt r i k:=by
     simp only[dt,Q,and_false,if_false];grind
    rw[ax,eo];exact G i O
def au9 {n s:Nat}{ls:List b0}{b c:Nat->Rat}{bA:Nat->Bool}{A:cT}(af:ot ls n)(aK:n<=4)(U:∀i,i<n->et s (b i))(Z:∀i,i<n->et s (c i))(c3:∀i,i<n->∀k,k<=n->A i k=wY n (dt ls) b c bA i k):KH n A 210 (4*s) (4*s):=by
 obtain⟨d,d0,d1,v,ai⟩:=asX (λi=>if i<n then A i n else 0) s (λi=>by
  split
  ·rename_i O;rw[c3 i O n (bM _)];unfold wY;rw[ar (Ws _)]
   split
   ·exact U i O
   ·exact Z i O
  ·exact⟨by simp,PE⟩) n
 have AP:2^(n*s)<=2^(4*s):=jU (by omega) (mP _ aK);refine⟨λk=>mv k ls,λk=>2^(21*mu k ls),d.natAbs,v,λk=>⟨agP k ls,cN (Ww k ls af) (jU (by omega) (by omega))⟩,?_,by omega,cN d1 AP,λk Q=>?_,λi O=>?_⟩
 ·rw[agT];refine jU (by omega) ?_;have:=agS (n:=n) ls;have:=af.len;omega
 ·obtain⟨c',bU,c6⟩:=agU (k:=k) bA ls af;refine⟨c',bU,λi O=>?_⟩;rw[c3 i O k (by omega)];unfold wY;rw[aq Q];exact c6 i O
 ·obtain⟨v1,v2⟩:=ai i O;refine⟨cN v2 AP,?_⟩;rw[aq O] at v1;rw[<-v1,<-nS,show ((d.natAbs:Nat):Int)=d by omega]
  exact F1 _ _
def agV {n:Nat}{W:cT}{b c:Nat->Rat}{bA:Nat->Bool}{A:cT}(c3:∀i,i<n->∀k,k<=n->A i k=wY n W b c bA i k){i:Nat}(O:i<n)(y:Nat->Rat)(z:Rat):mJ n (A i) (ext n y z)=y i-(if bA i=true then bI n λk=>W i k*y k else 0)+(if bA i=true then b i else c i)*z:=by
 rw[Vx,c3 i O n (bM _)];have aL:wY n W b c bA i n=if bA i=true then b i else c i:=by unfold wY;rw[ar (Ws _)]
 rw[aL]
 congr 1
 rw[nh (g:=λk=>(if i=k then 1 else 0)*y k-(if bA i=true then W i k else 0)*y k) λk Q=>by
  rw[c3 i O k (by omega)];unfold wY;rw[aq Q];grind]
 rw[agb,Kb O λk _ Q=>by rw[ar (λe=>Q e.symm)];grind]
 rw[aq rfl,Kd]
 congr 1
 split
 ·rfl
 ·exact uW λk _=>by grind
def ava {n:Nat}{W:cT}{b c x:Nat->Rat}{bA:Nat->Bool}{A:cT}(c3:∀i,i<n->∀k,k<=n->A i k=wY n W b c bA i k)(h:jZ n A (ext n x (-1))):wW n W b c x bA:=λi O=>by
 have:=h i O;rw[agV c3 O] at this;unfold gL
 split
 ·rename_i b2;rw[aq b2,aq b2] at this;grind
 ·rename_i b2;rw[ar b2,ar b2] at this;grind
def avb {n:Nat}{W:cT}{b c:Nat->Rat}{bA:Nat->Bool}{A:cT}(hi:∀i k,0<=W i k)(ns:pg n W bA)(c3:∀i,i<n->∀k,k<=n->A i k=wY n W b c bA i k):¬ Pv n A:=by
 rintro⟨y,ag,k,Q,bc⟩
 have E:∀i,i<n->y i=if bA i=true then bI n (λk=>W i k*y k) else 0:=λi O=>by
  have:=ag i O;rw[agV c3 O] at this
  split<;>grind
 have cz:=FW (z:=y) hi ns (λk Q b2=>by rw[E k Q,b2];simp) (λi O b2=>by
  have:=E i O;rw[aq b2] at this;rw[<-this];exact yC) k Q
 have dj:=FW (z:=λi => -y i) hi ns (λk Q b2=>by rw[E k Q,b2];simp) (λi O b2=>by
  have e:(λk=>W i k * -y k)=λk=>(-1)*(W i k*y k):=by funext k;grind
  have:=E i O;rw[aq b2] at this;rw[e,sf,<-this];grind) k Q
 exact bc (by grind)
def Wz {a b:Nat}{x:Rat}{z:Int}{d:Nat}(ae:0<d)(h:x*(d:Rat)=(z:Rat))(aQ:z.natAbs<=2^a)(n3:d<=2^b):x.num.natAbs<=2^a/\x.den<=2^b:=by
 obtain⟨f1,f2⟩:=FN (q:=x) (v:=z) (d:=(d:Int)) (by omega) (by rw[nS];exact h);rw[ih] at f2;exact⟨by omega,by omega⟩
structure wZ (n:Nat) (y:Nat->Rat) (a4 m c5:Nat):Prop where
 pos:0<a4
 le:a4<=2^m
 at_:∀k,k<n->∃z:Int,y k*(a4:Rat)=(z:Rat)/\z.natAbs<=2^c5*a4
def wZ.sz {n a4 m c5 k:Nat}{y:Nat->Rat}(h:wZ n y a4 m c5)(Q:k<n):et (c5+m) (y k):=by
 obtain⟨z,hO,iQ⟩:=h.at_ k Q
 have E:z.natAbs<=2^(c5+m):=by
  rw[jF];exact cN iQ (gq (bM _) h.le)
 obtain⟨f1,f2⟩:=Wz h.pos hO E h.le;exact⟨f1,cN f2 (jU (by omega) (by omega))⟩
def WA {n a4 m c5 to:Nat}{y:Nat->Rat}(ag:wZ n y a4 m c5)(u7:2*c5+2*m<=913)(qC:41<=c5){b6:Nat}(eB:c5+m+265<=b6)(Cm:b6+c5+m+21<1200):∀(ls:List b0) (v:Rat) (j P:Nat) (z:Int),ot ls n->j+D ls<=10->0<P->P<=2^(41+20*j)->v*((a4*P:Nat):Rat)=(z:Rat)->z.natAbs<=(j+1)*2^(c5+20)*(a4*P)->o7 (gr n y) to ls (bW v,true)=(bW (v+bI n λk=>dt ls to k*y k),true)/\ed (v+bI n λk=>dt ls to k*y k)
 | [],v,j,P,z,_,aa,dh,hP2,aQ,hzb=>by
  have e:(v+bI n λk=>dt [] to k*y k)=v:=by
   rw[uW λk _=>by show (0:Rat)*y k=0;grind];grind
  refine⟨by rw[e];rfl,?_⟩
  rw[e]
  have cQ:z.natAbs<=2^b6:=by
   refine cN hzb (cN (gq (gq (show j+1<=2^4 by omega) (bM _)) (gq ag.le (cN hP2 (jU (by omega) (show 41+20*j<=241 by omega))))) ?_);rw[<-jF,<-jF,<-jF];exact jU (by omega) (by omega)
  have dO:a4*P<=2^b6:=by
   refine cN (gq ag.le (cN hP2 (jU (by omega) (show 41+20*j<=241 by omega)))) ?_;rw[<-jF];exact jU (by omega) (by omega)
  obtain⟨f1,f2⟩:=Wz (FX ag.pos dh) aQ cQ dO;exact Kk (b:=b6) ⟨f1,f2⟩ (by omega)
 |l::r,v,j,P,z,af,aa,dh,hP2,aQ,hzb=>by
  rw[jG] at aa;obtain⟨B2,cz,dj,hR,iV,o3,mh⟩:=af.at_ l (by simp);have dw:l.1.toNat<n:=by omega
  by_cases bC:l.2.1.toNat=to
  ·have U:(l.2.1==(to:Int))=true:=by rw[beq_iff_eq];omega
   have cQ:z.natAbs<=2^b6:=by
    refine cN hzb (cN (gq (gq (show j+1<=2^4 by omega) (bM _)) (gq ag.le (cN hP2 (jU (by omega) (show 41+20*j<=241 by omega))))) ?_);rw[<-jF,<-jF,<-jF];exact jU (by omega) (by omega)
   have dO:a4*P<=2^b6:=by
    refine cN (gq ag.le (cN hP2 (jU (by omega) (show 41+20*j<=241 by omega)))) ?_;rw[<-jF];exact jU (by omega) (by omega)
   obtain⟨f1,f2⟩:=Wz (FX ag.pos dh) aQ cQ dO;have ai:et b6 v:=⟨f1,f2⟩;have WB:=ag.sz dw;have hmul:x4 (dV l.2.2) (y l.1.toNat)=true:=VF mh WB (by omega);have agW:et (c5+m+20) (dV l.2.2*y l.1.toNat):=(VG mh WB).mono (by omega);have pR:s4 v (dV l.2.2*y l.1.toNat)=true:=FO ai agW (by omega);obtain⟨agX,oO,qv⟩:=ag.at_ _ dw
   have px:tg (gr n y) l (bW v,true)=(bW (v+dV l.2.2*y l.1.toNat),true):=by
    unfold tg;dsimp only;rw[F5 dw,iV,SN (F6 mh (by omega)) (F6 WB (by omega)),hmul];simp only[zC,if_true];rw[MJ (F6 ai (by omega)) (F6 agW (by omega)),pR,<-iV];simp[zC]
   unfold o7;rw[U];simp only[FJ,if_true];rw[px];have jn:=agQ (dV l.2.2)
   obtain⟨CE,CF⟩:=WA ag u7 qC eB Cm r (v+dV l.2.2*y l.1.toNat) (j+1) (P*(dV l.2.2).den) (z*(dV l.2.2).den+(dV l.2.2).num*agX*P) af.tail (by omega) (FX dh jn) (by
    rw[show 41+20*(j+1)=(41+20*j)+20 by omega,jF]
    exact gq hP2 mh.2) (by
    rw[Wk,j1,j1,j1,nS,nS,<-aQ,<-oO,<-Wy];simp only[F4];grind) (by
    have bU:(z*((dV l.2.2).den:Int)).natAbs<=(j+1)*2^(c5+20)*(a4*P)*(dV l.2.2).den:=by
     rw[k1,ih];exact mP _ hzb
    have c6:((dV l.2.2).num*agX*(P:Int)).natAbs<=2^20*(2^c5*a4)*P*(dV l.2.2).den:=by
     rw[k1,k1,ih];exact cN (mP _ (gq mh.1 qv)) (yQ _ jn)
    have aL:(j+1+1)*2^(c5+20)*(a4*(P*(dV l.2.2).den))=(j+1)*2^(c5+20)*(a4*P)*(dV l.2.2).den+2^20*(2^c5*a4)*P*(dV l.2.2).den:=by
     rw[jF 2 c5 20];generalize 2^c5=oO;generalize 2^20=e9;generalize (dV l.2.2).den=aiJ;grind
    rw[aL];omega)
   have ax:v+dV l.2.2*y l.1.toNat+bI n (λk=>dt r to k*y k)=v+bI n λk=>dt (l::r) to k*y k:=by
    have:bI n (λk=>dt (l::r) to k*y k)=bI n (λk=>(if l.1.toNat=k then dV l.2.2 else 0)*y k)+bI n λk=>dt r to k*y k:=by
     rw[<-yy];refine nh λk _=>?_;simp only[dt,bC,true_and];grind
    rw[this,Kb (f:=λk=>(if l.1.toNat=k then dV l.2.2 else 0)*y k) dw λk _ Q=>by rw[ar (λe=>Q e.symm)];grind]
    rw[aq rfl];grind
   rw[ax] at CE CF;exact⟨CE,CF⟩
  ·have U:(l.2.1==(to:Int))=false:=by rw[beq_eq_false_iff_ne];omega
   obtain⟨CE,CF⟩:=WA (to:=to) ag u7 qC eB Cm r v j P z af.tail (by omega) dh hP2 aQ hzb
   have ax:bI n (λk=>dt (l::r) to k*y k)=bI n λk=>dt r to k*y k:=nh λk _=>by
    simp only[dt,bC,false_and,if_false];grind
   rw[ax];unfold o7;rw[U];simp only[e1,df,if_false];exact⟨CE,CF⟩
def avc {n a4 m c5:Nat}{y:Nat->Rat}{ls:List b0}(ag:wZ n y a4 m c5)(u7:2*c5+2*m<=913)(qC:41<=c5)(af:ot ls n){v:Rat}(ai:et 41 v)(to:Nat):og (bW v) ls (gr n y) to=(bW (v+bI n λk=>dt ls to k*y k),true)/\ed (v+bI n λk=>dt ls to k*y k):=by
 obtain⟨b6,eB⟩:∃b6,b6=c5+m+265:=⟨_,rfl⟩;refine WA ag u7 qC (b6:=b6) (by omega) (by omega) ls v 0 v.den (v.num*a4) af (by have:=af.len;omega) v.den_pos (by have:=ai.2;omega) ?_ ?_
 ·rw[F4,j1,nS,<-Wy];grind
 ·rw[k1,ih];have E:v.num.natAbs<=2^(c5+20):=cN ai.1 (jU (by omega) (by omega));have G:a4*1<=a4*v.den:=H6 _ v.den_pos;have ad:=gq E G;rw[dE] at ad;rw[lr,tk];exact ad
structure si (cap base:List aJ) (ls:List b0):Prop where
 right:qI cap base ls=true
 zJ:(D cap)<=4
 tj:ot ls (D cap)
 cs:∀f∈cap,et 41 (dV f)
 agY:∀f∈base,et 41 (dV f)
def agZ {l:List aJ}{n i:Nat}(af:(D l)=n)(aD:∀f∈l,fP f=true)(R:∀f∈l,et 41 (dV f))(O:i<n):l.getD i bK=bW (dN l i)/\ed (dN l i)/\0<=dN l i/\et 41 (dN l i)/\cU (l.getD i bK)=true:=by
 have aC:l.getD i bK∈l:=by
  rw[eF,bB (by omega)];exact kT _
 obtain⟨E,G,ad⟩:=Wu (aD _ aC);have aK:=aD _ aC;unfold fP at aK;rw[dH] at aK;exact⟨E,G,ad,R _ aC,aK.1⟩
def si.Am {cap base:List aJ}{ls:List b0}(h:si cap base ls){i:Nat}(O:i<D cap):cap.getD i bK=bW (dN cap i)/\ed (dN cap i)/\0<=dN cap i/\et 41 (dN cap i)/\cU (cap.getD i bK)=true:=agZ rfl (wM h.right).2.2.2.2.1 h.cs O
def si.CO {cap base:List aJ}{ls:List b0}(h:si cap base ls){i:Nat}(O:i<D cap):base.getD i bK=bW (dN base i)/\ed (dN base i)/\0<=dN base i/\et 41 (dN base i)/\cU (base.getD i bK)=true:=agZ (wM h.right).1 (wM h.right).2.2.2.2.2 h.agY O
def ag0 {n i k:Nat}:∀ls:List b0,ot ls n->et (21*D ls) (dt ls i k)
 | [],_=>⟨by simp[dt],by simp[dt]⟩
 |l::r,h=>by
  have aF:=ag0 (i:=i) (k:=k) r h.tail;have R:=(h.at_ l (by simp)).2.2.2.2.2.2;rw[jG,show 21*(D r+1)=20+21*D r+1 by omega]
  unfold dt;refine Kg ?_ aF
  split
  ·exact R
  ·exact⟨by simp,PE⟩
def avd {n s:Nat}{ls:List b0}{b c:Nat->Rat}{bA:Nat->Bool}{A:List ej}{v:Nat->aJ}(af:ot ls n)(aK:n<=4)(R:s<=41)(U:∀i,i<n->et s (b i))(Z:∀i,i<n->et s (c i))(ns:pg n (dt ls) bA)(c3:(D A)=n)
  (aC:∀i,i<n->A[i]?=some (gr n (λk=>(if i=k then 1 else 0)-if bA i=true then dt ls i k else 0),v i)) (ai:∀i,i<n->cU (v i)=true/\dV (v i)=if bA i=true then b i else c i) :
  ∃(x:Nat->Rat) (a4:Nat),me A n=(gr n x,0)/\wW n (dt ls) b c x bA/\(∀k,k<n->ed (x k))/\0<a4/\a4<=2^(210+4*s)/\∀i,i<n->∃z:Int,x i*(a4:Rat)=(z:Rat)/\z.natAbs<=2^(212+4*s):=by
 have r0:∀i,i<n->∀k,k<=n->p5 A i k=wY n (dt ls) b c bA i k:=λi O k Q=>by
  rw[au6 c3 aC O,(ai i O).2]
  rfl
 have M:n7 A (n:Int)=true:=au5 c3 (by omega) (au7 c3 aC (λi O=>(ai i O).1) λi O k Q=>by
  refine Kk (b:=220) ?_ (by omega)
  have E:et (21*D ls) (if bA i=true then dt ls i k else 0):=by
   split
   ·exact ag0 ls af
   ·exact⟨by simp,PE⟩
  rw[Iq];exact (Kg (Wq 1 _) (Kf E)).mono (by have:=af.len;omega))
 have hN:=au9 af aK U Z r0;have dI:=avb af.nb ns r0;have hq:=hN.agy aK (by omega);subst c3;obtain⟨x,E,G,ad⟩:=auX M hq (by omega) dI;have ag1:=(ad.1 x).2 λ_ _=>rfl;obtain⟨a4,ba,bJ,dD⟩:=auY dI hN ag1;refine⟨x,a4,E,ava r0 ag1,G,ba,bJ,λi O=>?_⟩;obtain⟨z,hO,iQ⟩:=dD i O;refine⟨z,hO,cN iQ ?_⟩;rw[show 212+4*s=210+(2+4*s) by omega,jF 2 210,jF 2 2]
 exact gq (bM _) (gq aK (bM _))
def ave {x:Rat}{s:Nat}(h:et s x):x<=((2^s:Nat):Rat):=by
 rw[Rat.le_iff,Rat.num_natCast,Rat.den_natCast];have E:=h.1;have G:=x.den_pos;have ad:(2^s:Nat)*1<=2^s*x.den:=H6 _ G;have aK:((2^s:Nat):Int)*(x.den:Int)=((2^s*x.den:Nat):Int):=by rw[Int.natCast_mul]
 rw[aK];generalize 2^s=X at *;omega
def avf {n s:Nat}{x:Nat->Rat}{a4:Nat}(al:0<a4)(E:a4<=2^(210+4*s))(J:∀i,i<n->0<=x i/\x i<=((2^41:Nat):Rat))(aQ:∀i,i<n->∃z:Int,x i*(a4:Rat)=(z:Rat)/\z.natAbs<=2^(212+4*s)):wZ n x a4 (210+4*s) 41:=by
 refine⟨al,E,λk Q=>?_⟩;obtain⟨z,hO,-⟩:=aQ k Q;obtain⟨avg,e9⟩:=J k Q;refine⟨z,hO,?_⟩;have h6:(0:Rat)<=(a4:Rat):=Rat.natCast_nonneg;have cz:=wV avg h6;have dj:=Pw e9 h6;rw[hO] at cz dj;rw[<-F4,<-nS,ag2] at dj
 have hR:0<=z:=by
  rw[show (0:Rat)=((0:Int):Rat) from rfl,ag2] at cz;exact cz
 omega
def avh {cap base:List aJ}{ls:List b0}(h:si cap base ls){left:List Bool}(ns:pg (D cap) (dt ls) (h7 left))(hle:∀x,wW (D cap) (dt ls) (dN base) (dN cap) x (h7 left)->∀i,i<(D cap)->x i<=dN cap i):
  ∃(x:Nat->Rat) (a4:Nat),sc cap base ls left=(gr (D cap) x,true)/\wW (D cap) (dt ls) (dN base) (dN cap) x (h7 left)/\(∀k,k<(D cap)->ed (x k))/\wZ (D cap) x a4 374 41:=by
 have dQ:(allEq cap base ls left).all (·.2)=true:=by
  rw[jO];intro e he;unfold allEq at he;obtain⟨i,O,rfl⟩:=h3.1 he;rw[qo] at O;rw[agO h.tj O]
 have c3:((allEq cap base ls left).map (·.1)).length=D cap:=by unfold allEq;simp
 have aC:∀i,i<(D cap)->((allEq cap base ls left).map (·.1))[i]?=some (gr (D cap) (λk=>(if i=k then 1 else 0)-if h7 left i=true then dt ls i k else 0),if h7 left i=true then base.getD i bK else cap.getD i bK):=λi O=>by
  unfold allEq;rw[bG,bG,q9 O,kx,kx,agO h.tj O]
 obtain⟨x,a4,E,G,ad,oE,ba,bJ⟩:=avd (s:=41) (b:=dN base) (c:=dN cap) h.tj h.zJ (by omega) (λi O=>(h.CO O).2.2.2.1) (λi O=>(h.Am O).2.2.2.1) ns c3 aC (λi O=>by
  split
  ·exact⟨(h.CO O).2.2.2.2,rfl⟩
  ·exact⟨(h.Am O).2.2.2.2,rfl⟩)
 refine⟨x,a4,?_,G,ad,?_⟩
 ·unfold sc;rw[aq dQ,E]
  rfl
 ·have vl:=G.nb h.tj.nb (λi O=>(h.CO O).2.2.1) (λi O=>(h.Am O).2.2.1) ns;exact avf (s:=41) oE ba (λi O=>⟨vl i O,Px (hle x G i O) (ave (h.Am O).2.2.2.1)⟩) bJ
def si.ag3 {cap base:List aJ}{ls:List b0}(h:si cap base ls){x:Nat->Rat}{a4:Nat}(J:wZ (D cap) x a4 374 41){i:Nat}(O:i<D cap):og (base.getD i bK) ls (gr (D cap) x) i=(bW (gL (D cap) (dt ls) (dN base) x i),true)/\ed (gL (D cap) (dt ls) (dN base) x i):=by
 obtain⟨cQ,-,-,kL,-⟩:=h.CO O;rw[cQ];exact avc J (by omega) (by omega) h.tj kL i
def sj (p:Nat->Bool):Nat->Nat->List Nat
 |0,_=>[]
 |k+1,i=>if p i=true then i::sj p k (i+1) else sj p k (i+1)
def WC {p:Nat->Bool}{j:Nat}:∀{k i:Nat},j∈sj p k i↔i<=j/\j<i+k/\p j=true
 |0,i=>by simp[sj];omega
 |k+1,i=>by
  unfold sj
  split
  ·rename_i aD;rw[ia,WC (k:=k) (i:=i+1)]
   constructor
   ·rintro (rfl|⟨E,G,ad⟩)
    ·exact⟨bM _,by omega,aD⟩
    ·exact⟨by omega,by omega,ad⟩
   ·rintro⟨E,G,ad⟩
    by_cases h:j=i
    ·exact .inl h
    ·exact .inr ⟨by omega,by omega,ad⟩
  ·rename_i aD;rw[WC (k:=k) (i:=i+1)]
   constructor
   ·rintro⟨E,G,ad⟩;exact⟨by omega,by omega,ad⟩
   ·rintro⟨E,G,ad⟩;refine⟨?_,by omega,ad⟩
    rcases fE i j with h|h
    ·omega
    ·obtain rfl:j=i:=by omega
     exact absurd ad aD
def ag4 {cap base:List aJ}{ls:List b0}(h:si cap base ls){left:List Bool}{x:Nat->Rat}{a4:Nat}(J:wZ (D cap) x a4 374 41):∀(k i:Nat) (acc:List Nat),i+k<=(D cap)->oi cap base ls left (gr (D cap) x) k i acc=some (acc++sj (λi => !h7 left i&&decide (gL (D cap) (dt ls) (dN base) x i<dN cap i)) k i)
 |0,i,acc,_=>by unfold oi sj;rw[List.append_nil]
 |k+1,i,acc,Q=>by
  have O:i<D cap:=by omega
  obtain⟨cA,cY⟩:=h.ag3 J O;obtain⟨bU,c6,-,-,-⟩:=h.Am O;have aF:=λacc=>ag4 h (left:=left) J k (i+1) acc (by omega);unfold oi sj;rcases b2:left.getD i false
  ·have aM:h7 left i=false:=b2;rw[ar (by simp),cA];dsimp only;rw[aq rfl,bU,En cY c6,Wt,aM];rcases ae:decide (gL (D cap) (dt ls) (dN base) x i<dN cap i)
   ·rw[ar (by simp),ar (by simp)];exact aF acc
   ·rw[aq rfl,aq (by simp),aF,hh]
    rfl
  ·have aM:h7 left i=true:=b2;rw[aq rfl,aM,ar (by simp)];exact aF acc
def ag5:∀(lv:List Nat) (left:List Bool) (i:Nat),(∀j∈lv,j<D left)->(mi left lv).getD i false=(left.getD i false||decide (i∈lv))
 | [],left,i,_=>by show left.getD i false=_;simp
 |j::lv,left,i,h=>by
  show (mi (left.set j true) lv).getD i false=_;rw[ag5 lv _ i (λk Q=>by rw[fN];exact h k (by simp[Q])),afb (h j (by simp))]
  by_cases hK:j=i
  ·subst hK;simp
  ·rw[ar hK];have:(i=j)=False:=eq_false (λe=>hK e.symm);simp[this]
def WD {n:Nat}{p:Nat->Bool}:∀(k i:Nat) (u6:Option Nat) (a4:List Bool),i+k<=n->(D a4)=n->(∀q,u6=some q->q<i)->(∀j,i<=j->p j=true->a4.getD j false=false)->p6 n u6 (sj p k i) a4=some (mi a4 (sj p k i))
 |0,i,u6,a4,_,_,_,_=>rfl
 |k+1,i,u6,a4,Q,h6,aD,hu=>by
  unfold sj
  split
  ·rename_i Lr;show (if u1 n u6 i a4=true then none else p6 n (some i) (sj p k (i+1)) (a4.set i true))=_
   have U:u1 n u6 i a4=false:=by
    unfold u1;rw[hu i (bM _) Lr,ef]
    cases u6 with
    |none=>rfl
    |some q =>
     have:=aD q rfl;simp only[VJ];rw[ef]
     rfl
   rw[U,ar (by simp)]
   exact WD k (i+1) (some i) (a4.set i true) (by omega) (by rw[fN];exact h6) (λq aM=>by cases aM;omega) λj aa y2=>by
    rw[afb (by omega),ar (by omega)];exact hu j (by omega) y2
  ·exact WD k (i+1) u6 a4 (by omega) h6 (λq aM=>by have:=aD q aM;omega) λj aa y2=>hu j (by omega) y2
def ag6 {n:Nat}{lv:List Nat}:∀(rs:List (List Nat)) (m:List Bool),mm n (rs++[lv]) m=match mm n rs m with
  |none=>none
  |some m'=>mm n [lv] m'
 | [],m=>rfl
 |r::t,m=>by
  rw[lE];rcases al:((D r:Int)==0)
  ·rcases M:p6 n none r m with _|m'
   ·rw[VK al M,VK al M]
   ·rw[Pd al M,Pd al M];exact ag6 t m'
  ·rw[VL al,VL al]
def avi {n:Nat}{lv:List Nat}{m m':List Bool}(al:lv≠[])(h:p6 n none lv m=some m'):mm n [lv] m=some m':=by
 rw[Pd (by
  cases lv with
  |nil=>exact absurd rfl al
  |cons a l=>rw[beq_eq_false_iff_ne,jG];omega) h]
 rfl
structure WE (cap base:List aJ) (ls:List b0) (x:Nat->Rat) (left:List Bool) (rounds:List (List Nat)):Prop where
 eq:iG cap base ls=(gr (D cap) x,rounds,0)
 fin:u3 (D cap) (dt ls) (dN base) (dN cap) x (h7 left)
 len:(D left)=D cap
 marks:mm (D cap) rounds (cK (D cap) false)=some left
 CK:∀k,k<(D cap)->ed (x k)
 agA:∃a4,wZ (D cap) x a4 374 41
def ag7 {cap base:List aJ}{ls:List b0}(h:si cap base ls):∀(k:Nat) (left:List Bool) (rounds:List (List Nat)),D left=(D cap)->left.count false<k->pg (D cap) (dt ls) (h7 left)->(∀x,wW (D cap) (dt ls) (dN base) (dN cap) x (h7 left)->∀i,i<(D cap)->h7 left i=true->gL (D cap) (dt ls) (dN base) x i<dN cap i)->mm (D cap) rounds (cK (D cap) false)=some left ->
  ∃x WG ag8,pb cap base ls k left rounds=(gr (D cap) x,ag8,0)/\u3 (D cap) (dt ls) (dN base) (dN cap) x (h7 WG)/\D WG=D cap/\mm (D cap) ag8 (cK (D cap) false)=some WG/\(∀k,k<(D cap)->ed (x k))/\∃a4,wZ (D cap) x a4 374 41
 |0,_,_,_,Z,_,_,_=>by omega
 |k+1,left,rounds,af,Z,ns,au,hm=>by
  obtain⟨x,a4,fK,hd,qg,Ce⟩:=avh h ns λx J i O=>by
   have E:=J i O;rcases b2:h7 left i
   ·rw[b2] at E;simp at E;rw[E];exact yC
   ·have G:=au x J i O b2;rw[aq b2] at E;rw[E];exact FU G
  have vl:=hd.nb h.tj.nb (λi O=>(h.CO O).2.2.1) (λi O=>(h.Am O).2.2.1) ns;have xg:=ag4 h (left:=left) Ce (D cap) 0 [] (by omega);rw[jR] at xg;unfold pb;rw[fK];dsimp only;rw[aq rfl,xg];have gw:=λj=>WC (p:=λi => !h7 left i&&decide (gL (D cap) (dt ls) (dN base) x i<dN cap i)) (j:=j) (k:=D cap) (i:=0)
  have vD:=WD (n:=D cap) (p:=λi => !h7 left i&&decide (gL (D cap) (dt ls) (dN base) x i<dN cap i)) (D cap) 0 none left (by omega) af (λq aM=>by cases aM) λj _ aa=>by
   simp only[dH,na] at aa;exact aa.1
  generalize sj (λi => !h7 left i&&decide (gL (D cap) (dt ls) (dN base) x i<dN cap i)) (D cap) 0=lv at *
  cases lv with
  |nil =>
   refine⟨x,left,rounds,rfl,⟨ns,vl,λi O b2=>?_,λi O b2=>?_⟩,af,hm,qg,a4,Ce⟩
   ·have E:=hd i O;have G:=au x hd i O b2;rw[aq b2] at E;exact⟨E,by rw[E];exact G⟩
   ·have E:=hd i O;rw[b2] at E;simp at E;refine⟨E,?_⟩;apply KB;intro aC
    have:=(gw i).2 ⟨eL _,by omega,by
     rw[b2,lU (show gL (D cap) (dt ls) (dN base) x i<dN cap i by grind)];rfl⟩
    cases this
  |cons i0 lv =>
   dsimp only
   have ga:∀j∈i0::lv,j<D cap/\h7 left j=false/\gL (D cap) (dt ls) (dN base) x j<dN cap j:=λj aa=>by
    obtain⟨E,G,ad⟩:=(gw j).1 aa;simp only[dH,na,decide_eq_true_eq] at ad;exact⟨by omega,ad⟩
   have cm:h7 (mi left (i0::lv))=λi=>h7 left i||decide (i∈i0::lv):=by
    funext i
    exact ag5 _ _ _ λj aa=>by rw[af];exact (ga j aa).1
   have G9:∀i,i<(D cap)->bI (D cap) (λk=>dt ls i k*x k)<=gL (D cap) (dt ls) (dN base) x i:=λi O=>by
    have:=(h.CO O).2.2.1;unfold gL;grind
   have ag9:pg (D cap) (dt ls) λi=>h7 left i||decide (i∈i0::lv):=auy h.tj.nb ns vl (λi O b2=>by
    have E:=hd i O;rw[aq b2] at E;rw[E];exact G9 i O) λi O dX=>by
    have ad:=ga i (by simpa using dX);have E:=hd i O;rw[ad.2.1] at E;simp at E;have aK:=G9 i O;have bp:0<=bI (D cap) (λk=>dt ls i k*x k):=aga λk Q=>wV (h.tj.nb i k) (vl k Q);have bD:=ad.2.2;rw[E]
    constructor<;>grind
   refine ag7 h k (mi left (i0::lv)) (rounds++[i0::lv]) (by rw[UU];exact af) ?_ (by rw[cm];exact ag9) ?_ ?_
   ·have:=adY (lv:=lv) (by rw[af];exact (ga i0 (by simp)).1) (ga i0 (by simp)).2.1;omega
   ·intro eE oB i O b2;rw[cm] at oB b2;dsimp only at b2;have hle:=hd.next h.tj.nb ag9 oB λi O dX=>(ga i (by simpa using dX)).2
    have aA7:gL (D cap) (dt ls) (dN base) eE i<=gL (D cap) (dt ls) (dN base) x i:=by
     have:bI (D cap) (λk=>dt ls i k*eE k)<=bI (D cap) (λk=>dt ls i k*x k):=FT λk Q=>agc (hle k Q) (h.tj.nb i k);unfold gL;grind
    have G:gL (D cap) (dt ls) (dN base) x i<dN cap i:=by
     rcases aM:h7 left i
     ·exact (ga i (by rw[aM] at b2;simpa using b2)).2.2
     ·exact au x hd i O aM
    grind
   ·rw[ag6,hm];exact avi (by simp) vD
def aha {cap base:List aJ}{ls:List b0}(h:si cap base ls):∃x left rounds,WE cap base ls x left rounds:=by
 have aM:h7 (cK (D cap) false)=λ_=>false:=by
  funext i
  show (cK (D cap) false).getD i false=false;rw[eF,agM]
  split<;>rfl
 obtain⟨x,left,rounds,E,G,ad,aK,bp,bD⟩:=ag7 h (D cap+1) (cK (D cap) false) [] nJ (by rw[List.count_replicate_self];exact Nat.lt_succ_self _) (by rw[aM];exact auw _ _) (λx _ i _ b2=>by rw[aM] at b2;cases b2) rfl;refine⟨x,left,rounds,?_,G,ad,aK,bp,bD⟩;unfold iG;rw[aq h.right];exact E
def WH {cap base:List aJ}{ls:List b0}(ao:yv cap base ls=true)(M:qI cap base ls=true):si cap base ls:=by
 obtain⟨f1,f2,f3⟩:=Kj ao;obtain⟨cA,cY⟩:=FP f1;obtain⟨cP,e0⟩:=FP f2;obtain⟨fK,hd,qg,Ce,qX,Cf⟩:=wM M
 have aD:∀f:aJ,fP f=true->ng f 1=true->et 41 (dV f):=λf E G=>by
  unfold fP at E;rw[dH] at E;exact (Pa E.1 G).mono (by omega)
 exact⟨M,by omega,au1 f3 Ce,λf h=>aD f (qX f h) (cY f h),λf h=>aD f (Cf f h) (e0 f h)⟩
def avj {cap base Ax Fo:List aJ}{ls:List b0}(M:qI cap base ls=true)(E:(D Ax)=D cap)(G:(D Fo)=D cap)(ad:∀f∈Ax,fP f=true)(aK:∀f∈Fo,fP f=true):qI Ax Fo ls=true:=by
 unfold qI at M ⊢;simp only[dH,na,beq_iff_eq,s6] at M ⊢;rw[E,G];exact⟨rfl,M.2.1,λf ao=>by rw[ad f ao];simp,λf ao=>by rw[aK f ao];simp⟩
def avk {l:List aJ}{j:Nat}(h:j<D l):l.getD j bK∈l:=by
 rw[eF,bB h];exact kT _
def ahb {cap base:List aJ}{ls:List b0}(h:si cap base ls){x:Nat->Rat}{left:List Bool}{rounds:List (List Nat)}(R:WE cap base ls x left rounds):∀k i,i+k=(D cap)->wR cap base ls (gr (D cap) x) left k i=true
 |0,_,_=>rfl
 |k+1,i,Q=>by
  have O:i<D cap:=by omega
  obtain⟨a4,Uu⟩:=R.agA;obtain⟨cA,cY⟩:=h.ag3 Uu O;have ht:=arY (base:=base.getD i bK) (ls:=ls) (x:=gr (D cap) x) (to:=i) (by rw[cA]);rw[cA] at ht;obtain⟨bU,c6,-,-,-⟩:=h.Am O;have aF:=ahb h R k (i+1) (by omega);unfold wR;rw[ht];dsimp only;rw[bU,F5 O,En (R.CK i O) c6,En (R.CK i O) cY,En cY c6,au0,agI,agI,Wt];rcases b2:left.getD i false
  ·obtain⟨aL,ax⟩:=R.fin.O i O b2;rw[lU (show x i=dN cap i from aL),j2 (show ¬ gL (D cap) (dt ls) (dN base) x i<dN cap i by grind)];rw[ar (by simp)];exact aF
  ·obtain⟨aL,ax⟩:=R.fin.bP i O b2;rw[j2 (show ¬ dN cap i<=x i by grind),lU (show x i=gL (D cap) (dt ls) (dN base) x i from aL)];rw[ar (by simp)];exact aF
def ahc {n:Nat}{x y:Nat->Rat}(J:∀k,k<n->ed (x k))(ag:∀k,k<n->ed (y k))(h:∀k,k<n->x k<=y k):∀k i,i+k=n->wS (gr n y) (gr n x) k i=true
 |0,_,_=>rfl
 |k+1,i,Q=>by
  have O:i<n:=by omega
  have:=h i O;unfold wS;rw[F5 O,F5 O,En (ag i O) (J i O),Wt,j2 (by grind),ar (by simp)];exact ahc J ag h k (i+1) (by omega)
def ahd {l:List aJ}{i j:Nat}{v:Rat}(O:i<D l):dN (l.set i (bW v)) j=if j=i then v else dN l j:=by
 unfold dN;rw[eF,lO]
 by_cases h:i=j
 ·subst h;rw[aq rfl,aq O,aq rfl];exact Il v
 ·rw[ar h,ar (λe=>h e.symm),eF]
def avl {cap base:List aJ}{ls:List b0}(ao:yv cap base ls=true)(M:qI cap base ls=true){x:Nat->Rat}{left:List Bool}{rounds:List (List Nat)}(R:WE cap base ls x left rounds){i:Nat}(O:i<D cap){f:aJ}(AE:ng f 1=true)(aD:fP f=true):Pb cap base ls (gr (D cap) x) i f=true:=by
 have h:=WH ao M;obtain⟨f1,f2,f3⟩:=Kj ao;obtain⟨fK,hd,qg,Ce,qX,Cf⟩:=wM M;obtain⟨aL,ax,eo⟩:=Wu aD;have u0:cU f=true:=by unfold fP at aD;rw[dH] at aD;exact aD.1
 have PG:=Pa u0 AE
 have pN:∀l:List aJ,(∀g∈l,fP g=true)->p2 l 4 1=true->∀j,j<(D l)->et 20 (dN l j):=λl af avm j aa=>by
  have hm:=avk aa;have:=af _ hm;unfold fP at this;rw[dH] at this;exact Pa this.1 ((FP avm).2 _ hm)
 have ahe:=pN base Cf f2 i (by omega);have ahf:=pN cap qX f1 i O;obtain⟨cQ,dO,kp,-,-⟩:=h.CO O;obtain⟨bU,c6,la,-,-⟩:=h.Am O
 have avn:iC (base.getD i bK) f=(bW (dN base i+dV f),0):=by
  rw[cQ,aL,MJ dO ax,FO ahe PG (by omega),<-aL];rfl
 have ac:iC (cap.getD i bK) f=(bW (dN cap i+dV f),0):=by
  rw[bU,aL,MJ c6 ax,FO ahf PG (by omega),<-aL];rfl
 have ahg:et 41 (dN base i+dV f):=Kg ahe PG;have ahh:et 41 (dN cap i+dV f):=Kg ahf PG
 have ahi:∀g∈cap.set i (bW (dN cap i+dV f)),fP g=true/\et 41 (dV g):=λg aC=>by
  rcases n8 aC with aC|rfl
  ·exact⟨qX g aC,h.cs g aC⟩
  ·exact⟨agK (Kk ahh (by omega)) (by grind),by rw[Il];exact ahh⟩
 have ahj:∀g∈base.set i (bW (dN base i+dV f)),fP g=true/\et 41 (dV g):=λg aC=>by
  rcases n8 aC with aC|rfl
  ·exact⟨Cf g aC,h.agY g aC⟩
  ·exact⟨agK (Kk ahg (by omega)) (by grind),by rw[Il];exact ahg⟩
 have dP:(cap.set i (bW (dN cap i+dV f))).length=D cap:=fN ..;have G:si (cap.set i (bW (dN cap i+dV f))) (base.set i (bW (dN base i+dV f))) ls:=⟨avj M dP (by rw[fN];exact fK) (λg aC=>(ahi g aC).1) (λg aC=>(ahj g aC).1),by rw[dP];exact h.zJ,by rw[dP];exact h.tj,λg aC=>(ahi g aC).2,λg aC=>(ahj g aC).2⟩
 obtain⟨y,aA8,aA9,ag⟩:=aha G;have ahk:=ag.eq;have ahl:=ag.fin;have ahm:=ag.CK;rw[dP] at ahk ahl ahm
 have hle:=R.fin.more h.tj.nb ahl (λj aa=>by
  rw[ahd (by omega)]
  split
  ·rename_i hK;rw[hK];grind
  ·exact yC) (λj aa=>by
  rw[ahd O]
  split
  ·rename_i hK;rw[hK];grind
  ·exact yC)
 unfold Pb;rw[avn,ac];dsimp only;rw[ahk];dsimp only;rw[aq (by decide),aq (by rw[Ak];simp)];exact ahc R.CK ahm hle _ _ (lr _)
def avo (cap base:List aJ)(ls:List b0)(k:Nat)(s:Int)(l:List Int)(s2:Int)(ab:List Int):Pc cap base ls k ((s,l),(s2,ab))=true:=by
 generalize ((s,l),(s2,ab))=f;unfold Pc
 split
 ·rename_i ao;simp only[dH] at ao
  split
  ·rename_i he
   have M:qI cap base ls=true:=by
    unfold iG at he
    split at he
    ·assumption
    ·exact absurd he (by decide)
   obtain⟨x,left,rounds,R⟩:=aha (WH ao.1 M);rw[R.eq];dsimp only;rw[R.marks];dsimp only;rw[aq (by rw[Ak];simp),aq (ahb (WH ao.1 M) R _ _ (lr _))]
   split
   ·rfl
   ·rename_i aE;simp only[sF,beq_iff_eq,na,not_or,JG] at aE;exact avl ao.1 M R (Nat.mod_lt _ (by omega)) ao.2 aE.2
  ·rfl
 ·rfl
end Go.Mini
namespace Go.Mini
open Go Go.Proofs
def avp {P:Program}{w:World}{e:TypeId}{fuel:Nat}{cs:List Value}{s:List UInt8}{p:List MemPlace}(he:P.underlying e=some .string)(h:DataW.trod (λ_=>()) P w 0 (λ_=>true) false fuel e cs=some (.lit (.string s),p)):cs=[.string ⟨s.toArray⟩]:=by
 cases fuel with
 |zero=>cases h
 |succ f =>
  unfold DataW.trod at h;rw[he] at h
  split at h<;>first|(rename_i E G;cases E;done)|skip
  all_goals first|(cases h;done)|skip
  all_goals simp_all
  all_goals try (obtain⟨-,h,-⟩:=h;subst h;rfl)
def avq {P:Program}{w:World}{t e:TypeId}{fuel n:Nat}{cs:List Value}{bA:List (List UInt8)}{p:List MemPlace}(bC:P.underlying t=some (.array n e))(he:P.underlying e=some .string)(aE:P.cellsOf t=n)(E:P.cellsOf e=1)(b2:(D bA)=n)(h:DataW.trod (λ_=>()) P w 0 (λ_=>true) false fuel t cs=some (.agg (bA.map λs => .lit (.string s)),p)):cs=yD bA:=by
 cases fuel with
 |zero=>cases h
 |succ f =>
  unfold DataW.trod at h;rw[bC] at h;simp only[aE,E] at h
  split at h
  ·rename_i af;rw[Option.map_eq_some_iff] at h;obtain⟨xs,J,y5⟩:=h;simp only[ei,DataW.agg.injEq] at y5;obtain⟨hm,-⟩:=y5;refine tB λi=>?_;rcases fE i n with O|O
   ·obtain⟨y,ag,ao⟩:=Lv J (i:=i) (x:=i) (by rw[q9 O]);have FV:bA[i]?=some bA[i]:=bB (by omega);have PH:(xs.map (·.1))[i]?=some (.lit (.string bA[i])):=by rw[hm,bG,FV];rfl
    rw[bG,ag] at PH;simp only[kx,bH] at PH;obtain⟨oO,qv⟩:=y;dsimp only at PH;subst PH;have Z:=avp he ao;rw[dE] at Z
    have:cs[i]?=some (.string ⟨bA[i].toArray⟩):=by
     have ad:((cs.drop i).take 1)[0]?=some (.string ⟨bA[i].toArray⟩):=by rw[Z];rfl
     rw[List.getElem?_take_of_lt (by omega),List.getElem?_drop] at ad;exact ad
    rw[this];unfold yD;rw[bG,FV]
    rfl
   ·rw[mO (by omega),mO (by unfold yD;rw[az];omega)]
  ·cases h
def avr {W : World}(h : laidMetH Tryz.prog [("consol/lex.signs", YtplehnijfhgclaaGreatDoor.Rows.laid_consol_lex_signs)] W): CR W := by
 have bT : laidMet Tryz.prog [("consol/lex.signs", YtplehnijfhgclaaGreatDoor.Rows.laid_consol_lex_signs)] W := h;obtain⟨cH,⟨g,t,cs,fuel,p,q,aC,bC,ai,aA,aM,rfl⟩,-,Z⟩:=bT;have Bo : Tryz.prog.globalNamed "consol/lex.signs" = some 0 := by kernel_rfl
 obtain rfl:=mT (Bo.symm.trans aC);have BD:(Tryz.prog.globals[0]?).map (·.type)=some 262:=by kernel_rfl
 obtain rfl:=mT (BD.symm.trans bC);have hu:Tryz.prog.underlying 262=some (.array 11 9):=by kernel_rfl
 have he:Tryz.prog.underlying 9=some .string:=by kernel_rfl
 have jK:=avq (bA:=[[61,61],[59],[44],[61],[60],[43],[45],[42],[47],[40],[41]]) hu he (by kernel_rfl) (by kernel_rfl) rfl aA;have dC:cs.size=11:=by rw[<-Array.length_toList,jK];rfl
 obtain⟨⟨c,t,I9⟩,-⟩:=Z 0 0 (by
  rw[hh];refine hs.2 (.inl ?_);unfold MemPlace.row;rw[dC];exact h3.2 ⟨0,by simp,rfl⟩)
 unfold World.var? at ai;rw[Bo] at ai;simp only[Option.bind_some,I9,bH] at ai;subst ai;intro b l U;unfold KI at U
 split at U
 ·rename_i zi;subst zi
  cases U;exact⟨t,by rw[I9,<-jK]⟩
 ·cases U
end Go.Mini
